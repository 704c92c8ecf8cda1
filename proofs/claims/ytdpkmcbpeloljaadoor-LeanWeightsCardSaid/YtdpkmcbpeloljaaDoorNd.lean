/- Walk of law14's begun. -/
import Derived.Test.YtdpkmcbpeloljaaDoorNc
import Derived.Test.YtdpkmcbpeloljaaDoorRoJ
import Derived.Test.YtdpkmcbpeloljaaDoorBh
namespace Go.Proofs.YtdpkmcbpeloljaaDoor
open Go.RowKit

theorem pick_keep (l : List UInt8) (nw : Int) (zs : List Int) (b : Int) (hb : b ≠ 0) (h0 : ∀ z ∈ zs, z ≠ 0) : zs.foldl (pickStep l nw) b ≠ 0 := by
  rcases pick_or l nw zs b with h | h
  · rw [h]; exact hb
  · exact h0 _ h.1
theorem pick_ne' (l : List UInt8) (nw : Int) (zs : List Int) (h0 : ∀ z ∈ zs, z ≠ 0) (x : Int) (hx : x ∈ zs) (hn : x ≠ nw) (b : Int) : zs.foldl (pickStep l nw) b ≠ 0 := by
  induction zs generalizing b with
  | nil => exact absurd hx (by simp)
  | cons z zs ih =>
    rw [List.foldl_cons]
    have h0' : ∀ y ∈ zs, y ≠ 0 := fun y hy => h0 y (List.mem_cons_of_mem _ hy)
    rcases List.mem_cons.1 hx with rfl | h
    · refine pick_keep l nw zs _ ?_ h0'
      unfold pickStep
      by_cases hb : b = 0
      · subst hb
        rw [if_pos (by unfold better; simp [hn])]
        exact h0 _ List.mem_cons_self
      · split
        · exact h0 _ List.mem_cons_self
        · exact hb
    · exact ih h0' h _
theorem pick_ne (l : List UInt8) (nw : Int) (zs : List Int) (h0 : ∀ z ∈ zs, z ≠ 0) (x : Int) (hx : x ∈ zs) (hn : x ≠ nw) : pick l nw zs ≠ 0 := pick_ne' l nw zs h0 x hx hn 0
theorem pick_in (l : List UInt8) (nw : Int) (zs : List Int) (h : pick l nw zs ≠ 0) : pick l nw zs ∈ zs ∧ pick l nw zs ≠ nw := (pick_or l nw zs 0).resolve_left h

set_option maxRecDepth 100000 in
theorem Begun9_any (w : World) : Calls Tryd.prog 17 #[] w fun e w' => e = .returned (.bool true) ∧ Below w.heap.size w w' := by
  go_enter Tryd.func17, Tryd.ntmps17
  go_wp2_with (go_at_call 26; refine (begun9_any _).mono ?_; rintro e' w1 ⟨rfl, hb⟩; have B1 := Lib.hid hb; clear hb)
  go_ret
  exact ⟨rfl, B1.out⟩

def z31 : List Int := [3, 1]
def pk14 : Int := pick [107] 0 z31
theorem pk14_or : pk14 = 1 ∨ pk14 = 3 := by
  have h := pick_in [107] 0 z31 (pick_ne [107] 0 z31 (by decide) 3 (by decide) (by decide))
  have h1 : pk14 ∈ z31 := h.1
  simp [z31] at h1
  omega
theorem ints31 (w : World) (t : TypeId) : IntsAt (w.alloc (.cells #[.int .i64 3, .int .i64 1] t)) (some ⟨w.heap.size, 0, none⟩) z31 := by
  refine Or.inr ⟨_, 0, rfl, by simp, fun j hj => ?_⟩
  have hj2 : j < 2 := hj
  have : j = 0 ∨ j = 1 := by omega
  rcases this with rfl | rfl <;> simp [z31, nthI]
theorem b14_pick (a : Option Addr) (c : Nat) (w : World) (hz : IntsAt w a z31) :
    Calls Tryd.prog 11 #[.agg #[.int .i64 1, .slice a 2 c, .int .i64 0], .string ⟨#[107]⟩] w fun e w' => e = .returned (.int .i64 pk14) ∧ Below w.heap.size w w' :=
  pick_any 1 a c z31 0 ⟨#[107]⟩ w (by decide) hz (by decide)
theorem b14_pick0 (w : World) :
    Calls Tryd.prog 11 #[.agg #[.int .i64 0, .slice none 0 0, .int .i64 0], .string ⟨#[107]⟩] w fun e w' => e = .returned (.int .i64 0) ∧ Below w.heap.size w w' :=
  pick_any 0 none 0 [] 0 ⟨#[107]⟩ w (by decide) (Or.inl rfl) (by decide)
theorem b14_w0 (w : World) :
    Calls Tryd.prog 14 #[.int .i64 0, .string ⟨#[107]⟩] w fun e w' => e = .returned (.int .i64 (-1)) ∧ Below w.heap.size w w' :=
  (weight_any 0 ⟨#[107]⟩ w (by decide)).mono fun _ _ h => ⟨h.1.trans (by rw [wgt_out _ (Or.inl (by decide))]), h.2⟩
def wt14 : Int := wgt 2 [107]
theorem wt14_bd : 0 ≤ wt14 := by
  have h := wgt_in (n := 2) [107] (by decide)
  unfold wt14
  rw [h]
  exact (rs_bd _).1
theorem b14_w2 (w : World) :
    Calls Tryd.prog 14 #[.int .i64 2, .string ⟨#[107]⟩] w fun e w' => e = .returned (.int .i64 wt14) ∧ Below w.heap.size w w' :=
  weight_any 2 ⟨#[107]⟩ w (by decide)
theorem b14_share (a : Option Addr) (c : Nat) (w : World) (hz : IntsAt w a z31) :
    Calls Tryd.prog 18 #[.agg #[.int .i64 1, .slice a 2 c, .int .i64 0], .slice none 0 0] w fun e w' => (∃ a' c', e = .returned (.slice a' 2 c')) ∧ Below w.heap.size w w' :=
  (share_any 1 a none c 0 z31 [] 0 w (by decide) hz (by intro n hn; simp [z31] at hn; exact fits_of (by omega)) (by decide) (Or.inl rfl) (by simp)).mono fun _ _ h => by
    obtain ⟨v, h1, h2, h3⟩ := h
    obtain ⟨a', c', h4, -, -⟩ := own_cap h2
    exact ⟨⟨a', c', by rw [h1, h4]; rfl⟩, h3⟩
set_option maxRecDepth 100000 in
set_option maxHeartbeats 3200000 in
theorem begun14_any (w : World) (L : Laid w) : Calls Tryd.prog 7 #[] w fun e w' => e = .returned (.bool true) ∧ Below w.heap.size w w' := by
  have HL := Lib.hid L
  have hi0 := Lib.hid (ints31 w 3)
  have hw2 := wt14_bd
  have hd2 : decide (wt14 < 0) = false := decide_eq_false (by omega)
  have hd3 : decide (0 ≤ wt14) = true := decide_eq_true hw2
  clear L
  go_enter Tryd.func7, Tryd.ntmps7
  go_wp2_with fail
  refine (b14_pick _ _ _ (hi0.out.alloc _)).mono ?_
  rintro e w1 ⟨rfl, hb⟩
  have r0 := cell_keep hb (a := ⟨w.heap.size + 1, 0, none⟩) (v := .int .i64 1) (by simp [go_sem, ])
  have r1 := cell_keep hb (a := ⟨w.heap.size + 1, 1, none⟩) (v := .slice (some ⟨w.heap.size, 0, none⟩) 2 2) (by simp [go_sem, ])
  have r2 := cell_keep hb (a := ⟨w.heap.size + 1, 2, none⟩) (v := .int .i64 0) (by simp [go_sem, ])
  have R0 := Lib.hid r0
  have R1 := Lib.hid r1
  have R2 := Lib.hid r2
  have Hx := Lib.hid ((hi0.out.alloc _).keep hb)
  have HB : Hid (Below w.heap.size w w1) := below_on (below_alloc (below_alloc (Below.refl _ _) _) _) hb
  clear hb hi0 r0 r1 r2
  go_wp2_with fail
  refine (Begun_any _ (HL.out.keep HB.out)).mono ?_
  rintro e w2 ⟨rfl, hb⟩
  replace HB := Lib.hid (below_on HB.out hb)
  have HS := Lib.hid hb
  clear hb
  go_wp2_with fail
  refine (Begun9_any _).mono ?_
  rintro e w3 ⟨rfl, hb⟩
  replace HB := Lib.hid (below_on HB.out hb)
  replace HS := Lib.hid (below_on HS.out hb)
  clear hb
  go_wp2_with fail
  refine (b14_w0 _).mono ?_
  rintro e w4 ⟨rfl, hb⟩
  replace HB := Lib.hid (below_on HB.out hb)
  replace HS := Lib.hid (below_on HS.out hb)
  clear hb
  go_wp2_with fail
  refine (b14_w2 _).mono ?_
  rintro e w5 ⟨rfl, hb⟩
  replace HB := Lib.hid (below_on HB.out hb)
  replace HS := Lib.hid (below_on HS.out hb)
  clear hb
  rcases pk14_or with hp | hp
  all_goals
    rw [hp]
    go_wp2_with fail
    refine (b14_pick0 _).mono ?_
    rintro e w6 ⟨rfl, hb⟩
    replace HB := Lib.hid (below_on HB.out hb)
    replace HS := Lib.hid (below_on HS.out hb)
    clear hb
    have r0 := cell_keep HS.out R0.out
    have r1 := cell_keep HS.out R1.out
    have r2 := cell_keep HS.out R2.out
    go_wp2_with fail
    refine (b14_share _ _ _ (Hx.out.keep HS.out)).mono ?_
    rintro e w7 ⟨⟨a', c', rfl⟩, hb⟩
    replace HB := Lib.hid (below_on HB.out hb)
    clear hb
    go_wp2_with fail
    go_ret
    exact ⟨rfl, HB.out⟩
end Go.Proofs.YtdpkmcbpeloljaaDoor
