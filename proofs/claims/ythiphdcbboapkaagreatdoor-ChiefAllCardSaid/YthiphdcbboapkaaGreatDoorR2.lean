/- Walks of the document's DropNode where there is none, of the laws' Roster. The closed call: begun. The laws' beginning: a roster in a box, cut to seven. -/
import Derived.Test.YthiphdcbboapkaaGreatDoorRoH
import Derived.Test.YthiphdcbboapkaaGreatDoorRoG
namespace Go.Proofs.YthiphdcbboapkaaGreatDoor
open Go.RowKit

set_option maxRecDepth 100000 in
set_option maxHeartbeats 800000 in
theorem dropNode_no (e nw n : Int) (a : Option Addr) (c : Nat) (zs : List Int) (w : World) (hz : IntsAt w a zs) (hl : zs.length ≤ 100) (hm : mayB e zs nw = false ∨ idx zs n < 0) :
    Calls Tryz.prog 64 #[rosV e a zs c nw, .int .i64 n] w fun e' w' => e' = .returned (.tuple #[ros0, .bool false]) ∧ Below w.heap.size w w' := by
  by_cases h1 : mayB e zs nw = false
  · have H1 := Lib.hid h1
    clear h1 hm
    go_enter Tryz.func64, Tryz.ntmps64
    go_wp2_with (first
      | (go_at_call 28; refine (spot_any _ _ _ _ _ _ _ (by omega) ((hz.alloc _).alloc _)).mono ?_; rintro e w' ⟨rfl, hb⟩; have hb1 := Lib.hid hb; obtain ⟨hc, hf⟩ := bcell hb; have hsz := size_lt hb; have hz3 := Lib.hid (((hz.alloc _).alloc _).keep hb); clear hb)
      | (go_at_call 29; refine (mayRoster_any _ _ _ _ _ _ (by omega) hz3.out).mono ?_; rw [H1.out]; rintro e w' ⟨rfl, hb2⟩; have hS := ((RosS.start w (.int .i64 _) (.slice a zs.length c) (.int .i64 nw) (.int .i64 0) (.slice none 0 0) (.int .i64 0) 24 24).keep hb1.out).keep hb2; obtain ⟨r0, r1, r2, d0, d1, d2, f0, f1, f2, hlow⟩ := hS))
    refine bodyPost_ret (v := .tuple #[ros0, .bool false]) (by simp [results, Tryz.results64, go_sem, d0, d1, d2]) rfl ⟨rfl, ?_⟩
    exact below_set3 hlow (by omega) _ _ _ _ _ _
  · have h2 : mayB e zs nw = true := by simpa using h1
    have h3 : idx zs n < 0 := hm.resolve_left h1
    have H1 := Lib.hid h2
    clear h1 h2 hm
    go_enter Tryz.func64, Tryz.ntmps64
    go_wp2_with (first
      | (go_at_call 28; refine (spot_any _ _ _ _ _ _ _ (by omega) ((hz.alloc _).alloc _)).mono ?_; rintro e w' ⟨rfl, hb⟩; have hb1 := Lib.hid hb; obtain ⟨hc, hf⟩ := bcell hb; have hsz := size_lt hb; have hz3 := Lib.hid (((hz.alloc _).alloc _).keep hb); clear hb)
      | (go_at_call 29; refine (mayRoster_any _ _ _ _ _ _ (by omega) hz3.out).mono ?_; rw [H1.out]; rintro e w' ⟨rfl, hb2⟩; have hS := ((RosS.start w (.int .i64 _) (.slice a zs.length c) (.int .i64 nw) (.int .i64 0) (.slice none 0 0) (.int .i64 0) 24 24).keep hb1.out).keep hb2; obtain ⟨r0, r1, r2, d0, d1, d2, f0, f1, f2, hlow⟩ := hS))
    refine bodyPost_ret (v := .tuple #[ros0, .bool false]) (by simp [results, Tryz.results64, go_sem, d0, d1, d2]) rfl ⟨rfl, ?_⟩
    exact below_set3 hlow (by omega) _ _ _ _ _ _

theorem own_cap {w : World} {base : Nat} {v : Value} {zs : List Int} (h : OwnI w base v zs) : ∃ a c, v = .slice a zs.length c ∧ IntsAt w a zs ∧ zs.length ≤ c := by
  obtain ⟨a, c, h1, h2⟩ := ownI_ros h
  refine ⟨a, c, h1, h2, ?_⟩
  obtain ⟨_, h3⟩ := h
  rcases h3 with ⟨h4, h5⟩ | ⟨g, cap, cur, h4, _, _, hn, _⟩
  · omega
  · rw [h1] at h4
    simp only [Value.slice.injEq] at h4
    omega

theorem rowAt_take {w : World} {a : Option Addr} {zs : List Int} (h : IntsAt w a zs) (k : Nat) : RowAt w a ((zs.take k).map (.int .i64)) := by
  rcases h with rfl | ⟨b, off, rfl, hs, hc⟩
  · exact Or.inl (by simp)
  · exact IntsAt.takeR (Or.inr ⟨b, off, rfl, hs, hc⟩) k
/-- The laws' Roster: the roster, not too long, in new memory. -/
def RosR (w : World) (e nw : Int) (zs : List Int) (e' : Ending) (w' : World) : Prop := ∃ v', e' = .returned (.agg #[.int .i64 e, v', .int .i64 nw]) ∧ OwnI w' w.heap.size v' zs ∧ Below w.heap.size w w'

set_option maxRecDepth 100000 in
set_option maxHeartbeats 800000 in
theorem roster_any (e nw : Int) (a : Option Addr) (c : Nat) (zs : List Int) (w : World) (hz : IntsAt w a zs) (hl : zs.length ≤ 9223372036854775807) (hcap : zs.length ≤ c) :
    Calls Tryz.prog 13 #[rosV e a zs c nw] w (RosR w e nw (zs.take 7)) := by
  have hcp : (zs.length : Int) ≤ (c : Int) := by omega
  have hS := RosS.start w (.int .i64 e) (.slice a zs.length c) (.int .i64 nw) (.int .i64 0) (.slice none 0 0) (.int .i64 0) 24 24
  have hSH := Lib.hid hS
  have hzz := Lib.hid (((hz.alloc (.cells #[.int .i64 e, .slice a zs.length c, .int .i64 nw] 24)).alloc (.cells #[.int .i64 0, .slice none 0 0, .int .i64 0] 24)))
  have fz1 : ((w.alloc (.cells #[.int .i64 e, .slice a zs.length c, .int .i64 nw] 24)).alloc (.cells #[.int .i64 0, .slice none 0 0, .int .i64 0] 24)).frozen? ⟨w.heap.size, 1, none⟩ = false := by
    rw [World.frozen?_alloc_old _ _ _ (by simp)]; exact World.frozen?_alloc_new _ _ _ _
  have fz0 := Lib.hid fz1
  clear hS fz1
  go_enter Tryz.func13, Tryz.ntmps13
  go_wp2_with (at_builtin; refine wpList_append_far rfl _ _ 22 rfl (w.heap.size + 2) 3 _ 1 8 tyInts (.slice none 0 0) 0 [] rfl (World.ownsRow_nil _ _ _ _) a _ c ((zs.take 7).map (.int .i64)) rfl ?c1 ?c2 ?c3 ?c4 ?c5 ?c6 ?_; (case c1 => simp; omega); (case c2 => exact rowAt_take hzz.out 7); (case c3 => exact (oneCell_ints' (by intro u hu; obtain ⟨x, _, rfl⟩ := List.mem_map.1 hu; exact ⟨x, rfl⟩))); (case c4 => unfold maxLen; omega); (case c5 => omega); (case c6 => simp); intro v2 w2 hown2' hG; obtain ⟨a2, c2, rfl, _⟩ := ownsRow_row hown2'; have hown2 := Lib.hid hown2'; obtain ⟨r0, r1, r2, d0, d1, d2, f0, f1, f2, hlow⟩ := hSH.out.keepB hG.1; have fz : w2.frozen? ⟨w.heap.size, 1, none⟩ = false := (hG.1.frozen (p := ⟨w.heap.size, 1, none⟩) (Nat.lt_add_of_pos_right (by decide))).trans fz0.out; clear hown2' hG)
  have e1 : 0 + (min (zs.length : Int) 7).toNat = (zs.take 7).length := by simp; omega
  have e2 : (min (zs.length : Int) 7).toNat = (zs.take 7).length := by simp; omega
  have hown := hown2.out
  rw [e1, List.nil_append] at hown
  rw [e2]
  refine bodyPost_ret (v := .agg #[.int .i64 e, .slice a2 (zs.take 7).length c2, .int .i64 nw]) (by simp [results, Tryz.results13, go_sem, d0, d1, d2]) rfl ⟨_, rfl, ?_, ?_⟩
  · exact ownsRow_base (own_set3 (ownsRow_setCell_below hown (a := ⟨w.heap.size, 1, none⟩) (by simp) _) (by omega) _ _ _) (by omega)
  · exact below_set3 (hlow.setCell (p := ⟨w.heap.size, 1, none⟩) (Nat.le_refl _) _) (by omega) _ _ _ _ _ _

end Go.Proofs.YthiphdcbboapkaaGreatDoor
namespace Go.Proofs.YthiphdcbboapkaaGreatDoor
open Go.RowKit

def z24 : List Int := [2, 4]
def z241 : List Int := [2, 4, 1]
def z41 : List Int := [4, 1]
theorem may_z24 : mayB 1 z24 0 = true := by decide
theorem may_z24n : mayB 1 z24 4 = true := by decide
theorem may_z241 : mayB 2 z241 1 = true := by decide
theorem may_z41 : mayB 3 z41 1 = true := by decide
theorem may9_no : mayB 2 (z24.eraseIdx 0) (newD 4 2) = false := by decide
theorem idx_a : idx z241 2 = 0 := by decide
theorem idx_b : idx z24 2 = 0 := by decide
theorem b_may (a : Option Addr) (c : Nat) (w : World) (hz : IntsAt w a z24) :
    Calls Tryz.prog 35 #[.agg #[.int .i64 1, .slice a 2 c, .int .i64 0]] w fun e w' => e = .returned (.bool true) ∧ Below w.heap.size w w' :=
  (may_any 1 0 a c z24 w (by decide) hz).mono fun e w' h => ⟨h.1.trans (by rw [show mayB 1 z24 0 = true from by decide]), h.2⟩
theorem b_has4 (a : Option Addr) (c : Nat) (w : World) (hz : IntsAt w a z24) :
    Calls Tryz.prog 40 #[.agg #[.int .i64 1, .slice a 2 c, .int .i64 0], .int .i64 4] w fun e w' => e = .returned (.bool true) ∧ Below w.heap.size w w' :=
  (has_any 1 0 4 a c z24 w (by decide) hz).mono fun e w' h => ⟨h.1.trans (by rw [show decide (0 ≤ idx z24 4) = true from by decide]), h.2⟩
theorem b_has1 (a : Option Addr) (c : Nat) (w : World) (hz : IntsAt w a z24) :
    Calls Tryz.prog 40 #[.agg #[.int .i64 1, .slice a 2 c, .int .i64 0], .int .i64 1] w fun e w' => e = .returned (.bool false) ∧ Below w.heap.size w w' :=
  (has_any 1 0 1 a c z24 w (by decide) hz).mono fun e w' h => ⟨h.1.trans (by rw [show decide (0 ≤ idx z24 1) = false from by decide]), h.2⟩
theorem b_head (a : Option Addr) (c : Nat) (w : World) (hz : IntsAt w a z24) :
    Calls Tryz.prog 70 #[.agg #[.int .i64 1, .slice a 2 c, .int .i64 0]] w fun e w' => e = .returned (.int .i64 2) ∧ Below w.heap.size w w' :=
  (head_any 1 0 a c z24 w (by decide) hz).mono fun e w' h => ⟨h.1.trans (by rw [show atI z24 0 = 2 from by decide]), h.2⟩
theorem b_tail (a : Option Addr) (c : Nat) (w : World) (hz : IntsAt w a z24) :
    Calls Tryz.prog 58 #[.agg #[.int .i64 1, .slice a 2 c, .int .i64 0]] w fun e w' => e = .returned (.int .i64 4) ∧ Below w.heap.size w w' :=
  (tail_any 1 0 a c z24 w (by decide) hz).mono fun e w' h => ⟨h.1.trans (by rw [show atI z24 (z24.length - 1) = 4 from by decide]), h.2⟩
theorem b_next (a : Option Addr) (c : Nat) (w : World) (hz : IntsAt w a z24) :
    Calls Tryz.prog 71 #[.agg #[.int .i64 1, .slice a 2 c, .int .i64 0], .int .i64 2] w fun e w' => e = .returned (.int .i64 4) ∧ Below w.heap.size w w' :=
  (next_any 1 0 2 a c z24 w (by decide) hz).mono fun e w' h => ⟨h.1.trans (by rw [show nextI z24 2 = 4 from by decide]), h.2⟩
theorem b_ahead (a : Option Addr) (c : Nat) (w : World) (hz : IntsAt w a z24) :
    Calls Tryz.prog 72 #[.agg #[.int .i64 1, .slice a 2 c, .int .i64 0], .int .i64 2] w fun e w' => e = .returned (.int .i64 0) ∧ Below w.heap.size w w' :=
  (ahead_any 1 0 2 a c z24 w (by decide) hz).mono fun e w' h => ⟨h.1.trans (by rw [show atI z24 (idx z24 2 - 1) = 0 from by decide]), h.2⟩
theorem b_may0 (w : World) :
    Calls Tryz.prog 35 #[.agg #[.int .i64 0, .slice none 0 0, .int .i64 0]] w fun e w' => e = .returned (.bool false) ∧ Below w.heap.size w w' :=
  (may_any 0 0 none 0 [] w (by decide) (Or.inl rfl)).mono fun e w' h => ⟨h.1.trans (by rw [show mayB 0 [] 0 = false from by decide]), h.2⟩
/-- A roster comes back. -/
def BegR (w : World) (e nw : Int) (zs : List Int) (m : Nat) (e' : Ending) (w' : World) : Prop := ∃ a c, e' = .returned (.tuple #[.agg #[.int .i64 e, .slice a m c, .int .i64 nw], .bool true]) ∧ IntsAt w' a zs ∧ Below w.heap.size w w'
theorem b_add (a : Option Addr) (c : Nat) (w : World) (hz : IntsAt w a z24) :
    Calls Tryz.prog 43 #[.agg #[.int .i64 1, .slice a 2 c, .int .i64 0], .int .i64 1] w (BegR w 2 1 z241 3) :=
  (add_yes 1 1 a c z24 w hz may_z24 (by decide) (by decide) may_z241).mono fun e w' h => by
    obtain ⟨v, h1, h2, h3⟩ := h
    obtain ⟨a2, c2, rfl, h4⟩ := ownI_ros h2
    exact ⟨a2, c2, h1, h4, h3⟩
theorem b_drop (a : Option Addr) (c : Nat) (w : World) (hz : IntsAt w a z241) :
    Calls Tryz.prog 42 #[.agg #[.int .i64 2, .slice a 3 c, .int .i64 1], .int .i64 2] w (BegR w 3 1 z41 2) :=
  (drop_yes 2 1 2 0 a c z241 w hz may_z241 (by decide) (by decide) (by decide) idx_a may_z41).mono fun e w' h => by
    obtain ⟨v, h1, h2, h3⟩ := h
    obtain ⟨a2, c2, rfl, h4⟩ := ownI_ros h2
    exact ⟨a2, c2, h1, h4, h3⟩
theorem b_addno (a : Option Addr) (c : Nat) (w : World) (hz : IntsAt w a z241) :
    Calls Tryz.prog 43 #[.agg #[.int .i64 2, .slice a 3 c, .int .i64 1], .int .i64 5] w fun e w' => e = .returned (.tuple #[ros0, .bool false]) ∧ Below w.heap.size w w' :=
  add9_no 2 1 5 a c z241 w (by decide) hz (Or.inr (by decide))
theorem b_dropno (a : Option Addr) (c : Nat) (w : World) (hz : IntsAt w a z24) :
    Calls Tryz.prog 42 #[.agg #[.int .i64 1, .slice a 2 c, .int .i64 4], .int .i64 2] w fun e w' => e = .returned (.tuple #[ros0, .bool false]) ∧ Below w.heap.size w w' :=
  drop_no2 1 4 2 0 a c z24 w hz may_z24n (by decide) (by decide) (by decide) idx_b may9_no

theorem ints_lit (w : World) (t : TypeId) : IntsAt (w.alloc (.cells #[.int .i64 2, .int .i64 4] t)) (some ⟨w.heap.size, 0, none⟩) z24 := by
  refine Or.inr ⟨_, 0, rfl, by simp, fun j hj => ?_⟩
  have hj2 : j < 2 := hj
  have : j = 0 ∨ j = 1 := by omega
  rcases this with rfl | rfl <;> simp [z24, nthI]
theorem ints_lit' (w : World) (t : TypeId) (B : Nat) (h : w.heap.size = B) : IntsAt (w.alloc (.cells #[.int .i64 2, .int .i64 4] t)) (some ⟨B, 0, none⟩) z24 := by
  subst h; exact ints_lit w t

set_option maxRecDepth 100000 in
set_option maxHeartbeats 3200000 in
theorem begun9_any (w : World) : Calls Tryz.prog 48 #[] w fun e w' => e = .returned (.bool true) ∧ Below w.heap.size w w' := by
  have hi0 := Lib.hid (ints_lit w 3)
  go_enter Tryz.func48, Tryz.ntmps48
  go_wp2_with fail
  refine (b_add _ _ _ (hi0.out.alloc _)).mono ?_
  rintro e w1 ⟨a1, c1, rfl, hy, hb⟩
  have r0 := cell_keep hb (a := ⟨w.heap.size + 1, 0, none⟩) (v := .int .i64 1) (by simp [go_sem, ])
  have r1 := cell_keep hb (a := ⟨w.heap.size + 1, 1, none⟩) (v := .slice (some ⟨w.heap.size, 0, none⟩) 2 2) (by simp [go_sem, ])
  have r2 := cell_keep hb (a := ⟨w.heap.size + 1, 2, none⟩) (v := .int .i64 0) (by simp [go_sem, ])
  have z1 : w.heap.size + 1 < w1.heap.size := cell_old r0
  have Hx := Lib.hid ((hi0.out.alloc _).keep hb)
  have Hy := Lib.hid hy
  have HL : Hid (Below w.heap.size w w1) := below_on (below_alloc (below_alloc (Below.refl _ _) _) _) hb
  clear hy hb hi0
  go_wp2_with fail
  refine (b_drop _ _ _ (Hy.out.alloc _)).mono ?_
  rintro e w2 ⟨a2, c2, rfl, hy2, hb⟩
  have r0 := cell_keep hb (a := ⟨w.heap.size + 1, 0, none⟩) (v := .int .i64 1) (by simp [go_sem, r0, z1])
  have r1 := cell_keep hb (a := ⟨w.heap.size + 1, 1, none⟩) (v := .slice (some ⟨w.heap.size, 0, none⟩) 2 2) (by simp [go_sem, r1, z1])
  have r2 := cell_keep hb (a := ⟨w.heap.size + 1, 2, none⟩) (v := .int .i64 0) (by simp [go_sem, r2, z1])
  have s0 := cell_keep hb (a := ⟨w1.heap.size, 0, none⟩) (v := .int .i64 2) (by simp [go_sem])
  have s1 := cell_keep hb (a := ⟨w1.heap.size, 1, none⟩) (v := .slice a1 3 c1) (by simp [go_sem])
  have s2 := cell_keep hb (a := ⟨w1.heap.size, 2, none⟩) (v := .int .i64 1) (by simp [go_sem])
  have z2 : w.heap.size + 1 < w2.heap.size := cell_old r0
  have y2 : w1.heap.size < w2.heap.size := cell_old s0
  replace Hx := Lib.hid ((Hx.out.alloc _).keep hb)
  replace Hy := Lib.hid ((Hy.out.alloc _).keep hb)
  replace HL : Hid (Below w.heap.size w w2) := below_on (below_alloc HL.out _) hb
  clear hy2 hb z1
  go_wp2_with fail
  refine (b_addno _ _ _ (Hy.out.alloc _)).mono ?_
  rintro e w3 ⟨rfl, hb⟩
  have r0 := cell_keep hb (a := ⟨w.heap.size + 1, 0, none⟩) (v := .int .i64 1) (by simp [go_sem, r0, z2])
  have r1 := cell_keep hb (a := ⟨w.heap.size + 1, 1, none⟩) (v := .slice (some ⟨w.heap.size, 0, none⟩) 2 2) (by simp [go_sem, r1, z2])
  have r2 := cell_keep hb (a := ⟨w.heap.size + 1, 2, none⟩) (v := .int .i64 0) (by simp [go_sem, r2, z2])
  have s0 := cell_keep hb (a := ⟨w1.heap.size, 0, none⟩) (v := .int .i64 2) (by simp [go_sem, s0, y2])
  have s1 := cell_keep hb (a := ⟨w1.heap.size, 1, none⟩) (v := .slice a1 3 c1) (by simp [go_sem, s1, y2])
  have s2 := cell_keep hb (a := ⟨w1.heap.size, 2, none⟩) (v := .int .i64 1) (by simp [go_sem, s2, y2])
  have t0 := cell_keep hb (a := ⟨w2.heap.size, 0, none⟩) (v := .int .i64 3) (by simp [go_sem])
  have t1 := cell_keep hb (a := ⟨w2.heap.size, 1, none⟩) (v := .slice a2 2 c2) (by simp [go_sem])
  have t2 := cell_keep hb (a := ⟨w2.heap.size, 2, none⟩) (v := .int .i64 1) (by simp [go_sem])
  have z3 : w.heap.size + 1 < w3.heap.size := cell_old r0
  have y3 : w1.heap.size < w3.heap.size := cell_old s0
  have x3 : w2.heap.size < w3.heap.size := cell_old t0
  replace Hx := Lib.hid ((Hx.out.alloc _).keep hb)
  replace HL : Hid (Below w.heap.size w w3) := below_on (below_alloc HL.out _) hb
  clear Hy hb z2 y2
  go_wp2_with fail
  have z3' : w.heap.size + 1 < w3.heap.size + 1 := by omega
  have y3' : w1.heap.size < w3.heap.size + 1 := by omega
  have x3' : w2.heap.size < w3.heap.size + 1 := by omega
  refine (b_dropno _ _ _ ?_).mono ?_
  · exact ints_lit' _ _ _ (by simp)
  rintro e w4 ⟨rfl, hb⟩
  have r0 := cell_keep hb (a := ⟨w.heap.size + 1, 0, none⟩) (v := .int .i64 1) (by simp [go_sem, r0, z3, z3'])
  have r1 := cell_keep hb (a := ⟨w.heap.size + 1, 1, none⟩) (v := .slice (some ⟨w.heap.size, 0, none⟩) 2 2) (by simp [go_sem, r1, z3, z3'])
  have r2 := cell_keep hb (a := ⟨w.heap.size + 1, 2, none⟩) (v := .int .i64 0) (by simp [go_sem, r2, z3, z3'])
  have s0 := cell_keep hb (a := ⟨w1.heap.size, 0, none⟩) (v := .int .i64 2) (by simp [go_sem, s0, y3, y3'])
  have s1 := cell_keep hb (a := ⟨w1.heap.size, 1, none⟩) (v := .slice a1 3 c1) (by simp [go_sem, s1, y3, y3'])
  have s2 := cell_keep hb (a := ⟨w1.heap.size, 2, none⟩) (v := .int .i64 1) (by simp [go_sem, s2, y3, y3'])
  have t0 := cell_keep hb (a := ⟨w2.heap.size, 0, none⟩) (v := .int .i64 3) (by simp [go_sem, t0, x3, x3'])
  have t1 := cell_keep hb (a := ⟨w2.heap.size, 1, none⟩) (v := .slice a2 2 c2) (by simp [go_sem, t1, x3, x3'])
  have t2 := cell_keep hb (a := ⟨w2.heap.size, 2, none⟩) (v := .int .i64 1) (by simp [go_sem, t2, x3, x3'])
  have z4 : w.heap.size + 1 < w4.heap.size := cell_old r0
  have y4 : w1.heap.size < w4.heap.size := cell_old s0
  have x4 : w2.heap.size < w4.heap.size := cell_old t0
  replace Hx := Lib.hid (((Hx.out.alloc _).alloc _).keep hb)
  replace HL : Hid (Below w.heap.size w w4) := below_on (below_alloc (below_alloc HL.out _) _) hb
  clear hb z3 y3 x3 z3' y3' x3'
  go_wp2_with fail
  refine (b_may _ _ _ (Hx.out.alloc _)).mono ?_
  rintro e w5 ⟨rfl, hb⟩
  have r0 := cell_keep hb (a := ⟨w.heap.size + 1, 0, none⟩) (v := .int .i64 1) (by simp [go_sem, r0, z4])
  have r1 := cell_keep hb (a := ⟨w.heap.size + 1, 1, none⟩) (v := .slice (some ⟨w.heap.size, 0, none⟩) 2 2) (by simp [go_sem, r1, z4])
  have r2 := cell_keep hb (a := ⟨w.heap.size + 1, 2, none⟩) (v := .int .i64 0) (by simp [go_sem, r2, z4])
  have s0 := cell_keep hb (a := ⟨w1.heap.size, 0, none⟩) (v := .int .i64 2) (by simp [go_sem, s0, y4])
  have s1 := cell_keep hb (a := ⟨w1.heap.size, 1, none⟩) (v := .slice a1 3 c1) (by simp [go_sem, s1, y4])
  have s2 := cell_keep hb (a := ⟨w1.heap.size, 2, none⟩) (v := .int .i64 1) (by simp [go_sem, s2, y4])
  have t0 := cell_keep hb (a := ⟨w2.heap.size, 0, none⟩) (v := .int .i64 3) (by simp [go_sem, t0, x4])
  have t1 := cell_keep hb (a := ⟨w2.heap.size, 1, none⟩) (v := .slice a2 2 c2) (by simp [go_sem, t1, x4])
  have t2 := cell_keep hb (a := ⟨w2.heap.size, 2, none⟩) (v := .int .i64 1) (by simp [go_sem, t2, x4])
  replace Hx := Lib.hid ((Hx.out.alloc _).keep hb)
  replace HL : Hid (Below w.heap.size w w5) := below_on (below_alloc HL.out _) hb
  clear z4 y4 x4
  clear hb
  go_wp2_with fail
  refine (b_may0 _).mono ?_
  rintro e w6 ⟨rfl, hb⟩
  have r0 := cell_keep hb (a := ⟨w.heap.size + 1, 0, none⟩) (v := .int .i64 1) r0
  have r1 := cell_keep hb (a := ⟨w.heap.size + 1, 1, none⟩) (v := .slice (some ⟨w.heap.size, 0, none⟩) 2 2) r1
  have r2 := cell_keep hb (a := ⟨w.heap.size + 1, 2, none⟩) (v := .int .i64 0) r2
  have s0 := cell_keep hb (a := ⟨w1.heap.size, 0, none⟩) (v := .int .i64 2) s0
  have s1 := cell_keep hb (a := ⟨w1.heap.size, 1, none⟩) (v := .slice a1 3 c1) s1
  have s2 := cell_keep hb (a := ⟨w1.heap.size, 2, none⟩) (v := .int .i64 1) s2
  have t0 := cell_keep hb (a := ⟨w2.heap.size, 0, none⟩) (v := .int .i64 3) t0
  have t1 := cell_keep hb (a := ⟨w2.heap.size, 1, none⟩) (v := .slice a2 2 c2) t1
  have t2 := cell_keep hb (a := ⟨w2.heap.size, 2, none⟩) (v := .int .i64 1) t2
  replace Hx := Lib.hid (Hx.out.keep hb)
  replace HL : Hid (Below w.heap.size w w6) := below_on HL.out hb
  clear hb
  go_wp2_with fail
  refine (b_has4 _ _ _ Hx.out).mono ?_
  rintro e w7 ⟨rfl, hb⟩
  have r0 := cell_keep hb (a := ⟨w.heap.size + 1, 0, none⟩) (v := .int .i64 1) r0
  have r1 := cell_keep hb (a := ⟨w.heap.size + 1, 1, none⟩) (v := .slice (some ⟨w.heap.size, 0, none⟩) 2 2) r1
  have r2 := cell_keep hb (a := ⟨w.heap.size + 1, 2, none⟩) (v := .int .i64 0) r2
  have s0 := cell_keep hb (a := ⟨w1.heap.size, 0, none⟩) (v := .int .i64 2) s0
  have s1 := cell_keep hb (a := ⟨w1.heap.size, 1, none⟩) (v := .slice a1 3 c1) s1
  have s2 := cell_keep hb (a := ⟨w1.heap.size, 2, none⟩) (v := .int .i64 1) s2
  have t0 := cell_keep hb (a := ⟨w2.heap.size, 0, none⟩) (v := .int .i64 3) t0
  have t1 := cell_keep hb (a := ⟨w2.heap.size, 1, none⟩) (v := .slice a2 2 c2) t1
  have t2 := cell_keep hb (a := ⟨w2.heap.size, 2, none⟩) (v := .int .i64 1) t2
  replace Hx := Lib.hid (Hx.out.keep hb)
  replace HL : Hid (Below w.heap.size w w7) := below_on HL.out hb
  clear hb
  go_wp2_with fail
  refine (b_has1 _ _ _ Hx.out).mono ?_
  rintro e w8 ⟨rfl, hb⟩
  have r0 := cell_keep hb (a := ⟨w.heap.size + 1, 0, none⟩) (v := .int .i64 1) r0
  have r1 := cell_keep hb (a := ⟨w.heap.size + 1, 1, none⟩) (v := .slice (some ⟨w.heap.size, 0, none⟩) 2 2) r1
  have r2 := cell_keep hb (a := ⟨w.heap.size + 1, 2, none⟩) (v := .int .i64 0) r2
  have s0 := cell_keep hb (a := ⟨w1.heap.size, 0, none⟩) (v := .int .i64 2) s0
  have s1 := cell_keep hb (a := ⟨w1.heap.size, 1, none⟩) (v := .slice a1 3 c1) s1
  have s2 := cell_keep hb (a := ⟨w1.heap.size, 2, none⟩) (v := .int .i64 1) s2
  have t0 := cell_keep hb (a := ⟨w2.heap.size, 0, none⟩) (v := .int .i64 3) t0
  have t1 := cell_keep hb (a := ⟨w2.heap.size, 1, none⟩) (v := .slice a2 2 c2) t1
  have t2 := cell_keep hb (a := ⟨w2.heap.size, 2, none⟩) (v := .int .i64 1) t2
  replace Hx := Lib.hid (Hx.out.keep hb)
  replace HL : Hid (Below w.heap.size w w8) := below_on HL.out hb
  clear hb
  go_wp2_with fail
  refine (b_head _ _ _ Hx.out).mono ?_
  rintro e w9 ⟨rfl, hb⟩
  have r0 := cell_keep hb (a := ⟨w.heap.size + 1, 0, none⟩) (v := .int .i64 1) r0
  have r1 := cell_keep hb (a := ⟨w.heap.size + 1, 1, none⟩) (v := .slice (some ⟨w.heap.size, 0, none⟩) 2 2) r1
  have r2 := cell_keep hb (a := ⟨w.heap.size + 1, 2, none⟩) (v := .int .i64 0) r2
  have s0 := cell_keep hb (a := ⟨w1.heap.size, 0, none⟩) (v := .int .i64 2) s0
  have s1 := cell_keep hb (a := ⟨w1.heap.size, 1, none⟩) (v := .slice a1 3 c1) s1
  have s2 := cell_keep hb (a := ⟨w1.heap.size, 2, none⟩) (v := .int .i64 1) s2
  have t0 := cell_keep hb (a := ⟨w2.heap.size, 0, none⟩) (v := .int .i64 3) t0
  have t1 := cell_keep hb (a := ⟨w2.heap.size, 1, none⟩) (v := .slice a2 2 c2) t1
  have t2 := cell_keep hb (a := ⟨w2.heap.size, 2, none⟩) (v := .int .i64 1) t2
  replace Hx := Lib.hid (Hx.out.keep hb)
  replace HL : Hid (Below w.heap.size w w9) := below_on HL.out hb
  clear hb
  go_wp2_with fail
  refine (b_tail _ _ _ Hx.out).mono ?_
  rintro e w10 ⟨rfl, hb⟩
  have r0 := cell_keep hb (a := ⟨w.heap.size + 1, 0, none⟩) (v := .int .i64 1) r0
  have r1 := cell_keep hb (a := ⟨w.heap.size + 1, 1, none⟩) (v := .slice (some ⟨w.heap.size, 0, none⟩) 2 2) r1
  have r2 := cell_keep hb (a := ⟨w.heap.size + 1, 2, none⟩) (v := .int .i64 0) r2
  have s0 := cell_keep hb (a := ⟨w1.heap.size, 0, none⟩) (v := .int .i64 2) s0
  have s1 := cell_keep hb (a := ⟨w1.heap.size, 1, none⟩) (v := .slice a1 3 c1) s1
  have s2 := cell_keep hb (a := ⟨w1.heap.size, 2, none⟩) (v := .int .i64 1) s2
  have t0 := cell_keep hb (a := ⟨w2.heap.size, 0, none⟩) (v := .int .i64 3) t0
  have t1 := cell_keep hb (a := ⟨w2.heap.size, 1, none⟩) (v := .slice a2 2 c2) t1
  have t2 := cell_keep hb (a := ⟨w2.heap.size, 2, none⟩) (v := .int .i64 1) t2
  replace Hx := Lib.hid (Hx.out.keep hb)
  replace HL : Hid (Below w.heap.size w w10) := below_on HL.out hb
  clear hb
  go_wp2_with fail
  refine (b_next _ _ _ Hx.out).mono ?_
  rintro e w11 ⟨rfl, hb⟩
  have r0 := cell_keep hb (a := ⟨w.heap.size + 1, 0, none⟩) (v := .int .i64 1) r0
  have r1 := cell_keep hb (a := ⟨w.heap.size + 1, 1, none⟩) (v := .slice (some ⟨w.heap.size, 0, none⟩) 2 2) r1
  have r2 := cell_keep hb (a := ⟨w.heap.size + 1, 2, none⟩) (v := .int .i64 0) r2
  have s0 := cell_keep hb (a := ⟨w1.heap.size, 0, none⟩) (v := .int .i64 2) s0
  have s1 := cell_keep hb (a := ⟨w1.heap.size, 1, none⟩) (v := .slice a1 3 c1) s1
  have s2 := cell_keep hb (a := ⟨w1.heap.size, 2, none⟩) (v := .int .i64 1) s2
  have t0 := cell_keep hb (a := ⟨w2.heap.size, 0, none⟩) (v := .int .i64 3) t0
  have t1 := cell_keep hb (a := ⟨w2.heap.size, 1, none⟩) (v := .slice a2 2 c2) t1
  have t2 := cell_keep hb (a := ⟨w2.heap.size, 2, none⟩) (v := .int .i64 1) t2
  replace Hx := Lib.hid (Hx.out.keep hb)
  replace HL : Hid (Below w.heap.size w w11) := below_on HL.out hb
  clear hb
  go_wp2_with fail
  refine (b_ahead _ _ _ Hx.out).mono ?_
  rintro e w12 ⟨rfl, hb⟩
  have r0 := cell_keep hb (a := ⟨w.heap.size + 1, 0, none⟩) (v := .int .i64 1) r0
  have r1 := cell_keep hb (a := ⟨w.heap.size + 1, 1, none⟩) (v := .slice (some ⟨w.heap.size, 0, none⟩) 2 2) r1
  have r2 := cell_keep hb (a := ⟨w.heap.size + 1, 2, none⟩) (v := .int .i64 0) r2
  have s0 := cell_keep hb (a := ⟨w1.heap.size, 0, none⟩) (v := .int .i64 2) s0
  have s1 := cell_keep hb (a := ⟨w1.heap.size, 1, none⟩) (v := .slice a1 3 c1) s1
  have s2 := cell_keep hb (a := ⟨w1.heap.size, 2, none⟩) (v := .int .i64 1) s2
  have t0 := cell_keep hb (a := ⟨w2.heap.size, 0, none⟩) (v := .int .i64 3) t0
  have t1 := cell_keep hb (a := ⟨w2.heap.size, 1, none⟩) (v := .slice a2 2 c2) t1
  have t2 := cell_keep hb (a := ⟨w2.heap.size, 2, none⟩) (v := .int .i64 1) t2
  replace Hx := Lib.hid (Hx.out.keep hb)
  replace HL : Hid (Below w.heap.size w w12) := below_on HL.out hb
  clear hb
  go_wp2_with fail
  go_ret
  exact ⟨rfl, HL.out⟩

end Go.Proofs.YthiphdcbboapkaaGreatDoor
namespace Go.Proofs.YthiphdcbboapkaaGreatDoor
open Go.RowKit

/-- The box at block B holds a roster of the call's own. -/
def BoxR (B : Nat) (w : World) (e nw : Int) (a : Option Addr) (c : Nat) (ys : List Int) (W : World) : Prop :=
  W.cell? ⟨B, 0, none⟩ = some (.int .i64 e) ∧ W.cell? ⟨B, 1, none⟩ = some (.slice a ys.length c) ∧ W.cell? ⟨B, 2, none⟩ = some (.int .i64 nw) ∧
  W.frozen? ⟨B, 0, none⟩ = false ∧ W.frozen? ⟨B, 1, none⟩ = false ∧ W.frozen? ⟨B, 2, none⟩ = false ∧
  OwnI W (B + 1) (.slice a ys.length c) ys ∧ Below w.heap.size w W ∧ ys.length ≤ c
theorem BoxR.keep {B : Nat} {w W W' : World} {e nw : Int} {a : Option Addr} {c : Nat} {ys : List Int} (h : BoxR B w e nw a c ys W) (hb : Below W.heap.size W W') : BoxR B w e nw a c ys W' := by
  obtain ⟨x0, x1, x2, f0, f1, f2, ho, hl, hc⟩ := h
  exact ⟨cell_keep hb x0, cell_keep hb x1, cell_keep hb x2, frozen_keep hb x0 f0, frozen_keep hb x1 f1, frozen_keep hb x2 f2, ownsRow_below ho hb, below_on hl hb, hc⟩
theorem BoxR.ints {B : Nat} {w W : World} {e nw : Int} {a : Option Addr} {c : Nat} {ys : List Int} (h : BoxR B w e nw a c ys W) : IntsAt W a ys := own_ints h.2.2.2.2.2.2.1
theorem BoxR.lt {B : Nat} {w W : World} {e nw : Int} {a : Option Addr} {c : Nat} {ys : List Int} (h : BoxR B w e nw a c ys W) : B < W.heap.size := cell_old h.1
theorem BoxR.make {B : Nat} {w w2 : World} {e nw : Int} {base : Nat} {a : Option Addr} {c : Nat} {ys : List Int} (u0 u1 u2 : Value) (hB : w.heap.size ≤ B)
    (x0 : w2.cell? ⟨B, 0, none⟩ = some u0) (x1 : w2.cell? ⟨B, 1, none⟩ = some u1) (x2 : w2.cell? ⟨B, 2, none⟩ = some u2)
    (f0 : w2.frozen? ⟨B, 0, none⟩ = false) (f1 : w2.frozen? ⟨B, 1, none⟩ = false) (f2 : w2.frozen? ⟨B, 2, none⟩ = false)
    (ho : OwnI w2 base (.slice a ys.length c) ys) (hb : B < base) (hl : Below w.heap.size w w2) (hc : ys.length ≤ c) :
    BoxR B w e nw a c ys (((w2.setCell ⟨B, 0, none⟩ (.int .i64 e)).setCell ⟨B, 1, none⟩ (.slice a ys.length c)).setCell ⟨B, 2, none⟩ (.int .i64 nw)) := by
  refine ⟨?_, ?_, ?_, by simp [f0], by simp [f1], by simp [f2], ownsRow_base (own_set3 ho hb _ _ _) hb, below_set3 hl hB _ _ _ _ _ _, hc⟩
  · rw [World.cell?_setCell_other _ _ _ _ (by simp), World.cell?_setCell_other _ _ _ _ (by simp)]
    exact World.cell?_setCell_same _ _ _ x0
  · rw [World.cell?_setCell_other _ _ _ _ (by simp)]
    exact World.cell?_setCell_same _ _ _ (u := u1) (by rw [World.cell?_setCell_other _ _ _ _ (by simp)]; exact x1)
  · exact World.cell?_setCell_same _ _ _ (u := u2) (by rw [World.cell?_setCell_other _ _ _ _ (by simp), World.cell?_setCell_other _ _ _ _ (by simp)]; exact x2)

theorem roster_ys (e nw : Int) (a : Option Addr) (c : Nat) (zs ys : List Int) (w : World) (hz : IntsAt w a zs) (hl : zs.length ≤ 9223372036854775807) (hcap : zs.length ≤ c) (h : zs.take 7 = ys) :
    Calls Tryz.prog 13 #[rosV e a zs c nw] w (RosR w e nw ys) := by
  subst h; exact roster_any e nw a c zs w hz hl hcap
/-! plain facts on places -/
theorem mayB_mayL {e : Int} {zs : List Int} {nw : Int} (h : mayB e zs nw = true) : mayL zs = true ∧ 1 ≤ zs.length ∧ zs.length ≤ 5 := by
  unfold mayB lenB at h
  simp only [Bool.and_eq_true, decide_eq_true_eq] at h
  exact ⟨h.1.2, h.1.1.2⟩
theorem nthI_inj {zs : List Int} (h : mayL zs = true) {i j : Nat} (hi : i < zs.length) (hj : j < zs.length) (e : nthI zs i = nthI zs j) : i = j := by
  unfold mayL at h
  have h' := (of_decide_eq_true h).2
  unfold nthI at e
  rw [List.getD_eq_getElem?_getD, List.getD_eq_getElem?_getD, List.getElem?_eq_getElem hi, List.getElem?_eq_getElem hj] at e
  simp only [Option.getD_some] at e
  exact (List.getElem_inj h').1 e
theorem idx_nth {zs : List Int} (h : mayL zs = true) {i : Nat} (hi : i < zs.length) : idx zs (nthI zs i) = i :=
  idx_hit hi rfl (fun j hj e => by have := nthI_inj h (by omega) hi e; omega)
theorem nextI_nth {zs : List Int} (h : mayL zs = true) {i : Nat} (hi : i < zs.length) : nextI zs (nthI zs i) = if i + 1 < zs.length then nthI zs (i + 1) else 0 := by
  unfold nextI
  rw [idx_nth h hi, if_pos (by omega)]
  by_cases c : i + 1 < zs.length
  · rw [if_pos c, show ((i : Int) + 1) = ((i + 1 : Nat) : Int) from by omega, atI_in c]
  · rw [if_neg c, atI_out (by omega)]

theorem atI_last {zs : List Int} (h : 1 ≤ zs.length) : atI zs (zs.length - 1) = nthI zs (zs.length - 1) := by
  rw [show ((zs.length : Int) - 1) = ((zs.length - 1 : Nat) : Int) from by omega, atI_in (by omega)]
theorem aheadI_nth {zs : List Int} (h : mayL zs = true) {j : Nat} (hj : j + 1 < zs.length) : atI zs (idx zs (nthI zs (j + 1)) - 1) = nthI zs j := by
  rw [idx_nth h hj, show (((j + 1 : Nat) : Int) - 1) = (j : Int) from by omega, atI_in (by omega)]
theorem ahead_at (e nw : Int) (a : Option Addr) (c : Nat) (zs : List Int) (j : Nat) (w : World) (hl : zs.length ≤ 9223372036854775807) (hz : IntsAt w a zs) (h : mayL zs = true) (hj : j + 1 < zs.length) :
    Calls Tryz.prog 72 #[rosV e a zs c nw, .int .i64 (nthI zs (j + 1))] w fun e w' => e = .returned (.int .i64 (nthI zs j)) ∧ Below w.heap.size w w' := by
  have := ahead_any e nw (nthI zs (j + 1)) a c zs w hl hz
  rw [aheadI_nth h hj] at this
  exact this
/-- The one that stands at a place; behind all: nought. -/
def orI (zs : List Int) (k : Nat) : Int := if k < zs.length then nthI zs k else 0
theorem orI_in {zs : List Int} {k : Nat} (h : k < zs.length) : orI zs k = nthI zs k := if_pos h
theorem next_at (e nw : Int) (a : Option Addr) (c : Nat) (zs : List Int) (j : Nat) (w : World) (hl : zs.length ≤ 9223372036854775807) (hz : IntsAt w a zs) (h : mayL zs = true) (hj : j < zs.length) :
    Calls Tryz.prog 71 #[rosV e a zs c nw, .int .i64 (nthI zs j)] w fun e w' => e = .returned (.int .i64 (orI zs (j + 1))) ∧ Below w.heap.size w w' := by
  have := next_any e nw (nthI zs j) a c zs w hl hz
  rw [nextI_nth h hj] at this
  exact this
theorem IntsAt.form {w : World} {a : Option Addr} {zs : List Int} (h : IntsAt w a zs) (hl : 1 ≤ zs.length) : ∃ b off, a = some ⟨b, off, none⟩ ∧ b < w.heap.size ∧ ∀ j, j < zs.length → w.cell? ⟨b, off + j, none⟩ = some (.int .i64 (nthI zs j)) := by
  rcases h with h | h
  · rw [h] at hl; simp at hl
  · exact h

end Go.Proofs.YthiphdcbboapkaaGreatDoor
