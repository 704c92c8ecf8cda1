/- Walks of package roster's small functions. -/
import Derived.Test.YthiphdcbboapkaaGreatDoorRows
import Derived.Test.YthiphdcbboapkaaGreatDoorKit
import Derived.BigQuiet
import Derived.Deep.QuietTactic
import Derived.Deep.RegionHeld3
import Derived.Deep.DeepCutAuto
namespace Go.Proofs.YthiphdcbboapkaaGreatDoor
open Go.RowKit

set_option maxRecDepth 100000 in
set_option maxHeartbeats 400000 in
theorem index_any (a : Option Addr) (c : Nat) (zs : List Int) (x : Int) (w : World) (hl : zs.length ≤ 9223372036854775807) (hz : IntsAt w a zs) :
    Calls Tryz.prog 61 #[.slice a zs.length c, .int .i64 x] w fun e w' => e = .returned (.int .i64 (idx zs x)) ∧ w = w' := by
  rcases hz with rfl | ⟨b, off, rfl, hbs, hc⟩
  · go_enter Tryz.func61, Tryz.ntmps61
    go_wp2
    go_loop [5, 8] (fun _ i => i = .int .i64 0) (fun _ _ => 0)
    case atStart => rfl
    case round =>
      subst hrel
      go_wp2
      go_ret
      exact ⟨rfl, rfl⟩
  · go_enter Tryz.func61, Tryz.ntmps61
    go_wp2
    go_loop [5, 8] (fun _ i => ∃ k : Nat, k ≤ zs.length ∧ i = .int .i64 k ∧ ∀ j, j < k → nthI zs j ≠ x) (fun _ i => zs.length - (intOf i).toNat)
    case atStart => exact ⟨0, Nat.zero_le _, rfl, fun j hj => absurd hj (Nat.not_lt_zero _)⟩
    case round =>
      obtain ⟨k, hk, rfl, hne⟩ := hrel
      by_cases hlt : k < zs.length
      · have hcell := hc k hlt
        by_cases hx : (x == nthI zs k) = true
        · go_wp2
          go_ret
          exact ⟨ret_int (idx_hit hlt (by simpa using Eq.symm (beq_iff_eq.1 hx)) hne).symm, rfl⟩
        · have hx' : (x == nthI zs k) = false := by simpa using hx
          go_wp2
          go_round
          case rel =>
            refine ⟨k + 1, by omega, by go_num, fun j hj => ?_⟩
            by_cases e : j = k
            · subst e; intro h; rw [h] at hx'; simp at hx'
            · exact hne j (by omega)
          case measure => simp [intOf]; omega
      · go_wp2
        go_ret
        exact ⟨ret_int (idx_miss (fun i hi => hne i (by omega))).symm, rfl⟩

set_option maxRecDepth 100000 in
set_option maxHeartbeats 400000 in
theorem at_any (e nw i : Int) (a : Option Addr) (c : Nat) (zs : List Int) (w : World) (hl : zs.length ≤ 9223372036854775807) (hz : IntsAt w a zs) :
    Calls Tryz.prog 83 #[.agg #[.int .i64 e, .slice a zs.length c, .int .i64 nw], .int .i64 i] w fun e w' => e = .returned (.int .i64 (atI zs i)) ∧ Below w.heap.size w w' := by
  by_cases h0 : i < 0
  · go_enter Tryz.func83, Tryz.ntmps83
    go_wp2
    go_ret
    exact ⟨ret_int (atI_out (by omega)).symm, (Below.refl _ _).alloc (Nat.le_refl _) _⟩
  · by_cases h1 : i < zs.length
    · rcases hz with rfl | ⟨b, off, rfl, hbs, hc⟩
      · simp at h1; omega
      obtain ⟨k, rfl⟩ : ∃ k : Nat, i = k := ⟨i.toNat, by omega⟩
      have hk : k < zs.length := by omega
      have hcell := hc k hk
      clear h1
      go_enter Tryz.func83, Tryz.ntmps83
      go_wp2
      go_ret
      exact ⟨ret_int (atI_in hk).symm, (Below.refl _ _).alloc (Nat.le_refl _) _⟩
    · go_enter Tryz.func83, Tryz.ntmps83
      go_wp2
      go_ret
      exact ⟨ret_int (atI_out (by omega)).symm, (Below.refl _ _).alloc (Nat.le_refl _) _⟩

/-- A roster as a value. -/
@[reducible] def rosV (e : Int) (a : Option Addr) (zs : List Int) (c : Nat) (nw : Int) : Value := .agg #[.int .i64 e, .slice a zs.length c, .int .i64 nw]

set_option maxRecDepth 100000 in
set_option maxHeartbeats 400000 in
theorem contains_any (a : Option Addr) (c : Nat) (zs : List Int) (x : Int) (w : World) (hl : zs.length ≤ 9223372036854775807) (hz : IntsAt w a zs) :
    Calls Tryz.prog 60 #[.slice a zs.length c, .int .i64 x] w fun e w' => e = .returned (.bool (decide (0 ≤ idx zs x))) ∧ w = w' := by
  go_enter Tryz.func60, Tryz.ntmps60
  go_wp2_with (go_at_call 61; refine (index_any _ _ _ _ _ hl hz).mono ?_; rintro e w' ⟨rfl, rfl⟩)
  go_ret
  exact ⟨ret_bool (by simp), rfl⟩

set_option maxRecDepth 100000 in
set_option maxHeartbeats 400000 in
theorem head_any (e nw : Int) (a : Option Addr) (c : Nat) (zs : List Int) (w : World) (hl : zs.length ≤ 9223372036854775807) (hz : IntsAt w a zs) :
    Calls Tryz.prog 70 #[rosV e a zs c nw] w fun e w' => e = .returned (.int .i64 (atI zs 0)) ∧ Below w.heap.size w w' := by
  go_enter Tryz.func70, Tryz.ntmps70
  go_wp2_with (go_at_call 83; refine (at_any _ _ _ _ _ _ _ hl (hz.alloc _)).mono ?_; rintro e w' ⟨rfl, hb⟩)
  go_ret
  exact ⟨rfl, ((Below.refl _ _).alloc (Nat.le_refl _) _).trans (hb.mono (by simp))⟩

set_option maxRecDepth 100000 in
set_option maxHeartbeats 400000 in
theorem tail_any (e nw : Int) (a : Option Addr) (c : Nat) (zs : List Int) (w : World) (hl : zs.length ≤ 9223372036854775807) (hz : IntsAt w a zs) :
    Calls Tryz.prog 58 #[rosV e a zs c nw] w fun e w' => e = .returned (.int .i64 (atI zs (zs.length - 1))) ∧ Below w.heap.size w w' := by
  go_enter Tryz.func58, Tryz.ntmps58
  go_wp2_with (go_at_call 83; refine (at_any _ _ _ _ _ _ _ hl (hz.alloc _)).mono ?_; rintro e w' ⟨rfl, hb⟩)
  go_ret
  exact ⟨rfl, ((Below.refl _ _).alloc (Nat.le_refl _) _).trans (hb.mono (by simp))⟩

theorem idx_bd (zs : List Int) (x : Int) : -1 ≤ idx zs x ∧ idx zs x < zs.length := by
  unfold idx
  suffices h : ∀ n j, j + n ≤ zs.length → -1 ≤ idxFrom zs x n j ∧ idxFrom zs x n j < zs.length by exact h _ 0 (by omega)
  intro n
  induction n with
  | zero => intro j hj; unfold idxFrom; omega
  | succ n ih =>
    intro j hj
    unfold idxFrom
    split
    · omega
    · exact ih (j + 1) (by omega)

/-- What roster.Next gives. -/
def nextI (zs : List Int) (x : Int) : Int := if 0 ≤ idx zs x then atI zs (idx zs x + 1) else 0

set_option maxRecDepth 100000 in
set_option maxHeartbeats 400000 in
theorem next_any (e nw x : Int) (a : Option Addr) (c : Nat) (zs : List Int) (w : World) (hl : zs.length ≤ 9223372036854775807) (hz : IntsAt w a zs) :
    Calls Tryz.prog 71 #[rosV e a zs c nw, .int .i64 x] w fun e w' => e = .returned (.int .i64 (nextI zs x)) ∧ Below w.heap.size w w' := by
  have hi := idx_bd zs x
  by_cases h : 0 ≤ idx zs x
  · go_enter Tryz.func71, Tryz.ntmps71
    go_wp2_with (first
      | (go_at_call 61; refine (index_any _ _ _ _ _ hl (hz.alloc _)).mono ?_; rintro e w' ⟨rfl, rfl⟩)
      | (go_at_call 83; refine (at_any _ _ _ _ _ _ _ hl (hz.alloc _)).mono ?_; rintro e w' ⟨rfl, hb⟩))
    go_ret
    exact ⟨ret_int (by unfold nextI; rw [if_pos h]), ((Below.refl _ _).alloc (Nat.le_refl _) _).trans (hb.mono (by simp))⟩
  · go_enter Tryz.func71, Tryz.ntmps71
    go_wp2_with (first
      | (go_at_call 61; refine (index_any _ _ _ _ _ hl (hz.alloc _)).mono ?_; rintro e w' ⟨rfl, rfl⟩)
      | (go_at_call 83; refine (at_any _ _ _ _ _ _ _ hl (hz.alloc _)).mono ?_; rintro e w' ⟨rfl, hb⟩))
    go_ret
    exact ⟨ret_int (by unfold nextI; rw [if_neg (by omega)]), ((Below.refl _ _).alloc (Nat.le_refl _) _)⟩

set_option maxRecDepth 100000 in
set_option maxHeartbeats 800000 in
theorem ahead_any (e nw x : Int) (a : Option Addr) (c : Nat) (zs : List Int) (w : World) (hl : zs.length ≤ 9223372036854775807) (hz : IntsAt w a zs) :
    Calls Tryz.prog 72 #[rosV e a zs c nw, .int .i64 x] w fun e w' => e = .returned (.int .i64 (atI zs (idx zs x - 1))) ∧ Below w.heap.size w w' := by
  have hi := idx_bd zs x
  have hw : IntKind.i64.wrap (idx zs x - 1) = idx zs x - 1 := IntWalk.i64_in _ (by omega)
  go_enter Tryz.func72, Tryz.ntmps72
  go_wp2_with fail
  go_region_held3 (fun w' => w'.cell? ⟨w.heap.size, 0, none⟩ = some (.int .i64 e) ∧ w'.cell? ⟨w.heap.size, 1, none⟩ = some (.slice a zs.length c) ∧ w'.cell? ⟨w.heap.size, 2, none⟩ = some (.int .i64 nw) ∧ IntsAt w' a zs ∧ Below w.heap.size w w')
    (first | (go_keep; done) | (refine And.intro ?_ (And.intro ?_ (And.intro ?_ (And.intro (hz.alloc _).drew ((Below.refl _ _).alloc (Nat.le_refl _) _).drew))) <;> go_keep) | (obtain ⟨s1, s2, s3, s4, s5⟩ := ‹_ ∧ _ ∧ _ ∧ _ ∧ _›; exact ⟨cell_keep hb s1, cell_keep hb s2, cell_keep hb s3, s4.below hb (Nat.le_refl _), Below.top s5 hb (Nat.le_refl _)⟩))
    (first
      | (go_at_call 61; refine (index_any _ _ _ _ _ hl ?_).mono ?_; (go_split_ands; assumption); rintro e w' ⟨rfl, rfl⟩)
      | (go_at_call 83; refine (at_any _ _ _ _ _ _ _ hl ?_).mono ?_; (go_split_ands; assumption); rintro e w' ⟨rfl, hb⟩))
  go_wp2
  go_ret
  exact ⟨rfl, ‹_ ∧ _ ∧ _ ∧ _ ∧ _›.2.2.2.2⟩

/-- roster.May's loop: all numbers are 1 to 5, none twice. -/
def mayL (zs : List Int) : Bool := decide ((∀ n ∈ zs, 1 ≤ n ∧ n ≤ 5) ∧ zs.Nodup)
def lenB (zs : List Int) : Bool := decide (1 ≤ zs.length ∧ zs.length ≤ 5)
def epB (e : Int) : Bool := decide (1 ≤ e ∧ e ≤ 1099511627776)
def newB (zs : List Int) (nw : Int) : Bool := decide (nw = 0 ∨ 1 < zs.length ∧ nw = atI zs (zs.length - 1))
def mayB (e : Int) (zs : List Int) (nw : Int) : Bool := epB e && lenB zs && mayL zs && newB zs nw

theorem nthI_mem (zs : List Int) (k : Nat) (h : k < zs.length) : nthI zs k ∈ zs := by
  unfold nthI; simp [h]
theorem take_snocI (zs : List Int) (k : Nat) (h : k < zs.length) : zs.take (k + 1) = zs.take k ++ [nthI zs k] := by
  rw [List.take_succ_eq_append_getElem h]; unfold nthI; simp [h]
theorem mem_take_snoc (zs : List Int) (k : Nat) (h : k < zs.length) (x : Int) : decide (x ∈ zs.take (k + 1)) = (decide (x ∈ zs.take k) || decide (x = nthI zs k)) := by
  rw [take_snocI zs k h]; simp [List.mem_append, Bool.decide_or]
theorem mayL_low (zs : List Int) (k : Nat) (h : k < zs.length) (hx : nthI zs k < 1 ∨ 5 < nthI zs k) : mayL zs = false := by
  unfold mayL; apply decide_eq_false
  rintro ⟨h1, _⟩
  have := h1 _ (nthI_mem zs k h)
  omega
theorem mayL_dup (zs : List Int) (k : Nat) (h : k < zs.length) (hx : nthI zs k ∈ zs.take k) : mayL zs = false := by
  unfold mayL; apply decide_eq_false
  rintro ⟨_, h2⟩
  have h3 : (zs.take (k + 1)).Nodup := h2.sublist (List.take_sublist _ _)
  rw [take_snocI zs k h, List.nodup_append] at h3
  exact h3.2.2 _ hx _ (by simp) rfl
theorem mayL_step (zs : List Int) (k : Nat) (h : k < zs.length) (hM : mayL (zs.take k) = true) (hx : 1 ≤ nthI zs k ∧ nthI zs k ≤ 5) (hn : nthI zs k ∉ zs.take k) : mayL (zs.take (k + 1)) = true := by
  unfold mayL at *
  have hM' := of_decide_eq_true hM
  apply decide_eq_true
  rw [take_snocI zs k h]
  refine ⟨fun n hn' => ?_, ?_⟩
  · rcases List.mem_append.1 hn' with h1 | h1
    · exact hM'.1 n h1
    · simp at h1; subst h1; exact hx
  · rw [List.nodup_append]
    refine ⟨hM'.2, by simp, ?_⟩
    intro x hx1 y hy he
    simp at hy
    subst hy; subst he
    exact hn hx1

theorem mayB_new {e : Int} {zs : List Int} {nw : Int} (h1 : 1 ≤ e) (h2 : e ≤ 1099511627776) (h3 : 1 ≤ zs.length) (h4 : zs.length ≤ 5) (hM : mayL zs = true) (n1 : (nw == 0) = false) (l1 : 1 < zs.length) : mayB e zs nw = (nw == atI zs (zs.length - 1)) := by
  have n2 : nw ≠ 0 := by simpa using n1
  unfold mayB epB lenB newB
  rw [hM, decide_eq_true (And.intro h1 h2), decide_eq_true (And.intro h3 h4)]
  rw [Bool.eq_iff_iff]
  simp [n2, l1]

/-- How far the loop has come. -/
def MayRel (B : Nat) (w : World) (e : Int) (a : Option Addr) (zs : List Int) (c : Nat) (nw : Int) (k : Nat) (wr : World) : Prop :=
  mayL (zs.take k) = true ∧ Below w.heap.size w wr ∧ w.heap.size + 1 < wr.heap.size ∧ IntsAt wr a zs ∧ wr.cell? ⟨w.heap.size, 0, none⟩ = some (.int .i64 e) ∧ wr.cell? ⟨w.heap.size, 1, none⟩ = some (.slice a zs.length c) ∧ wr.cell? ⟨w.heap.size, 2, none⟩ = some (.int .i64 nw) ∧
    (∀ j, j < 6 → wr.cell? ⟨B, j, none⟩ = some (.bool (decide ((j : Int) ∈ zs.take k)))) ∧ ∀ j, wr.frozen? ⟨B, j, none⟩ = false

set_option maxRecDepth 100000 in
set_option maxHeartbeats 800000 in
theorem may_any (e nw : Int) (a : Option Addr) (c : Nat) (zs : List Int) (w : World) (hl : zs.length ≤ 9223372036854775807) (hz : IntsAt w a zs) :
    Calls Tryz.prog 35 #[rosV e a zs c nw] w fun e' w' => e' = .returned (.bool (mayB e zs nw)) ∧ Below w.heap.size w w' := by
  by_cases h1 : e < 1
  · go_enter Tryz.func35, Tryz.ntmps35
    go_wp2_with fail
    go_ret
    exact ⟨ret_bool (by unfold mayB epB; simp; omega), (Below.refl _ _).alloc (Nat.le_refl _) _⟩
  by_cases h2 : 1099511627776 < e
  · go_enter Tryz.func35, Tryz.ntmps35
    go_wp2_with fail
    go_ret
    exact ⟨ret_bool (by unfold mayB epB; simp; omega), (Below.refl _ _).alloc (Nat.le_refl _) _⟩
  by_cases h3 : zs.length < 1
  · go_enter Tryz.func35, Tryz.ntmps35
    go_wp2_with fail
    go_ret
    exact ⟨ret_bool (by unfold mayB lenB; simp; omega), (Below.refl _ _).alloc (Nat.le_refl _) _⟩
  by_cases h4 : 5 < zs.length
  · go_enter Tryz.func35, Tryz.ntmps35
    go_wp2_with fail
    go_ret
    exact ⟨ret_bool (by unfold mayB lenB; simp; omega), (Below.refl _ _).alloc (Nat.le_refl _) _⟩
  go_enter Tryz.func35, Tryz.ntmps35
  go_wp2_with fail
  go_loopw [5, 30] (fun _ i wr => ∃ k : Nat, k ≤ zs.length ∧ i = .int .i64 k ∧ MayRel (w.heap.size + 1) w e a zs c nw k wr) (fun _ i _ => zs.length - (intOf i).toNat)
  case atStart =>
    refine ⟨0, Nat.zero_le _, rfl, by simp [mayL], ((Below.refl _ _).alloc (Nat.le_refl _) _).alloc (by simp) _, by simp, (hz.alloc _).alloc _, by simp [go_sem], by simp [go_sem], by simp [go_sem], ?_, ?_⟩
    · intro j hj
      have : j = 0 ∨ j = 1 ∨ j = 2 ∨ j = 3 ∨ j = 4 ∨ j = 5 := by omega
      rcases this with rfl | rfl | rfl | rfl | rfl | rfl <;> simp [go_sem]
    · intro j; simp [go_sem]
  case round =>
    obtain ⟨k, hk, rfl, hM, hB, hsz, hzr, c0, c1, c2, hcs, hfz⟩ := hrel
    by_cases hlt : k < zs.length
    · rcases hzr with rfl | ⟨b, off, rfl, hbs, hc⟩
      · simp at hlt
      have hcell := hc k hlt
      by_cases x1 : nthI zs k < 1
      · go_wp2_with fail
        go_ret
        exact ⟨ret_bool (by rw [mayB, mayL_low zs k hlt (Or.inl x1)]; simp), hB⟩
      by_cases x5 : 5 < nthI zs k
      · go_wp2_with fail
        go_ret
        exact ⟨ret_bool (by rw [mayB, mayL_low zs k hlt (Or.inr x5)]; simp), hB⟩
      obtain ⟨m, hm⟩ : ∃ m : Nat, nthI zs k = m := ⟨(nthI zs k).toNat, by omega⟩
      rw [hm] at hcell x1 x5
      have hs := hcs m (by omega)
      have hf := hfz m
      by_cases hd : (m : Int) ∈ zs.take k
      · rw [decide_eq_true hd] at hs
        have HM := Lib.hid hm
        clear hm hcs hfz hc
        go_wp2_with fail
        go_ret
        exact ⟨ret_bool (by rw [mayB, mayL_dup zs k hlt (by rw [HM.out]; exact hd)]; simp), hB⟩
      · rw [decide_eq_false hd] at hs
        have HM := Lib.hid hm
        have HC := Lib.hid hcs
        have HF := Lib.hid hfz
        have HC2 := Lib.hid hc
        clear hm hcs hfz hc
        go_wp2_with fail
        go_roundw
        case rel =>
          have hB' : Below w.heap.size w (wr.setCell ⟨w.heap.size + 1, m, none⟩ (.bool true)) := hB.setCell (by simp) _
          refine ⟨k + 1, by omega, by go_num, mayL_step zs k hlt hM (by rw [HM.out]; omega) (by rw [HM.out]; exact hd), hB', by simpa using hsz, ?_, by simp [c0, go_sem], by simp [c1, go_sem], by simp [c2, go_sem], ?_, ?_⟩
          · exact hz.below hB' (Nat.le_refl _)
          · intro j hj
            have hold := HC.out j hj
            by_cases ej : j = m
            · subst ej
              rw [World.cell?_setCell_same _ _ _ hold, mem_take_snoc zs k hlt, HM.out]
              simp
            · rw [World.cell?_setCell_other _ _ _ _ (by simp only [ne_eq, Addr.mk.injEq, true_and, and_true]; omega), hold, mem_take_snoc zs k hlt, HM.out]
              have : ¬ (j : Int) = m := by omega
              simp [this]
          · intro j
            rw [World.frozen?_setCell]
            exact HF.out j
        case measure => simp [intOf]; omega
    · have hkl : k = zs.length := by omega
      subst hkl
      rw [List.take_length] at hM
      have HM := Lib.hid hM
      have h0 : IntKind.i64.wrap ((zs.length : Int)) = zs.length := IntWalk.i64_in _ (by omega)
      clear hM hcs hfz h0
      by_cases n0 : nw = 0
      · subst n0
        go_wp2_with fail
        go_quiet (fail)
        go_wp2_with fail
        go_ret
        exact ⟨ret_bool (by rw [mayB, HM.out, newB]; unfold epB lenB; first | (simp; done) | (simp; omega)), below_drewN hB _⟩
      · have n1 : (nw == 0) = false := by simpa using n0
        by_cases l1 : 1 < zs.length
        · have l2 : decide ((1 : Int) < (zs.length : Int)) = true := by simp; omega
          go_wp2_with fail
          go_region_held3 (fun w' => w'.cell? ⟨w.heap.size, 0, none⟩ = some (.int .i64 e) ∧ w'.cell? ⟨w.heap.size, 1, none⟩ = some (.slice a zs.length c) ∧ w'.cell? ⟨w.heap.size, 2, none⟩ = some (.int .i64 nw) ∧ IntsAt w' a zs ∧ Below w.heap.size w w')
            (first | (go_keep; done) | (refine And.intro ?_ (And.intro ?_ (And.intro ?_ (And.intro hzr.drew hB.drew))) <;> go_keep) | (obtain ⟨s1, s2, s3, s4, s5⟩ := ‹_ ∧ _ ∧ _ ∧ _ ∧ _›; exact ⟨cell_keep hb s1, cell_keep hb s2, cell_keep hb s3, s4.below hb (Nat.le_refl _), Below.top s5 hb (Nat.le_refl _)⟩))
            ((go_at_call 58; refine (tail_any _ _ _ _ _ _ hl ?_).mono ?_; (go_split_ands; assumption); rintro e w' ⟨rfl, hb⟩))
          go_wp2_with fail
          go_ret
          exact ⟨ret_bool (mayB_new h1 h2 (by omega) (by omega) HM.out n1 l1).symm, ‹_ ∧ _ ∧ _ ∧ _ ∧ _›.2.2.2.2⟩
        · have l2 : decide ((1 : Int) < (zs.length : Int)) = false := by simp; omega
          go_wp2_with fail
          go_quiet (fail)
          go_wp2_with fail
          go_ret
          exact ⟨ret_bool (by rw [mayB, HM.out, newB]; unfold epB lenB; first | (simp; done) | (simp; omega)), below_drewN hB _⟩

end Go.Proofs.YthiphdcbboapkaaGreatDoor
