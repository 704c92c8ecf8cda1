/- Walks of roster.Eq, roster.Has, and of the document's functions on rosters. -/
import Derived.Test.YthiphdcbboapkaaGreatDoorRoC
namespace Go.Proofs.YthiphdcbboapkaaGreatDoor
open Go.RowKit

def eqB (e1 e2 nw1 nw2 : Int) (xs ys : List Int) : Bool := (e1 == e2) && (nw1 == nw2) && decide (xs = ys)

set_option maxRecDepth 100000 in
set_option maxHeartbeats 400000 in
theorem has_any (e nw n : Int) (a : Option Addr) (c : Nat) (zs : List Int) (w : World) (hl : zs.length ≤ 9223372036854775807) (hz : IntsAt w a zs) :
    Calls Tryz.prog 40 #[rosV e a zs c nw, .int .i64 n] w fun e w' => e = .returned (.bool (decide (0 ≤ idx zs n))) ∧ Below w.heap.size w w' := by
  go_enter Tryz.func40, Tryz.ntmps40
  go_wp2_with (go_at_call 60; refine (contains_any _ _ _ _ _ hl (hz.alloc _)).mono ?_; rintro e w' ⟨rfl, rfl⟩)
  go_ret
  exact ⟨rfl, below_alloc (Below.refl _ _) _⟩

set_option maxRecDepth 100000 in
set_option maxHeartbeats 400000 in
theorem spot_any (e nw x : Int) (a : Option Addr) (c : Nat) (zs : List Int) (w : World) (hl : zs.length ≤ 9223372036854775807) (hz : IntsAt w a zs) :
    Calls Tryz.prog 28 #[rosV e a zs c nw, .int .i64 x] w fun e w' => e = .returned (.int .i64 (idx zs x)) ∧ Below w.heap.size w w' := by
  have hl' : (zs.length : Int) ≤ 9223372036854775807 := by omega
  go_enter Tryz.func28, Tryz.ntmps28
  go_wp2_with fail
  go_loop [5] (fun i => ∃ k : Nat, k ≤ zs.length ∧ i = .int .i64 k ∧ ∀ j, j < k → nthI zs j ≠ x) (fun i => zs.length - (intOf i).toNat)
  case atStart => exact ⟨0, Nat.zero_le _, rfl, fun j hj => absurd hj (Nat.not_lt_zero _)⟩
  case round =>
    obtain ⟨k, hk, rfl, hne⟩ := hrel
    by_cases hlt : k < zs.length
    · rcases hz with rfl | ⟨b, off, rfl, hbs, hc⟩
      · simp at hlt
      have hcell := hc k hlt
      by_cases hx : (nthI zs k == x) = true
      · go_wp2_with fail
        go_ret
        exact ⟨ret_int (idx_hit hlt (by simpa using hx) hne).symm, below_alloc (Below.refl _ _) _⟩
      · have hx' : (nthI zs k == x) = false := by simpa using hx
        go_wp2_with fail
        go_round
        case rel =>
          refine ⟨k + 1, by omega, by go_num, fun j hj => ?_⟩
          by_cases e : j = k
          · subst e; intro h; rw [h] at hx'; simp at hx'
          · exact hne j (by omega)
        case measure => simp [intOf]; omega
    · go_wp2_with fail
      go_ret
      exact ⟨ret_int (idx_miss (fun i hi => hne i (by omega))).symm, below_alloc (Below.refl _ _) _⟩

def EqRel (w : World) (e1 e2 nw1 nw2 : Int) (a1 a2 : Option Addr) (c1 c2 : Nat) (xs ys : List Int) (k : Nat) (wr : World) : Prop :=
  (∀ j, j < k → nthI xs j = nthI ys j) ∧ Below w.heap.size w wr ∧
  wr.cell? ⟨w.heap.size, 0, none⟩ = some (.int .i64 e1) ∧ wr.cell? ⟨w.heap.size, 1, none⟩ = some (.slice a1 xs.length c1) ∧ wr.cell? ⟨w.heap.size, 2, none⟩ = some (.int .i64 nw1) ∧
  wr.cell? ⟨w.heap.size + 1, 0, none⟩ = some (.int .i64 e2) ∧ wr.cell? ⟨w.heap.size + 1, 1, none⟩ = some (.slice a2 ys.length c2) ∧ wr.cell? ⟨w.heap.size + 1, 2, none⟩ = some (.int .i64 nw2)

theorem ext_nthI {xs ys : List Int} (hl : xs.length = ys.length) (h : ∀ j, j < xs.length → nthI xs j = nthI ys j) : xs = ys := by
  apply List.ext_getElem hl
  intro i h1 h2
  have := h i h1
  unfold nthI at this
  simpa [h1, h2] using this

set_option maxRecDepth 100000 in
set_option maxHeartbeats 800000 in
theorem eqRoster_any (e1 e2 nw1 nw2 : Int) (a1 a2 : Option Addr) (c1 c2 : Nat) (xs ys : List Int) (w : World) (hl : xs.length ≤ 9223372036854775807) (hx : IntsAt w a1 xs) (hy : IntsAt w a2 ys) :
    Calls Tryz.prog 23 #[rosV e1 a1 xs c1 nw1, rosV e2 a2 ys c2 nw2] w fun e w' => e = .returned (.bool (eqB e1 e2 nw1 nw2 xs ys)) ∧ Below w.heap.size w w' := by
  by_cases h1 : (e1 == e2) = false
  · have h1' : (e1 != e2) = true := by simpa using h1
    go_enter Tryz.func23, Tryz.ntmps23
    go_wp2_with fail
    go_ret
    exact ⟨ret_bool (by unfold eqB; rw [h1]; simp), below_alloc (below_alloc (Below.refl _ _) _) _⟩
  have h1t : (e1 == e2) = true := by simpa using h1
  have h1' : (e1 != e2) = false := by simpa using h1
  clear h1
  by_cases h2 : (nw1 == nw2) = false
  · have h2' : (nw1 != nw2) = true := by simpa using h2
    go_enter Tryz.func23, Tryz.ntmps23
    go_wp2_with fail
    go_ret
    exact ⟨ret_bool (by unfold eqB; rw [h2]; simp), below_alloc (below_alloc (Below.refl _ _) _) _⟩
  have h2t : (nw1 == nw2) = true := by simpa using h2
  have h2' : (nw1 != nw2) = false := by simpa using h2
  clear h2
  by_cases h3 : xs.length = ys.length
  · have h3' : ((xs.length : Int) != (ys.length : Int)) = false := by simp; omega
    have H3 := Lib.hid h3
    clear h3
    go_enter Tryz.func23, Tryz.ntmps23
    go_wp2_with fail
    go_loopw [5] (fun i wr => ∃ k : Nat, k ≤ xs.length ∧ i = .int .i64 k ∧ EqRel w e1 e2 nw1 nw2 a1 a2 c1 c2 xs ys k wr) (fun i _ => xs.length - (intOf i).toNat)
    case atStart =>
      refine ⟨0, Nat.zero_le _, rfl, fun j hj => absurd hj (Nat.not_lt_zero _), below_alloc (below_alloc (Below.refl _ _) _) _, ?_, ?_, ?_, ?_, ?_, ?_⟩ <;> simp [go_sem]
    case round =>
      obtain ⟨k, hk, rfl, hne, hB, q0, q1, q2, r0, r1, r2⟩ := hrel
      by_cases hlt : k < xs.length
      · have hkx : (k : Int) < (xs.length : Int) := by omega
        have hky : (k : Int) < (ys.length : Int) := by have := H3.out; omega
        have hxr := hx.below hB (Nat.le_refl _)
        have hyr := hy.below hB (Nat.le_refl _)
        rcases hxr with rfl | ⟨b1, o1, rfl, hb1, hc1⟩
        · simp at hlt
        rcases hyr with rfl | ⟨b2, o2, rfl, hb2, hc2⟩
        · simp at hky; omega
        have d1 := hc1 k hlt
        have d2 := hc2 k (by omega)
        have HN := Lib.hid hne
        clear hc1 hc2 hne
        by_cases hd : nthI xs k = nthI ys k
        · have hd' : (nthI xs k != nthI ys k) = false := by simpa using hd
          have HD := Lib.hid hd
          clear hd
          go_wp2_with fail
          go_quiet (fail)
          go_wp2_with fail
          go_roundw
          case rel =>
            refine ⟨k + 1, by omega, by go_num, fun j hj => ?_, below_drewN hB _, by simpa using q0, by simpa using q1, by simpa using q2, by simpa using r0, by simpa using r1, by simpa using r2⟩
            by_cases ej : j = k
            · subst ej; exact HD.out
            · exact HN.out j (by omega)
          case measure => simp [intOf]; omega
        · have hd' : (nthI xs k != nthI ys k) = true := by simpa using hd
          have HD := Lib.hid hd
          clear hd
          go_wp2_with fail
          go_quiet (fail)
          go_wp2_with fail
          go_ret
          refine ⟨ret_bool ?_, below_drewN hB _⟩
          unfold eqB
          rw [decide_eq_false (fun h => HD.out (by rw [h]))]
          simp
      · go_wp2_with fail
        go_ret
        refine ⟨ret_bool ?_, hB⟩
        unfold eqB
        rw [h1t, h2t, decide_eq_true (ext_nthI H3.out (fun j hj => hne j (by omega)))]
        rfl
  · have h3' : ((xs.length : Int) != (ys.length : Int)) = true := by simp; omega
    go_enter Tryz.func23, Tryz.ntmps23
    go_wp2_with fail
    go_ret
    refine ⟨ret_bool ?_, below_alloc (below_alloc (Below.refl _ _) _) _⟩
    unfold eqB
    rw [decide_eq_false (fun h => h3 (by rw [h]))]
    simp

end Go.Proofs.YthiphdcbboapkaaGreatDoor
