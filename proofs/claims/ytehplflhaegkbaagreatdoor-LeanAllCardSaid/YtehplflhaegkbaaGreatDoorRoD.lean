/- Walks of roster.Eq, roster.Has, and of the document's functions on rosters. -/
import Derived.Test.YtehplflhaegkbaaGreatDoorRoC
namespace Go.Proofs.YtehplflhaegkbaaGreatDoor
open Go.RowKit

def eqB (e1 e2 nw1 nw2 : Int) (xs ys : List Int) : Bool := (e1 == e2) && (nw1 == nw2) && decide (xs = ys)

set_option maxRecDepth 100000 in
set_option maxHeartbeats 400000 in
theorem has_any (e nw n : Int) (a : Option Addr) (c : Nat) (zs : List Int) (w : World) (hl : zs.length ≤ 9223372036854775807) (hz : IntsAt w a zs) :
    Calls Tryz.prog 37 #[rosV e a zs c nw, .int .i64 n] w fun e w' => e = .returned (.bool (decide (0 ≤ idx zs n))) ∧ Below w.heap.size w w' := by
  go_enter Tryz.func37, Tryz.ntmps37
  go_wp2_with (go_at_call 55; refine (contains_any _ _ _ _ _ hl (hz.alloc _)).mono ?_; rintro e w' ⟨rfl, rfl⟩)
  go_ret
  exact ⟨rfl, below_alloc (Below.refl _ _) _⟩

set_option maxRecDepth 100000 in
set_option maxHeartbeats 400000 in
theorem spot_any (e nw x : Int) (a : Option Addr) (c : Nat) (zs : List Int) (w : World) (hl : zs.length ≤ 9223372036854775807) (hz : IntsAt w a zs) :
    Calls Tryz.prog 12 #[rosV e a zs c nw, .int .i64 x] w fun e w' => e = .returned (.int .i64 (idx zs x)) ∧ Below w.heap.size w w' := by
  have hl' : (zs.length : Int) ≤ 9223372036854775807 := by omega
  go_enter Tryz.func12, Tryz.ntmps12
  go_wp2_with fail
  go_loop [5] (fun i => ∃ k : Nat, k ≤ zs.length ∧ i = .int .i64 k ∧ ∀ j, j < k → nthI zs j ≠ x) (fun i => zs.length - (intOf i).toNat)
  case atStart => exact ⟨0, Nat.zero_le _, rfl, fun j hj => absurd hj (Nat.not_lt_zero _)⟩
  case round =>
    obtain ⟨k, hk, rfl, hne⟩ := hrel
    by_cases hlt : k < zs.length
    · rcases hz with rfl | ⟨b, off, rfl, hbs, hc⟩
      · simp at hlt
      have hcell := hc k hlt
      by_cases hx : (nthI zs k == x) = true
      · go_wp2_with fail
        go_ret
        exact ⟨ret_int (idx_hit hlt (by simpa using hx) hne).symm, below_alloc (Below.refl _ _) _⟩
      · have hx' : (nthI zs k == x) = false := by simpa using hx
        go_wp2_with fail
        go_round
        case rel =>
          refine ⟨k + 1, by omega, by go_num, fun j hj => ?_⟩
          by_cases e : j = k
          · subst e; intro h; rw [h] at hx'; simp at hx'
          · exact hne j (by omega)
        case measure => simp [intOf]; omega
    · go_wp2_with fail
      go_ret
      exact ⟨ret_int (idx_miss (fun i hi => hne i (by omega))).symm, below_alloc (Below.refl _ _) _⟩

def EqRel (w : World) (e1 e2 nw1 nw2 : Int) (a1 a2 : Option Addr) (c1 c2 : Nat) (xs ys : List Int) (k : Nat) (wr : World) : Prop :=
  (∀ j, j < k → nthI xs j = nthI ys j) ∧ Below w.heap.size w wr ∧
  wr.cell? ⟨w.heap.size, 0, none⟩ = some (.int .i64 e1) ∧ wr.cell? ⟨w.heap.size, 1, none⟩ = some (.slice a1 xs.length c1) ∧ wr.cell? ⟨w.heap.size, 2, none⟩ = some (.int .i64 nw1) ∧
  wr.cell? ⟨w.heap.size + 1, 0, none⟩ = some (.int .i64 e2) ∧ wr.cell? ⟨w.heap.size + 1, 1, none⟩ = some (.slice a2 ys.length c2) ∧ wr.cell? ⟨w.heap.size + 1, 2, none⟩ = some (.int .i64 nw2)

theorem ext_nthI {xs ys : List Int} (hl : xs.length = ys.length) (h : ∀ j, j < xs.length → nthI xs j = nthI ys j) : xs = ys := by
  apply List.ext_getElem hl
  intro i h1 h2
  have := h i h1
  unfold nthI at this
  simpa [h1, h2] using this

end Go.Proofs.YtehplflhaegkbaaGreatDoor
