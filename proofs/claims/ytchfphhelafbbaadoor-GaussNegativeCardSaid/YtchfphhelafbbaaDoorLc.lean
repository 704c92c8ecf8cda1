/- GaussNegative: the walk. -/
import Derived.Test.YtchfphhelafbbaaDoorBg
namespace Go.Proofs.YtchfphhelafbbaaDoor
open Go.RowKit

theorem mod_at (a b : Int) (w : World) (ha : -1125899906842624 ≤ a ∧ a ≤ 1125899906842624) (hb : -1125899906842624 ≤ b ∧ b ≤ 1125899906842624) :
    Calls Tryd.prog 20 #[.complex .f64 (fl a) (fl b)] w fun e w' => e = .returned (cv (a, b)) ∧ w = w' := mod_yes a b w ha hb
set_option maxRecDepth 100000 in
set_option maxHeartbeats 6400000 in
theorem gaussNegative_walk (a b : Int) (w : World) (L : Laid w) : Calls Tryd.prog 9 #[.int .i64 a, .int .i64 b] w fun e w' => e = .returned (.bool true) ∧ Below w.heap.size w w' := by
  have HL := Lib.hid L
  have HB : Hid (Below w.heap.size w w) := Lib.hid (Below.refl _ _)
  have hg := eqGuard_cv
  have kf : ∀ n, floatOfInt .f64 n = fl n := fun _ => rfl
  have ha1 : -1099511627776 < a.tmod 1099511627776 := by have := Int.lt_tmod_of_pos a (b := 1099511627776) (by decide); omega
  have ha2 : a.tmod 1099511627776 < 1099511627776 := Int.tmod_lt_of_pos a (by decide)
  have hb1 : -1099511627776 < b.tmod 1099511627776 := by have := Int.lt_tmod_of_pos b (b := 1099511627776) (by decide); omega
  have hb2 : b.tmod 1099511627776 < 1099511627776 := Int.tmod_lt_of_pos b (by decide)
  have e1 : ∀ w, (binOp .eql 23 (cv (cadd (a.tmod 1099511627776, b.tmod 1099511627776) (-a.tmod 1099511627776, -b.tmod 1099511627776))) (.complex .f64 0 0)).run Tryd.prog w = .ok (.bool true) w := fun w => by
    rw [zero_cv, run_eq_cv, eqZ_of (by unfold cadd; dsimp only; rw [Int.add_right_neg, Int.add_right_neg])]
  clear L
  go_enter Tryd.func9, Tryd.ntmps9
  go_wp2_with (first | (go_at_call 19; refine (begun_any _ HL.out).mono ?_; rintro e' w1 ⟨rfl, hb⟩; have HB := Lib.hid (below_on HB.out hb); clear hb) | (go_at_call 20; refine (mod_at _ _ _ (by omega) (by omega)).mono ?_; rintro e' w' ⟨rfl, rfl⟩) | (go_at_call 21; refine (may_cv _ _).mono ?_; rintro e' w' ⟨rfl, rfl⟩) | (go_at_call 24; refine (add_cv _ _ _).mono ?_; rintro e' w' ⟨rfl, rfl⟩))
  go_ret
  exact ⟨rfl, HB.out⟩
end Go.Proofs.YtchfphhelafbbaaDoor
