/- GaussLaws: the walk. -/
import Derived.Test.YtchfphhelafbbaaDoorBg
namespace Go.Proofs.YtchfphhelafbbaaDoor
open Go.RowKit

set_option maxRecDepth 100000 in
set_option maxHeartbeats 6400000 in
theorem gaussLaws_walk (a b c d e f : Int) (w : World) (L : Laid w) : Calls Tryd.prog 4 #[.int .i64 a, .int .i64 b, .int .i64 c, .int .i64 d, .int .i64 e, .int .i64 f] w fun e w' => e = .returned (.bool true) ∧ Below w.heap.size w w' := by
  have HL := Lib.hid L
  have HB : Hid (Below w.heap.size w w) := Lib.hid (Below.refl _ _)
  have hg := eqGuard_cv
  have hE := fun (p q : ZP) w => run_eq_cv 23 p q w
  have H0 := Lib.hid zero_cv
  have H1 := Lib.hid one_cv
  have Hi := Lib.hid mark0_cv
  have e1 : eqZ (cadd (a, b) (c, d)) (cadd (c, d) (a, b)) = true := by rw [cadd_comm]; exact eqZ_of rfl
  have e2 : eqZ (cmul (a, b) (c, d)) (cmul (c, d) (a, b)) = true := by rw [cmul_comm]; exact eqZ_of rfl
  have e3 : eqZ (cmul (a, b) (cmul (c, d) (e, f))) (cmul (cmul (a, b) (c, d)) (e, f)) = true := by rw [cmul_assoc]; exact eqZ_of rfl
  have e4 : eqZ (cmul (a, b) (cadd (c, d) (e, f))) (cadd (cmul (a, b) (c, d)) (cmul (a, b) (e, f))) = true := by rw [cmul_add]; exact eqZ_of rfl
  have e5 : eqZ (cmul (a, b) (1, 0)) (a, b) = true := by rw [cmul_one]; exact eqZ_of rfl
  have e6 : eqZ (cadd (a, b) (0, 0)) (a, b) = true := eqZ_of (by unfold cadd; simp)
  have e7 : ∀ w, (binOp .eql 23 (cv (cmul (0, 1) (0, 1))) (.complex .f64 4679237813814689792 0)).run Tryd.prog w = .ok (.bool true) w := fun w => by
    rw [show Value.complex .f64 4679237813814689792 0 = cv (65520, 0) from cv_bits (by decide) (by decide), run_eq_cv, eqZ_of (by decide +kernel)]
  clear L
  go_enter Tryd.func4, Tryd.ntmps4
  go_wp2_with (first | (go_at_call 19; refine (begun_any _ HL.out).mono ?_; rintro e' w1 ⟨rfl, hb⟩; have HB := Lib.hid (below_on HB.out hb); clear hb) | (go_at_call 23; refine (pair_any _ _ _).mono ?_; rintro e' w1 ⟨rfl, hb⟩; have HB := Lib.hid (below_on HB.out hb); clear hb) | (go_at_call 22; refine (z_norm _ _).mono ?_; rintro e' w1 ⟨rfl, hb⟩; have HB := Lib.hid (below_on HB.out hb); clear hb) | (go_at_call 24; (try rw [H0.out]); refine (add_cv _ _ _).mono ?_; rintro e' w' ⟨rfl, rfl⟩) | (go_at_call 25; (try rw [H1.out]); (try rw [Hi.out]); refine (mul_cv _ _ _).mono ?_; rintro e' w' ⟨rfl, rfl⟩))
  go_ret
  exact ⟨rfl, HB.out⟩
end Go.Proofs.YtchfphhelafbbaaDoor
