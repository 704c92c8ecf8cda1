/- GaussMay: the walk. -/
import Derived.Test.YtchfphhelafbbaaDoorBg
namespace Go.Proofs.YtchfphhelafbbaaDoor
open Go.RowKit

set_option maxRecDepth 100000 in
set_option maxHeartbeats 6400000 in
theorem text_no (x y : Nat) (w : World) (h : mayN x y = false) : Calls Tryd.prog 30 #[.complex .f64 x y] w fun e w' => e = .returned (.string ⟨#[]⟩) ∧ Below w.heap.size w w' := by
  have HM := Lib.hid h
  have HB : Hid (Below w.heap.size w w) := Lib.hid (Below.refl _ _)
  clear h
  go_enter Tryd.func30, Tryd.ntmps30
  go_wp2_with (go_at_call 21; refine (may_no _ _ _ HM.out).mono ?_; rintro e' w' ⟨rfl, rfl⟩)
  go_ret
  exact ⟨rfl, HB.out⟩
theorem i64_and3 (n : Int) : bits .and .i64 n 3 = n % 4 := by
  have h1 : (BitVec.ofInt 64 n &&& BitVec.ofInt 64 3).toNat = (BitVec.ofInt 64 n).toNat % 2 ^ 2 := by
    rw [BitVec.toNat_and, show (BitVec.ofInt 64 3).toNat = 2 ^ 2 - 1 by decide, Nat.and_two_pow_sub_one_eq_mod]
  have h2 := BitVec.toNat_ofInt (n := 64) (i := n)
  show IntKind.i64.wrap ((BitVec.ofInt 64 n &&& BitVec.ofInt 64 3).toNat : Nat) = _
  rw [h1, h2, IntKind.wrap_i64]
  omega
set_option maxRecDepth 100000 in
set_option maxHeartbeats 6400000 in
theorem gaussMay_0 (a b n : Int) (hn : bits .and .i64 n 3 = 0) (w : World) (L : Laid w) : Calls Tryd.prog 17 #[.int .i64 a, .int .i64 b, .int .i64 n] w fun e w' => e = .returned (.bool true) ∧ Below w.heap.size w w' := by
  have HL := Lib.hid L
  have HB : Hid (Below w.heap.size w w) := Lib.hid (Below.refl _ _)
  have hg := eqGuard_cv
  have HM := Lib.hid (show mayN 4679237951253643264 0 = false by decide +kernel)
  have e0 : ∀ w, (binOp .eql 23 (cv (0, 0)) (.complex .f64 0 0)).run Tryd.prog w = .ok (.bool true) w := fun w => by
    rw [zero_cv, run_eq_cv, eqZ_of rfl]
  clear L
  go_enter Tryd.func17, Tryd.ntmps17
  go_wp2_with (first | (go_at_call 19; refine (begun_any _ HL.out).mono ?_; rintro e' w1 ⟨rfl, hb⟩; have HB := Lib.hid (below_on HB.out hb); clear hb) | (go_at_call 23; refine (pair_any _ _ _).mono ?_; rintro e' w1 ⟨rfl, hb⟩; have HB := Lib.hid (below_on HB.out hb); clear hb) | (go_at_call 22; refine (z_norm _ _).mono ?_; rintro e' w1 ⟨rfl, hb⟩; have HB := Lib.hid (below_on HB.out hb); clear hb) | (go_at_call 21; refine (may_no _ _ _ HM.out).mono ?_; rintro e' w' ⟨rfl, rfl⟩) | (go_at_call 24; refine (add_no _ _ _ _ HM.out).mono ?_; rintro e' w' ⟨rfl, rfl⟩) | (go_at_call 25; refine (mul_no _ _ _ _ HM.out).mono ?_; rintro e' w' ⟨rfl, rfl⟩) | (go_at_call 47; (first | ((with_reducible refine (pow_neg _ (-1) _ (by decide)).mono ?_)) | (refine (pow_no _ _ _ _ HM.out).mono ?_)); rintro e' w' ⟨rfl, rfl⟩) | (go_at_call 29; refine (on_no _ _ _ _ HM.out).mono ?_; rintro e' w' ⟨rfl, rfl⟩; have HB := Lib.hid (below_on HB.out (below_alloc (Below.refl _ _) (.cells #[.int .u8 1] 5)))) | (go_at_call 30; refine (text_no _ _ _ HM.out).mono ?_; rintro e' w1 ⟨rfl, hb⟩; have HB := Lib.hid (below_on HB.out hb); clear hb))
  go_ret
  exact ⟨rfl, HB.out⟩
set_option maxRecDepth 100000 in
set_option maxHeartbeats 6400000 in
theorem gaussMay_1 (a b n : Int) (hn : bits .and .i64 n 3 = 1) (w : World) (L : Laid w) : Calls Tryd.prog 17 #[.int .i64 a, .int .i64 b, .int .i64 n] w fun e w' => e = .returned (.bool true) ∧ Below w.heap.size w w' := by
  have HL := Lib.hid L
  have HB : Hid (Below w.heap.size w w) := Lib.hid (Below.refl _ _)
  have hg := eqGuard_cv
  have HM := Lib.hid (show mayN 0 13830554455654793216 = false by decide +kernel)
  have e0 : ∀ w, (binOp .eql 23 (cv (0, 0)) (.complex .f64 0 0)).run Tryd.prog w = .ok (.bool true) w := fun w => by
    rw [zero_cv, run_eq_cv, eqZ_of rfl]
  clear L
  go_enter Tryd.func17, Tryd.ntmps17
  go_wp2_with (first | (go_at_call 19; refine (begun_any _ HL.out).mono ?_; rintro e' w1 ⟨rfl, hb⟩; have HB := Lib.hid (below_on HB.out hb); clear hb) | (go_at_call 23; refine (pair_any _ _ _).mono ?_; rintro e' w1 ⟨rfl, hb⟩; have HB := Lib.hid (below_on HB.out hb); clear hb) | (go_at_call 22; refine (z_norm _ _).mono ?_; rintro e' w1 ⟨rfl, hb⟩; have HB := Lib.hid (below_on HB.out hb); clear hb) | (go_at_call 21; refine (may_no _ _ _ HM.out).mono ?_; rintro e' w' ⟨rfl, rfl⟩) | (go_at_call 24; refine (add_no _ _ _ _ HM.out).mono ?_; rintro e' w' ⟨rfl, rfl⟩) | (go_at_call 25; refine (mul_no _ _ _ _ HM.out).mono ?_; rintro e' w' ⟨rfl, rfl⟩) | (go_at_call 47; (first | ((with_reducible refine (pow_neg _ (-1) _ (by decide)).mono ?_)) | (refine (pow_no _ _ _ _ HM.out).mono ?_)); rintro e' w' ⟨rfl, rfl⟩) | (go_at_call 29; refine (on_no _ _ _ _ HM.out).mono ?_; rintro e' w' ⟨rfl, rfl⟩; have HB := Lib.hid (below_on HB.out (below_alloc (Below.refl _ _) (.cells #[.int .u8 1] 5)))) | (go_at_call 30; refine (text_no _ _ _ HM.out).mono ?_; rintro e' w1 ⟨rfl, hb⟩; have HB := Lib.hid (below_on HB.out hb); clear hb))
  go_ret
  exact ⟨rfl, HB.out⟩
set_option maxRecDepth 100000 in
set_option maxHeartbeats 6400000 in
theorem gaussMay_2 (a b n : Int) (hn : bits .and .i64 n 3 = 2) (w : World) (L : Laid w) : Calls Tryd.prog 17 #[.int .i64 a, .int .i64 b, .int .i64 n] w fun e w' => e = .returned (.bool true) ∧ Below w.heap.size w w' := by
  have HL := Lib.hid L
  have HB : Hid (Below w.heap.size w w) := Lib.hid (Below.refl _ _)
  have hg := eqGuard_cv
  have HM := Lib.hid (show mayN 4602678819172646912 0 = false by decide +kernel)
  have e0 : ∀ w, (binOp .eql 23 (cv (0, 0)) (.complex .f64 0 0)).run Tryd.prog w = .ok (.bool true) w := fun w => by
    rw [zero_cv, run_eq_cv, eqZ_of rfl]
  clear L
  go_enter Tryd.func17, Tryd.ntmps17
  go_wp2_with (first | (go_at_call 19; refine (begun_any _ HL.out).mono ?_; rintro e' w1 ⟨rfl, hb⟩; have HB := Lib.hid (below_on HB.out hb); clear hb) | (go_at_call 23; refine (pair_any _ _ _).mono ?_; rintro e' w1 ⟨rfl, hb⟩; have HB := Lib.hid (below_on HB.out hb); clear hb) | (go_at_call 22; refine (z_norm _ _).mono ?_; rintro e' w1 ⟨rfl, hb⟩; have HB := Lib.hid (below_on HB.out hb); clear hb) | (go_at_call 21; refine (may_no _ _ _ HM.out).mono ?_; rintro e' w' ⟨rfl, rfl⟩) | (go_at_call 24; refine (add_no _ _ _ _ HM.out).mono ?_; rintro e' w' ⟨rfl, rfl⟩) | (go_at_call 25; refine (mul_no _ _ _ _ HM.out).mono ?_; rintro e' w' ⟨rfl, rfl⟩) | (go_at_call 47; (first | ((with_reducible refine (pow_neg _ (-1) _ (by decide)).mono ?_)) | (refine (pow_no _ _ _ _ HM.out).mono ?_)); rintro e' w' ⟨rfl, rfl⟩) | (go_at_call 29; refine (on_no _ _ _ _ HM.out).mono ?_; rintro e' w' ⟨rfl, rfl⟩; have HB := Lib.hid (below_on HB.out (below_alloc (Below.refl _ _) (.cells #[.int .u8 1] 5)))) | (go_at_call 30; refine (text_no _ _ _ HM.out).mono ?_; rintro e' w1 ⟨rfl, hb⟩; have HB := Lib.hid (below_on HB.out hb); clear hb))
  go_ret
  exact ⟨rfl, HB.out⟩
set_option maxRecDepth 100000 in
set_option maxHeartbeats 6400000 in
theorem gaussMay_3 (a b n : Int) (hn : bits .and .i64 n 3 = 3) (w : World) (L : Laid w) : Calls Tryd.prog 17 #[.int .i64 a, .int .i64 b, .int .i64 n] w fun e w' => e = .returned (.bool true) ∧ Below w.heap.size w w' := by
  have HL := Lib.hid L
  have HB : Hid (Below w.heap.size w w) := Lib.hid (Below.refl _ _)
  have hg := eqGuard_cv
  have HM := Lib.hid (show mayN 9094988921128908188 4613937818241073152 = false by decide +kernel)
  have e0 : ∀ w, (binOp .eql 23 (cv (0, 0)) (.complex .f64 0 0)).run Tryd.prog w = .ok (.bool true) w := fun w => by
    rw [zero_cv, run_eq_cv, eqZ_of rfl]
  clear L
  go_enter Tryd.func17, Tryd.ntmps17
  go_wp2_with (first | (go_at_call 19; refine (begun_any _ HL.out).mono ?_; rintro e' w1 ⟨rfl, hb⟩; have HB := Lib.hid (below_on HB.out hb); clear hb) | (go_at_call 23; refine (pair_any _ _ _).mono ?_; rintro e' w1 ⟨rfl, hb⟩; have HB := Lib.hid (below_on HB.out hb); clear hb) | (go_at_call 22; refine (z_norm _ _).mono ?_; rintro e' w1 ⟨rfl, hb⟩; have HB := Lib.hid (below_on HB.out hb); clear hb) | (go_at_call 21; refine (may_no _ _ _ HM.out).mono ?_; rintro e' w' ⟨rfl, rfl⟩) | (go_at_call 24; refine (add_no _ _ _ _ HM.out).mono ?_; rintro e' w' ⟨rfl, rfl⟩) | (go_at_call 25; refine (mul_no _ _ _ _ HM.out).mono ?_; rintro e' w' ⟨rfl, rfl⟩) | (go_at_call 47; (first | ((with_reducible refine (pow_neg _ (-1) _ (by decide)).mono ?_)) | (refine (pow_no _ _ _ _ HM.out).mono ?_)); rintro e' w' ⟨rfl, rfl⟩) | (go_at_call 29; refine (on_no _ _ _ _ HM.out).mono ?_; rintro e' w' ⟨rfl, rfl⟩; have HB := Lib.hid (below_on HB.out (below_alloc (Below.refl _ _) (.cells #[.int .u8 1] 5)))) | (go_at_call 30; refine (text_no _ _ _ HM.out).mono ?_; rintro e' w1 ⟨rfl, hb⟩; have HB := Lib.hid (below_on HB.out hb); clear hb))
  go_ret
  exact ⟨rfl, HB.out⟩
theorem gaussMay_walk (a b n : Int) (w : World) (L : Laid w) : Calls Tryd.prog 17 #[.int .i64 a, .int .i64 b, .int .i64 n] w fun e w' => e = .returned (.bool true) ∧ Below w.heap.size w w' := by
  have h := i64_and3 n
  have h4 : n % 4 = 0 ∨ n % 4 = 1 ∨ n % 4 = 2 ∨ n % 4 = 3 := by omega
  rcases h4 with q | q | q | q
  · exact gaussMay_0 a b n (h.trans q) w L
  · exact gaussMay_1 a b n (h.trans q) w L
  · exact gaussMay_2 a b n (h.trans q) w L
  · exact gaussMay_3 a b n (h.trans q) w L
end Go.Proofs.YtchfphhelafbbaaDoor
