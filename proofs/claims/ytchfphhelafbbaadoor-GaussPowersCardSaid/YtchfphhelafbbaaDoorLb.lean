/- GaussPowers: the walk. -/
import Derived.Test.YtchfphhelafbbaaDoorBg
namespace Go.Proofs.YtchfphhelafbbaaDoor
open Go.RowKit

theorem pow_sum (p : ZP) (m n : Nat) (w : World) (h : m + n ≤ 9223372036854775807) : Calls Tryd.prog 47 #[cv p, .int .i64 ((m : Int) + (n : Int))] w fun e w' => e = .returned (cv (cpow p (m + n))) ∧ w = w' := by
  have := pow_cv p (m + n) w h
  rwa [Int.natCast_add] at this
theorem pow_four (p : ZP) (n : Nat) (w : World) (h : 4 * n ≤ 9223372036854775807) : Calls Tryd.prog 47 #[cv p, .int .i64 (4 * (n : Int))] w fun e w' => e = .returned (cv (cpow p (4 * n))) ∧ w = w' := by
  have := pow_cv p (4 * n) w h
  rwa [Int.natCast_mul] at this
theorem pow_1 (p : ZP) (w : World) : Calls Tryd.prog 47 #[cv p, .int .i64 1] w fun e w' => e = .returned (cv (cpow p 1)) ∧ w = w' := pow_cv p 1 w (by decide)
theorem cpow_i4 : ∀ n : Nat, cpow (0, 1) (4 * n) = (1, 0)
  | 0 => rfl
  | n + 1 => by rw [Nat.mul_add, cpow_add, cpow_i4 n]; decide
set_option maxRecDepth 100000 in
set_option maxHeartbeats 6400000 in
theorem gaussPowers_good (a b : Int) (m n : Nat) (hm : m ≤ 60) (hn : n ≤ 60) (w : World) (L : Laid w) : Calls Tryd.prog 18 #[.int .i64 a, .int .i64 b, .int .i64 m, .int .i64 n] w fun e w' => e = .returned (.bool true) ∧ Below w.heap.size w w' := by
  have HL := Lib.hid L
  have HB : Hid (Below w.heap.size w w) := Lib.hid (Below.refl _ _)
  have hg := eqGuard_cv
  have hE := fun (p q : ZP) w => run_eq_cv 23 p q w
  have Hi := Lib.hid mark0_cv
  have d1 : decide ((m : Int) < 0) = false := decide_eq_false (by omega)
  have d2 : decide ((60 : Int) < (m : Int)) = false := decide_eq_false (by omega)
  have d3 : decide ((n : Int) < 0) = false := decide_eq_false (by omega)
  have d4 : decide ((60 : Int) < (n : Int)) = false := decide_eq_false (by omega)
  have d2n : decide (60 < m) = false := decide_eq_false (by omega)
  have d4n : decide (60 < n) = false := decide_eq_false (by omega)
  have hm63 : m ≤ 9223372036854775807 := by omega
  have hn63 : n ≤ 9223372036854775807 := by omega
  have hs63 : m + n ≤ 9223372036854775807 := by omega
  have hf63 : 4 * n ≤ 9223372036854775807 := by omega
  have e1 : eqZ (cmul (cpow (a, b) m) (cpow (a, b) n)) (cpow (a, b) (m + n)) = true := by rw [cpow_add]; exact eqZ_of rfl
  have e2 : ∀ w, (binOp .eql 23 (cv (cmul (2, 1) (2, 65520))) (.complex .f64 4617315517961601024 0)).run Tryd.prog w = .ok (.bool true) w := fun w => by
    rw [show Value.complex .f64 4617315517961601024 0 = cv (5, 0) from cv_bits (by decide) (by decide), run_eq_cv, eqZ_of (by decide +kernel)]
  have e3 : eqZ (cpow (a, b) 1) (a, b) = true := by rw [show cpow (a, b) 1 = (a, b) by simp [cpow, one_cmul]]; exact eqZ_of rfl
  have e4 : ∀ w, (binOp .eql 23 (cv (cpow (0, 1) (4 * n))) (.complex .f64 4607182418800017408 0)).run Tryd.prog w = .ok (.bool true) w := fun w => by
    rw [one_cv, run_eq_cv, eqZ_of (by rw [cpow_i4])]
  have K1 := Lib.hid (show Value.complex .f64 4611686018427387904 4607182418800017408 = cv (2, 1) from cv_bits (by decide) (by decide))
  have K2 := Lib.hid (show Value.complex .f64 4611686018427387904 4679237813814689792 = cv (2, 65520) from cv_bits (by decide) (by decide))
  clear L
  go_enter Tryd.func18, Tryd.ntmps18
  go_wp2_with (first | (go_at_call 19; refine (begun_any _ HL.out).mono ?_; rintro e' w1 ⟨rfl, hb⟩; have HB := Lib.hid (below_on HB.out hb); clear hb) | (go_at_call 23; refine (pair_any _ _ _).mono ?_; rintro e' w1 ⟨rfl, hb⟩; have HB := Lib.hid (below_on HB.out hb); clear hb) | (go_at_call 22; refine (z_norm _ _).mono ?_; rintro e' w1 ⟨rfl, hb⟩; have HB := Lib.hid (below_on HB.out hb); clear hb) | (go_at_call 47; (try rw [Hi.out]); (first | ((with_reducible refine (pow_cv _ m _ hm63).mono ?_)) | ((with_reducible refine (pow_cv _ n _ hn63).mono ?_)) | ((with_reducible refine (pow_sum _ m n _ hs63).mono ?_)) | ((with_reducible refine (pow_four _ n _ hf63).mono ?_)) | ((with_reducible refine (pow_1 _ _).mono ?_))); rintro e' w' ⟨rfl, rfl⟩) | (go_at_call 25; (try rw [K1.out, K2.out]); refine (mul_cv _ _ _).mono ?_; rintro e' w' ⟨rfl, rfl⟩))
  go_ret
  exact ⟨rfl, HB.out⟩
set_option maxRecDepth 100000 in
set_option maxHeartbeats 6400000 in
theorem gaussPowers_walk (a b m n : Int) (w : World) (L : Laid w) : Calls Tryd.prog 18 #[.int .i64 a, .int .i64 b, .int .i64 m, .int .i64 n] w fun e w' => e = .returned (.bool true) ∧ Below w.heap.size w w' := by
  by_cases hg : (0 ≤ m ∧ m ≤ 60) ∧ 0 ≤ n ∧ n ≤ 60
  · obtain ⟨k, rfl⟩ := Int.eq_ofNat_of_zero_le hg.1.1
    obtain ⟨j, rfl⟩ := Int.eq_ofNat_of_zero_le hg.2.1
    exact gaussPowers_good a b k j (by omega) (by omega) w L
  have HL := Lib.hid L
  have HB : Hid (Below w.heap.size w w) := Lib.hid (Below.refl _ _)
  clear L
  by_cases h1 : m < 0
  · have d1 : decide (m < 0) = true := decide_eq_true h1
    clear hg
    go_enter Tryd.func18, Tryd.ntmps18
    go_wp2_with (first | (go_at_call 19; refine (begun_any _ HL.out).mono ?_; rintro e' w1 ⟨rfl, hb⟩; have HB := Lib.hid (below_on HB.out hb); clear hb))
    go_ret
    exact ⟨rfl, HB.out⟩
  have d1 : decide (m < 0) = false := decide_eq_false h1
  by_cases h2 : 60 < m
  · have d2 : decide (60 < m) = true := decide_eq_true h2
    clear hg
    go_enter Tryd.func18, Tryd.ntmps18
    go_wp2_with (first | (go_at_call 19; refine (begun_any _ HL.out).mono ?_; rintro e' w1 ⟨rfl, hb⟩; have HB := Lib.hid (below_on HB.out hb); clear hb))
    go_ret
    exact ⟨rfl, HB.out⟩
  have d2 : decide (60 < m) = false := decide_eq_false h2
  by_cases h3 : n < 0
  · have d3 : decide (n < 0) = true := decide_eq_true h3
    clear hg
    go_enter Tryd.func18, Tryd.ntmps18
    go_wp2_with (first | (go_at_call 19; refine (begun_any _ HL.out).mono ?_; rintro e' w1 ⟨rfl, hb⟩; have HB := Lib.hid (below_on HB.out hb); clear hb))
    go_ret
    exact ⟨rfl, HB.out⟩
  have d3 : decide (n < 0) = false := decide_eq_false h3
  have d4 : decide (60 < n) = true := decide_eq_true (by omega)
  clear hg
  go_enter Tryd.func18, Tryd.ntmps18
  go_wp2_with (first | (go_at_call 19; refine (begun_any _ HL.out).mono ?_; rintro e' w1 ⟨rfl, hb⟩; have HB := Lib.hid (below_on HB.out hb); clear hb))
  go_ret
  exact ⟨rfl, HB.out⟩
end Go.Proofs.YtchfphhelafbbaaDoor
