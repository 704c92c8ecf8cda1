/- GaussMod: the walk. -/
import Derived.Test.YtchfphhelafbbaaDoorBg
import Derived.Test.YtchfphhelafbbaaDoorFn
namespace Go.Proofs.YtchfphhelafbbaaDoor
open Go.RowKit

theorem mod_noC (x y : Nat) (w : World) (h : modB x y = false) :
    Calls Tryd.prog 20 #[.complex .f64 x y] w fun e w' => e = .returned (cv (0, 0)) ∧ w = w' := mod_no x y w h
theorem mod_yesC (a b : Int) (w : World) (ha : -1125899906842624 ≤ a ∧ a ≤ 1125899906842624) (hb : -1125899906842624 ≤ b ∧ b ≤ 1125899906842624) :
    Calls Tryd.prog 20 #[.complex .f64 (fl a) (fl b)] w fun e w' => e = .returned (cv (a, b)) ∧ w = w' := mod_yes a b w ha hb
theorem may_czC (a b : Int) (ha : a.natAbs < 2 ^ 53) (hb : b.natAbs < 2 ^ 53) (w : World) :
    Calls Tryd.prog 21 #[.complex .f64 (fl a) (fl b)] w fun e w' => e = .returned (.bool (mayC a b)) ∧ w = w' := may_cz a b ha hb w
theorem modB_out {a b : Int} (ha : a.natAbs ≤ 2 ^ 63) (hb : b.natAbs ≤ 2 ^ 63) (h : 2 ^ 50 < a.natAbs ∨ 2 ^ 50 < b.natAbs) : modB (fl a) (fl b) = false := by
  unfold modB
  rcases h with h | h
  · rw [big_out h ha]; simp
  · rw [big_out h hb]; simp
theorem half_mod {a : Int} (ha : a.natAbs < 2 ^ 50) (y : Nat) : modB (hf (2 * a + 1)) y = false := by unfold modB; rw [half_whole ha]; simp
theorem half_may {a : Int} (ha : a.natAbs < 2 ^ 50) (y : Nat) : mayN (hf (2 * a + 1)) y = false := by unfold mayN; rw [half_whole ha]; simp
theorem half_sum {a b : Int} (ha : a.natAbs < 2 ^ 50) (hb : b.natAbs < 2 ^ 53) (w : World) : (binOp .add 23 (.complex .f64 (fl a) (fl b)) (.complex .f64 4602678819172646912 0)).run Tryd.prog w = .ok (.complex .f64 (hf (2 * a + 1)) (fl b)) w := by
  refine run_complex_sum w .add (Or.inl rfl) _ _ _ _ _ _ _ _ ?_
  unfold cSumBits floatBits
  have e1 : FloatKind.f64.format.add (fl a) 4602678819172646912 = some (hf (2 * a + 1)) := add_half ha
  have e2 : FloatKind.f64.format.add (fl b) 0 = some (fl b) := by
    have := add_fl (a := b) (b := 0) hb (by decide) (by simpa using hb)
    rw [fl_zero, Int.add_zero] at this
    exact this
  simp only [e1, e2]; rfl
set_option maxRecDepth 100000 in
set_option maxHeartbeats 6400000 in
theorem gaussMod_out0 (a b : Int) (half : Bool) (ha : a.natAbs ≤ 2 ^ 63) (hb : b.natAbs ≤ 2 ^ 63) (h0 : a < -1125899906842624) (w : World) (L : Laid w) : Calls Tryd.prog 3 #[.int .i64 a, .int .i64 b, .bool half] w fun e w' => e = .returned (.bool true) ∧ Below w.heap.size w w' := by
  have HL := Lib.hid L
  have HB : Hid (Below w.heap.size w w) := Lib.hid (Below.refl _ _)
  have hg := eqGuard_cv
  have kf : ∀ n, floatOfInt .f64 n = fl n := fun _ => rfl
  have e0 : ∀ w, (binOp .eql 23 (cv (0, 0)) (.complex .f64 0 0)).run Tryd.prog w = .ok (.bool true) w := fun w => by
    rw [zero_cv]; exact (run_eq_cv _ (0, 0) (0, 0) w).trans (by rw [eqZ_of rfl])
  have HM := Lib.hid (modB_out ha hb (by omega))
  have d0 : decide (a < -1125899906842624) = true := decide_eq_true h0
  clear h0 ha hb L
  go_enter Tryd.func3, Tryd.ntmps3
  go_wp2_with (first | (go_at_call 19; refine (begun_any _ HL.out).mono ?_; rintro e' w1 ⟨rfl, hb⟩; have HB := Lib.hid (below_on HB.out hb); clear hb) | (go_at_call 20; refine (mod_noC _ _ _ HM.out).mono ?_; rintro e' w' ⟨rfl, rfl⟩))
  go_ret
  exact ⟨rfl, HB.out⟩
set_option maxRecDepth 100000 in
set_option maxHeartbeats 6400000 in
theorem gaussMod_out1 (a b : Int) (half : Bool) (ha : a.natAbs ≤ 2 ^ 63) (hb : b.natAbs ≤ 2 ^ 63) (h0 : ¬ a < -1125899906842624) (h1 : 1125899906842624 < a) (w : World) (L : Laid w) : Calls Tryd.prog 3 #[.int .i64 a, .int .i64 b, .bool half] w fun e w' => e = .returned (.bool true) ∧ Below w.heap.size w w' := by
  have HL := Lib.hid L
  have HB : Hid (Below w.heap.size w w) := Lib.hid (Below.refl _ _)
  have hg := eqGuard_cv
  have kf : ∀ n, floatOfInt .f64 n = fl n := fun _ => rfl
  have e0 : ∀ w, (binOp .eql 23 (cv (0, 0)) (.complex .f64 0 0)).run Tryd.prog w = .ok (.bool true) w := fun w => by
    rw [zero_cv]; exact (run_eq_cv _ (0, 0) (0, 0) w).trans (by rw [eqZ_of rfl])
  have HM := Lib.hid (modB_out ha hb (by omega))
  have d0 : decide (a < -1125899906842624) = false := decide_eq_false h0
  have d1 : decide (1125899906842624 < a) = true := decide_eq_true h1
  clear h0 h1 ha hb L
  go_enter Tryd.func3, Tryd.ntmps3
  go_wp2_with (first | (go_at_call 19; refine (begun_any _ HL.out).mono ?_; rintro e' w1 ⟨rfl, hb⟩; have HB := Lib.hid (below_on HB.out hb); clear hb) | (go_at_call 20; refine (mod_noC _ _ _ HM.out).mono ?_; rintro e' w' ⟨rfl, rfl⟩))
  go_ret
  exact ⟨rfl, HB.out⟩
set_option maxRecDepth 100000 in
set_option maxHeartbeats 6400000 in
theorem gaussMod_out2 (a b : Int) (half : Bool) (ha : a.natAbs ≤ 2 ^ 63) (hb : b.natAbs ≤ 2 ^ 63) (h0 : ¬ a < -1125899906842624) (h1 : ¬ 1125899906842624 < a) (h2 : b < -1125899906842624) (w : World) (L : Laid w) : Calls Tryd.prog 3 #[.int .i64 a, .int .i64 b, .bool half] w fun e w' => e = .returned (.bool true) ∧ Below w.heap.size w w' := by
  have HL := Lib.hid L
  have HB : Hid (Below w.heap.size w w) := Lib.hid (Below.refl _ _)
  have hg := eqGuard_cv
  have kf : ∀ n, floatOfInt .f64 n = fl n := fun _ => rfl
  have e0 : ∀ w, (binOp .eql 23 (cv (0, 0)) (.complex .f64 0 0)).run Tryd.prog w = .ok (.bool true) w := fun w => by
    rw [zero_cv]; exact (run_eq_cv _ (0, 0) (0, 0) w).trans (by rw [eqZ_of rfl])
  have HM := Lib.hid (modB_out ha hb (by omega))
  have d0 : decide (a < -1125899906842624) = false := decide_eq_false h0
  have d1 : decide (1125899906842624 < a) = false := decide_eq_false h1
  have d2 : decide (b < -1125899906842624) = true := decide_eq_true h2
  clear h0 h1 h2 ha hb L
  go_enter Tryd.func3, Tryd.ntmps3
  go_wp2_with (first | (go_at_call 19; refine (begun_any _ HL.out).mono ?_; rintro e' w1 ⟨rfl, hb⟩; have HB := Lib.hid (below_on HB.out hb); clear hb) | (go_at_call 20; refine (mod_noC _ _ _ HM.out).mono ?_; rintro e' w' ⟨rfl, rfl⟩))
  go_ret
  exact ⟨rfl, HB.out⟩
set_option maxRecDepth 100000 in
set_option maxHeartbeats 6400000 in
theorem gaussMod_out3 (a b : Int) (half : Bool) (ha : a.natAbs ≤ 2 ^ 63) (hb : b.natAbs ≤ 2 ^ 63) (h0 : ¬ a < -1125899906842624) (h1 : ¬ 1125899906842624 < a) (h2 : ¬ b < -1125899906842624) (h3 : 1125899906842624 < b) (w : World) (L : Laid w) : Calls Tryd.prog 3 #[.int .i64 a, .int .i64 b, .bool half] w fun e w' => e = .returned (.bool true) ∧ Below w.heap.size w w' := by
  have HL := Lib.hid L
  have HB : Hid (Below w.heap.size w w) := Lib.hid (Below.refl _ _)
  have hg := eqGuard_cv
  have kf : ∀ n, floatOfInt .f64 n = fl n := fun _ => rfl
  have e0 : ∀ w, (binOp .eql 23 (cv (0, 0)) (.complex .f64 0 0)).run Tryd.prog w = .ok (.bool true) w := fun w => by
    rw [zero_cv]; exact (run_eq_cv _ (0, 0) (0, 0) w).trans (by rw [eqZ_of rfl])
  have HM := Lib.hid (modB_out ha hb (by omega))
  have d0 : decide (a < -1125899906842624) = false := decide_eq_false h0
  have d1 : decide (1125899906842624 < a) = false := decide_eq_false h1
  have d2 : decide (b < -1125899906842624) = false := decide_eq_false h2
  have d3 : decide (1125899906842624 < b) = true := decide_eq_true h3
  clear h0 h1 h2 h3 ha hb L
  go_enter Tryd.func3, Tryd.ntmps3
  go_wp2_with (first | (go_at_call 19; refine (begun_any _ HL.out).mono ?_; rintro e' w1 ⟨rfl, hb⟩; have HB := Lib.hid (below_on HB.out hb); clear hb) | (go_at_call 20; refine (mod_noC _ _ _ HM.out).mono ?_; rintro e' w' ⟨rfl, rfl⟩))
  go_ret
  exact ⟨rfl, HB.out⟩
set_option maxRecDepth 100000 in
set_option maxHeartbeats 6400000 in
theorem gaussMod_half (a b : Int) (ha : -1125899906842624 ≤ a ∧ a ≤ 1125899906842624) (hb : -1125899906842624 ≤ b ∧ b ≤ 1125899906842624) (hs : a < 1099511627776 ∧ -1099511627776 < a) (w : World) (L : Laid w) : Calls Tryd.prog 3 #[.int .i64 a, .int .i64 b, .bool true] w fun e w' => e = .returned (.bool true) ∧ Below w.heap.size w w' := by
  have HL := Lib.hid L
  have HB : Hid (Below w.heap.size w w) := Lib.hid (Below.refl _ _)
  have hg := eqGuard_cv
  have kf : ∀ n, floatOfInt .f64 n = fl n := fun _ => rfl
  have e0 : ∀ w, (binOp .eql 23 (cv (0, 0)) (.complex .f64 0 0)).run Tryd.prog w = .ok (.bool true) w := fun w => by
    rw [zero_cv]; exact (run_eq_cv _ (0, 0) (0, 0) w).trans (by rw [eqZ_of rfl])
  have HM := Lib.hid (half_mod (a := a) (by omega) (fl b))
  have HN := Lib.hid (half_may (a := a) (by omega) (fl b))
  have hs1 := half_sum (a := a) (b := b) (by omega) (by omega)
  have d0 : decide (a < -1125899906842624) = false := decide_eq_false (by omega)
  have d1 : decide (1125899906842624 < a) = false := decide_eq_false (by omega)
  have d2 : decide (b < -1125899906842624) = false := decide_eq_false (by omega)
  have d3 : decide (1125899906842624 < b) = false := decide_eq_false (by omega)
  have d4 : decide (a < 1099511627776) = true := decide_eq_true (by omega)
  have d5 : decide (-1099511627776 < a) = true := decide_eq_true (by omega)
  clear ha hb hs L
  go_enter Tryd.func3, Tryd.ntmps3
  go_wp2_with (first | (go_at_call 19; refine (begun_any _ HL.out).mono ?_; rintro e' w1 ⟨rfl, hb⟩; have HB := Lib.hid (below_on HB.out hb); clear hb) | (go_at_call 20; refine (mod_noC _ _ _ HM.out).mono ?_; rintro e' w' ⟨rfl, rfl⟩) | (go_at_call 21; refine (may_no _ _ _ HN.out).mono ?_; rintro e' w' ⟨rfl, rfl⟩))
  go_ret
  exact ⟨rfl, HB.out⟩
set_option maxRecDepth 100000 in
set_option maxHeartbeats 6400000 in
theorem gaussMod_n0 (a b : Int) (ha : -1125899906842624 ≤ a ∧ a ≤ 1125899906842624) (hb : -1125899906842624 ≤ b ∧ b ≤ 1125899906842624) (hm : a < 0) (w : World) (L : Laid w) : Calls Tryd.prog 3 #[.int .i64 a, .int .i64 b, .bool false] w fun e w' => e = .returned (.bool true) ∧ Below w.heap.size w w' := by
  have HL := Lib.hid L
  have HB : Hid (Below w.heap.size w w) := Lib.hid (Below.refl _ _)
  have hg := eqGuard_cv
  have kf : ∀ n, floatOfInt .f64 n = fl n := fun _ => rfl
  have HM := Lib.hid (show mayC a b = false by unfold mayC; rw [decide_eq_false (by omega)]; rfl)
  have e1 : ∀ w, (binOp .eql 23 (cv (a, b)) (cv (a, b))).run Tryd.prog w = .ok (.bool true) w := fun w => (run_eq_cv _ (a, b) (a, b) w).trans (by rw [eqZ_of rfl])
  have d0 : decide (a < -1125899906842624) = false := decide_eq_false (by omega)
  have d1 : decide (1125899906842624 < a) = false := decide_eq_false (by omega)
  have d2 : decide (b < -1125899906842624) = false := decide_eq_false (by omega)
  have d3 : decide (1125899906842624 < b) = false := decide_eq_false (by omega)
  have c0 : decide ((0 : Int) ≤ a) = false := decide_eq_false (by omega)
  clear L hm
  go_enter Tryd.func3, Tryd.ntmps3
  go_wp2_with (first | (go_at_call 19; refine (begun_any _ HL.out).mono ?_; rintro e' w1 ⟨rfl, hb⟩; have HB := Lib.hid (below_on HB.out hb); clear hb) | (go_at_call 23; refine (pair_any _ _ _).mono ?_; rintro e' w1 ⟨rfl, hb⟩; have HB := Lib.hid (below_on HB.out hb); clear hb) | (go_at_call 22; refine (z_norm _ _).mono ?_; rintro e' w1 ⟨rfl, hb⟩; have HB := Lib.hid (below_on HB.out hb); clear hb) | (go_at_call 20; refine (mod_yesC a b _ ha hb).mono ?_; rintro e' w' ⟨rfl, rfl⟩) | (go_at_call 21; refine (may_czC a b (by omega) (by omega) _).mono ?_; rw [HM.out]; rintro e' w' ⟨rfl, rfl⟩))
  go_ret
  exact ⟨rfl, HB.out⟩
set_option maxRecDepth 100000 in
set_option maxHeartbeats 6400000 in
theorem gaussMod_n1 (a b : Int) (ha : -1125899906842624 ≤ a ∧ a ≤ 1125899906842624) (hb : -1125899906842624 ≤ b ∧ b ≤ 1125899906842624) (hm : 0 ≤ a ∧ ¬ a < 65521) (w : World) (L : Laid w) : Calls Tryd.prog 3 #[.int .i64 a, .int .i64 b, .bool false] w fun e w' => e = .returned (.bool true) ∧ Below w.heap.size w w' := by
  have HL := Lib.hid L
  have HB : Hid (Below w.heap.size w w) := Lib.hid (Below.refl _ _)
  have hg := eqGuard_cv
  have kf : ∀ n, floatOfInt .f64 n = fl n := fun _ => rfl
  have HM := Lib.hid (show mayC a b = false by unfold mayC; rw [decide_eq_false (by omega)]; rfl)
  have e1 : ∀ w, (binOp .eql 23 (cv (a, b)) (cv (a, b))).run Tryd.prog w = .ok (.bool true) w := fun w => (run_eq_cv _ (a, b) (a, b) w).trans (by rw [eqZ_of rfl])
  have d0 : decide (a < -1125899906842624) = false := decide_eq_false (by omega)
  have d1 : decide (1125899906842624 < a) = false := decide_eq_false (by omega)
  have d2 : decide (b < -1125899906842624) = false := decide_eq_false (by omega)
  have d3 : decide (1125899906842624 < b) = false := decide_eq_false (by omega)
  have c0 : decide ((0 : Int) ≤ a) = true := decide_eq_true (by omega)
  have c1 : decide (a < 65521) = false := decide_eq_false (by omega)
  clear L hm
  go_enter Tryd.func3, Tryd.ntmps3
  go_wp2_with (first | (go_at_call 19; refine (begun_any _ HL.out).mono ?_; rintro e' w1 ⟨rfl, hb⟩; have HB := Lib.hid (below_on HB.out hb); clear hb) | (go_at_call 23; refine (pair_any _ _ _).mono ?_; rintro e' w1 ⟨rfl, hb⟩; have HB := Lib.hid (below_on HB.out hb); clear hb) | (go_at_call 22; refine (z_norm _ _).mono ?_; rintro e' w1 ⟨rfl, hb⟩; have HB := Lib.hid (below_on HB.out hb); clear hb) | (go_at_call 20; refine (mod_yesC a b _ ha hb).mono ?_; rintro e' w' ⟨rfl, rfl⟩) | (go_at_call 21; refine (may_czC a b (by omega) (by omega) _).mono ?_; rw [HM.out]; rintro e' w' ⟨rfl, rfl⟩))
  go_ret
  exact ⟨rfl, HB.out⟩
set_option maxRecDepth 100000 in
set_option maxHeartbeats 6400000 in
theorem gaussMod_n2 (a b : Int) (ha : -1125899906842624 ≤ a ∧ a ≤ 1125899906842624) (hb : -1125899906842624 ≤ b ∧ b ≤ 1125899906842624) (hm : (0 ≤ a ∧ a < 65521) ∧ b < 0) (w : World) (L : Laid w) : Calls Tryd.prog 3 #[.int .i64 a, .int .i64 b, .bool false] w fun e w' => e = .returned (.bool true) ∧ Below w.heap.size w w' := by
  have HL := Lib.hid L
  have HB : Hid (Below w.heap.size w w) := Lib.hid (Below.refl _ _)
  have hg := eqGuard_cv
  have kf : ∀ n, floatOfInt .f64 n = fl n := fun _ => rfl
  have HM := Lib.hid (show mayC a b = false by unfold mayC; rw [decide_eq_true (by omega), decide_eq_false (by omega)]; rfl)
  have e1 : ∀ w, (binOp .eql 23 (cv (a, b)) (cv (a, b))).run Tryd.prog w = .ok (.bool true) w := fun w => (run_eq_cv _ (a, b) (a, b) w).trans (by rw [eqZ_of rfl])
  have d0 : decide (a < -1125899906842624) = false := decide_eq_false (by omega)
  have d1 : decide (1125899906842624 < a) = false := decide_eq_false (by omega)
  have d2 : decide (b < -1125899906842624) = false := decide_eq_false (by omega)
  have d3 : decide (1125899906842624 < b) = false := decide_eq_false (by omega)
  have c0 : decide ((0 : Int) ≤ a) = true := decide_eq_true (by omega)
  have c1 : decide (a < 65521) = true := decide_eq_true (by omega)
  have c2 : decide ((0 : Int) ≤ b) = false := decide_eq_false (by omega)
  clear L hm
  go_enter Tryd.func3, Tryd.ntmps3
  go_wp2_with (first | (go_at_call 19; refine (begun_any _ HL.out).mono ?_; rintro e' w1 ⟨rfl, hb⟩; have HB := Lib.hid (below_on HB.out hb); clear hb) | (go_at_call 23; refine (pair_any _ _ _).mono ?_; rintro e' w1 ⟨rfl, hb⟩; have HB := Lib.hid (below_on HB.out hb); clear hb) | (go_at_call 22; refine (z_norm _ _).mono ?_; rintro e' w1 ⟨rfl, hb⟩; have HB := Lib.hid (below_on HB.out hb); clear hb) | (go_at_call 20; refine (mod_yesC a b _ ha hb).mono ?_; rintro e' w' ⟨rfl, rfl⟩) | (go_at_call 21; refine (may_czC a b (by omega) (by omega) _).mono ?_; rw [HM.out]; rintro e' w' ⟨rfl, rfl⟩))
  go_ret
  exact ⟨rfl, HB.out⟩
set_option maxRecDepth 100000 in
set_option maxHeartbeats 6400000 in
theorem gaussMod_n3 (a b : Int) (ha : -1125899906842624 ≤ a ∧ a ≤ 1125899906842624) (hb : -1125899906842624 ≤ b ∧ b ≤ 1125899906842624) (hm : (0 ≤ a ∧ a < 65521) ∧ 0 ≤ b ∧ ¬ b < 65521) (w : World) (L : Laid w) : Calls Tryd.prog 3 #[.int .i64 a, .int .i64 b, .bool false] w fun e w' => e = .returned (.bool true) ∧ Below w.heap.size w w' := by
  have HL := Lib.hid L
  have HB : Hid (Below w.heap.size w w) := Lib.hid (Below.refl _ _)
  have hg := eqGuard_cv
  have kf : ∀ n, floatOfInt .f64 n = fl n := fun _ => rfl
  have HM := Lib.hid (show mayC a b = false by unfold mayC; rw [decide_eq_true (by omega), decide_eq_false (by omega)]; rfl)
  have e1 : ∀ w, (binOp .eql 23 (cv (a, b)) (cv (a, b))).run Tryd.prog w = .ok (.bool true) w := fun w => (run_eq_cv _ (a, b) (a, b) w).trans (by rw [eqZ_of rfl])
  have d0 : decide (a < -1125899906842624) = false := decide_eq_false (by omega)
  have d1 : decide (1125899906842624 < a) = false := decide_eq_false (by omega)
  have d2 : decide (b < -1125899906842624) = false := decide_eq_false (by omega)
  have d3 : decide (1125899906842624 < b) = false := decide_eq_false (by omega)
  have c0 : decide ((0 : Int) ≤ a) = true := decide_eq_true (by omega)
  have c1 : decide (a < 65521) = true := decide_eq_true (by omega)
  have c2 : decide ((0 : Int) ≤ b) = true := decide_eq_true (by omega)
  have c3 : decide (b < 65521) = false := decide_eq_false (by omega)
  clear L hm
  go_enter Tryd.func3, Tryd.ntmps3
  go_wp2_with (first | (go_at_call 19; refine (begun_any _ HL.out).mono ?_; rintro e' w1 ⟨rfl, hb⟩; have HB := Lib.hid (below_on HB.out hb); clear hb) | (go_at_call 23; refine (pair_any _ _ _).mono ?_; rintro e' w1 ⟨rfl, hb⟩; have HB := Lib.hid (below_on HB.out hb); clear hb) | (go_at_call 22; refine (z_norm _ _).mono ?_; rintro e' w1 ⟨rfl, hb⟩; have HB := Lib.hid (below_on HB.out hb); clear hb) | (go_at_call 20; refine (mod_yesC a b _ ha hb).mono ?_; rintro e' w' ⟨rfl, rfl⟩) | (go_at_call 21; refine (may_czC a b (by omega) (by omega) _).mono ?_; rw [HM.out]; rintro e' w' ⟨rfl, rfl⟩))
  go_ret
  exact ⟨rfl, HB.out⟩
set_option maxRecDepth 100000 in
set_option maxHeartbeats 6400000 in
theorem gaussMod_n4 (a b : Int) (ha : -1125899906842624 ≤ a ∧ a ≤ 1125899906842624) (hb : -1125899906842624 ≤ b ∧ b ≤ 1125899906842624) (hm : (0 ≤ a ∧ a < 65521) ∧ 0 ≤ b ∧ b < 65521) (w : World) (L : Laid w) : Calls Tryd.prog 3 #[.int .i64 a, .int .i64 b, .bool false] w fun e w' => e = .returned (.bool true) ∧ Below w.heap.size w w' := by
  have HL := Lib.hid L
  have HB : Hid (Below w.heap.size w w) := Lib.hid (Below.refl _ _)
  have hg := eqGuard_cv
  have kf : ∀ n, floatOfInt .f64 n = fl n := fun _ => rfl
  have HM := Lib.hid (show mayC a b = true by unfold mayC; rw [decide_eq_true (by omega), decide_eq_true (by omega)]; rfl)
  have e1 : ∀ w, (binOp .eql 23 (cv (a, b)) (cv (a, b))).run Tryd.prog w = .ok (.bool true) w := fun w => (run_eq_cv _ (a, b) (a, b) w).trans (by rw [eqZ_of rfl])
  have d0 : decide (a < -1125899906842624) = false := decide_eq_false (by omega)
  have d1 : decide (1125899906842624 < a) = false := decide_eq_false (by omega)
  have d2 : decide (b < -1125899906842624) = false := decide_eq_false (by omega)
  have d3 : decide (1125899906842624 < b) = false := decide_eq_false (by omega)
  have c0 : decide ((0 : Int) ≤ a) = true := decide_eq_true (by omega)
  have c1 : decide (a < 65521) = true := decide_eq_true (by omega)
  have c2 : decide ((0 : Int) ≤ b) = true := decide_eq_true (by omega)
  have c3 : decide (b < 65521) = true := decide_eq_true (by omega)
  clear L hm
  go_enter Tryd.func3, Tryd.ntmps3
  go_wp2_with (first | (go_at_call 19; refine (begun_any _ HL.out).mono ?_; rintro e' w1 ⟨rfl, hb⟩; have HB := Lib.hid (below_on HB.out hb); clear hb) | (go_at_call 23; refine (pair_any _ _ _).mono ?_; rintro e' w1 ⟨rfl, hb⟩; have HB := Lib.hid (below_on HB.out hb); clear hb) | (go_at_call 22; refine (z_norm _ _).mono ?_; rintro e' w1 ⟨rfl, hb⟩; have HB := Lib.hid (below_on HB.out hb); clear hb) | (go_at_call 20; refine (mod_yesC a b _ ha hb).mono ?_; rintro e' w' ⟨rfl, rfl⟩) | (go_at_call 21; refine (may_czC a b (by omega) (by omega) _).mono ?_; rw [HM.out]; rintro e' w' ⟨rfl, rfl⟩))
  go_ret
  exact ⟨rfl, HB.out⟩
set_option maxRecDepth 100000 in
set_option maxHeartbeats 6400000 in
theorem gaussMod_p1 (a b : Int) (ha : -1125899906842624 ≤ a ∧ a ≤ 1125899906842624) (hb : -1125899906842624 ≤ b ∧ b ≤ 1125899906842624) (hs : ¬ a < 1099511627776) (_hm : 0 ≤ a ∧ ¬ a < 65521) (w : World) (L : Laid w) : Calls Tryd.prog 3 #[.int .i64 a, .int .i64 b, .bool true] w fun e w' => e = .returned (.bool true) ∧ Below w.heap.size w w' := by
  have HL := Lib.hid L
  have HB : Hid (Below w.heap.size w w) := Lib.hid (Below.refl _ _)
  have hg := eqGuard_cv
  have kf : ∀ n, floatOfInt .f64 n = fl n := fun _ => rfl
  have HM := Lib.hid (show mayC a b = false by unfold mayC; rw [decide_eq_false (by omega)]; rfl)
  have e1 : ∀ w, (binOp .eql 23 (cv (a, b)) (cv (a, b))).run Tryd.prog w = .ok (.bool true) w := fun w => (run_eq_cv _ (a, b) (a, b) w).trans (by rw [eqZ_of rfl])
  have d0 : decide (a < -1125899906842624) = false := decide_eq_false (by omega)
  have d1 : decide (1125899906842624 < a) = false := decide_eq_false (by omega)
  have d2 : decide (b < -1125899906842624) = false := decide_eq_false (by omega)
  have d3 : decide (1125899906842624 < b) = false := decide_eq_false (by omega)
  have d4 : decide (a < 1099511627776) = false := decide_eq_false hs
  have c0 : decide ((0 : Int) ≤ a) = true := decide_eq_true (by omega)
  have c1 : decide (a < 65521) = false := decide_eq_false (by omega)
  clear L _hm hs
  go_enter Tryd.func3, Tryd.ntmps3
  go_wp2_with (first | (go_at_call 19; refine (begun_any _ HL.out).mono ?_; rintro e' w1 ⟨rfl, hb⟩; have HB := Lib.hid (below_on HB.out hb); clear hb) | (go_at_call 23; refine (pair_any _ _ _).mono ?_; rintro e' w1 ⟨rfl, hb⟩; have HB := Lib.hid (below_on HB.out hb); clear hb) | (go_at_call 22; refine (z_norm _ _).mono ?_; rintro e' w1 ⟨rfl, hb⟩; have HB := Lib.hid (below_on HB.out hb); clear hb) | (go_at_call 20; refine (mod_yesC a b _ ha hb).mono ?_; rintro e' w' ⟨rfl, rfl⟩) | (go_at_call 21; refine (may_czC a b (by omega) (by omega) _).mono ?_; rw [HM.out]; rintro e' w' ⟨rfl, rfl⟩))
  go_ret
  exact ⟨rfl, HB.out⟩
set_option maxRecDepth 100000 in
set_option maxHeartbeats 6400000 in
theorem gaussMod_q0 (a b : Int) (ha : -1125899906842624 ≤ a ∧ a ≤ 1125899906842624) (hb : -1125899906842624 ≤ b ∧ b ≤ 1125899906842624) (hs : a < 1099511627776) (ht : ¬ -1099511627776 < a) (_hm : a < 0) (w : World) (L : Laid w) : Calls Tryd.prog 3 #[.int .i64 a, .int .i64 b, .bool true] w fun e w' => e = .returned (.bool true) ∧ Below w.heap.size w w' := by
  have HL := Lib.hid L
  have HB : Hid (Below w.heap.size w w) := Lib.hid (Below.refl _ _)
  have hg := eqGuard_cv
  have kf : ∀ n, floatOfInt .f64 n = fl n := fun _ => rfl
  have HM := Lib.hid (show mayC a b = false by unfold mayC; rw [decide_eq_false (by omega)]; rfl)
  have e1 : ∀ w, (binOp .eql 23 (cv (a, b)) (cv (a, b))).run Tryd.prog w = .ok (.bool true) w := fun w => (run_eq_cv _ (a, b) (a, b) w).trans (by rw [eqZ_of rfl])
  have d0 : decide (a < -1125899906842624) = false := decide_eq_false (by omega)
  have d1 : decide (1125899906842624 < a) = false := decide_eq_false (by omega)
  have d2 : decide (b < -1125899906842624) = false := decide_eq_false (by omega)
  have d3 : decide (1125899906842624 < b) = false := decide_eq_false (by omega)
  have d4 : decide (a < 1099511627776) = true := decide_eq_true hs
  have d5 : decide (-1099511627776 < a) = false := decide_eq_false ht
  have c0 : decide ((0 : Int) ≤ a) = false := decide_eq_false (by omega)
  clear L _hm hs ht
  go_enter Tryd.func3, Tryd.ntmps3
  go_wp2_with (first | (go_at_call 19; refine (begun_any _ HL.out).mono ?_; rintro e' w1 ⟨rfl, hb⟩; have HB := Lib.hid (below_on HB.out hb); clear hb) | (go_at_call 23; refine (pair_any _ _ _).mono ?_; rintro e' w1 ⟨rfl, hb⟩; have HB := Lib.hid (below_on HB.out hb); clear hb) | (go_at_call 22; refine (z_norm _ _).mono ?_; rintro e' w1 ⟨rfl, hb⟩; have HB := Lib.hid (below_on HB.out hb); clear hb) | (go_at_call 20; refine (mod_yesC a b _ ha hb).mono ?_; rintro e' w' ⟨rfl, rfl⟩) | (go_at_call 21; refine (may_czC a b (by omega) (by omega) _).mono ?_; rw [HM.out]; rintro e' w' ⟨rfl, rfl⟩))
  go_ret
  exact ⟨rfl, HB.out⟩
theorem gaussMod_walk (a b : Int) (half : Bool) (ha : a.natAbs ≤ 2 ^ 63) (hb : b.natAbs ≤ 2 ^ 63) (w : World) (L : Laid w) : Calls Tryd.prog 3 #[.int .i64 a, .int .i64 b, .bool half] w fun e w' => e = .returned (.bool true) ∧ Below w.heap.size w w' := by
  by_cases h0 : a < -1125899906842624
  · exact gaussMod_out0 a b half ha hb h0 w L
  by_cases h1 : 1125899906842624 < a
  · exact gaussMod_out1 a b half ha hb h0 h1 w L
  by_cases h2 : b < -1125899906842624
  · exact gaussMod_out2 a b half ha hb h0 h1 h2 w L
  by_cases h3 : 1125899906842624 < b
  · exact gaussMod_out3 a b half ha hb h0 h1 h2 h3 w L
  have ia : -1125899906842624 ≤ a ∧ a ≤ 1125899906842624 := by omega
  have ib : -1125899906842624 ≤ b ∧ b ≤ 1125899906842624 := by omega
  cases half
  · by_cases c0 : a < 0
    · exact gaussMod_n0 a b ia ib c0 w L
    by_cases c1 : a < 65521
    · by_cases c2 : b < 0
      · exact gaussMod_n2 a b ia ib ⟨⟨by omega, c1⟩, c2⟩ w L
      by_cases c3 : b < 65521
      · exact gaussMod_n4 a b ia ib ⟨⟨by omega, c1⟩, by omega, c3⟩ w L
      · exact gaussMod_n3 a b ia ib ⟨⟨by omega, c1⟩, by omega, c3⟩ w L
    · exact gaussMod_n1 a b ia ib ⟨by omega, c1⟩ w L
  · by_cases c0 : a < 1099511627776
    · by_cases c1 : -1099511627776 < a
      · exact gaussMod_half a b ia ib ⟨c0, c1⟩ w L
      · exact gaussMod_q0 a b ia ib c0 c1 (by omega) w L
    · exact gaussMod_p1 a b ia ib c0 (by omega) w L
end Go.Proofs.YtchfphhelafbbaaDoor
