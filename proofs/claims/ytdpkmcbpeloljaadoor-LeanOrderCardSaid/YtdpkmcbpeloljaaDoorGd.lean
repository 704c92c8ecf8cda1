/- Walks of gauss.May, part, Mod, Add, Mul on whole numbers. -/
import Derived.Test.YtdpkmcbpeloljaaDoorGc
namespace Go.Proofs.YtdpkmcbpeloljaaDoor
open Go.RowKit

theorem fl65520 : fl 65520 = 4679237813814689792 := by decide
theorem flm50 : fl (-1125899906842624) = 14055734437023318016 := by decide
theorem fl50 : fl 1125899906842624 = 4832362400168542208 := by decide
set_option maxRecDepth 100000 in
set_option maxHeartbeats 400000 in
theorem may_bits (x y : Nat) (w : World) :
    Calls Tryd.prog 27 #[.complex .f64 x y] w fun e w' => e = .returned (.bool (wholeB x 0 4679237813814689792 && wholeB y 0 4679237813814689792)) ∧ w = w' := by
  obtain ⟨p, hp⟩ : ∃ p, wholeB x 0 4679237813814689792 = p := ⟨_, rfl⟩
  obtain ⟨q, hq⟩ : ∃ q, wholeB y 0 4679237813814689792 = q := ⟨_, rfl⟩
  have HP := Lib.hid hp
  have HQ := Lib.hid hq
  rw [hp, hq]
  clear hp hq
  cases p
  all_goals
    go_enter Tryd.func27, Tryd.ntmps27
    go_wp2_with (go_at_call 45; refine (whole_any _ 0 4679237813814689792 _).mono ?_; (first | rw [HP.out] | rw [HQ.out]); rintro e' w' ⟨rfl, rfl⟩)
    go_ret
    exact ⟨rfl, rfl⟩
/-- Of two numbers: may they be? -/
def mayC (a b : Int) : Bool := decide (0 ≤ a ∧ a ≤ 65520) && decide (0 ≤ b ∧ b ≤ 65520)
theorem may_cz (a b : Int) (ha : a.natAbs < 2 ^ 53) (hb : b.natAbs < 2 ^ 53) (w : World) :
    Calls Tryd.prog 27 #[cz a b] w fun e w' => e = .returned (.bool (mayC a b)) ∧ w = w' := by
  refine (may_bits _ _ _).mono ?_
  rintro e w' ⟨rfl, rfl⟩
  rw [← fl65520, ← fl_zero, whole_fl ha (by decide) (by decide), whole_fl hb (by decide) (by decide)]
  exact ⟨rfl, rfl⟩
theorem mayC_rs (a b : Int) : mayC (rs a) (rs b) = true := by
  have h1 := rs_bd a
  have h2 := rs_bd b
  unfold mayC
  rw [decide_eq_true ⟨h1.1, by omega⟩, decide_eq_true ⟨h2.1, by omega⟩]; rfl
theorem rs_abs (a : Int) : (rs a).natAbs < 2 ^ 53 := by have := rs_bd a; omega
theorem may_cr (a b : Int) (w : World) :
    Calls Tryd.prog 27 #[cr a b] w fun e w' => e = .returned (.bool true) ∧ w = w' := by
  refine (may_cz _ _ (rs_abs a) (rs_abs b) _).mono ?_
  rintro e w' ⟨rfl, rfl⟩
  rw [mayC_rs]
  exact ⟨rfl, rfl⟩
theorem toIntVal_fl {n : Int} (h : n.natAbs < 2 ^ 53) : floatToIntVal .f64 (fl n) .i64 = some n := by
  unfold floatToIntVal
  rw [toInt_fl h]
  have h1 : IntKind.i64.min = -9223372036854775808 := rfl
  have h2 : IntKind.i64.max = 9223372036854775807 := rfl
  simp only [h1, h2]
  rw [if_pos (by omega)]
theorem tmod_rs (n : Int) : (n.tmod 65521 < 0 → n.tmod 65521 + 65521 = rs n) ∧ (¬ n.tmod 65521 < 0 → n.tmod 65521 = rs n) ∧ -65521 < n.tmod 65521 ∧ n.tmod 65521 < 65521 := by
  have h1 : n.tmod 65521 < 65521 := Int.tmod_lt_of_pos _ (by decide)
  have h2 : -65521 < n.tmod 65521 := by have := Int.tmod_lt_of_pos (-n) (show (0:Int) < 65521 by decide); rw [Int.neg_tmod] at this; omega
  have h3 := Int.mul_tdiv_add_tmod n 65521
  unfold rs
  exact ⟨by omega, by omega, h2, h1⟩
set_option maxRecDepth 100000 in
set_option maxHeartbeats 400000 in
theorem part_fl (n : Int) (w : World) (h : n.natAbs < 2 ^ 53) :
    Calls Tryd.prog 46 #[.float .f64 (fl n)] w fun e w' => e = .returned (.float .f64 (fl (rs n))) ∧ w = w' := by
  have kc : ∀ w, (convert 38 2 (.float .f64 (fl n))).run Tryd.prog w = .ok (.int .i64 n) w := fun w => run_convert_float_int w _ _ _ _ _ _ (by rw [Tryd.underlying38]; rfl) Tryd.underlying2 (toIntVal_fl h)
  have kf : ∀ n, floatOfInt .f64 n = fl n := fun _ => rfl
  obtain ⟨t1, t2, t3, t4⟩ := tmod_rs n
  obtain ⟨m, hm⟩ : ∃ m, n.tmod 65521 = m := ⟨_, rfl⟩
  rw [hm] at t1 t2 t3 t4
  have T1 := Lib.hid t1
  have T2 := Lib.hid t2
  clear t1 t2
  by_cases hlt : m < 0
  · have hlt' : decide (m < 0) = true := by simpa using hlt
    go_enter Tryd.func46, Tryd.ntmps46
    go_wp2_with fail
    go_ret
    rw [T1.out hlt]
    exact ⟨rfl, rfl⟩
  · have hlt' : decide (m < 0) = false := by simpa using hlt
    go_enter Tryd.func46, Tryd.ntmps46
    go_wp2_with fail
    go_ret
    rw [T2.out hlt]
    exact ⟨rfl, rfl⟩
def modB (x y : Nat) : Bool := wholeB x 14055734437023318016 4832362400168542208 && wholeB y 14055734437023318016 4832362400168542208
set_option maxRecDepth 100000 in
set_option maxHeartbeats 400000 in
theorem mod_no (x y : Nat) (w : World) (h : modB x y = false) :
    Calls Tryd.prog 28 #[.complex .f64 x y] w fun e w' => e = .returned (cr 0 0) ∧ w = w' := by
  unfold modB at h
  obtain ⟨p, hp⟩ : ∃ p, wholeB x 14055734437023318016 4832362400168542208 = p := ⟨_, rfl⟩
  obtain ⟨q, hq⟩ : ∃ q, wholeB y 14055734437023318016 4832362400168542208 = q := ⟨_, rfl⟩
  have HP := Lib.hid hp
  have HQ := Lib.hid hq
  rw [hp, hq] at h
  clear hp hq
  have hz : cr 0 0 = .complex .f64 0 0 := by unfold cr cz; rw [show rs 0 = 0 from rfl, fl_zero]
  have HZ := Lib.hid hz
  clear hz
  cases p
  · clear h
    go_enter Tryd.func28, Tryd.ntmps28
    go_wp2_with (go_at_call 45; refine (whole_any _ _ _ _).mono ?_; (first | rw [HP.out] | rw [HQ.out]); rintro e' w' ⟨rfl, rfl⟩)
    go_ret
    rw [HZ.out]
    exact ⟨rfl, rfl⟩
  · simp only [Bool.true_and] at h
    subst h
    go_enter Tryd.func28, Tryd.ntmps28
    go_wp2_with (go_at_call 45; refine (whole_any _ _ _ _).mono ?_; (first | rw [HP.out] | rw [HQ.out]); rintro e' w' ⟨rfl, rfl⟩)
    go_ret
    rw [HZ.out]
    exact ⟨rfl, rfl⟩
theorem modB_fl {a b : Int} (ha : a.natAbs < 2 ^ 53) (hb : b.natAbs < 2 ^ 53) : modB (fl a) (fl b) = (decide (-1125899906842624 ≤ a ∧ a ≤ 1125899906842624) && decide (-1125899906842624 ≤ b ∧ b ≤ 1125899906842624)) := by
  unfold modB
  rw [← flm50, ← fl50, whole_fl ha (by decide) (by decide), whole_fl hb (by decide) (by decide)]
set_option maxRecDepth 100000 in
set_option maxHeartbeats 400000 in
theorem mod_yes (a b : Int) (w : World) (ha : -1125899906842624 ≤ a ∧ a ≤ 1125899906842624) (hb : -1125899906842624 ≤ b ∧ b ≤ 1125899906842624) :
    Calls Tryd.prog 28 #[cz a b] w fun e w' => e = .returned (cr a b) ∧ w = w' := by
  have ha' : a.natAbs < 2 ^ 53 := by omega
  have hb' : b.natAbs < 2 ^ 53 := by omega
  have h1 : wholeB (fl a) 14055734437023318016 4832362400168542208 = true := by rw [← flm50, ← fl50, whole_fl ha' (by decide) (by decide)]; exact decide_eq_true ha
  have h2 : wholeB (fl b) 14055734437023318016 4832362400168542208 = true := by rw [← flm50, ← fl50, whole_fl hb' (by decide) (by decide)]; exact decide_eq_true hb
  have H1 := Lib.hid h1
  have H2 := Lib.hid h2
  have HA := Lib.hid ha'
  have HB := Lib.hid hb'
  clear h1 h2 ha hb ha' hb'
  unfold cz
  go_enter Tryd.func28, Tryd.ntmps28
  go_wp2_with (first | (go_at_call 45; refine (whole_any _ _ _ _).mono ?_; (first | rw [H1.out] | rw [H2.out]); rintro e' w' ⟨rfl, rfl⟩) | (go_at_call 46; (first | (with_reducible refine (part_fl a _ HA.out).mono ?_) | (with_reducible refine (part_fl b _ HB.out).mono ?_)); rintro e' w' ⟨rfl, rfl⟩))
  go_ret
  exact ⟨rfl, rfl⟩
end Go.Proofs.YtdpkmcbpeloljaaDoor
