/- Walks of math.Trunc, of gauss.whole, gauss.May: of any float64s. Plain laws: gauss.whole on whole numbers; residues as float64s. Walks of gauss.May, part, Mod, Add, Mul on whole numbers. Walks of gauss.Add, Mul, Pow on residues. Float64: whole numbers beyond 2^50; whole numbers and a half. Walks of gauss.On, Mark. Plain laws on marks: bytes that differ. -/
import Derived.Test.YthbbfdlacclccaaDoorRows
import Derived.Test.YthbbfdlacclccaaDoorKit
import Derived.Test.YthbbfdlacclccaaDoorM1
import Derived.BigQuiet
import Derived.Deep.QuietTactic
import Derived.Deep.RegionHeld3
import Derived.Deep.DeepCutAuto
import Derived.Laws.ComplexArith
import Derived.Shelf.Strings.Builder1
namespace Go.Proofs.YthbbfdlacclccaaDoor
open Go.RowKit

def isNaNB (x : Nat) : Bool := (Ieee.double.read x).isNaN
/-- What math.Trunc makes of a word. -/
def truncB (x : Nat) : Nat := Ieee.double.write ((Ieee.double.read x).integral .zero)
theorem toIntegral_num (x : Nat) (name : String) (way : Ieee.Toward) (h : isNaNB x = false) : Extern.MathFloor.toIntegral name way #[Value.float .f64 x] = pure (Value.float .f64 (FloatKind.f64.encode ((Ieee.double.read x).integral way))) := by
  unfold isNaNB at h
  have e : FloatKind.decode .f64 x = Ieee.double.read x := rfl
  cases hd : Ieee.double.read x with
  | nan s t => rw [hd] at h; simp [Ieee.Datum.isNaN] at h
  | infinity s =>
    rw [hd] at e
    delta Extern.MathFloor.toIntegral
    generalize FloatKind.decode = D at e ⊢
    conv => lhs; whnf
    rw [e]
  | number s m i =>
    rw [hd] at e
    delta Extern.MathFloor.toIntegral
    generalize FloatKind.decode = D at e ⊢
    conv => lhs; whnf
    rw [e]
theorem archTrunc_any (x : Nat) (w : World) (h : isNaNB x = false) : (callFunc 52 #[.float .f64 x]).run Tryd.prog w = .ok (.value (.float .f64 (truncB x))) w := by
  rw [run_callFunc_extern Tryd.func52 (by kernel_rfl) (by kernel_rfl) (by kernel_rfl) (e := Extern.MathFloor.toIntegral "math.archTrunc" .zero) (by kernel_rfl)]
  rw [toIntegral_num x _ _ h]
  rfl
set_option maxRecDepth 100000 in
set_option maxHeartbeats 400000 in
theorem Trunc_any (n : Nat) (w : World) (h : isNaNB n = false) :
    Calls Tryd.prog 44 #[.float .f64 n] w fun e w' => e = .returned (.float .f64 (truncB n)) ∧ w = w' := by
  have k : ∀ w, (callFunc 52 #[.float .f64 n]).run Tryd.prog w = .ok (.value (.float .f64 (truncB n))) w := fun w => archTrunc_any n w h
  clear h
  go_enter Tryd.func44, Tryd.ntmps44
  go_wp2_with fail
  go_ret
  exact ⟨rfl, rfl⟩
def geB (x y : Nat) : Bool := FloatKind.f64.format.order x y == some .gt || FloatKind.f64.format.order x y == some .eq
def leB (x y : Nat) : Bool := FloatKind.f64.format.order x y == some .lt || FloatKind.f64.format.order x y == some .eq
def eqF (x y : Nat) : Bool := FloatKind.f64.format.order x y == some .eq
theorem geB_nan {x y : Nat} (h : geB x y = true) : isNaNB x = false := by
  unfold geB at h
  unfold isNaNB
  cases hd : Ieee.double.read x with
  | nan s t =>
    have : FloatKind.f64.format.order x y = none := by
      show (Ieee.double.read x).order (Ieee.double.read y) = none
      rw [hd]; rfl
    rw [this] at h; simp at h
  | infinity s => rfl
  | number s m i => rfl
/-- What gauss.whole tells. -/
def wholeB (x a b : Nat) : Bool := geB x a && leB x b && eqF x (truncB x)
set_option maxRecDepth 100000 in
set_option maxHeartbeats 400000 in
theorem whole_any (x a b : Nat) (w : World) :
    Calls Tryd.prog 36 #[.float .f64 x, .float .f64 a, .float .f64 b] w fun e w' => e = .returned (.bool (wholeB x a b)) ∧ w = w' := by
  by_cases h1 : geB x a = true
  · have h1' : (FloatKind.f64.format.order x a == some .gt || FloatKind.f64.format.order x a == some .eq) = true := h1
    have HN := Lib.hid (geB_nan h1)
    by_cases h2 : leB x b = true
    · have h2' : (FloatKind.f64.format.order x b == some .lt || FloatKind.f64.format.order x b == some .eq) = true := h2
      have HT := Lib.hid (show wholeB x a b = (FloatKind.f64.format.order x (truncB x) == some .eq) by unfold wholeB; rw [h1, h2]; simp [eqF])
      clear h1 h2
      go_enter Tryd.func36, Tryd.ntmps36
      go_wp2_with (first | (go_at_call 44; refine (Trunc_any _ _ HN.out).mono ?_; rintro e' w' ⟨rfl, rfl⟩))
      go_ret
      rw [HT.out]
      exact ⟨rfl, rfl⟩
    · have h2' : leB x b = false := by simpa using h2
      have h2'' : (FloatKind.f64.format.order x b == some .lt || FloatKind.f64.format.order x b == some .eq) = false := h2'
      have HT := Lib.hid (show wholeB x a b = false by unfold wholeB; rw [h2']; simp)
      clear h1 h2 h2'
      go_enter Tryd.func36, Tryd.ntmps36
      go_wp2_with fail
      go_ret
      rw [HT.out]
      exact ⟨rfl, rfl⟩
  · have h1' : geB x a = false := by simpa using h1
    have h1'' : (FloatKind.f64.format.order x a == some .gt || FloatKind.f64.format.order x a == some .eq) = false := h1'
    have HT := Lib.hid (show wholeB x a b = false by unfold wholeB; rw [h1']; simp)
    clear h1 h1'
    go_enter Tryd.func36, Tryd.ntmps36
    go_wp2_with fail
    go_ret
    rw [HT.out]
    exact ⟨rfl, rfl⟩
end Go.Proofs.YthbbfdlacclccaaDoor
namespace Go.Proofs.YthbbfdlacclccaaDoor
open Go.RowKit Ieee

theorem ge_fl {a b : Int} (ha : a.natAbs < 2 ^ 53) (hb : b.natAbs < 2 ^ 53) : geB (fl a) (fl b) = decide (b ≤ a) := by
  unfold geB
  have h : FloatKind.f64.format.order (fl a) (fl b) = some (compare a b) := order_fl ha hb
  rw [h]
  rcases Int.lt_trichotomy a b with h | h | h
  · rw [Int.compare_eq_lt.2 h, decide_eq_false (by omega)]; rfl
  · rw [Int.compare_eq_eq.2 h, decide_eq_true (by omega)]; rfl
  · rw [Int.compare_eq_gt.2 h, decide_eq_true (by omega)]; rfl
theorem le_fl {a b : Int} (ha : a.natAbs < 2 ^ 53) (hb : b.natAbs < 2 ^ 53) : leB (fl a) (fl b) = decide (a ≤ b) := by
  unfold leB
  have h : FloatKind.f64.format.order (fl a) (fl b) = some (compare a b) := order_fl ha hb
  rw [h]
  rcases Int.lt_trichotomy a b with h | h | h
  · rw [Int.compare_eq_lt.2 h, decide_eq_true (by omega)]; rfl
  · rw [Int.compare_eq_eq.2 h, decide_eq_true (by omega)]; rfl
  · rw [Int.compare_eq_gt.2 h, decide_eq_false (by omega)]; rfl
theorem eq_fl {a b : Int} (ha : a.natAbs < 2 ^ 53) (hb : b.natAbs < 2 ^ 53) : eqF (fl a) (fl b) = decide (a = b) := by
  unfold eqF
  have h : FloatKind.f64.format.order (fl a) (fl b) = some (compare a b) := order_fl ha hb
  rw [h]
  rcases Int.lt_trichotomy a b with h | h | h
  · rw [Int.compare_eq_lt.2 h, decide_eq_false (by omega)]; rfl
  · rw [Int.compare_eq_eq.2 h, decide_eq_true (by omega)]; rfl
  · rw [Int.compare_eq_gt.2 h, decide_eq_false (by omega)]; rfl
theorem cutz (neg : Bool) (n d : Nat) (h : d ≤ n.log2 + 2) : Toward.zero.cut neg n d = n / 2 ^ d := by
  unfold Toward.cut
  have e : (1 <<< min d (n.log2 + 2)) = 2 ^ d := by rw [Nat.min_eq_left h, Nat.shiftLeft_eq, Nat.one_mul]
  simp [e]
theorem trunc_fl {n : Int} (h53 : n.natAbs < 2 ^ 53) : truncB (fl n) = fl n := by
  obtain ⟨s, m, d, h1, h2, _, h3, h4⟩ := datum_fl h53
  unfold truncB
  rw [h1]
  simp only [Datum.integral]
  have e1 : (-(d : Int)).toNat = 0 := by omega
  have e2 : (- -(d : Int)).toNat = d := by omega
  rw [e1, e2, Nat.shiftLeft_zero]
  by_cases h0 : n = 0
  · obtain ⟨rfl, rfl⟩ := h3 h0
    subst h0
    rw [fl_zero]
    have : Toward.zero.cut false 0 d = 0 := by unfold Toward.cut; simp
    rw [this]
    simp [Format.write, Format.nearest, Format.word]
  · obtain ⟨rfl, rfl, h5⟩ := h4 h0
    have hl := log2_shift n.natAbs d (by omega)
    rw [cutz _ _ _ (by rw [hl]; omega), Nat.shiftLeft_eq, Nat.mul_div_cancel _ (Nat.pow_pos (by decide))]
    rfl
theorem whole_fl {n a b : Int} (hn : n.natAbs < 2 ^ 53) (ha : a.natAbs < 2 ^ 53) (hb : b.natAbs < 2 ^ 53) : wholeB (fl n) (fl a) (fl b) = decide (a ≤ n ∧ n ≤ b) := by
  unfold wholeB
  rw [ge_fl hn ha, le_fl hn hb, trunc_fl hn, eq_fl hn hn, decide_eq_true (rfl : n = n), Bool.and_true]
  by_cases h1 : a ≤ n <;> by_cases h2 : n ≤ b <;> simp [h1, h2]
theorem toInt_fl {n : Int} (h53 : n.natAbs < 2 ^ 53) : (FloatKind.f64.decode (fl n)).toInt .zero = some n := by
  obtain ⟨s, m, d, h1, h2, _, h3, h4⟩ := datum_fl h53
  have e : FloatKind.f64.decode (fl n) = double.read (fl n) := rfl
  rw [e, h1]
  simp only [Datum.toInt, Datum.integral]
  have e1 : (-(d : Int)).toNat = 0 := by omega
  have e2 : (- -(d : Int)).toNat = d := by omega
  rw [e1, e2, Nat.shiftLeft_zero]
  by_cases h0 : n = 0
  · obtain ⟨rfl, rfl⟩ := h3 h0
    subst h0
    have : Toward.zero.cut false 0 d = 0 := by unfold Toward.cut; simp
    rw [this]; rfl
  · obtain ⟨rfl, rfl, h5⟩ := h4 h0
    have hl := log2_shift n.natAbs d (by omega)
    rw [cutz _ _ _ (by rw [hl]; omega), Nat.shiftLeft_eq, Nat.mul_div_cancel _ (Nat.pow_pos (by decide)), signed_fl]
    congr 1
    rw [Int.pow_zero, Int.mul_one]
    exact nat_int n

/-- The numbers modulo 65521, as float64s; pairs of them as complex128s. -/
def rs (u : Int) : Int := u % 65521
theorem rs_bd (u : Int) : 0 ≤ rs u ∧ rs u < 65521 := ⟨Int.emod_nonneg _ (by decide), Int.emod_lt_of_pos _ (by decide)⟩
theorem rs_rs (u : Int) : rs (rs u) = rs u := Int.emod_emod_of_dvd _ (Int.dvd_refl _)
theorem rs_of {u : Int} (h0 : 0 ≤ u) (h1 : u < 65521) : rs u = u := Int.emod_eq_of_lt h0 h1
/-- A complex number of two whole parts. -/
def cz (u v : Int) : Value := .complex .f64 (fl u) (fl v)
/-- A residue. -/
def cr (u v : Int) : Value := cz (rs u) (rs v)
theorem cr_eq {u v u' v' : Int} (h1 : rs u = rs u') (h2 : rs v = rs v') : cr u v = cr u' v' := by unfold cr; rw [h1, h2]
end Go.Proofs.YthbbfdlacclccaaDoor
namespace Go.Proofs.YthbbfdlacclccaaDoor
open Go.RowKit

theorem fl65520 : fl 65520 = 4679237813814689792 := by decide
theorem flm50 : fl (-1125899906842624) = 14055734437023318016 := by decide
theorem fl50 : fl 1125899906842624 = 4832362400168542208 := by decide
set_option maxRecDepth 100000 in
set_option maxHeartbeats 400000 in
theorem may_bits (x y : Nat) (w : World) :
    Calls Tryd.prog 24 #[.complex .f64 x y] w fun e w' => e = .returned (.bool (wholeB x 0 4679237813814689792 && wholeB y 0 4679237813814689792)) ∧ w = w' := by
  obtain ⟨p, hp⟩ : ∃ p, wholeB x 0 4679237813814689792 = p := ⟨_, rfl⟩
  obtain ⟨q, hq⟩ : ∃ q, wholeB y 0 4679237813814689792 = q := ⟨_, rfl⟩
  have HP := Lib.hid hp
  have HQ := Lib.hid hq
  rw [hp, hq]
  clear hp hq
  cases p
  all_goals
    go_enter Tryd.func24, Tryd.ntmps24
    go_wp2_with (go_at_call 36; refine (whole_any _ 0 4679237813814689792 _).mono ?_; (first | rw [HP.out] | rw [HQ.out]); rintro e' w' ⟨rfl, rfl⟩)
    go_ret
    exact ⟨rfl, rfl⟩
/-- Of two numbers: may they be? -/
def mayC (a b : Int) : Bool := decide (0 ≤ a ∧ a ≤ 65520) && decide (0 ≤ b ∧ b ≤ 65520)
theorem may_cz (a b : Int) (ha : a.natAbs < 2 ^ 53) (hb : b.natAbs < 2 ^ 53) (w : World) :
    Calls Tryd.prog 24 #[cz a b] w fun e w' => e = .returned (.bool (mayC a b)) ∧ w = w' := by
  refine (may_bits _ _ _).mono ?_
  rintro e w' ⟨rfl, rfl⟩
  rw [← fl65520, ← fl_zero, whole_fl ha (by decide) (by decide), whole_fl hb (by decide) (by decide)]
  exact ⟨rfl, rfl⟩
theorem mayC_rs (a b : Int) : mayC (rs a) (rs b) = true := by
  have h1 := rs_bd a
  have h2 := rs_bd b
  unfold mayC
  rw [decide_eq_true ⟨h1.1, by omega⟩, decide_eq_true ⟨h2.1, by omega⟩]; rfl
theorem rs_abs (a : Int) : (rs a).natAbs < 2 ^ 53 := by have := rs_bd a; omega
theorem may_cr (a b : Int) (w : World) :
    Calls Tryd.prog 24 #[cr a b] w fun e w' => e = .returned (.bool true) ∧ w = w' := by
  refine (may_cz _ _ (rs_abs a) (rs_abs b) _).mono ?_
  rintro e w' ⟨rfl, rfl⟩
  rw [mayC_rs]
  exact ⟨rfl, rfl⟩
theorem toIntVal_fl {n : Int} (h : n.natAbs < 2 ^ 53) : floatToIntVal .f64 (fl n) .i64 = some n := by
  unfold floatToIntVal
  rw [toInt_fl h]
  have h1 : IntKind.i64.min = -9223372036854775808 := rfl
  have h2 : IntKind.i64.max = 9223372036854775807 := rfl
  simp only [h1, h2]
  rw [if_pos (by omega)]
theorem tmod_rs (n : Int) : (n.tmod 65521 < 0 → n.tmod 65521 + 65521 = rs n) ∧ (¬ n.tmod 65521 < 0 → n.tmod 65521 = rs n) ∧ -65521 < n.tmod 65521 ∧ n.tmod 65521 < 65521 := by
  have h1 : n.tmod 65521 < 65521 := Int.tmod_lt_of_pos _ (by decide)
  have h2 : -65521 < n.tmod 65521 := by have := Int.tmod_lt_of_pos (-n) (show (0:Int) < 65521 by decide); rw [Int.neg_tmod] at this; omega
  have h3 := Int.mul_tdiv_add_tmod n 65521
  unfold rs
  exact ⟨by omega, by omega, h2, h1⟩
set_option maxRecDepth 100000 in
set_option maxHeartbeats 400000 in
theorem part_fl (n : Int) (w : World) (h : n.natAbs < 2 ^ 53) :
    Calls Tryd.prog 37 #[.float .f64 (fl n)] w fun e w' => e = .returned (.float .f64 (fl (rs n))) ∧ w = w' := by
  have kc : ∀ w, (convert 57 2 (.float .f64 (fl n))).run Tryd.prog w = .ok (.int .i64 n) w := fun w => run_convert_float_int w _ _ _ _ _ _ (by rw [Tryd.underlying57]; rfl) Tryd.underlying2 (toIntVal_fl h)
  have kf : ∀ n, floatOfInt .f64 n = fl n := fun _ => rfl
  obtain ⟨t1, t2, t3, t4⟩ := tmod_rs n
  obtain ⟨m, hm⟩ : ∃ m, n.tmod 65521 = m := ⟨_, rfl⟩
  rw [hm] at t1 t2 t3 t4
  have T1 := Lib.hid t1
  have T2 := Lib.hid t2
  clear t1 t2
  by_cases hlt : m < 0
  · have hlt' : decide (m < 0) = true := by simpa using hlt
    go_enter Tryd.func37, Tryd.ntmps37
    go_wp2_with fail
    go_ret
    rw [T1.out hlt]
    exact ⟨rfl, rfl⟩
  · have hlt' : decide (m < 0) = false := by simpa using hlt
    go_enter Tryd.func37, Tryd.ntmps37
    go_wp2_with fail
    go_ret
    rw [T2.out hlt]
    exact ⟨rfl, rfl⟩
def modB (x y : Nat) : Bool := wholeB x 14055734437023318016 4832362400168542208 && wholeB y 14055734437023318016 4832362400168542208
set_option maxRecDepth 100000 in
set_option maxHeartbeats 400000 in
theorem mod_no (x y : Nat) (w : World) (h : modB x y = false) :
    Calls Tryd.prog 25 #[.complex .f64 x y] w fun e w' => e = .returned (cr 0 0) ∧ w = w' := by
  unfold modB at h
  obtain ⟨p, hp⟩ : ∃ p, wholeB x 14055734437023318016 4832362400168542208 = p := ⟨_, rfl⟩
  obtain ⟨q, hq⟩ : ∃ q, wholeB y 14055734437023318016 4832362400168542208 = q := ⟨_, rfl⟩
  have HP := Lib.hid hp
  have HQ := Lib.hid hq
  rw [hp, hq] at h
  clear hp hq
  have hz : cr 0 0 = .complex .f64 0 0 := by unfold cr cz; rw [show rs 0 = 0 from rfl, fl_zero]
  have HZ := Lib.hid hz
  clear hz
  cases p
  · clear h
    go_enter Tryd.func25, Tryd.ntmps25
    go_wp2_with (go_at_call 36; refine (whole_any _ _ _ _).mono ?_; (first | rw [HP.out] | rw [HQ.out]); rintro e' w' ⟨rfl, rfl⟩)
    go_ret
    rw [HZ.out]
    exact ⟨rfl, rfl⟩
  · simp only [Bool.true_and] at h
    subst h
    go_enter Tryd.func25, Tryd.ntmps25
    go_wp2_with (go_at_call 36; refine (whole_any _ _ _ _).mono ?_; (first | rw [HP.out] | rw [HQ.out]); rintro e' w' ⟨rfl, rfl⟩)
    go_ret
    rw [HZ.out]
    exact ⟨rfl, rfl⟩
theorem modB_fl {a b : Int} (ha : a.natAbs < 2 ^ 53) (hb : b.natAbs < 2 ^ 53) : modB (fl a) (fl b) = (decide (-1125899906842624 ≤ a ∧ a ≤ 1125899906842624) && decide (-1125899906842624 ≤ b ∧ b ≤ 1125899906842624)) := by
  unfold modB
  rw [← flm50, ← fl50, whole_fl ha (by decide) (by decide), whole_fl hb (by decide) (by decide)]
set_option maxRecDepth 100000 in
set_option maxHeartbeats 400000 in
theorem mod_yes (a b : Int) (w : World) (ha : -1125899906842624 ≤ a ∧ a ≤ 1125899906842624) (hb : -1125899906842624 ≤ b ∧ b ≤ 1125899906842624) :
    Calls Tryd.prog 25 #[cz a b] w fun e w' => e = .returned (cr a b) ∧ w = w' := by
  have ha' : a.natAbs < 2 ^ 53 := by omega
  have hb' : b.natAbs < 2 ^ 53 := by omega
  have h1 : wholeB (fl a) 14055734437023318016 4832362400168542208 = true := by rw [← flm50, ← fl50, whole_fl ha' (by decide) (by decide)]; exact decide_eq_true ha
  have h2 : wholeB (fl b) 14055734437023318016 4832362400168542208 = true := by rw [← flm50, ← fl50, whole_fl hb' (by decide) (by decide)]; exact decide_eq_true hb
  have H1 := Lib.hid h1
  have H2 := Lib.hid h2
  have HA := Lib.hid ha'
  have HB := Lib.hid hb'
  clear h1 h2 ha hb ha' hb'
  unfold cz
  go_enter Tryd.func25, Tryd.ntmps25
  go_wp2_with (first | (go_at_call 36; refine (whole_any _ _ _ _).mono ?_; (first | rw [H1.out] | rw [H2.out]); rintro e' w' ⟨rfl, rfl⟩) | (go_at_call 37; (first | (with_reducible refine (part_fl a _ HA.out).mono ?_) | (with_reducible refine (part_fl b _ HB.out).mono ?_)); rintro e' w' ⟨rfl, rfl⟩))
  go_ret
  exact ⟨rfl, rfl⟩
end Go.Proofs.YthbbfdlacclccaaDoor
namespace Go.Proofs.YthbbfdlacclccaaDoor
open Go.RowKit

/-! the ring: pairs of whole numbers, alike modulo 65521 -/
abbrev ZP := Int × Int
def Same (p q : ZP) : Prop := rs p.1 = rs q.1 ∧ rs p.2 = rs q.2
def cadd (p q : ZP) : ZP := (p.1 + q.1, p.2 + q.2)
def cmul (p q : ZP) : ZP := (p.1 * q.1 - p.2 * q.2, p.1 * q.2 + p.2 * q.1)
def cpow (p : ZP) : Nat → ZP
  | 0 => (1, 0)
  | n + 1 => cmul (cpow p n) p
theorem Same.refl (p : ZP) : Same p p := ⟨rfl, rfl⟩
theorem Same.symm {p q : ZP} (h : Same p q) : Same q p := ⟨h.1.symm, h.2.symm⟩
theorem Same.trans {p q r : ZP} (h : Same p q) (g : Same q r) : Same p r := ⟨h.1.trans g.1, h.2.trans g.2⟩
theorem rs_add {a b c d : Int} (h : rs a = rs b) (g : rs c = rs d) : rs (a + c) = rs (b + d) := by
  unfold rs at *; rw [Int.add_emod, h, g, ← Int.add_emod]
theorem rs_sub {a b c d : Int} (h : rs a = rs b) (g : rs c = rs d) : rs (a - c) = rs (b - d) := by
  unfold rs at *; rw [Int.sub_emod, h, g, ← Int.sub_emod]
theorem rs_mul {a b c d : Int} (h : rs a = rs b) (g : rs c = rs d) : rs (a * c) = rs (b * d) := by
  unfold rs at *; rw [Int.mul_emod, h, g, ← Int.mul_emod]
theorem Same.add {p q r s : ZP} (h : Same p q) (g : Same r s) : Same (cadd p r) (cadd q s) := ⟨rs_add h.1 g.1, rs_add h.2 g.2⟩
theorem Same.mul {p q r s : ZP} (h : Same p q) (g : Same r s) : Same (cmul p r) (cmul q s) :=
  ⟨rs_sub (rs_mul h.1 g.1) (rs_mul h.2 g.2), rs_add (rs_mul h.1 g.2) (rs_mul h.2 g.1)⟩
theorem cmul_assoc (p q r : ZP) : cmul (cmul p q) r = cmul p (cmul q r) := by
  unfold cmul; apply Prod.ext <;> grind
theorem cmul_comm (p q : ZP) : cmul p q = cmul q p := by
  unfold cmul; apply Prod.ext <;> grind
theorem cmul_add (p q r : ZP) : cmul p (cadd q r) = cadd (cmul p q) (cmul p r) := by
  unfold cmul cadd; apply Prod.ext <;> grind
theorem cadd_comm (p q : ZP) : cadd p q = cadd q p := by
  unfold cadd; apply Prod.ext <;> grind
theorem cmul_one (p : ZP) : cmul p (1, 0) = p := by
  unfold cmul; apply Prod.ext <;> grind
theorem one_cmul (p : ZP) : cmul (1, 0) p = p := by
  unfold cmul; apply Prod.ext <;> grind
theorem cpow_add (p : ZP) (m n : Nat) : cpow p (m + n) = cmul (cpow p m) (cpow p n) := by
  induction n with
  | zero => rw [Nat.add_zero]; exact (cmul_one _).symm
  | succ n ih => rw [← Nat.add_assoc]; show cmul (cpow p (m + n)) p = _; rw [ih, cmul_assoc]; rfl
theorem Same.pow {p q : ZP} (h : Same p q) (n : Nat) : Same (cpow p n) (cpow q n) := by
  induction n with
  | zero => exact Same.refl _
  | succ n ih => exact ih.mul h
theorem cpow_sq (p : ZP) (n : Nat) : cpow (cmul p p) n = cpow p (2 * n) := by
  induction n with
  | zero => rfl
  | succ n ih =>
    show cmul (cpow (cmul p p) n) (cmul p p) = _
    rw [ih, show 2 * (n + 1) = 2 * n + 1 + 1 from by omega]
    show _ = cmul (cmul (cpow p (2 * n)) p) p
    rw [cmul_assoc]
/-- A residue as a complex128. -/
def cv (p : ZP) : Value := cr p.1 p.2
theorem cv_same {p q : ZP} (h : Same p q) : cv p = cv q := cr_eq h.1 h.2
theorem cv_eq (p : ZP) : cv p = .complex .f64 (fl (rs p.1)) (fl (rs p.2)) := rfl

theorem sum_fl {a b c d : Int} (ha : a.natAbs < 2 ^ 53) (hb : b.natAbs < 2 ^ 53) (hc : c.natAbs < 2 ^ 53) (hd : d.natAbs < 2 ^ 53) (h1 : (a + c).natAbs < 2 ^ 53) (h2 : (b + d).natAbs < 2 ^ 53) :
    cSumBits .add .f64 (fl a) (fl b) (fl c) (fl d) = some (fl (a + c), fl (b + d)) := by
  unfold cSumBits floatBits
  have e1 : FloatKind.f64.format.add (fl a) (fl c) = some (fl (a + c)) := add_fl ha hc h1
  have e2 : FloatKind.f64.format.add (fl b) (fl d) = some (fl (b + d)) := add_fl hb hd h2
  simp only [e1, e2]; rfl
theorem prod_fl {a b c d : Int} (ha : 0 ≤ a ∧ a < 65521) (hb : 0 ≤ b ∧ b < 65521) (hc : 0 ≤ c ∧ c < 65521) (hd : 0 ≤ d ∧ d < 65521) :
    cMulBits (fl a) (fl b) (fl c) (fl d) = some (fl (a * c - b * d), fl (a * d + b * c)) ∧ (-1125899906842624 ≤ a * c - b * d ∧ a * c - b * d ≤ 1125899906842624) ∧ (-1125899906842624 ≤ a * d + b * c ∧ a * d + b * c ≤ 1125899906842624) := by
  have bd : ∀ x y : Int, (0 ≤ x ∧ x < 65521) → (0 ≤ y ∧ y < 65521) → 0 ≤ x * y ∧ x * y ≤ 4293001441 := fun x y hx hy =>
    ⟨Int.mul_nonneg hx.1 hy.1, by
      have := Int.mul_le_mul (show x ≤ 65521 by omega) (show y ≤ 65521 by omega) hy.1 (by decide)
      omega⟩
  have h1 := bd a c ha hc
  have h2 := bd b d hb hd
  have h3 := bd a d ha hd
  have h4 := bd b c hb hc
  refine ⟨?_, by omega, by omega⟩
  have e1 : FloatKind.f64.format.mul (fl a) (fl c) = some (fl (a * c)) := mul_fl ha.1 hc.1 (by omega) (by omega) (by omega)
  have e2 : FloatKind.f64.format.mul (fl b) (fl d) = some (fl (b * d)) := mul_fl hb.1 hd.1 (by omega) (by omega) (by omega)
  have e3 : FloatKind.f64.format.mul (fl a) (fl d) = some (fl (a * d)) := mul_fl ha.1 hd.1 (by omega) (by omega) (by omega)
  have e4 : FloatKind.f64.format.mul (fl b) (fl c) = some (fl (b * c)) := mul_fl hb.1 hc.1 (by omega) (by omega) (by omega)
  have e5 : FloatKind.f64.format.sub (fl (a * c)) (fl (b * d)) = some (fl (a * c - b * d)) := sub_fl (by omega) (by omega) (by omega)
  have e6 : FloatKind.f64.format.add (fl (a * d)) (fl (b * c)) = some (fl (a * d + b * c)) := add_fl (by omega) (by omega) (by omega)
  unfold cMulBits floatBits
  simp only [e1, e2, e3, e4, Option.bind_some, e5, e6]
theorem same_rs (p : ZP) : Same (rs p.1, rs p.2) p := ⟨rs_rs _, rs_rs _⟩
theorem may_cv (p : ZP) (w : World) : Calls Tryd.prog 24 #[cv p] w fun e w' => e = .returned (.bool true) ∧ w = w' := may_cr p.1 p.2 w
theorem zero_cv : Value.complex .f64 0 0 = cv (0, 0) := by
  have e : fl (rs 0) = 0 := by decide
  show _ = Value.complex .f64 (fl (rs 0)) (fl (rs 0))
  rw [e]
set_option maxRecDepth 100000 in
set_option maxHeartbeats 400000 in
theorem add_cv (p q : ZP) (w : World) :
    Calls Tryd.prog 38 #[cv p, cv q] w fun e w' => e = .returned (cv (cadd p q)) ∧ w = w' := by
  have b1 := rs_bd p.1
  have b2 := rs_bd p.2
  have b3 := rs_bd q.1
  have b4 := rs_bd q.2
  have ks : ∀ w, (binOp .add 42 (cv p) (cv q)).run Tryd.prog w = .ok (cz (rs p.1 + rs q.1) (rs p.2 + rs q.2)) w := fun w => run_complex_sum w .add (Or.inl rfl) _ _ _ _ _ _ _ _ (sum_fl (by omega) (by omega) (by omega) (by omega) (by omega) (by omega))
  have HE := Lib.hid (cv_same (((same_rs p).add (same_rs q))))
  go_enter Tryd.func38, Tryd.ntmps38
  go_wp2_with (first | (go_at_call 24; refine (may_cv _ _).mono ?_; rintro e' w' ⟨rfl, rfl⟩) | (go_at_call 25; refine (mod_yes _ _ _ (by omega) (by omega)).mono ?_; rintro e' w' ⟨rfl, rfl⟩))
  go_ret
  exact ⟨by rw [← HE.out]; rfl, rfl⟩
set_option maxRecDepth 100000 in
set_option maxHeartbeats 400000 in
theorem mul_cv (p q : ZP) (w : World) :
    Calls Tryd.prog 14 #[cv p, cv q] w fun e w' => e = .returned (cv (cmul p q)) ∧ w = w' := by
  obtain ⟨hp, h1, h2⟩ := prod_fl (rs_bd p.1) (rs_bd p.2) (rs_bd q.1) (rs_bd q.2)
  have ks : ∀ w, (binOp .mul 42 (cv p) (cv q)).run Tryd.prog w = .ok (cz (rs p.1 * rs q.1 - rs p.2 * rs q.2) (rs p.1 * rs q.2 + rs p.2 * rs q.1)) w := fun w => run_complex_mul w _ _ _ _ _ _ _ hp
  have HE := Lib.hid (cv_same (((same_rs p).mul (same_rs q))))
  clear hp
  have H1 := Lib.hid h1
  have H2 := Lib.hid h2
  clear h1 h2
  go_enter Tryd.func14, Tryd.ntmps14
  go_wp2_with (first | (go_at_call 24; refine (may_cv _ _).mono ?_; rintro e' w' ⟨rfl, rfl⟩) | (go_at_call 25; refine (mod_yes _ _ _ H1.out H2.out).mono ?_; rintro e' w' ⟨rfl, rfl⟩))
  go_ret
  exact ⟨by rw [← HE.out]; rfl, rfl⟩
/-! what may not be -/
def mayN (x y : Nat) : Bool := wholeB x 0 4679237813814689792 && wholeB y 0 4679237813814689792
set_option maxRecDepth 100000 in
set_option maxHeartbeats 400000 in
theorem may_no (x y : Nat) (w : World) (h : mayN x y = false) : Calls Tryd.prog 24 #[.complex .f64 x y] w fun e w' => e = .returned (.bool false) ∧ w = w' :=
  (may_bits x y w).mono fun _ _ ⟨h1, h2⟩ => ⟨by rw [h1]; unfold mayN at h; rw [h], h2⟩
set_option maxRecDepth 100000 in
set_option maxHeartbeats 400000 in
theorem add_no (p : ZP) (x y : Nat) (w : World) (h : mayN x y = false) :
    Calls Tryd.prog 38 #[cv p, .complex .f64 x y] w fun e w' => e = .returned (cv (0, 0)) ∧ w = w' := by
  have H := Lib.hid h
  clear h
  rw [← zero_cv]
  go_enter Tryd.func38, Tryd.ntmps38
  go_wp2_with (go_at_call 24; (first | (with_reducible refine (may_cv _ _).mono ?_) | (with_reducible refine (may_no _ _ _ H.out).mono ?_)); rintro e' w' ⟨rfl, rfl⟩)
  go_ret
  exact ⟨rfl, rfl⟩
set_option maxRecDepth 100000 in
set_option maxHeartbeats 400000 in
theorem mul_no (p : ZP) (x y : Nat) (w : World) (h : mayN x y = false) :
    Calls Tryd.prog 14 #[.complex .f64 x y, cv p] w fun e w' => e = .returned (cv (0, 0)) ∧ w = w' := by
  have H := Lib.hid h
  clear h
  rw [← zero_cv]
  go_enter Tryd.func14, Tryd.ntmps14
  go_wp2_with (go_at_call 24; (first | (with_reducible refine (may_cv _ _).mono ?_) | (with_reducible refine (may_no _ _ _ H.out).mono ?_)); rintro e' w' ⟨rfl, rfl⟩)
  go_ret
  exact ⟨rfl, rfl⟩
theorem i64_and1 (n : Int) : bits .and .i64 n 1 = n % 2 := by
  have h1 : (BitVec.ofInt 64 n &&& BitVec.ofInt 64 1).toNat = (BitVec.ofInt 64 n).toNat % 2 ^ 1 := by
    rw [BitVec.toNat_and, show (BitVec.ofInt 64 1).toNat = 2 ^ 1 - 1 by decide, Nat.and_two_pow_sub_one_eq_mod]
  have h2 := BitVec.toNat_ofInt (n := 64) (i := n)
  show IntKind.i64.wrap ((BitVec.ofInt 64 n &&& BitVec.ofInt 64 1).toNat : Nat) = _
  rw [h1, h2, IntKind.wrap_i64]
  omega
theorem one_cv : Value.complex .f64 4607182418800017408 0 = cv (1, 0) := by
  have e0 : fl (rs 0) = 0 := by decide
  have e1 : fl (rs 1) = 4607182418800017408 := by decide
  show _ = Value.complex .f64 (fl (rs 1)) (fl (rs 0))
  rw [e0, e1]
end Go.Proofs.YthbbfdlacclccaaDoor
namespace Go.Proofs.YthbbfdlacclccaaDoor
open Ieee Go.RowKit

theorem cutE (neg : Bool) (n d : Nat) (h : d ≤ n.log2 + 2) : n / 2 ^ d ≤ Toward.even.cut neg n d ∧ Toward.even.cut neg n d ≤ n / 2 ^ d + 1 := by
  unfold Toward.cut
  have e : (1 <<< min d (n.log2 + 2)) = 2 ^ d := by rw [Nat.min_eq_left h, Nat.shiftLeft_eq, Nat.one_mul]
  simp only [e]
  exact ⟨Nat.le_add_right _ _, Nat.add_le_add_left (Bool.toNat_le _) _⟩
theorem read_big (neg : Bool) {m : Nat} (h : 2 ^ 53 ≤ m) (h63 : m ≤ 2 ^ 63) : ∃ r k : Nat, 2 ^ 52 ≤ r ∧ 1 ≤ k ∧ double.read (double.nearest neg m 0) = .number neg r (k : Int) := by
  have hb := log2_bd (m := m) (by omega)
  have h1 : 53 ≤ m.log2 := (Nat.le_log2 (by omega)).2 h
  have h2 : m.log2 < 64 := (Nat.log2_lt (by omega)).2 (by omega)
  obtain ⟨d, hd⟩ : ∃ d, m.log2 = d + 52 := ⟨m.log2 - 52, by omega⟩
  unfold Format.nearest
  rw [if_neg (by omega)]
  have hlast : max ((0 : Int) + (m.log2 : Int) - (double.fractionBits : Int)) double.leastPlace = d := by
    simp only [double, Format.leastPlace]; omega
  simp only [hlast]
  have e1 : ((0 : Int) - (d : Int)).toNat = 0 := by omega
  have e2 : ((d : Int) - 0).toNat = d := by omega
  have e3 : ((d : Int) - double.leastPlace).toNat = d + 1074 := by simp only [double, Format.leastPlace]; omega
  rw [e1, e2, e3, Nat.shiftLeft_zero]
  have hc := cutE neg m d (by omega)
  have q1 : 2 ^ 52 ≤ m / 2 ^ d := (Nat.le_div_iff_mul_le (Nat.pow_pos (by decide))).2 (by rw [← Nat.pow_add, Nat.add_comm, ← hd]; exact hb.1)
  have q2 : m / 2 ^ d < 2 ^ 53 := (Nat.div_lt_iff_lt_mul (Nat.pow_pos (by decide))).2 (by rw [← Nat.pow_add]; have := hb.2; rwa [hd, show d + 52 + 1 = 53 + d by omega] at this)
  obtain ⟨c, hcc⟩ : ∃ c, Toward.even.cut neg m d = c := ⟨_, rfl⟩
  rw [hcc] at hc ⊢
  have hbin : double.binade = 2 ^ 52 := rfl
  have hinf : double.infRung = 2047 * 2 ^ 52 := rfl
  rw [hbin, Nat.min_eq_left (by rw [hinf]; omega)]
  by_cases hlt : c < 2 ^ 53
  · refine ⟨c, d, by omega, by omega, ?_⟩
    rw [read_rung neg (d + 1074) c (by omega) (by omega) hlt, show ((d + 1074 : Nat) : Int) - 1074 = (d : Int) by omega]
  · obtain rfl : c = 2 ^ 53 := by omega
    refine ⟨2 ^ 52, d + 1, by omega, by omega, ?_⟩
    rw [show (d + 1074) * 2 ^ 52 + 2 ^ 53 = (d + 1075) * 2 ^ 52 + 2 ^ 52 by omega, read_rung neg (d + 1075) (2 ^ 52) (by omega) (by omega) (by omega), show ((d + 1075 : Nat) : Int) - 1074 = ((d + 1 : Nat) : Int) by omega]
theorem order_big (s : Bool) (r k : Nat) (hr : 2 ^ 52 ≤ r) (hk : 1 ≤ k) : (Datum.number s r (k : Int)).order (.number s (2 ^ 52) (-2)) = some (if s then .lt else .gt) := by
  simp only [Datum.order]
  have e0 : min (k : Int) (-2) = -2 := by omega
  rw [e0]
  have e1 : ((k : Int) - -2).toNat = k + 2 := by omega
  have e2 : ((-2 : Int) - -2).toNat = 0 := by omega
  rw [e1, e2, signed_fl, signed_fl]
  have hp : (8 : Int) ≤ 2 ^ (k + 2) := by
    have : 2 ^ 3 ≤ 2 ^ (k + 2) := Nat.pow_le_pow_right (by decide) (by omega)
    have h2 : ((2 ^ (k + 2) : Nat) : Int) = (2 : Int) ^ (k + 2) := by simp
    omega
  have c52 : ((2 ^ 52 : Nat) : Int) = 4503599627370496 := by decide
  have hm : (4503599627370496 : Int) * 8 ≤ (r : Int) * 2 ^ (k + 2) := Int.mul_le_mul (by omega) hp (by decide) (by omega)
  obtain ⟨x, hx⟩ : ∃ x, (r : Int) * 2 ^ (k + 2) = x := ⟨_, rfl⟩
  rw [hx] at hm
  cases s
  · simp only [Bool.false_eq_true, if_false]
    rw [hx]
    have h : compare x (((2 ^ 52 : Nat) : Int) * 2 ^ 0) = .gt := Int.compare_eq_gt.2 (by rw [c52, Int.pow_zero]; omega)
    rw [h]
  · simp only [if_true]
    rw [Int.neg_mul, hx]
    have h : compare (-x) (-((2 ^ 52 : Nat) : Int) * 2 ^ 0) = .lt := Int.compare_eq_lt.2 (by rw [c52, Int.pow_zero]; omega)
    rw [h]
theorem big_out {n : Int} (h : 2 ^ 50 < n.natAbs) (h63 : n.natAbs ≤ 2 ^ 63) : wholeB (fl n) 14055734437023318016 4832362400168542208 = false := by
  by_cases h53 : n.natAbs < 2 ^ 53
  · rw [← flm50, ← fl50, whole_fl h53 (by decide) (by decide)]
    exact decide_eq_false (by omega)
  · obtain ⟨r, k, hr, hk, hd⟩ := read_big (decide (n < 0)) (m := n.natAbs) (by omega) h63
    rw [← fl_eq] at hd
    have ho := order_big (decide (n < 0)) r k hr hk
    unfold wholeB
    by_cases hn : n < 0
    · have e : geB (fl n) 14055734437023318016 = false := by
        unfold geB
        have : FloatKind.f64.format.order (fl n) 14055734437023318016 = some .lt := by
          show (double.read (fl n)).order (double.read 14055734437023318016) = _
          rw [hd, ← flm50, read_fl (n := -1125899906842624) (by decide) (by decide)]
          rw [decide_eq_true hn] at ho ⊢
          exact ho
        rw [this]; rfl
      rw [e]; simp
    · have e : leB (fl n) 4832362400168542208 = false := by
        unfold leB
        have : FloatKind.f64.format.order (fl n) 4832362400168542208 = some .gt := by
          show (double.read (fl n)).order (double.read 4832362400168542208) = _
          rw [hd, ← fl50, read_fl (n := 1125899906842624) (by decide) (by decide)]
          rw [decide_eq_false hn] at ho ⊢
          exact ho
        rw [this]; rfl
      rw [e]; simp
/-! a half more -/
theorem fl_half : double.read 4602678819172646912 = .number false (2 ^ 52) (-53) := by decide
/-- The word of N / 2. -/
def hf (N : Int) : Nat := double.nearest (decide (N < 0)) N.natAbs (-1)
theorem add_half {a : Int} (ha : a.natAbs < 2 ^ 50) : double.add (fl a) 4602678819172646912 = some (hf (2 * a + 1)) := by
  obtain ⟨s, m, d, h1, hd, v1, z1, n1⟩ := datum_fl (n := a) (by omega)
  unfold Format.add
  rw [h1, fl_half]
  simp only [Datum.sum, Option.map_some]
  obtain ⟨D, hD⟩ : ∃ D, max d 53 = D + 1 := ⟨max d 53 - 1, by omega⟩
  have e0 : min (-(d : Int)) (-53) = -((D + 1 : Nat) : Int) := by omega
  rw [e0]
  have e1 : (-(d : Int) - -((D + 1 : Nat) : Int)).toNat = (D + 1) - d := by omega
  have e2 : ((-53 : Int) - -((D + 1 : Nat) : Int)).toNat = D - 52 := by omega
  rw [e1, e2, v1 (D + 1) (by omega), signed_fl]
  have e3 : (a * 2 ^ (D + 1) + (if (false = true) then -((2 ^ 52 : Nat) : Int) else ((2 ^ 52 : Nat) : Int)) * 2 ^ (D - 52)) = (2 * a + 1) * 2 ^ D := by
    have : (2 : Int) ^ D = 2 ^ 52 * 2 ^ (D - 52) := by rw [← Int.pow_add]; congr 1; omega
    rw [Int.pow_succ, Int.add_mul, this]
    simp only [Bool.false_eq_true, if_false]
    have : ((2 ^ 52 : Nat) : Int) = 2 ^ 52 := by decide
    rw [this, Int.one_mul, Int.mul_comm 2 a, Int.mul_assoc a 2]
    congr 2
    rw [Int.mul_comm]
  rw [e3]
  congr 1
  have hp := pow_pos_int D
  have hne : ¬ (2 * a + 1) * 2 ^ D = 0 := by
    intro e
    rcases Int.mul_eq_zero.1 e with e | e <;> omega
  rw [if_neg hne]
  have hs : decide ((2 * a + 1) * 2 ^ D < 0) = decide (2 * a + 1 < 0) := by
    have : (2 * a + 1) * 2 ^ D < 0 * 2 ^ D ↔ 2 * a + 1 < 0 := Int.mul_lt_mul_right hp
    rw [Int.zero_mul] at this
    simp only [this]
  have hm : ((2 * a + 1) * 2 ^ D).natAbs = (2 * a + 1).natAbs <<< D := by
    rw [Int.natAbs_mul, Nat.shiftLeft_eq, Int.natAbs_pow]; rfl
  simp only [Format.write]
  rw [hs, hm]
  have := nearest_shift (decide (2 * a + 1 < 0)) D (-1) (m := (2 * a + 1).natAbs) (by omega) (by omega) (by decide)
  rw [show (-1 : Int) - (D : Int) = -((D + 1 : Nat) : Int) by omega] at this
  exact this
theorem half_not {a : Int} (ha : a.natAbs < 2 ^ 50) : eqF (hf (2 * a + 1)) (truncB (hf (2 * a + 1))) = false := by
  obtain ⟨N, hN⟩ : ∃ N, 2 * a + 1 = N := ⟨_, rfl⟩
  rw [hN]
  have h0 : 1 ≤ N.natAbs := by omega
  have h53 : N.natAbs < 2 ^ 53 := by omega
  have hm := mag_bd h0 h53
  have hr := read_nearest (decide (N < 0)) (-1) h0 h53 (by decide) (by decide)
  obtain ⟨L, hL⟩ : ∃ L, N.natAbs.log2 = L := ⟨_, rfl⟩
  rw [hL] at hr hm
  have hr' : double.read (hf N) = .number (decide (N < 0)) (mag N.natAbs) (-((53 - L : Nat) : Int)) := by
    unfold hf; rw [hr]; congr 1; omega
  have ht : truncB (hf N) = double.nearest (decide (N < 0)) (N.natAbs / 2) 0 := by
    unfold truncB
    rw [hr']
    simp only [Datum.integral, Format.write]
    have e1 : (-((53 - L : Nat) : Int)).toNat = 0 := by omega
    have e2 : (- -((53 - L : Nat) : Int)).toNat = 53 - L := by omega
    rw [e1, e2, Nat.shiftLeft_zero]
    have hl : (mag N.natAbs).log2 = 52 := by unfold mag; rw [log2_shift _ _ h0, hL]; omega
    rw [cutz _ _ _ (by rw [hl]; omega)]
    congr 1
    unfold mag
    rw [hL, Nat.shiftLeft_eq, show 53 - L = (52 - L) + 1 by omega, Nat.pow_succ, Nat.mul_comm _ 2, Nat.mul_comm 2, ← Nat.div_div_eq_div_mul, Nat.mul_div_cancel _ (Nat.pow_pos (by decide))]
  have hv : double.read (truncB (hf N)) = double.read (fl (N.tdiv 2)) ∨ N.natAbs / 2 = 0 := by
    by_cases h2 : N.natAbs / 2 = 0
    · exact Or.inr h2
    · left
      rw [ht, fl_eq]
      have e1 : (N.tdiv 2).natAbs = N.natAbs / 2 := by rw [Int.natAbs_tdiv]; rfl
      have e2 : decide (N.tdiv 2 < 0) = decide (N < 0) := by
        have : N.tdiv 2 < 0 ↔ N < 0 := by
          have q := Int.mul_tdiv_add_tmod N 2
          have q1 := Int.tmod_lt_of_pos N (b := 2) (by decide)
          have q2 := Int.lt_tmod_of_pos N (b := 2) (by decide)
          have q3 : (N.tdiv 2).natAbs = N.natAbs / 2 := by rw [Int.natAbs_tdiv]; rfl
          omega
        simp only [this]
      rw [e1, e2]
  unfold eqF
  have key : FloatKind.f64.format.order (hf N) (truncB (hf N)) ≠ some .eq := by
    show (double.read (hf N)).order (double.read (truncB (hf N))) ≠ _
    have sN : ∀ D : Nat, 53 - L ≤ D + 1 → signed (decide (N < 0)) (mag N.natAbs) (D + 1 - (53 - L)) = N * 2 ^ D := fun D hD => by
      rw [signed_fl]
      unfold mag
      rw [hL, Nat.shiftLeft_eq]
      have e := nat_int N
      have hpw : ((N.natAbs * 2 ^ (52 - L) : Nat) : Int) * 2 ^ (D + 1 - (53 - L)) = (N.natAbs : Int) * 2 ^ D := by
        rw [Int.natCast_mul, Int.natCast_pow, Int.mul_assoc, show ((2 : Nat) : Int) = 2 from rfl, ← Int.pow_add]
        congr 2; omega
      by_cases hn : N < 0
      · rw [if_pos (by simpa using hn)] at e ⊢
        rw [Int.neg_mul, hpw, ← Int.neg_mul, e]
      · rw [if_neg (by simpa using hn)] at e ⊢
        rw [hpw, e]
    rcases hv with hv | hv
    · rw [hv, hr']
      obtain ⟨t, n, d2, h2, hd2, v2, _, _⟩ := datum_fl (n := N.tdiv 2) (by rw [Int.natAbs_tdiv]; show N.natAbs / 2 < _; omega)
      rw [h2]
      simp only [Datum.order]
      obtain ⟨D, hD⟩ : ∃ D, max (53 - L) d2 = D + 1 := ⟨max (53 - L) d2 - 1, by omega⟩
      rw [min_places, hD, place_toNat _ _ (by omega), place_toNat _ _ (by omega), v2 _ (by omega), sN _ (by omega)]
      intro h
      have h := Option.some.inj h
      have h := Int.compare_eq_eq.1 h
      rw [Int.pow_succ, Int.mul_comm (2 ^ D) 2, ← Int.mul_assoc] at h
      have h := (Int.mul_eq_mul_right_iff (by have := pow_pos_int D; omega)).1 h
      omega
    · rw [ht, hv, hr']
      have e0 : double.read (double.nearest (decide (N < 0)) 0 0) = .number (decide (N < 0)) 0 (-1074) := by
        cases decide (N < 0) <;> decide
      rw [e0]
      simp only [Datum.order]
      have e1 : min (-((53 - L : Nat) : Int)) (-1074) = -((1073 + 1 : Nat) : Int) := by omega
      rw [e1, place_toNat _ _ (by omega), sN _ (by omega), signed_fl]
      intro h
      have h := Option.some.inj h
      have h := Int.compare_eq_eq.1 h
      have hp := pow_pos_int 1073
      have h0 : N * 2 ^ 1073 = 0 := by rw [h]; simp
      rcases Int.mul_eq_zero.1 h0 with e | e
      · omega
      · omega
  cases ho : FloatKind.f64.format.order (hf N) (truncB (hf N)) with
  | none => rfl
  | some o => cases o <;> first | rfl | exact absurd ho key
theorem half_whole {a : Int} (ha : a.natAbs < 2 ^ 50) (x y : Nat) : wholeB (hf (2 * a + 1)) x y = false := by
  unfold wholeB; rw [half_not ha]; simp
end Go.Proofs.YthbbfdlacclccaaDoor
namespace Go.Proofs.YthbbfdlacclccaaDoor
open Go.RowKit

def cstep (p : ZP) (b : UInt8) : ZP := cadd (cmul p (3, 5)) ((b.toNat : Int) + 1, 0)
/-- A mark taken on over bytes. -/
def con (p : ZP) (l : List UInt8) : ZP := l.foldl cstep p
theorem con_append (p : ZP) (l k : List UInt8) : con p (l ++ k) = con (con p l) k := by unfold con; rw [List.foldl_append]
theorem con_snoc (p : ZP) (l : List UInt8) (b : UInt8) : con p (l ++ [b]) = cstep (con p l) b := by rw [con_append]; rfl
theorem Same.step {p q : ZP} (h : Same p q) (b : UInt8) : Same (cstep p b) (cstep q b) := (h.mul (Same.refl _)).add (Same.refl _)
theorem Same.con {p q : ZP} (h : Same p q) (l : List UInt8) : Same (con p l) (con q l) := by
  induction l generalizing p q with
  | nil => exact h
  | cons b t ih => exact ih (h.step b)
theorem step_cv : Value.complex .f64 4613937818241073152 4617315517961601024 = cv (3, 5) := by
  have e0 : fl (rs 3) = 4613937818241073152 := by decide
  have e1 : fl (rs 5) = 4617315517961601024 := by decide
  show _ = Value.complex .f64 (fl (rs 3)) (fl (rs 5))
  rw [e0, e1]
theorem byte_cv (b : UInt8) : Value.complex .f64 (fl ((b.toNat : Int) + 1)) 0 = cv ((b.toNat : Int) + 1, 0) := by
  have hb := b.toNat_lt
  have e0 : fl (rs 0) = 0 := by decide
  have e1 : rs ((b.toNat : Int) + 1) = (b.toNat : Int) + 1 := rs_of (by omega) (by omega)
  show _ = Value.complex .f64 (fl (rs ((b.toNat : Int) + 1))) (fl (rs 0))
  rw [e0, e1]
theorem byte_sum (b : UInt8) (t : TypeId) (w : World) : (binOp .add t (.float .f64 (fl (b.toNat : Int))) (.float .f64 4607182418800017408)).run Tryd.prog w = .ok (.float .f64 (fl ((b.toNat : Int) + 1))) w := by
  have hb := b.toNat_lt
  refine run_float_arith w .add t .f64 _ _ _ ?_
  rw [← show fl 1 = 4607182418800017408 by decide]
  exact add_fl (by omega) (by decide) (by omega)
theorem cells_byte {l : List UInt8} {k : Nat} (h : k < l.length) : (Lib.byteCells l)[k]? = some (.int .u8 ((l[k]).toNat : Int)) := by
  unfold Lib.byteCells; simp [h]
theorem take_next {α : Type} (l : List α) (k : Nat) (h : k < l.length) : l.take (k + 1) = l.take k ++ [l[k]] := by
  rw [List.take_succ_eq_append_getElem h]
set_option maxRecDepth 100000 in
set_option maxHeartbeats 800000 in
theorem on_cv (p : ZP) (a : Option Addr) (c : Nat) (l : List UInt8) (w : World) (hl : l.length ≤ 9223372036854775807) (hz : RowAt w a (Lib.byteCells l)) :
    Calls Tryd.prog 26 #[cv p, .slice a l.length c] w fun e w' => e = .returned (cv (con p l)) ∧ w = w' := by
  have hS := Lib.hid step_cv
  have kf : ∀ n, floatOfInt .f64 n = fl n := fun _ => rfl
  go_enter Tryd.func26, Tryd.ntmps26
  go_wp2_with (go_at_call 24; refine (may_cv _ _).mono ?_; rintro e' w' ⟨rfl, rfl⟩)
  go_loop [0, 12] (fun z i => ∃ (k : Nat), k ≤ l.length ∧ i = .int .i64 k ∧ z = cv (con p (l.take k))) (fun _ i => l.length - (intOf i).toNat)
  case atStart => exact ⟨0, Nat.zero_le _, rfl, rfl⟩
  case round =>
    obtain ⟨k, hk, rfl, rfl⟩ := hrel
    by_cases hlt : k < l.length
    · rcases hz with h | ⟨b, off, rfl, -, hc⟩
      · unfold Lib.byteCells at h; simp at h; subst h; simp at hlt
      have hcell := hc k _ (cells_byte hlt)
      have hsum := byte_sum l[k]
      have HC := Lib.hid (byte_cv l[k])
      have HN := Lib.hid (take_next l k hlt)
      clear hc
      go_wp2_with (first | (go_at_call 14; rw [hS.out]; refine (mul_cv _ _ _).mono ?_; rintro e' w' ⟨rfl, rfl⟩) | (go_at_call 38; rw [HC.out]; refine (add_cv _ _ _).mono ?_; rintro e' w' ⟨rfl, rfl⟩))
      go_round
      case rel => exact ⟨k + 1, by omega, by go_num, by rw [HN.out, con_snoc]; rfl⟩
      case measure => simp [intOf]; omega
    · have hk' : k = l.length := by omega
      have HV := Lib.hid (show con p (l.take k) = con p l by rw [hk', List.take_length])
      clear hk'
      go_wp2_with fail
      go_ret
      rw [HV.out]
      exact ⟨rfl, rfl⟩
set_option maxRecDepth 100000 in
set_option maxHeartbeats 400000 in
theorem on_no (x y : Nat) (v : Value) (w : World) (h : mayN x y = false) :
    Calls Tryd.prog 26 #[.complex .f64 x y, v] w fun e w' => e = .returned (cv (0, 0)) ∧ w = w' := by
  have H := Lib.hid h
  clear h
  rw [← zero_cv]
  go_enter Tryd.func26, Tryd.ntmps26
  go_wp2_with (go_at_call 24; (first | (with_reducible refine (may_no _ _ _ H.out).mono ?_)); rintro e' w' ⟨rfl, rfl⟩)
  go_ret
  exact ⟨rfl, rfl⟩
theorem mark0_cv : Value.complex .f64 0 4607182418800017408 = cv (0, 1) := by
  have e0 : fl (rs 0) = 0 := by decide
  have e1 : fl (rs 1) = 4607182418800017408 := by decide
  show _ = Value.complex .f64 (fl (rs 0)) (fl (rs 1))
  rw [e0, e1]
/-- The mark of bytes. -/
def cmark (l : List UInt8) : ZP := con (0, 1) l
set_option maxRecDepth 100000 in
set_option maxHeartbeats 400000 in
theorem mark_cv (a : Option Addr) (c : Nat) (l : List UInt8) (w : World) (hl : l.length ≤ 9223372036854775807) (hz : RowAt w a (Lib.byteCells l)) :
    Calls Tryd.prog 17 #[.slice a l.length c] w fun e w' => e = .returned (cv (cmark l)) ∧ w = w' := by
  have H := Lib.hid mark0_cv
  go_enter Tryd.func17, Tryd.ntmps17
  go_wp2_with (go_at_call 26; rw [H.out]; refine (on_cv _ _ _ _ _ hl hz).mono ?_; rintro e' w' ⟨rfl, rfl⟩)
  go_ret
  exact ⟨rfl, rfl⟩
end Go.Proofs.YthbbfdlacclccaaDoor
namespace Go.Proofs.YthbbfdlacclccaaDoor
open Go.RowKit

/-- The inverse of the step. -/
def inv35 : ZP := (63594, 25052)
theorem inv35_law : Same (cmul (3, 5) inv35) (1, 0) := by unfold Same; decide +kernel
theorem same35 {p q : ZP} (h : Same (cmul p (3, 5)) (cmul q (3, 5))) : Same p q := by
  have e : ∀ p : ZP, Same (cmul (cmul p (3, 5)) inv35) p := fun p => by
    rw [cmul_assoc]
    have := (Same.refl p).mul inv35_law
    rwa [cmul_one] at this
  exact ((e p).symm.trans (h.mul (Same.refl _))).trans (e q)
theorem rs_cancel {a b c : Int} (h : rs (a + c) = rs (b + c)) : rs a = rs b := by
  have := rs_sub h (show rs c = rs c from rfl)
  rwa [Int.add_sub_cancel, Int.add_sub_cancel] at this
theorem same_cancel {p q r : ZP} (h : Same (cadd p r) (cadd q r)) : Same p q := ⟨rs_cancel h.1, rs_cancel h.2⟩
theorem con_inj {p q : ZP} (l : List UInt8) (h : Same (con p l) (con q l)) : Same p q := by
  induction l generalizing p q with
  | nil => exact h
  | cons b t ih => exact same35 (same_cancel (ih h))
theorem byte_bd (b : UInt8) : 0 ≤ (b.toNat : Int) ∧ (b.toNat : Int) < 256 := by have := b.toNat_lt; omega
theorem rs_near {a x y : Int} (h : rs (a + x) = rs (a + y)) (hx : 0 ≤ x ∧ x < 65521) (hy : 0 ≤ y ∧ y < 65521) : x = y := by
  have h2 : rs x = rs y := by
    rw [Int.add_comm a x, Int.add_comm a y] at h
    exact rs_cancel h
  rwa [rs_of hx.1 hx.2, rs_of hy.1 hy.2] at h2
theorem step_inj {p : ZP} {x y : UInt8} (h : Same (cstep p x) (cstep p y)) : x = y := by
  have h1 : rs ((cmul p (3, 5)).1 + ((x.toNat : Int) + 1)) = rs ((cmul p (3, 5)).1 + ((y.toNat : Int) + 1)) := h.1
  have bx := byte_bd x
  have bz := byte_bd y
  have := rs_near h1 (by omega) (by omega)
  exact UInt8.toNat.inj (by omega)
theorem swap_inj {p : ZP} {x y : UInt8} (h : Same (cstep (cstep p x) y) (cstep (cstep p y) x)) : x = y := by
  have h1 : rs (((cmul p (3, 5)).1 + ((x.toNat : Int) + 1)) * 5 + ((cmul p (3, 5)).2 + 0) * 3 + 0) = rs (((cmul p (3, 5)).1 + ((y.toNat : Int) + 1)) * 5 + ((cmul p (3, 5)).2 + 0) * 3 + 0) := h.2
  generalize (cmul p (3, 5)).1 = A at h1
  generalize (cmul p (3, 5)).2 = B at h1
  have bx := byte_bd x
  have bz := byte_bd y
  have h2 : rs ((A * 5 + B * 3) + (((x.toNat : Int) + 1) * 5)) = rs ((A * 5 + B * 3) + (((y.toNat : Int) + 1) * 5)) := by
    rw [show (A * 5 + B * 3) + (((x.toNat : Int) + 1) * 5) = (A + ((x.toNat : Int) + 1)) * 5 + (B + 0) * 3 + 0 by omega, show (A * 5 + B * 3) + (((y.toNat : Int) + 1) * 5) = (A + ((y.toNat : Int) + 1)) * 5 + (B + 0) * 3 + 0 by omega]
    exact h1
  have := rs_near h2 (by omega) (by omega)
  exact UInt8.toNat.inj (by omega)
/-- One byte another. -/
theorem cmark_set (l : List UInt8) (k : Nat) (hk : k < l.length) (y : UInt8) : Same (cmark (l.set k y)) (cmark l) ↔ y = l[k] := by
  constructor
  · intro h
    have e1 : l.set k y = l.take k ++ y :: l.drop (k + 1) := List.set_eq_take_append_cons_drop ▸ by rw [if_pos hk]
    have e2 : l = l.take k ++ l[k] :: l.drop (k + 1) := by rw [List.getElem_cons_drop, List.take_append_drop]
    unfold cmark at h
    rw [e1] at h
    rw [show con (0, 1) l = con (0, 1) (l.take k ++ l[k] :: l.drop (k + 1)) from congrArg _ e2, con_append, con_append] at h
    exact step_inj (con_inj _ h)
  · rintro rfl
    rw [List.set_getElem_self]; exact Same.refl _
/-- Two neighbours exchanged. -/
theorem cmark_swap (u t : List UInt8) (x y : UInt8) : Same (cmark (u ++ y :: x :: t)) (cmark (u ++ x :: y :: t)) ↔ x = y := by
  constructor
  · intro h
    unfold cmark at h
    rw [con_append, con_append] at h
    exact (swap_inj (con_inj t h)).symm
  · rintro rfl; exact Same.refl _
theorem cmark_zeros : ∀ n : Fin 41, ¬ Same (cmark (List.replicate n.val 0)) (cmark (List.replicate (n.val + 1) 0)) := by
  unfold Same; decide +kernel
end Go.Proofs.YthbbfdlacclccaaDoor
