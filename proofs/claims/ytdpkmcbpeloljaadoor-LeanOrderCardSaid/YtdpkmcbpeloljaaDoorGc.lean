/- Plain laws: gauss.whole on whole numbers; residues as float64s. -/
import Derived.Test.YtdpkmcbpeloljaaDoorGb
import Derived.Test.YtdpkmcbpeloljaaDoorFm
import Derived.Laws.ComplexArith
namespace Go.Proofs.YtdpkmcbpeloljaaDoor
open Go.RowKit Ieee

theorem ge_fl {a b : Int} (ha : a.natAbs < 2 ^ 53) (hb : b.natAbs < 2 ^ 53) : geB (fl a) (fl b) = decide (b ≤ a) := by
  unfold geB
  have h : FloatKind.f64.format.order (fl a) (fl b) = some (compare a b) := order_fl ha hb
  rw [h]
  rcases Int.lt_trichotomy a b with h | h | h
  · rw [Int.compare_eq_lt.2 h, decide_eq_false (by omega)]; rfl
  · rw [Int.compare_eq_eq.2 h, decide_eq_true (by omega)]; rfl
  · rw [Int.compare_eq_gt.2 h, decide_eq_true (by omega)]; rfl
theorem le_fl {a b : Int} (ha : a.natAbs < 2 ^ 53) (hb : b.natAbs < 2 ^ 53) : leB (fl a) (fl b) = decide (a ≤ b) := by
  unfold leB
  have h : FloatKind.f64.format.order (fl a) (fl b) = some (compare a b) := order_fl ha hb
  rw [h]
  rcases Int.lt_trichotomy a b with h | h | h
  · rw [Int.compare_eq_lt.2 h, decide_eq_true (by omega)]; rfl
  · rw [Int.compare_eq_eq.2 h, decide_eq_true (by omega)]; rfl
  · rw [Int.compare_eq_gt.2 h, decide_eq_false (by omega)]; rfl
theorem eq_fl {a b : Int} (ha : a.natAbs < 2 ^ 53) (hb : b.natAbs < 2 ^ 53) : eqF (fl a) (fl b) = decide (a = b) := by
  unfold eqF
  have h : FloatKind.f64.format.order (fl a) (fl b) = some (compare a b) := order_fl ha hb
  rw [h]
  rcases Int.lt_trichotomy a b with h | h | h
  · rw [Int.compare_eq_lt.2 h, decide_eq_false (by omega)]; rfl
  · rw [Int.compare_eq_eq.2 h, decide_eq_true (by omega)]; rfl
  · rw [Int.compare_eq_gt.2 h, decide_eq_false (by omega)]; rfl
theorem cutz (neg : Bool) (n d : Nat) (h : d ≤ n.log2 + 2) : Toward.zero.cut neg n d = n / 2 ^ d := by
  unfold Toward.cut
  have e : (1 <<< min d (n.log2 + 2)) = 2 ^ d := by rw [Nat.min_eq_left h, Nat.shiftLeft_eq, Nat.one_mul]
  simp [e]
theorem trunc_fl {n : Int} (h53 : n.natAbs < 2 ^ 53) : truncB (fl n) = fl n := by
  obtain ⟨s, m, d, h1, h2, _, h3, h4⟩ := datum_fl h53
  unfold truncB
  rw [h1]
  simp only [Datum.integral]
  have e1 : (-(d : Int)).toNat = 0 := by omega
  have e2 : (- -(d : Int)).toNat = d := by omega
  rw [e1, e2, Nat.shiftLeft_zero]
  by_cases h0 : n = 0
  · obtain ⟨rfl, rfl⟩ := h3 h0
    subst h0
    rw [fl_zero]
    have : Toward.zero.cut false 0 d = 0 := by unfold Toward.cut; simp
    rw [this]
    simp [Format.write, Format.nearest, Format.word]
  · obtain ⟨rfl, rfl, h5⟩ := h4 h0
    have hl := log2_shift n.natAbs d (by omega)
    rw [cutz _ _ _ (by rw [hl]; omega), Nat.shiftLeft_eq, Nat.mul_div_cancel _ (Nat.pow_pos (by decide))]
    rfl
theorem whole_fl {n a b : Int} (hn : n.natAbs < 2 ^ 53) (ha : a.natAbs < 2 ^ 53) (hb : b.natAbs < 2 ^ 53) : wholeB (fl n) (fl a) (fl b) = decide (a ≤ n ∧ n ≤ b) := by
  unfold wholeB
  rw [ge_fl hn ha, le_fl hn hb, trunc_fl hn, eq_fl hn hn, decide_eq_true (rfl : n = n), Bool.and_true]
  by_cases h1 : a ≤ n <;> by_cases h2 : n ≤ b <;> simp [h1, h2]
theorem toInt_fl {n : Int} (h53 : n.natAbs < 2 ^ 53) : (FloatKind.f64.decode (fl n)).toInt .zero = some n := by
  obtain ⟨s, m, d, h1, h2, _, h3, h4⟩ := datum_fl h53
  have e : FloatKind.f64.decode (fl n) = double.read (fl n) := rfl
  rw [e, h1]
  simp only [Datum.toInt, Datum.integral]
  have e1 : (-(d : Int)).toNat = 0 := by omega
  have e2 : (- -(d : Int)).toNat = d := by omega
  rw [e1, e2, Nat.shiftLeft_zero]
  by_cases h0 : n = 0
  · obtain ⟨rfl, rfl⟩ := h3 h0
    subst h0
    have : Toward.zero.cut false 0 d = 0 := by unfold Toward.cut; simp
    rw [this]; rfl
  · obtain ⟨rfl, rfl, h5⟩ := h4 h0
    have hl := log2_shift n.natAbs d (by omega)
    rw [cutz _ _ _ (by rw [hl]; omega), Nat.shiftLeft_eq, Nat.mul_div_cancel _ (Nat.pow_pos (by decide)), signed_fl]
    congr 1
    rw [Int.pow_zero, Int.mul_one]
    exact nat_int n

/-- The numbers modulo 65521, as float64s; pairs of them as complex128s. -/
def rs (u : Int) : Int := u % 65521
theorem rs_bd (u : Int) : 0 ≤ rs u ∧ rs u < 65521 := ⟨Int.emod_nonneg _ (by decide), Int.emod_lt_of_pos _ (by decide)⟩
theorem rs_rs (u : Int) : rs (rs u) = rs u := Int.emod_emod_of_dvd _ (Int.dvd_refl _)
theorem rs_of {u : Int} (h0 : 0 ≤ u) (h1 : u < 65521) : rs u = u := Int.emod_eq_of_lt h0 h1
/-- A complex number of two whole parts. -/
def cz (u v : Int) : Value := .complex .f64 (fl u) (fl v)
/-- A residue. -/
def cr (u v : Int) : Value := cz (rs u) (rs v)
theorem cr_eq {u v u' v' : Int} (h1 : rs u = rs u') (h2 : rs v = rs v') : cr u v = cr u' v' := by unfold cr; rw [h1, h2]
end Go.Proofs.YtdpkmcbpeloljaaDoor
