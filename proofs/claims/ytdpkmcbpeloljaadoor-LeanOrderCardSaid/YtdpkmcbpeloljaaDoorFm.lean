/- Plain facts on float64's words of whole numbers. -/
import Derived.Test.YtdpkmcbpeloljaaDoorFl
namespace Go.Proofs.YtdpkmcbpeloljaaDoor
open Ieee

/-- The word of a whole number, field by field. -/
theorem fl_form {n : Int} (h : n ≠ 0) (h53 : n.natAbs < 2 ^ 53) : ∃ r : Nat, r < 2 ^ 52 ∧ fl n = (if n < 0 then 2 ^ 63 else 0) + ((n.natAbs.log2 + 1023) * 2 ^ 52 + r) ∧ r % 2 ^ (52 - n.natAbs.log2) = 0 ∧ n.natAbs.log2 ≤ 52 := by
  have hm := mag_bd (m := n.natAbs) (by omega) h53
  have hl := hm.1
  refine ⟨mag n.natAbs - 2 ^ 52, by omega, ?_, ?_, hl⟩
  · rw [fl_eq, nearest_exact _ 0 (by omega) h53 (by decide)]
    have e : ((0 : Int) + (n.natAbs.log2 : Int) + 1022).toNat = n.natAbs.log2 + 1022 := by omega
    have hi : double.infRung = 2047 * 2 ^ 52 := rfl
    rw [e, hi]
    have hlt : (n.natAbs.log2 + 1022) * 2 ^ 52 + mag n.natAbs < 2047 * 2 ^ 52 := by
      have : (n.natAbs.log2 + 1024) * 2 ^ 52 ≤ 1076 * 2 ^ 52 := Nat.mul_le_mul_right _ (by omega)
      omega
    rw [Nat.min_eq_left (by omega)]
    unfold Format.word
    have hs : double.signWeight = 2 ^ 63 := rfl
    rw [hs]
    by_cases hn : n < 0
    · rw [if_pos (by simpa using hn), if_pos hn]; omega
    · rw [if_neg (by simpa using hn), if_neg hn]; omega
  · have h1 : mag n.natAbs % 2 ^ (52 - n.natAbs.log2) = 0 := by
      unfold mag; rw [Nat.shiftLeft_eq, Nat.mul_mod_left]
    have h2 : 2 ^ 52 % 2 ^ (52 - n.natAbs.log2) = 0 := by
      rw [show 2 ^ 52 = 2 ^ n.natAbs.log2 * 2 ^ (52 - n.natAbs.log2) from by rw [← Nat.pow_add]; congr 1; omega, Nat.mul_mod_left]
    have hd1 := Nat.dvd_of_mod_eq_zero h1
    have hd2 := Nat.dvd_of_mod_eq_zero h2
    exact Nat.mod_eq_zero_of_dvd (Nat.dvd_sub hd1 hd2)

theorem word_false (r : Nat) : double.word false r = r := by simp [Format.word]
theorem fl_lt {n : Int} (h53 : n.natAbs < 2 ^ 53) : fl n < 2 ^ 64 := by
  by_cases h : n = 0
  · subst h; rw [fl_zero]; decide
  · obtain ⟨r, hr, e, _, hl⟩ := fl_form h h53
    have : (n.natAbs.log2 + 1023) * 2 ^ 52 ≤ 1075 * 2 ^ 52 := Nat.mul_le_mul_right _ (by omega)
    rw [e]; split <;> omega
theorem fl_abs {n : Int} (h53 : n.natAbs < 2 ^ 53) : fl n % 2 ^ 63 = fl n.natAbs := by
  by_cases h : n = 0
  · subst h; decide
  · have e1 := nearest_exact (decide (n < 0)) 0 (m := n.natAbs) (by omega) h53 (by decide)
    have e2 := nearest_exact (decide ((n.natAbs : Int) < 0)) 0 (m := n.natAbs) (by omega) h53 (by decide)
    rw [fl_eq, fl_eq, e1, Int.natAbs_natCast, e2]
    have hf : decide ((n.natAbs : Int) < 0) = false := by simp
    rw [hf]
    have hi : double.infRung = 2047 * 2 ^ 52 := rfl
    have hb := wordSplit (decide (n < 0)) (min (((0 : Int) + (n.natAbs.log2 : Int) + 1022).toNat * 2 ^ 52 + mag n.natAbs) double.infRung) (by rw [hi]; omega)
    rw [hb.2, word_false]
theorem fl_field {n : Int} (h : n ≠ 0) (h53 : n.natAbs < 2 ^ 53) : fl n / 2 ^ 52 % 2048 = n.natAbs.log2 + 1023 := by
  obtain ⟨r, hr, e, _, hl⟩ := fl_form h h53
  rw [e]
  split
  · rw [show 2 ^ 63 + ((n.natAbs.log2 + 1023) * 2 ^ 52 + r) = r + (n.natAbs.log2 + 1023 + 2048) * 2 ^ 52 from by omega, Nat.add_mul_div_right _ _ (by decide), Nat.div_eq_of_lt hr]
    omega
  · rw [show 0 + ((n.natAbs.log2 + 1023) * 2 ^ 52 + r) = r + (n.natAbs.log2 + 1023) * 2 ^ 52 from by omega, Nat.add_mul_div_right _ _ (by decide), Nat.div_eq_of_lt hr]
    omega
theorem fl_low {n : Int} (h : n ≠ 0) (h53 : n.natAbs < 2 ^ 53) : fl n % 2 ^ (52 - n.natAbs.log2) = 0 := by
  obtain ⟨r, hr, e, hz, hl⟩ := fl_form h h53
  have hd : 2 ^ (52 - n.natAbs.log2) ∣ 2 ^ 52 := Nat.pow_dvd_pow _ (by omega)
  have hd63 : 2 ^ (52 - n.natAbs.log2) ∣ 2 ^ 63 := Nat.pow_dvd_pow _ (by omega)
  rw [e]
  refine Nat.mod_eq_zero_of_dvd ?_
  refine Nat.dvd_add ?_ (Nat.dvd_add (Nat.dvd_trans hd (Nat.dvd_mul_left _ _)) (Nat.dvd_of_mod_eq_zero hz))
  split
  · exact hd63
  · exact Nat.dvd_zero _

/-- Low bits that are nought are not missed. -/
theorem and_high {a k : Nat} (ha : a < 2 ^ 64) (hk : k ≤ 64) (h : a % 2 ^ k = 0) : a &&& (2 ^ 64 - 1 - (2 ^ k - 1)) = a := by
  have e : 2 ^ 64 - 1 - (2 ^ k - 1) = (2 ^ (64 - k) - 1) <<< k := by
    rw [Nat.shiftLeft_eq, Nat.sub_mul, Nat.one_mul, ← Nat.pow_add, show 64 - k + k = 64 from by omega]
    have : 1 ≤ 2 ^ k := Nat.pow_pos (by decide)
    omega
  rw [e]
  apply Nat.eq_of_testBit_eq
  intro i
  rw [Nat.testBit_and, Nat.testBit_shiftLeft, Nat.testBit_two_pow_sub_one]
  by_cases hi : k ≤ i
  · by_cases h64 : i < 64
    · have : i - k < 64 - k := by omega
      simp [hi, this]
    · have : a.testBit i = false := Nat.testBit_lt_two_pow (Nat.lt_of_lt_of_le ha (Nat.pow_le_pow_right (by decide) (by omega)))
      simp [this]
  · have : a.testBit i = false := by
      obtain ⟨q, rfl⟩ := Nat.dvd_of_mod_eq_zero h
      rw [Nat.mul_comm, ← Nat.shiftLeft_eq, Nat.testBit_shiftLeft]
      simp [hi]
    simp [this]

end Go.Proofs.YtdpkmcbpeloljaaDoor
