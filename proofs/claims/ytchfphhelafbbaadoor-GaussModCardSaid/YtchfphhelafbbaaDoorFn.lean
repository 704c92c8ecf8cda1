/- Float64: whole numbers beyond 2^50; whole numbers and a half. -/
import Derived.Test.YtchfphhelafbbaaDoorGd
namespace Go.Proofs.YtchfphhelafbbaaDoor
open Ieee Go.RowKit

theorem cutE (neg : Bool) (n d : Nat) (h : d ≤ n.log2 + 2) : n / 2 ^ d ≤ Toward.even.cut neg n d ∧ Toward.even.cut neg n d ≤ n / 2 ^ d + 1 := by
  unfold Toward.cut
  have e : (1 <<< min d (n.log2 + 2)) = 2 ^ d := by rw [Nat.min_eq_left h, Nat.shiftLeft_eq, Nat.one_mul]
  simp only [e]
  exact ⟨Nat.le_add_right _ _, Nat.add_le_add_left (Bool.toNat_le _) _⟩
theorem read_big (neg : Bool) {m : Nat} (h : 2 ^ 53 ≤ m) (h63 : m ≤ 2 ^ 63) : ∃ r k : Nat, 2 ^ 52 ≤ r ∧ 1 ≤ k ∧ double.read (double.nearest neg m 0) = .number neg r (k : Int) := by
  have hb := log2_bd (m := m) (by omega)
  have h1 : 53 ≤ m.log2 := (Nat.le_log2 (by omega)).2 h
  have h2 : m.log2 < 64 := (Nat.log2_lt (by omega)).2 (by omega)
  obtain ⟨d, hd⟩ : ∃ d, m.log2 = d + 52 := ⟨m.log2 - 52, by omega⟩
  unfold Format.nearest
  rw [if_neg (by omega)]
  have hlast : max ((0 : Int) + (m.log2 : Int) - (double.fractionBits : Int)) double.leastPlace = d := by
    simp only [double, Format.leastPlace]; omega
  simp only [hlast]
  have e1 : ((0 : Int) - (d : Int)).toNat = 0 := by omega
  have e2 : ((d : Int) - 0).toNat = d := by omega
  have e3 : ((d : Int) - double.leastPlace).toNat = d + 1074 := by simp only [double, Format.leastPlace]; omega
  rw [e1, e2, e3, Nat.shiftLeft_zero]
  have hc := cutE neg m d (by omega)
  have q1 : 2 ^ 52 ≤ m / 2 ^ d := (Nat.le_div_iff_mul_le (Nat.pow_pos (by decide))).2 (by rw [← Nat.pow_add, Nat.add_comm, ← hd]; exact hb.1)
  have q2 : m / 2 ^ d < 2 ^ 53 := (Nat.div_lt_iff_lt_mul (Nat.pow_pos (by decide))).2 (by rw [← Nat.pow_add]; have := hb.2; rwa [hd, show d + 52 + 1 = 53 + d by omega] at this)
  obtain ⟨c, hcc⟩ : ∃ c, Toward.even.cut neg m d = c := ⟨_, rfl⟩
  rw [hcc] at hc ⊢
  have hbin : double.binade = 2 ^ 52 := rfl
  have hinf : double.infRung = 2047 * 2 ^ 52 := rfl
  rw [hbin, Nat.min_eq_left (by rw [hinf]; omega)]
  by_cases hlt : c < 2 ^ 53
  · refine ⟨c, d, by omega, by omega, ?_⟩
    rw [read_rung neg (d + 1074) c (by omega) (by omega) hlt, show ((d + 1074 : Nat) : Int) - 1074 = (d : Int) by omega]
  · obtain rfl : c = 2 ^ 53 := by omega
    refine ⟨2 ^ 52, d + 1, by omega, by omega, ?_⟩
    rw [show (d + 1074) * 2 ^ 52 + 2 ^ 53 = (d + 1075) * 2 ^ 52 + 2 ^ 52 by omega, read_rung neg (d + 1075) (2 ^ 52) (by omega) (by omega) (by omega), show ((d + 1075 : Nat) : Int) - 1074 = ((d + 1 : Nat) : Int) by omega]
theorem order_big (s : Bool) (r k : Nat) (hr : 2 ^ 52 ≤ r) (hk : 1 ≤ k) : (Datum.number s r (k : Int)).order (.number s (2 ^ 52) (-2)) = some (if s then .lt else .gt) := by
  simp only [Datum.order]
  have e0 : min (k : Int) (-2) = -2 := by omega
  rw [e0]
  have e1 : ((k : Int) - -2).toNat = k + 2 := by omega
  have e2 : ((-2 : Int) - -2).toNat = 0 := by omega
  rw [e1, e2, signed_fl, signed_fl]
  have hp : (8 : Int) ≤ 2 ^ (k + 2) := by
    have : 2 ^ 3 ≤ 2 ^ (k + 2) := Nat.pow_le_pow_right (by decide) (by omega)
    have h2 : ((2 ^ (k + 2) : Nat) : Int) = (2 : Int) ^ (k + 2) := by simp
    omega
  have c52 : ((2 ^ 52 : Nat) : Int) = 4503599627370496 := by decide
  have hm : (4503599627370496 : Int) * 8 ≤ (r : Int) * 2 ^ (k + 2) := Int.mul_le_mul (by omega) hp (by decide) (by omega)
  obtain ⟨x, hx⟩ : ∃ x, (r : Int) * 2 ^ (k + 2) = x := ⟨_, rfl⟩
  rw [hx] at hm
  cases s
  · simp only [Bool.false_eq_true, if_false]
    rw [hx]
    have h : compare x (((2 ^ 52 : Nat) : Int) * 2 ^ 0) = .gt := Int.compare_eq_gt.2 (by rw [c52, Int.pow_zero]; omega)
    rw [h]
  · simp only [if_true]
    rw [Int.neg_mul, hx]
    have h : compare (-x) (-((2 ^ 52 : Nat) : Int) * 2 ^ 0) = .lt := Int.compare_eq_lt.2 (by rw [c52, Int.pow_zero]; omega)
    rw [h]
theorem big_out {n : Int} (h : 2 ^ 50 < n.natAbs) (h63 : n.natAbs ≤ 2 ^ 63) : wholeB (fl n) 14055734437023318016 4832362400168542208 = false := by
  by_cases h53 : n.natAbs < 2 ^ 53
  · rw [← flm50, ← fl50, whole_fl h53 (by decide) (by decide)]
    exact decide_eq_false (by omega)
  · obtain ⟨r, k, hr, hk, hd⟩ := read_big (decide (n < 0)) (m := n.natAbs) (by omega) h63
    rw [← fl_eq] at hd
    have ho := order_big (decide (n < 0)) r k hr hk
    unfold wholeB
    by_cases hn : n < 0
    · have e : geB (fl n) 14055734437023318016 = false := by
        unfold geB
        have : FloatKind.f64.format.order (fl n) 14055734437023318016 = some .lt := by
          show (double.read (fl n)).order (double.read 14055734437023318016) = _
          rw [hd, ← flm50, read_fl (n := -1125899906842624) (by decide) (by decide)]
          rw [decide_eq_true hn] at ho ⊢
          exact ho
        rw [this]; rfl
      rw [e]; simp
    · have e : leB (fl n) 4832362400168542208 = false := by
        unfold leB
        have : FloatKind.f64.format.order (fl n) 4832362400168542208 = some .gt := by
          show (double.read (fl n)).order (double.read 4832362400168542208) = _
          rw [hd, ← fl50, read_fl (n := 1125899906842624) (by decide) (by decide)]
          rw [decide_eq_false hn] at ho ⊢
          exact ho
        rw [this]; rfl
      rw [e]; simp
/-! a half more -/
theorem fl_half : double.read 4602678819172646912 = .number false (2 ^ 52) (-53) := by decide
/-- The word of N / 2. -/
def hf (N : Int) : Nat := double.nearest (decide (N < 0)) N.natAbs (-1)
theorem add_half {a : Int} (ha : a.natAbs < 2 ^ 50) : double.add (fl a) 4602678819172646912 = some (hf (2 * a + 1)) := by
  obtain ⟨s, m, d, h1, hd, v1, z1, n1⟩ := datum_fl (n := a) (by omega)
  unfold Format.add
  rw [h1, fl_half]
  simp only [Datum.sum, Option.map_some]
  obtain ⟨D, hD⟩ : ∃ D, max d 53 = D + 1 := ⟨max d 53 - 1, by omega⟩
  have e0 : min (-(d : Int)) (-53) = -((D + 1 : Nat) : Int) := by omega
  rw [e0]
  have e1 : (-(d : Int) - -((D + 1 : Nat) : Int)).toNat = (D + 1) - d := by omega
  have e2 : ((-53 : Int) - -((D + 1 : Nat) : Int)).toNat = D - 52 := by omega
  rw [e1, e2, v1 (D + 1) (by omega), signed_fl]
  have e3 : (a * 2 ^ (D + 1) + (if (false = true) then -((2 ^ 52 : Nat) : Int) else ((2 ^ 52 : Nat) : Int)) * 2 ^ (D - 52)) = (2 * a + 1) * 2 ^ D := by
    have : (2 : Int) ^ D = 2 ^ 52 * 2 ^ (D - 52) := by rw [← Int.pow_add]; congr 1; omega
    rw [Int.pow_succ, Int.add_mul, this]
    simp only [Bool.false_eq_true, if_false]
    have : ((2 ^ 52 : Nat) : Int) = 2 ^ 52 := by decide
    rw [this, Int.one_mul, Int.mul_comm 2 a, Int.mul_assoc a 2]
    congr 2
    rw [Int.mul_comm]
  rw [e3]
  congr 1
  have hp := pow_pos_int D
  have hne : ¬ (2 * a + 1) * 2 ^ D = 0 := by
    intro e
    rcases Int.mul_eq_zero.1 e with e | e <;> omega
  rw [if_neg hne]
  have hs : decide ((2 * a + 1) * 2 ^ D < 0) = decide (2 * a + 1 < 0) := by
    have : (2 * a + 1) * 2 ^ D < 0 * 2 ^ D ↔ 2 * a + 1 < 0 := Int.mul_lt_mul_right hp
    rw [Int.zero_mul] at this
    simp only [this]
  have hm : ((2 * a + 1) * 2 ^ D).natAbs = (2 * a + 1).natAbs <<< D := by
    rw [Int.natAbs_mul, Nat.shiftLeft_eq, Int.natAbs_pow]; rfl
  simp only [Format.write]
  rw [hs, hm]
  have := nearest_shift (decide (2 * a + 1 < 0)) D (-1) (m := (2 * a + 1).natAbs) (by omega) (by omega) (by decide)
  rw [show (-1 : Int) - (D : Int) = -((D + 1 : Nat) : Int) by omega] at this
  exact this
theorem half_not {a : Int} (ha : a.natAbs < 2 ^ 50) : eqF (hf (2 * a + 1)) (truncB (hf (2 * a + 1))) = false := by
  obtain ⟨N, hN⟩ : ∃ N, 2 * a + 1 = N := ⟨_, rfl⟩
  rw [hN]
  have h0 : 1 ≤ N.natAbs := by omega
  have h53 : N.natAbs < 2 ^ 53 := by omega
  have hm := mag_bd h0 h53
  have hr := read_nearest (decide (N < 0)) (-1) h0 h53 (by decide) (by decide)
  obtain ⟨L, hL⟩ : ∃ L, N.natAbs.log2 = L := ⟨_, rfl⟩
  rw [hL] at hr hm
  have hr' : double.read (hf N) = .number (decide (N < 0)) (mag N.natAbs) (-((53 - L : Nat) : Int)) := by
    unfold hf; rw [hr]; congr 1; omega
  have ht : truncB (hf N) = double.nearest (decide (N < 0)) (N.natAbs / 2) 0 := by
    unfold truncB
    rw [hr']
    simp only [Datum.integral, Format.write]
    have e1 : (-((53 - L : Nat) : Int)).toNat = 0 := by omega
    have e2 : (- -((53 - L : Nat) : Int)).toNat = 53 - L := by omega
    rw [e1, e2, Nat.shiftLeft_zero]
    have hl : (mag N.natAbs).log2 = 52 := by unfold mag; rw [log2_shift _ _ h0, hL]; omega
    rw [cutz _ _ _ (by rw [hl]; omega)]
    congr 1
    unfold mag
    rw [hL, Nat.shiftLeft_eq, show 53 - L = (52 - L) + 1 by omega, Nat.pow_succ, Nat.mul_comm _ 2, Nat.mul_comm 2, ← Nat.div_div_eq_div_mul, Nat.mul_div_cancel _ (Nat.pow_pos (by decide))]
  have hv : double.read (truncB (hf N)) = double.read (fl (N.tdiv 2)) ∨ N.natAbs / 2 = 0 := by
    by_cases h2 : N.natAbs / 2 = 0
    · exact Or.inr h2
    · left
      rw [ht, fl_eq]
      have e1 : (N.tdiv 2).natAbs = N.natAbs / 2 := by rw [Int.natAbs_tdiv]; rfl
      have e2 : decide (N.tdiv 2 < 0) = decide (N < 0) := by
        have : N.tdiv 2 < 0 ↔ N < 0 := by
          have q := Int.mul_tdiv_add_tmod N 2
          have q1 := Int.tmod_lt_of_pos N (b := 2) (by decide)
          have q2 := Int.lt_tmod_of_pos N (b := 2) (by decide)
          have q3 : (N.tdiv 2).natAbs = N.natAbs / 2 := by rw [Int.natAbs_tdiv]; rfl
          omega
        simp only [this]
      rw [e1, e2]
  unfold eqF
  have key : FloatKind.f64.format.order (hf N) (truncB (hf N)) ≠ some .eq := by
    show (double.read (hf N)).order (double.read (truncB (hf N))) ≠ _
    have sN : ∀ D : Nat, 53 - L ≤ D + 1 → signed (decide (N < 0)) (mag N.natAbs) (D + 1 - (53 - L)) = N * 2 ^ D := fun D hD => by
      rw [signed_fl]
      unfold mag
      rw [hL, Nat.shiftLeft_eq]
      have e := nat_int N
      have hpw : ((N.natAbs * 2 ^ (52 - L) : Nat) : Int) * 2 ^ (D + 1 - (53 - L)) = (N.natAbs : Int) * 2 ^ D := by
        rw [Int.natCast_mul, Int.natCast_pow, Int.mul_assoc, show ((2 : Nat) : Int) = 2 from rfl, ← Int.pow_add]
        congr 2; omega
      by_cases hn : N < 0
      · rw [if_pos (by simpa using hn)] at e ⊢
        rw [Int.neg_mul, hpw, ← Int.neg_mul, e]
      · rw [if_neg (by simpa using hn)] at e ⊢
        rw [hpw, e]
    rcases hv with hv | hv
    · rw [hv, hr']
      obtain ⟨t, n, d2, h2, hd2, v2, _, _⟩ := datum_fl (n := N.tdiv 2) (by rw [Int.natAbs_tdiv]; show N.natAbs / 2 < _; omega)
      rw [h2]
      simp only [Datum.order]
      obtain ⟨D, hD⟩ : ∃ D, max (53 - L) d2 = D + 1 := ⟨max (53 - L) d2 - 1, by omega⟩
      rw [min_places, hD, place_toNat _ _ (by omega), place_toNat _ _ (by omega), v2 _ (by omega), sN _ (by omega)]
      intro h
      have h := Option.some.inj h
      have h := Int.compare_eq_eq.1 h
      rw [Int.pow_succ, Int.mul_comm (2 ^ D) 2, ← Int.mul_assoc] at h
      have h := (Int.mul_eq_mul_right_iff (by have := pow_pos_int D; omega)).1 h
      omega
    · rw [ht, hv, hr']
      have e0 : double.read (double.nearest (decide (N < 0)) 0 0) = .number (decide (N < 0)) 0 (-1074) := by
        cases decide (N < 0) <;> decide
      rw [e0]
      simp only [Datum.order]
      have e1 : min (-((53 - L : Nat) : Int)) (-1074) = -((1073 + 1 : Nat) : Int) := by omega
      rw [e1, place_toNat _ _ (by omega), sN _ (by omega), signed_fl]
      intro h
      have h := Option.some.inj h
      have h := Int.compare_eq_eq.1 h
      have hp := pow_pos_int 1073
      have h0 : N * 2 ^ 1073 = 0 := by rw [h]; simp
      rcases Int.mul_eq_zero.1 h0 with e | e
      · omega
      · omega
  cases ho : FloatKind.f64.format.order (hf N) (truncB (hf N)) with
  | none => rfl
  | some o => cases o <;> first | rfl | exact absurd ho key
theorem half_whole {a : Int} (ha : a.natAbs < 2 ^ 50) (x y : Nat) : wholeB (hf (2 * a + 1)) x y = false := by
  unfold wholeB; rw [half_not ha]; simp
end Go.Proofs.YtchfphhelafbbaaDoor
