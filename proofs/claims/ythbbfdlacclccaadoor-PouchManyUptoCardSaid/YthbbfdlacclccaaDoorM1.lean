/- Plain facts on float64: whole numbers are exact. Plain facts on float64's words of whole numbers. -/
import GoSem.Core.Float
namespace Go.Proofs.YthbbfdlacclccaaDoor
open Ieee

theorem wordSplit (neg : Bool) (r : Nat) (h : r < 2 ^ 63) : (double.word neg r) / 2 ^ 63 % 2 = neg.toNat ∧ (double.word neg r) % 2 ^ 63 = r := by
  unfold Format.word Format.signWeight double
  cases neg
  · simp; omega
  · simp; omega

theorem cut0 (neg : Bool) (n : Nat) : Toward.even.cut neg n 0 = n := by
  unfold Toward.cut
  have h : (1 <<< min 0 (n.log2 + 2)) = 1 := by simp
  simp only [h, Nat.div_one, Nat.mod_one]
  simp

theorem log2_bd {m : Nat} (h : 1 ≤ m) : 2 ^ m.log2 ≤ m ∧ m < 2 ^ (m.log2 + 1) :=
  ⟨Nat.log2_self_le (by omega), Nat.lt_log2_self⟩

/-- The magnitude as the format keeps it. -/
def mag (m : Nat) : Nat := m <<< (52 - m.log2)
theorem mag_bd {m : Nat} (h : 1 ≤ m) (h53 : m < 2 ^ 53) : m.log2 ≤ 52 ∧ 2 ^ 52 ≤ mag m ∧ mag m < 2 ^ 53 := by
  have hb := log2_bd h
  have hl : m.log2 ≤ 52 := by
    refine Classical.byContradiction fun hn => ?_
    have : 2 ^ 53 ≤ 2 ^ m.log2 := Nat.pow_le_pow_right (by decide) (by omega)
    omega
  refine ⟨hl, ?_, ?_⟩
  · unfold mag
    rw [Nat.shiftLeft_eq]
    calc 2 ^ 52 = 2 ^ m.log2 * 2 ^ (52 - m.log2) := by rw [← Nat.pow_add]; congr 1; omega
      _ ≤ _ := Nat.mul_le_mul_right _ hb.1
  · unfold mag
    rw [Nat.shiftLeft_eq]
    calc m * 2 ^ (52 - m.log2) < 2 ^ (m.log2 + 1) * 2 ^ (52 - m.log2) := Nat.mul_lt_mul_of_pos_right hb.2 (Nat.pow_pos (by decide))
      _ = 2 ^ 53 := by rw [← Nat.pow_add]; congr 1; omega

/-- The word of a number that the format has. -/
theorem nearest_exact (neg : Bool) {m : Nat} (p : Int) (h : 1 ≤ m) (h53 : m < 2 ^ 53) (hp : -1000 ≤ p) :
    double.nearest neg m p = double.word neg (min ((p + m.log2 + 1022).toNat * 2 ^ 52 + mag m) double.infRung) := by
  have hm := mag_bd h h53
  unfold Format.nearest
  rw [if_neg (by omega)]
  have hlast : max (p + (m.log2 : Int) - (double.fractionBits : Int)) double.leastPlace = p + m.log2 - 52 := by
    simp only [double, Format.leastPlace]
    omega
  simp only [hlast]
  have e1 : (p - (p + (m.log2 : Int) - 52)).toNat = 52 - m.log2 := by omega
  have e2 : ((p + (m.log2 : Int) - 52) - p).toNat = 0 := by omega
  rw [e1, e2, cut0]
  have e3 : ((p + (m.log2 : Int) - 52) - double.leastPlace).toNat = (p + m.log2 + 1022).toNat := by
    simp only [double, Format.leastPlace]; omega
  rw [e3]
  rfl

theorem read_rung (neg : Bool) (k r : Nat) (hk : k + 2 ≤ 2047) (h1 : 2 ^ 52 ≤ r) (h2 : r < 2 ^ 53) :
    double.read (double.word neg (k * 2 ^ 52 + r)) = .number neg r ((k : Int) - 1074) := by
  have hlt : k * 2 ^ 52 + r < 2047 * 2 ^ 52 := by
    have : (k + 2) * 2 ^ 52 ≤ 2047 * 2 ^ 52 := Nat.mul_le_mul_right _ hk
    omega
  have hw := wordSplit neg (k * 2 ^ 52 + r) (by omega)
  unfold Format.read
  have hs : double.signWeight = 2 ^ 63 := rfl
  have hb : double.binade = 2 ^ 52 := rfl
  have hi : double.infRung = 2047 * 2 ^ 52 := rfl
  simp only [hs, hb, hi, hw.1, hw.2]
  rw [if_neg (by omega), if_pos hlt]
  have hd : (k * 2 ^ 52 + r) / 2 ^ 52 = k + 1 := by omega
  have hr : (k * 2 ^ 52 + r) % 2 ^ 52 = r - 2 ^ 52 := by omega
  rw [hd, hr]
  have hn : (neg.toNat == 1) = neg := by cases neg <;> rfl
  have e1 : 2 ^ 52 + (r - 2 ^ 52) = r := by omega
  have e2 : double.leastPlace + ((k + 1 - 1 : Nat) : Int) = (k : Int) - 1074 := by
    simp only [double, Format.leastPlace]
    omega
  rw [hn, e1, e2]

theorem read_nearest (neg : Bool) {m : Nat} (p : Int) (h : 1 ≤ m) (h53 : m < 2 ^ 53) (hp : -1000 ≤ p) (hq : p ≤ 900) :
    double.read (double.nearest neg m p) = .number neg (mag m) (p + m.log2 - 52) := by
  have hm := mag_bd h h53
  rw [nearest_exact neg p h h53 hp]
  have hlt : (p + (m.log2 : Int) + 1022).toNat * 2 ^ 52 + mag m < double.infRung := by
    have : ((p + (m.log2 : Int) + 1022).toNat + 2) * 2 ^ 52 ≤ 2047 * 2 ^ 52 := Nat.mul_le_mul_right _ (by omega)
    have hi : double.infRung = 2047 * 2 ^ 52 := rfl
    omega
  have e1 : (((p + (m.log2 : Int) + 1022).toNat : Nat) : Int) - 1074 = p + m.log2 - 52 := by omega
  rw [Nat.min_eq_left (by omega), read_rung neg _ _ (by omega) hm.2.1 hm.2.2, e1]

/-- Whole numbers as float64's words. -/
def fl (n : Int) : Nat := Go.FloatKind.f64.nearest n
theorem fl_eq (n : Int) : fl n = double.nearest (decide (n < 0)) n.natAbs 0 := rfl

/-- What a whole number's word stands for: 'n * 2 ^ d' at the place '-d'. -/
theorem read_fl {n : Int} (h : n ≠ 0) (h53 : n.natAbs < 2 ^ 53) : double.read (fl n) = .number (decide (n < 0)) (n.natAbs <<< (52 - n.natAbs.log2)) (-(52 - n.natAbs.log2 : Nat)) := by
  have hm := mag_bd (m := n.natAbs) (by omega) h53
  rw [fl_eq, read_nearest _ 0 (by omega) h53 (by decide) (by decide)]
  have e : (0 : Int) + (n.natAbs.log2 : Int) - 52 = -(52 - n.natAbs.log2 : Nat) := by omega
  rw [e]; rfl
theorem fl_zero : fl 0 = 0 := by decide
theorem read_zero : double.read 0 = .number false 0 (-1074) := by decide

theorem log2_shift (m d : Nat) (h : 1 ≤ m) : (m <<< d).log2 = m.log2 + d := by
  rw [Nat.shiftLeft_eq]
  have hb := log2_bd h
  have h2 : m * 2 ^ d ≠ 0 := by
    have := Nat.mul_pos h (Nat.pow_pos (n := d) (show 0 < 2 by decide)); omega
  rw [Nat.log2_eq_iff h2]
  constructor
  · rw [Nat.pow_add]; exact Nat.mul_le_mul_right _ hb.1
  · rw [show m.log2 + d + 1 = (m.log2 + 1) + d from by omega, Nat.pow_add]
    exact Nat.mul_lt_mul_of_pos_right hb.2 (Nat.pow_pos (by decide))

/-- The same number, written with more digits. -/
theorem nearest_shift (neg : Bool) {m : Nat} (d : Nat) (p : Int) (h : 1 ≤ m) (h53 : m < 2 ^ 53) (hp : -900 ≤ p) :
    double.nearest neg (m <<< d) (p - d) = double.nearest neg m p := by
  have hm := mag_bd h h53
  rw [nearest_exact neg p h h53 (by omega)]
  have h0 : ¬ (m <<< d) = 0 := by
    rw [Nat.shiftLeft_eq]
    have := Nat.mul_pos h (Nat.pow_pos (n := d) (show 0 < 2 by decide)); omega
  unfold Format.nearest
  rw [if_neg h0, log2_shift m d h]
  have hlast : max (p - (d : Int) + ((m.log2 + d : Nat) : Int) - (double.fractionBits : Int)) double.leastPlace = p + m.log2 - 52 := by
    simp only [double, Format.leastPlace]
    omega
  simp only [hlast]
  have e3 : ((p + (m.log2 : Int) - 52) - double.leastPlace).toNat = (p + m.log2 + 1022).toNat := by
    simp only [double, Format.leastPlace]; omega
  rw [e3]
  by_cases hd : d ≤ 52 - m.log2
  · have e1 : (p - (d : Int) - (p + (m.log2 : Int) - 52)).toNat = 52 - m.log2 - d := by omega
    have e2 : ((p + (m.log2 : Int) - 52) - (p - (d : Int))).toNat = 0 := by omega
    rw [e1, e2, cut0, ← Nat.shiftLeft_add, show d + (52 - m.log2 - d) = 52 - m.log2 from by omega]
    rfl
  · have e1 : (p - (d : Int) - (p + (m.log2 : Int) - 52)).toNat = 0 := by omega
    have e2 : ((p + (m.log2 : Int) - 52) - (p - (d : Int))).toNat = d - (52 - m.log2) := by omega
    rw [e1, e2, Nat.shiftLeft_zero]
    have e4 : Toward.even.cut neg (m <<< d) (d - (52 - m.log2)) = mag m := by
      have hl := log2_shift m d h
      have hmin : min (d - (52 - m.log2)) ((m <<< d).log2 + 2) = d - (52 - m.log2) := by rw [hl]; omega
      have hdec : m <<< d = mag m * 2 ^ (d - (52 - m.log2)) := by
        unfold mag
        rw [Nat.shiftLeft_eq, Nat.shiftLeft_eq, Nat.mul_assoc, ← Nat.pow_add, show 52 - m.log2 + (d - (52 - m.log2)) = d from by omega]
      have hpos : 0 < 2 ^ (d - (52 - m.log2)) := Nat.pow_pos (by decide)
      have hg : 1 <<< min (d - (52 - m.log2)) ((m <<< d).log2 + 2) = 2 ^ (d - (52 - m.log2)) := by rw [hmin, Nat.shiftLeft_eq, Nat.one_mul]
      unfold Toward.cut
      rw [hg, hdec]
      simp only [Nat.mul_div_cancel _ hpos, Nat.mul_mod_left]
      have hne : ¬ (2 ^ (d - (52 - m.log2)) = 0) := by omega
      simp
    rw [e4]
    rfl

theorem signed_fl (neg : Bool) (m up : Nat) : signed neg m up = (if neg then -(m : Int) else m) * 2 ^ up := by
  unfold signed
  rw [Nat.shiftLeft_eq]
  cases neg <;> simp [Int.natCast_mul, Int.natCast_pow, Int.neg_mul]
theorem nat_int (n : Int) : (if decide (n < 0) = true then -(n.natAbs : Int) else (n.natAbs : Int)) = n := by
  by_cases h : n < 0
  · rw [if_pos (by simpa using h)]; omega
  · rw [if_neg (by simpa using h)]; omega

/-- The datum of a whole number: its value at any place below. -/
theorem datum_fl {n : Int} (h53 : n.natAbs < 2 ^ 53) : ∃ (s : Bool) (m : Nat) (d : Nat), double.read (fl n) = .number s m (-(d : Int)) ∧ d ≤ 1074 ∧ (∀ D : Nat, d ≤ D → signed s m (D - d) = n * 2 ^ D) ∧ (n = 0 → m = 0 ∧ s = false) ∧ (n ≠ 0 → s = decide (n < 0) ∧ m = n.natAbs <<< d ∧ d ≤ 52) := by
  by_cases h : n = 0
  · subst h
    refine ⟨false, 0, 1074, by rw [fl_zero, read_zero]; rfl, by decide, fun D _ => ?_, fun _ => ⟨rfl, rfl⟩, fun h => absurd rfl h⟩
    rw [signed_fl]; simp
  · refine ⟨_, _, _, read_fl h h53, by omega, fun D hD => ?_, fun h' => absurd h' h, fun _ => ⟨rfl, rfl, by omega⟩⟩
    rw [signed_fl, Nat.shiftLeft_eq]
    have e := nat_int n
    by_cases hn : n < 0
    · rw [if_pos (by simpa using hn)] at e ⊢
      rw [Int.natCast_mul, ← Int.neg_mul, e, Int.natCast_pow, Int.mul_assoc]
      congr 1
      rw [show ((2 : Nat) : Int) = 2 from rfl, ← Int.pow_add]
      congr 1; omega
    · rw [if_neg (by simpa using hn)] at e ⊢
      rw [Int.natCast_mul, e, Int.natCast_pow, Int.mul_assoc]
      congr 1
      rw [show ((2 : Nat) : Int) = 2 from rfl, ← Int.pow_add]
      congr 1; omega

theorem place_toNat (d D : Nat) (h : d ≤ D) : (-(d : Int) - -(D : Int)).toNat = D - d := by omega
theorem min_places (d1 d2 : Nat) : min (-(d1 : Int)) (-(d2 : Int)) = -((max d1 d2 : Nat) : Int) := by omega
theorem pow_pos_int (D : Nat) : (0 : Int) < 2 ^ D := Int.pow_pos (by decide)

theorem order_fl {a b : Int} (ha : a.natAbs < 2 ^ 53) (hb : b.natAbs < 2 ^ 53) : double.order (fl a) (fl b) = some (compare a b) := by
  obtain ⟨s, m, d1, h1, _, v1, _, _⟩ := datum_fl ha
  obtain ⟨t, n, d2, h2, _, v2, _, _⟩ := datum_fl hb
  unfold Format.order
  rw [h1, h2]
  simp only [Datum.order]
  rw [min_places, place_toNat _ _ (Nat.le_max_left _ _), place_toNat _ _ (Nat.le_max_right _ _), v1 _ (Nat.le_max_left _ _), v2 _ (Nat.le_max_right _ _)]
  congr 1
  have hp := pow_pos_int (max d1 d2)
  have hlt : ∀ x y : Int, x * 2 ^ (max d1 d2) < y * 2 ^ (max d1 d2) ↔ x < y := fun x y => Int.mul_lt_mul_right hp
  have heq : ∀ x y : Int, x * 2 ^ (max d1 d2) = y * 2 ^ (max d1 d2) ↔ x = y := fun x y => Int.mul_eq_mul_right_iff (by omega)
  rcases Int.lt_trichotomy a b with h | h | h
  · rw [Int.compare_eq_lt.2 h, Int.compare_eq_lt.2 ((hlt _ _).2 h)]
  · rw [Int.compare_eq_eq.2 h, Int.compare_eq_eq.2 ((heq _ _).2 h)]
  · rw [Int.compare_eq_gt.2 h, Int.compare_eq_gt.2 ((hlt _ _).2 h)]

/-- A total, written. -/
theorem write_total {c : Int} (D : Nat) (z : Bool) (hc : c.natAbs < 2 ^ 53) (hz : c = 0 → z = false) :
    double.write (.number (if c * 2 ^ D = 0 then z else decide (c * 2 ^ D < 0)) (c * 2 ^ D).natAbs (-(D : Int))) = fl c := by
  have hp := pow_pos_int D
  simp only [Format.write]
  by_cases h : c = 0
  · subst h
    rw [hz rfl, fl_zero]
    simp [Format.nearest, Format.word]
  · have hne : ¬ c * 2 ^ D = 0 := by
      intro e
      rcases Int.mul_eq_zero.1 e with e | e
      · exact h e
      · omega
    rw [if_neg hne, fl_eq]
    have hs : decide (c * 2 ^ D < 0) = decide (c < 0) := by
      have : c * 2 ^ D < 0 * 2 ^ D ↔ c < 0 := Int.mul_lt_mul_right hp
      rw [Int.zero_mul] at this
      simp only [this]
    have hm : (c * 2 ^ D).natAbs = c.natAbs <<< D := by
      rw [Int.natAbs_mul, Nat.shiftLeft_eq, Int.natAbs_pow]; rfl
    rw [hs, hm]
    have := nearest_shift (decide (c < 0)) D 0 (m := c.natAbs) (by omega) hc (by decide)
    rw [Int.zero_sub] at this
    exact this

theorem add_fl {a b : Int} (ha : a.natAbs < 2 ^ 53) (hb : b.natAbs < 2 ^ 53) (hc : (a + b).natAbs < 2 ^ 53) : double.add (fl a) (fl b) = some (fl (a + b)) := by
  obtain ⟨s, m, d1, h1, _, v1, z1, n1⟩ := datum_fl ha
  obtain ⟨t, n, d2, h2, _, v2, z2, n2⟩ := datum_fl hb
  unfold Format.add
  rw [h1, h2]
  simp only [Datum.sum, Option.map_some]
  rw [min_places, place_toNat _ _ (Nat.le_max_left _ _), place_toNat _ _ (Nat.le_max_right _ _), v1 _ (Nat.le_max_left _ _), v2 _ (Nat.le_max_right _ _), ← Int.add_mul]
  congr 1
  refine write_total _ _ hc (fun h => ?_)
  by_cases ea : a = 0
  · rw [(z1 ea).2]; rfl
  · have eb : b ≠ 0 := by omega
    rw [(n1 ea).1, (n2 eb).1]
    by_cases hn : a < 0
    · simp; omega
    · simp; omega

theorem signed_not (t : Bool) (n up : Nat) : signed (!t) n up = - signed t n up := by
  unfold signed; cases t <;> simp

theorem sub_fl {a b : Int} (ha : a.natAbs < 2 ^ 53) (hb : b.natAbs < 2 ^ 53) (hc : (a - b).natAbs < 2 ^ 53) : double.sub (fl a) (fl b) = some (fl (a - b)) := by
  obtain ⟨s, m, d1, h1, _, v1, z1, n1⟩ := datum_fl ha
  obtain ⟨t, n, d2, h2, _, v2, z2, n2⟩ := datum_fl hb
  unfold Format.sub
  rw [h1, h2]
  simp only [Datum.opposite, Datum.sum, Option.map_some]
  rw [min_places, place_toNat _ _ (Nat.le_max_left _ _), place_toNat _ _ (Nat.le_max_right _ _), signed_not, v1 _ (Nat.le_max_left _ _), v2 _ (Nat.le_max_right _ _), ← Int.neg_mul, ← Int.add_mul, ← Int.sub_eq_add_neg]
  congr 1
  refine write_total _ _ hc (fun h => ?_)
  by_cases ea : a = 0
  · rw [(z1 ea).2]; rfl
  · have eb : b ≠ 0 := by omega
    rw [(n1 ea).1, (n2 eb).1]
    by_cases hn : a < 0
    · simp; omega
    · simp; omega

theorem mul_fl {a b : Int} (ha : 0 ≤ a) (hb : 0 ≤ b) (ha' : a.natAbs < 2 ^ 53) (hb' : b.natAbs < 2 ^ 53) (hc : (a * b).natAbs < 2 ^ 53) : double.mul (fl a) (fl b) = some (fl (a * b)) := by
  obtain ⟨s, m, d1, h1, _, v1, z1, n1⟩ := datum_fl ha'
  obtain ⟨t, n, d2, h2, _, v2, z2, n2⟩ := datum_fl hb'
  have hs : s = false := by
    by_cases e : a = 0
    · exact (z1 e).2
    · rw [(n1 e).1]; simp; omega
  have ht : t = false := by
    by_cases e : b = 0
    · exact (z2 e).2
    · rw [(n2 e).1]; simp; omega
  unfold Format.mul
  rw [h1, h2, hs, ht]
  simp only [Datum.product, Option.map_some, Format.write, Bool.xor_false]
  congr 1
  by_cases ea : a = 0
  · rw [(z1 ea).1, Nat.zero_mul, ea, Int.zero_mul, fl_zero]
    simp [Format.nearest, Format.word]
  · by_cases eb : b = 0
    · rw [(z2 eb).1, Nat.mul_zero, eb, Int.mul_zero, fl_zero]
      simp [Format.nearest, Format.word]
    · have hpos : 0 < a * b := Int.mul_pos (by omega) (by omega)
      rw [fl_eq, (n1 ea).2.1, (n2 eb).2.1]
      have e1 : a.natAbs <<< d1 * b.natAbs <<< d2 = (a * b).natAbs <<< (d1 + d2) := by
        rw [Nat.shiftLeft_eq, Nat.shiftLeft_eq, Nat.shiftLeft_eq, Int.natAbs_mul, Nat.pow_add]
        rw [Nat.mul_mul_mul_comm]
      have e2 : -(d1 : Int) + -(d2 : Int) = 0 - ((d1 + d2 : Nat) : Int) := by omega
      have e3 : decide (a * b < 0) = false := by simp; omega
      rw [e1, e2, e3]
      exact nearest_shift false (d1 + d2) 0 (m := (a * b).natAbs) (by omega) hc (by decide)

end Go.Proofs.YthbbfdlacclccaaDoor
namespace Go.Proofs.YthbbfdlacclccaaDoor
open Ieee

/-- The word of a whole number, field by field. -/
theorem fl_form {n : Int} (h : n ≠ 0) (h53 : n.natAbs < 2 ^ 53) : ∃ r : Nat, r < 2 ^ 52 ∧ fl n = (if n < 0 then 2 ^ 63 else 0) + ((n.natAbs.log2 + 1023) * 2 ^ 52 + r) ∧ r % 2 ^ (52 - n.natAbs.log2) = 0 ∧ n.natAbs.log2 ≤ 52 := by
  have hm := mag_bd (m := n.natAbs) (by omega) h53
  have hl := hm.1
  refine ⟨mag n.natAbs - 2 ^ 52, by omega, ?_, ?_, hl⟩
  · rw [fl_eq, nearest_exact _ 0 (by omega) h53 (by decide)]
    have e : ((0 : Int) + (n.natAbs.log2 : Int) + 1022).toNat = n.natAbs.log2 + 1022 := by omega
    have hi : double.infRung = 2047 * 2 ^ 52 := rfl
    rw [e, hi]
    have hlt : (n.natAbs.log2 + 1022) * 2 ^ 52 + mag n.natAbs < 2047 * 2 ^ 52 := by
      have : (n.natAbs.log2 + 1024) * 2 ^ 52 ≤ 1076 * 2 ^ 52 := Nat.mul_le_mul_right _ (by omega)
      omega
    rw [Nat.min_eq_left (by omega)]
    unfold Format.word
    have hs : double.signWeight = 2 ^ 63 := rfl
    rw [hs]
    by_cases hn : n < 0
    · rw [if_pos (by simpa using hn), if_pos hn]; omega
    · rw [if_neg (by simpa using hn), if_neg hn]; omega
  · have h1 : mag n.natAbs % 2 ^ (52 - n.natAbs.log2) = 0 := by
      unfold mag; rw [Nat.shiftLeft_eq, Nat.mul_mod_left]
    have h2 : 2 ^ 52 % 2 ^ (52 - n.natAbs.log2) = 0 := by
      rw [show 2 ^ 52 = 2 ^ n.natAbs.log2 * 2 ^ (52 - n.natAbs.log2) from by rw [← Nat.pow_add]; congr 1; omega, Nat.mul_mod_left]
    have hd1 := Nat.dvd_of_mod_eq_zero h1
    have hd2 := Nat.dvd_of_mod_eq_zero h2
    exact Nat.mod_eq_zero_of_dvd (Nat.dvd_sub hd1 hd2)

theorem word_false (r : Nat) : double.word false r = r := by simp [Format.word]
theorem fl_lt {n : Int} (h53 : n.natAbs < 2 ^ 53) : fl n < 2 ^ 64 := by
  by_cases h : n = 0
  · subst h; rw [fl_zero]; decide
  · obtain ⟨r, hr, e, _, hl⟩ := fl_form h h53
    have : (n.natAbs.log2 + 1023) * 2 ^ 52 ≤ 1075 * 2 ^ 52 := Nat.mul_le_mul_right _ (by omega)
    rw [e]; split <;> omega
theorem fl_abs {n : Int} (h53 : n.natAbs < 2 ^ 53) : fl n % 2 ^ 63 = fl n.natAbs := by
  by_cases h : n = 0
  · subst h; decide
  · have e1 := nearest_exact (decide (n < 0)) 0 (m := n.natAbs) (by omega) h53 (by decide)
    have e2 := nearest_exact (decide ((n.natAbs : Int) < 0)) 0 (m := n.natAbs) (by omega) h53 (by decide)
    rw [fl_eq, fl_eq, e1, Int.natAbs_natCast, e2]
    have hf : decide ((n.natAbs : Int) < 0) = false := by simp
    rw [hf]
    have hi : double.infRung = 2047 * 2 ^ 52 := rfl
    have hb := wordSplit (decide (n < 0)) (min (((0 : Int) + (n.natAbs.log2 : Int) + 1022).toNat * 2 ^ 52 + mag n.natAbs) double.infRung) (by rw [hi]; omega)
    rw [hb.2, word_false]
theorem fl_field {n : Int} (h : n ≠ 0) (h53 : n.natAbs < 2 ^ 53) : fl n / 2 ^ 52 % 2048 = n.natAbs.log2 + 1023 := by
  obtain ⟨r, hr, e, _, hl⟩ := fl_form h h53
  rw [e]
  split
  · rw [show 2 ^ 63 + ((n.natAbs.log2 + 1023) * 2 ^ 52 + r) = r + (n.natAbs.log2 + 1023 + 2048) * 2 ^ 52 from by omega, Nat.add_mul_div_right _ _ (by decide), Nat.div_eq_of_lt hr]
    omega
  · rw [show 0 + ((n.natAbs.log2 + 1023) * 2 ^ 52 + r) = r + (n.natAbs.log2 + 1023) * 2 ^ 52 from by omega, Nat.add_mul_div_right _ _ (by decide), Nat.div_eq_of_lt hr]
    omega
theorem fl_low {n : Int} (h : n ≠ 0) (h53 : n.natAbs < 2 ^ 53) : fl n % 2 ^ (52 - n.natAbs.log2) = 0 := by
  obtain ⟨r, hr, e, hz, hl⟩ := fl_form h h53
  have hd : 2 ^ (52 - n.natAbs.log2) ∣ 2 ^ 52 := Nat.pow_dvd_pow _ (by omega)
  have hd63 : 2 ^ (52 - n.natAbs.log2) ∣ 2 ^ 63 := Nat.pow_dvd_pow _ (by omega)
  rw [e]
  refine Nat.mod_eq_zero_of_dvd ?_
  refine Nat.dvd_add ?_ (Nat.dvd_add (Nat.dvd_trans hd (Nat.dvd_mul_left _ _)) (Nat.dvd_of_mod_eq_zero hz))
  split
  · exact hd63
  · exact Nat.dvd_zero _

/-- Low bits that are nought are not missed. -/
theorem and_high {a k : Nat} (ha : a < 2 ^ 64) (hk : k ≤ 64) (h : a % 2 ^ k = 0) : a &&& (2 ^ 64 - 1 - (2 ^ k - 1)) = a := by
  have e : 2 ^ 64 - 1 - (2 ^ k - 1) = (2 ^ (64 - k) - 1) <<< k := by
    rw [Nat.shiftLeft_eq, Nat.sub_mul, Nat.one_mul, ← Nat.pow_add, show 64 - k + k = 64 from by omega]
    have : 1 ≤ 2 ^ k := Nat.pow_pos (by decide)
    omega
  rw [e]
  apply Nat.eq_of_testBit_eq
  intro i
  rw [Nat.testBit_and, Nat.testBit_shiftLeft, Nat.testBit_two_pow_sub_one]
  by_cases hi : k ≤ i
  · by_cases h64 : i < 64
    · have : i - k < 64 - k := by omega
      simp [hi, this]
    · have : a.testBit i = false := Nat.testBit_lt_two_pow (Nat.lt_of_lt_of_le ha (Nat.pow_le_pow_right (by decide) (by omega)))
      simp [this]
  · have : a.testBit i = false := by
      obtain ⟨q, rfl⟩ := Nat.dvd_of_mod_eq_zero h
      rw [Nat.mul_comm, ← Nat.shiftLeft_eq, Nat.testBit_shiftLeft]
      simp [hi]
    simp [this]

end Go.Proofs.YthbbfdlacclccaaDoor
