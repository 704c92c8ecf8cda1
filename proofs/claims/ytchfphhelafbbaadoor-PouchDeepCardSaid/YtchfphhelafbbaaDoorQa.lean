/- Plain laws on pouch's texts: digits, sizes, numbers. -/
import Derived.Test.YtchfphhelafbbaaDoorPl
namespace Go.Proofs.YtchfphhelafbbaaDoor
open Go.RowKit

def isD (c : UInt8) : Bool := decide (48 ≤ c.toNat ∧ c.toNat ≤ 57)
theorem isD_iff {c : UInt8} : isD c = true ↔ 48 ≤ c.toNat ∧ c.toNat ≤ 57 := by unfold isD; simp
/-- The number that digits spell, n ahead of them. -/
def numD (n : Nat) (l : List UInt8) : Nat := l.foldl (fun a c => 10 * a + (c.toNat - 48)) n
theorem numD_snoc (n : Nat) (l : List UInt8) (c : UInt8) : numD n (l ++ [c]) = 10 * numD n l + (c.toNat - 48) := by unfold numD; rw [List.foldl_append]; rfl
theorem dig_toNat {d : Nat} (h : d < 10) : (UInt8.ofNat (48 + d)).toNat = 48 + d := by
  rw [UInt8.toNat_ofNat']; omega
theorem dig_of {c : UInt8} (h : isD c = true) : UInt8.ofNat (48 + (c.toNat - 48)) = c := by
  have := isD_iff.1 h
  rw [show 48 + (c.toNat - 48) = c.toNat by omega]
  simp
theorem isD_dig {d : Nat} (h : d < 10) : isD (UInt8.ofNat (48 + d)) = true := by rw [isD_iff, dig_toNat h]; omega
theorem decD_small {u : Nat} (h : u < 10) : Lib.decDigits u = [UInt8.ofNat (48 + u)] := by rw [Lib.decDigits, dif_pos h]
theorem decD_big {u : Nat} (h : ¬ u < 10) : Lib.decDigits u = Lib.decDigits (u / 10) ++ [UInt8.ofNat (48 + u % 10)] := by rw [Lib.decDigits, dif_neg h]
theorem decD_all (u : Nat) : (Lib.decDigits u).all isD = true := by
  induction u using Nat.strongRecOn with
  | _ u ih =>
    by_cases h : u < 10
    · rw [decD_small h, List.all_cons, isD_dig h]; rfl
    · rw [decD_big h, List.all_append, ih (u / 10) (by omega), List.all_cons, isD_dig (show u % 10 < 10 by omega)]; rfl
theorem decD_num (u : Nat) : numD 0 (Lib.decDigits u) = u := by
  induction u using Nat.strongRecOn with
  | _ u ih =>
    by_cases h : u < 10
    · rw [decD_small h]; show 10 * 0 + ((UInt8.ofNat (48 + u)).toNat - 48) = u; rw [dig_toNat h]; omega
    · rw [decD_big h, numD_snoc, ih (u / 10) (by omega), dig_toNat (by omega)]; omega
/-- No nought ahead, but the one. -/
def noLead : List UInt8 → Prop
  | [] => False
  | c :: t => c.toNat = 48 → t = []
theorem noLead_snoc {l : List UInt8} {c : UInt8} (h : noLead (l ++ [c])) : l = [] ∨ (noLead l ∧ 0 < numD 0 l ∨ False) ∨ ∃ d t, l = d :: t ∧ d.toNat ≠ 48 := by
  cases l with
  | nil => exact Or.inl rfl
  | cons d t =>
    refine Or.inr (Or.inr ⟨d, t, rfl, fun e => ?_⟩)
    have := h e
    simp at this
theorem numD_mono (l : List UInt8) (n : Nat) : n ≤ numD n l := by
  induction l generalizing n with
  | nil => exact Nat.le_refl _
  | cons c t ih => exact Nat.le_trans (by omega) (ih (10 * n + (c.toNat - 48)))
theorem numD_pos {d : UInt8} {t : List UInt8} (hd : isD d = true) (h : d.toNat ≠ 48) : 0 < numD 0 (d :: t) := by
  have := isD_iff.1 hd
  have h2 := numD_mono t (10 * 0 + (d.toNat - 48))
  have : numD 0 (d :: t) = numD (10 * 0 + (d.toNat - 48)) t := rfl
  omega
theorem decD_head (u : Nat) : noLead (Lib.decDigits u) ∧ (0 < u → ∃ d t, Lib.decDigits u = d :: t ∧ d.toNat ≠ 48) := by
  induction u using Nat.strongRecOn with
  | _ u ih =>
    by_cases h : u < 10
    · rw [decD_small h]
      refine ⟨fun _ => rfl, fun hu => ⟨_, _, rfl, ?_⟩⟩
      rw [dig_toNat h]; omega
    · obtain ⟨d, t, e, hd⟩ := (ih (u / 10) (by omega)).2 (by omega)
      rw [decD_big h, e]
      exact ⟨fun q => absurd q hd, fun _ => ⟨d, t ++ [_], rfl, hd⟩⟩
/-- The one way to write a number. -/
theorem decD_unique (l : List UInt8) (h1 : l.all isD = true) (h2 : noLead l) : Lib.decDigits (numD 0 l) = l := by
  have key : ∀ (n : Nat) (l : List UInt8), l.length = n → l.all isD = true → noLead l → Lib.decDigits (numD 0 l) = l := by
    intro n
    induction n with
    | zero =>
      intro l hl _ h
      obtain rfl := List.length_eq_zero_iff.1 hl
      exact absurd h (by simp [noLead])
    | succ n ih =>
      intro l hl ha hn
      obtain ⟨l', c, rfl⟩ : ∃ l' c, l = l' ++ [c] := ⟨l.dropLast, l.getLast (by intro e; subst e; simp at hl), (List.dropLast_concat_getLast _).symm⟩
      rw [List.all_append, Bool.and_eq_true] at ha
      have hc : isD c = true := by simpa using ha.2
      have hc' := isD_iff.1 hc
      rw [numD_snoc]
      cases l' with
      | nil =>
        show Lib.decDigits (10 * 0 + (c.toNat - 48)) = [c]
        rw [show 10 * 0 + (c.toNat - 48) = c.toNat - 48 by omega, decD_small (by omega), dig_of hc]
      | cons d t =>
        have hd : d.toNat ≠ 48 := fun e => by have := hn e; simp at this
        have hd' : isD d = true := by
          have := ha.1
          rw [List.all_cons, Bool.and_eq_true] at this
          exact this.1
        have hp := numD_pos (t := t) hd' hd
        have hi := ih (d :: t) (by simpa using hl) ha.1 (fun e => absurd e hd)
        generalize numD 0 (d :: t) = m at hp hi ⊢
        rw [decD_big (by omega), show (10 * m + (c.toNat - 48)) / 10 = m by omega, show (10 * m + (c.toNat - 48)) % 10 = c.toNat - 48 by omega, hi, dig_of hc]
  exact key _ l rfl h1 h2
theorem itoa_nat (n : Nat) : Lib.itoa (n : Int) = Lib.decDigits n := by unfold Lib.itoa; rw [if_neg (by omega)]; rfl
theorem decD_len_iff (m : Nat) : (Lib.decDigits m).length ≤ 7 ↔ m < 10000000 := by
  rw [Lib.decDigits_length]
  constructor
  · intro h
    have h1 := Lib.lt_pow_nDigits m
    have h2 : 10 ^ Lib.nDigits m ≤ 10 ^ 7 := Nat.pow_le_pow_right (by decide) h
    omega
  · intro h
    have key : ∀ (k m : Nat), m < 10 ^ (k + 1) → Lib.nDigits m ≤ k + 1 := by
      intro k
      induction k with
      | zero => intro m h; rw [Lib.nDigits_small (by simpa using h)]; omega
      | succ k ih =>
        intro m h
        by_cases h10 : m < 10
        · rw [Lib.nDigits_small h10]; omega
        · rw [Lib.nDigits_big h10]
          have := ih (m / 10) (by rw [Nat.pow_succ] at h; omega)
          omega
    exact key 6 m h
theorem sizeR_go (r : List UInt8) : ∀ (l : List UInt8) (i n : Nat), l.all isD = true → i + l.length ≤ 7 → 0 < i + l.length → (0 < i → n = 0 → l = []) → (i = 0 → noLead l) → sizeR (l ++ 58 :: r) i n = (numD n l, i + l.length + 1, 0)
  | [], i, n, _, _, h0, _, _ => by
    show sizeR (58 :: r) i n = _
    unfold sizeR
    rw [if_pos ⟨rfl, by simpa using h0⟩]
    rfl
  | c :: t, i, n, ha, h7, _, hz, hl => by
    rw [List.all_cons, Bool.and_eq_true] at ha
    have hc := isD_iff.1 ha.1
    show sizeR (c :: (t ++ 58 :: r)) i n = _
    unfold sizeR
    rw [if_neg (by omega)]
    have hq : ¬ (0 < i ∧ n = 0) := fun q => by have := hz q.1 q.2; cases this
    have h7' : i + (t.length + 1) ≤ 7 := by simpa using h7
    rw [if_neg (by omega), sizeR_go r t (i + 1) _ ha.2 (by omega) (by omega) (fun _ e => ?_) (fun e => by omega)]
    · show _ = (numD (10 * n + (c.toNat - 48)) t, i + (t.length + 1) + 1, 0)
      rw [show i + 1 + t.length + 1 = i + (t.length + 1) + 1 by omega]
    · by_cases hi : i = 0
      · exact hl hi (by omega)
      · exact absurd ⟨by omega, by omega⟩ hq
theorem sizeR_back : ∀ (l : List UInt8) (i n m a : Nat), sizeR l i n = (m, a, 0) → i ≤ 7 → (i = 0 → n = 0) → ∃ ds r, l = ds ++ 58 :: r ∧ ds.all isD = true ∧ a = i + ds.length + 1 ∧ m = numD n ds ∧ i + ds.length ≤ 7 ∧ 0 < i + ds.length ∧ (0 < i → n = 0 → ds = []) ∧ (i = 0 → noLead ds)
  | [], i, n, m, a, h, _, _ => by unfold sizeR at h; simp at h
  | c :: t, i, n, m, a, h, hi, hn => by
    unfold sizeR at h
    by_cases h1 : c.toNat = 58 ∧ 0 < i
    · rw [if_pos h1] at h
      simp only [Prod.mk.injEq, and_true] at h
      refine ⟨[], t, ?_, rfl, by rw [← h.2]; rfl, h.1.symm, by simpa using hi, by simpa using h1.2, fun _ _ => rfl, fun e => by omega⟩
      have : c = 58 := UInt8.toNat.inj h1.1
      rw [this]; rfl
    · rw [if_neg h1] at h
      by_cases h2 : c.toNat < 48 ∨ 57 < c.toNat ∨ 7 ≤ i ∨ (0 < i ∧ n = 0)
      · rw [if_pos h2] at h; simp at h
      · rw [if_neg h2] at h
        obtain ⟨ds, r, e1, e2, e3, e4, e5, e6, e7, e8⟩ := sizeR_back t (i + 1) _ m a h (by omega) (fun e => by omega)
        refine ⟨c :: ds, r, by rw [e1]; rfl, ?_, by rw [e3, List.length_cons]; omega, e4, by rw [List.length_cons]; omega, by rw [List.length_cons]; omega, fun q1 q2 => absurd (Or.inr (Or.inr (Or.inr ⟨q1, q2⟩))) h2, fun hi0 q => e7 (by omega) (by have := hn hi0; omega)⟩
        rw [List.all_cons, e2, Bool.and_true, isD_iff]
        omega
theorem sizeP_put (m : Nat) (r : List UInt8) (h : m < 10000000) : sizeP (Lib.decDigits m ++ 58 :: r) = (m, (Lib.decDigits m).length + 1, 0) := by
  have h7 := (decD_len_iff m).2 h
  have hp : 1 ≤ (Lib.decDigits m).length := decDigits_pos m
  unfold sizeP
  rw [sizeR_go r _ 0 0 (decD_all m) (by omega) (by omega) (fun q => by omega) (fun _ => (decD_head m).1), decD_num, Nat.zero_add]
theorem sizeP_back {l : List UInt8} {m a : Nat} (h : sizeP l = (m, a, 0)) : ∃ r, l = Lib.decDigits m ++ 58 :: r ∧ a = (Lib.decDigits m).length + 1 ∧ m < 10000000 := by
  obtain ⟨ds, r, e1, e2, e3, e4, e5, e6, e7, e8⟩ := sizeR_back l 0 0 m a h (by decide) (fun _ => rfl)
  have hd := decD_unique ds e2 (e8 rfl)
  rw [← e4] at hd
  refine ⟨r, by rw [hd]; exact e1, by rw [hd]; omega, ?_⟩
  rw [← decD_len_iff, hd]; omega
/-! numbers -/
theorem magD (M : Nat) : ∀ (l : List UInt8) (acc : Nat), l.all isD = true → numD acc l ≤ M → M ≤ 18446744073709551615 → Lib.parseUintM M acc l = .ok (numD acc l)
  | [], acc, _, _, _ => rfl
  | c :: t, acc, ha, hm, hM => by
    rw [List.all_cons, Bool.and_eq_true] at ha
    have hc := isD_iff.1 ha.1
    have e : numD acc (c :: t) = numD (10 * acc + (c.toNat - 48)) t := rfl
    have hmono := numD_mono t (10 * acc + (c.toNat - 48))
    rw [e] at hm ⊢
    simp only [Lib.parseUintM]
    rw [if_pos hc, if_neg (by omega), if_neg (by omega), show acc * 10 + (c.toNat - 48) = 10 * acc + (c.toNat - 48) by omega]
    exact magD M t _ ha.2 hm hM
theorem uintD (u : Nat) (h : u ≤ 18446744073709551615) : Lib.parseUintB 64 (Lib.decDigits u) = .ok u := by
  unfold Lib.parseUintB
  have hp := decDigits_pos u
  rw [if_neg (by intro e; rw [e] at hp; simp at hp)]
  have e : (2 : Nat) ^ 64 - 1 = 18446744073709551615 := by decide
  rw [e, magD _ _ 0 (decD_all u) (by rw [decD_num]; exact h) (Nat.le_refl _), decD_num]
theorem c63 : (2 : Nat) ^ (64 - 1) = 9223372036854775808 := by decide
theorem numP_itoa {v : Int} (h : -9223372036854775808 ≤ v ∧ v ≤ 9223372036854775807) : numP (Lib.itoa v) = some v := by
  have key : Lib.parseIntB 64 (Lib.itoa v) = .ok v := by
    by_cases hv : v < 0
    · unfold Lib.itoa
      rw [if_pos hv, Lib.parseIntB_minus, uintD _ (by omega), c63]
      simp only [Lib.signedC]
      rw [if_neg (by omega), show -((v.natAbs : Nat) : Int) = v by omega]
    · unfold Lib.itoa
      rw [if_neg hv]
      obtain ⟨c, t, e⟩ : ∃ c t, Lib.decDigits v.toNat = c :: t := by
        cases h : Lib.decDigits v.toNat with
        | nil => have := decDigits_pos v.toNat; rw [h] at this; simp at this
        | cons c t => exact ⟨c, t, rfl⟩
      have hc : isD c = true := by
        have := decD_all v.toNat
        rw [e, List.all_cons, Bool.and_eq_true] at this
        exact this.1
      have hc := isD_iff.1 hc
      have hu := uintD v.toNat (by omega)
      rw [e] at hu ⊢
      rw [Lib.parseIntB_plain _ _ _ (by omega) (by omega), hu, c63]
      simp only [Lib.signlessC]
      rw [if_neg (by omega), show ((v.toNat : Nat) : Int) = v by omega]
  unfold numP
  rw [key]; simp
theorem numP_text {l : List UInt8} {v : Int} (h : numP l = some v) : Lib.itoa v = l := by
  unfold numP at h
  split at h
  · rename_i u hu
    split at h
    · rename_i e
      simp only [Option.some.injEq] at h; subst h; exact e
    · cases h
  · cases h
end Go.Proofs.YtchfphhelafbbaaDoor
