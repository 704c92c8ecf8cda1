/- Plain laws on pouch's texts: digits, sizes, numbers. Plain laws on pouch's texts: a value's text is read back; what is read is a value's text. Plain laws for PouchNums, PouchLengths, PouchDeep. -/
import Derived.Test.YthbbfdlacclccaaDoorM9
import Derived.Lib.IndexBytes
namespace Go.Proofs.YthbbfdlacclccaaDoor
open Go.RowKit

def isD (c : UInt8) : Bool := decide (48 ≤ c.toNat ∧ c.toNat ≤ 57)
theorem isD_iff {c : UInt8} : isD c = true ↔ 48 ≤ c.toNat ∧ c.toNat ≤ 57 := by unfold isD; simp
/-- The number that digits spell, n ahead of them. -/
def numD (n : Nat) (l : List UInt8) : Nat := l.foldl (fun a c => 10 * a + (c.toNat - 48)) n
theorem numD_snoc (n : Nat) (l : List UInt8) (c : UInt8) : numD n (l ++ [c]) = 10 * numD n l + (c.toNat - 48) := by unfold numD; rw [List.foldl_append]; rfl
theorem dig_toNat {d : Nat} (h : d < 10) : (UInt8.ofNat (48 + d)).toNat = 48 + d := by
  rw [UInt8.toNat_ofNat']; omega
theorem dig_of {c : UInt8} (h : isD c = true) : UInt8.ofNat (48 + (c.toNat - 48)) = c := by
  have := isD_iff.1 h
  rw [show 48 + (c.toNat - 48) = c.toNat by omega]
  simp
theorem isD_dig {d : Nat} (h : d < 10) : isD (UInt8.ofNat (48 + d)) = true := by rw [isD_iff, dig_toNat h]; omega
theorem decD_small {u : Nat} (h : u < 10) : Lib.decDigits u = [UInt8.ofNat (48 + u)] := by rw [Lib.decDigits, dif_pos h]
theorem decD_big {u : Nat} (h : ¬ u < 10) : Lib.decDigits u = Lib.decDigits (u / 10) ++ [UInt8.ofNat (48 + u % 10)] := by rw [Lib.decDigits, dif_neg h]
theorem decD_all (u : Nat) : (Lib.decDigits u).all isD = true := by
  induction u using Nat.strongRecOn with
  | _ u ih =>
    by_cases h : u < 10
    · rw [decD_small h, List.all_cons, isD_dig h]; rfl
    · rw [decD_big h, List.all_append, ih (u / 10) (by omega), List.all_cons, isD_dig (show u % 10 < 10 by omega)]; rfl
theorem decD_num (u : Nat) : numD 0 (Lib.decDigits u) = u := by
  induction u using Nat.strongRecOn with
  | _ u ih =>
    by_cases h : u < 10
    · rw [decD_small h]; show 10 * 0 + ((UInt8.ofNat (48 + u)).toNat - 48) = u; rw [dig_toNat h]; omega
    · rw [decD_big h, numD_snoc, ih (u / 10) (by omega), dig_toNat (by omega)]; omega
/-- No nought ahead, but the one. -/
def noLead : List UInt8 → Prop
  | [] => False
  | c :: t => c.toNat = 48 → t = []
theorem noLead_snoc {l : List UInt8} {c : UInt8} (h : noLead (l ++ [c])) : l = [] ∨ (noLead l ∧ 0 < numD 0 l ∨ False) ∨ ∃ d t, l = d :: t ∧ d.toNat ≠ 48 := by
  cases l with
  | nil => exact Or.inl rfl
  | cons d t =>
    refine Or.inr (Or.inr ⟨d, t, rfl, fun e => ?_⟩)
    have := h e
    simp at this
theorem numD_mono (l : List UInt8) (n : Nat) : n ≤ numD n l := by
  induction l generalizing n with
  | nil => exact Nat.le_refl _
  | cons c t ih => exact Nat.le_trans (by omega) (ih (10 * n + (c.toNat - 48)))
theorem numD_pos {d : UInt8} {t : List UInt8} (hd : isD d = true) (h : d.toNat ≠ 48) : 0 < numD 0 (d :: t) := by
  have := isD_iff.1 hd
  have h2 := numD_mono t (10 * 0 + (d.toNat - 48))
  have : numD 0 (d :: t) = numD (10 * 0 + (d.toNat - 48)) t := rfl
  omega
theorem decD_head (u : Nat) : noLead (Lib.decDigits u) ∧ (0 < u → ∃ d t, Lib.decDigits u = d :: t ∧ d.toNat ≠ 48) := by
  induction u using Nat.strongRecOn with
  | _ u ih =>
    by_cases h : u < 10
    · rw [decD_small h]
      refine ⟨fun _ => rfl, fun hu => ⟨_, _, rfl, ?_⟩⟩
      rw [dig_toNat h]; omega
    · obtain ⟨d, t, e, hd⟩ := (ih (u / 10) (by omega)).2 (by omega)
      rw [decD_big h, e]
      exact ⟨fun q => absurd q hd, fun _ => ⟨d, t ++ [_], rfl, hd⟩⟩
/-- The one way to write a number. -/
theorem decD_unique (l : List UInt8) (h1 : l.all isD = true) (h2 : noLead l) : Lib.decDigits (numD 0 l) = l := by
  have key : ∀ (n : Nat) (l : List UInt8), l.length = n → l.all isD = true → noLead l → Lib.decDigits (numD 0 l) = l := by
    intro n
    induction n with
    | zero =>
      intro l hl _ h
      obtain rfl := List.length_eq_zero_iff.1 hl
      exact absurd h (by simp [noLead])
    | succ n ih =>
      intro l hl ha hn
      obtain ⟨l', c, rfl⟩ : ∃ l' c, l = l' ++ [c] := ⟨l.dropLast, l.getLast (by intro e; subst e; simp at hl), (List.dropLast_concat_getLast _).symm⟩
      rw [List.all_append, Bool.and_eq_true] at ha
      have hc : isD c = true := by simpa using ha.2
      have hc' := isD_iff.1 hc
      rw [numD_snoc]
      cases l' with
      | nil =>
        show Lib.decDigits (10 * 0 + (c.toNat - 48)) = [c]
        rw [show 10 * 0 + (c.toNat - 48) = c.toNat - 48 by omega, decD_small (by omega), dig_of hc]
      | cons d t =>
        have hd : d.toNat ≠ 48 := fun e => by have := hn e; simp at this
        have hd' : isD d = true := by
          have := ha.1
          rw [List.all_cons, Bool.and_eq_true] at this
          exact this.1
        have hp := numD_pos (t := t) hd' hd
        have hi := ih (d :: t) (by simpa using hl) ha.1 (fun e => absurd e hd)
        generalize numD 0 (d :: t) = m at hp hi ⊢
        rw [decD_big (by omega), show (10 * m + (c.toNat - 48)) / 10 = m by omega, show (10 * m + (c.toNat - 48)) % 10 = c.toNat - 48 by omega, hi, dig_of hc]
  exact key _ l rfl h1 h2
theorem itoa_nat (n : Nat) : Lib.itoa (n : Int) = Lib.decDigits n := by unfold Lib.itoa; rw [if_neg (by omega)]; rfl
theorem decD_len_iff (m : Nat) : (Lib.decDigits m).length ≤ 7 ↔ m < 10000000 := by
  rw [Lib.decDigits_length]
  constructor
  · intro h
    have h1 := Lib.lt_pow_nDigits m
    have h2 : 10 ^ Lib.nDigits m ≤ 10 ^ 7 := Nat.pow_le_pow_right (by decide) h
    omega
  · intro h
    have key : ∀ (k m : Nat), m < 10 ^ (k + 1) → Lib.nDigits m ≤ k + 1 := by
      intro k
      induction k with
      | zero => intro m h; rw [Lib.nDigits_small (by simpa using h)]; omega
      | succ k ih =>
        intro m h
        by_cases h10 : m < 10
        · rw [Lib.nDigits_small h10]; omega
        · rw [Lib.nDigits_big h10]
          have := ih (m / 10) (by rw [Nat.pow_succ] at h; omega)
          omega
    exact key 6 m h
theorem sizeR_go (r : List UInt8) : ∀ (l : List UInt8) (i n : Nat), l.all isD = true → i + l.length ≤ 7 → 0 < i + l.length → (0 < i → n = 0 → l = []) → (i = 0 → noLead l) → sizeR (l ++ 58 :: r) i n = (numD n l, i + l.length + 1, 0)
  | [], i, n, _, _, h0, _, _ => by
    show sizeR (58 :: r) i n = _
    unfold sizeR
    rw [if_pos ⟨rfl, by simpa using h0⟩]
    rfl
  | c :: t, i, n, ha, h7, _, hz, hl => by
    rw [List.all_cons, Bool.and_eq_true] at ha
    have hc := isD_iff.1 ha.1
    show sizeR (c :: (t ++ 58 :: r)) i n = _
    unfold sizeR
    rw [if_neg (by omega)]
    have hq : ¬ (0 < i ∧ n = 0) := fun q => by have := hz q.1 q.2; cases this
    have h7' : i + (t.length + 1) ≤ 7 := by simpa using h7
    rw [if_neg (by omega), sizeR_go r t (i + 1) _ ha.2 (by omega) (by omega) (fun _ e => ?_) (fun e => by omega)]
    · show _ = (numD (10 * n + (c.toNat - 48)) t, i + (t.length + 1) + 1, 0)
      rw [show i + 1 + t.length + 1 = i + (t.length + 1) + 1 by omega]
    · by_cases hi : i = 0
      · exact hl hi (by omega)
      · exact absurd ⟨by omega, by omega⟩ hq
theorem sizeR_back : ∀ (l : List UInt8) (i n m a : Nat), sizeR l i n = (m, a, 0) → i ≤ 7 → (i = 0 → n = 0) → ∃ ds r, l = ds ++ 58 :: r ∧ ds.all isD = true ∧ a = i + ds.length + 1 ∧ m = numD n ds ∧ i + ds.length ≤ 7 ∧ 0 < i + ds.length ∧ (0 < i → n = 0 → ds = []) ∧ (i = 0 → noLead ds)
  | [], i, n, m, a, h, _, _ => by unfold sizeR at h; simp at h
  | c :: t, i, n, m, a, h, hi, hn => by
    unfold sizeR at h
    by_cases h1 : c.toNat = 58 ∧ 0 < i
    · rw [if_pos h1] at h
      simp only [Prod.mk.injEq, and_true] at h
      refine ⟨[], t, ?_, rfl, by rw [← h.2]; rfl, h.1.symm, by simpa using hi, by simpa using h1.2, fun _ _ => rfl, fun e => by omega⟩
      have : c = 58 := UInt8.toNat.inj h1.1
      rw [this]; rfl
    · rw [if_neg h1] at h
      by_cases h2 : c.toNat < 48 ∨ 57 < c.toNat ∨ 7 ≤ i ∨ (0 < i ∧ n = 0)
      · rw [if_pos h2] at h; simp at h
      · rw [if_neg h2] at h
        obtain ⟨ds, r, e1, e2, e3, e4, e5, e6, e7, e8⟩ := sizeR_back t (i + 1) _ m a h (by omega) (fun e => by omega)
        refine ⟨c :: ds, r, by rw [e1]; rfl, ?_, by rw [e3, List.length_cons]; omega, e4, by rw [List.length_cons]; omega, by rw [List.length_cons]; omega, fun q1 q2 => absurd (Or.inr (Or.inr (Or.inr ⟨q1, q2⟩))) h2, fun hi0 q => e7 (by omega) (by have := hn hi0; omega)⟩
        rw [List.all_cons, e2, Bool.and_true, isD_iff]
        omega
theorem sizeP_put (m : Nat) (r : List UInt8) (h : m < 10000000) : sizeP (Lib.decDigits m ++ 58 :: r) = (m, (Lib.decDigits m).length + 1, 0) := by
  have h7 := (decD_len_iff m).2 h
  have hp : 1 ≤ (Lib.decDigits m).length := decDigits_pos m
  unfold sizeP
  rw [sizeR_go r _ 0 0 (decD_all m) (by omega) (by omega) (fun q => by omega) (fun _ => (decD_head m).1), decD_num, Nat.zero_add]
theorem sizeP_back {l : List UInt8} {m a : Nat} (h : sizeP l = (m, a, 0)) : ∃ r, l = Lib.decDigits m ++ 58 :: r ∧ a = (Lib.decDigits m).length + 1 ∧ m < 10000000 := by
  obtain ⟨ds, r, e1, e2, e3, e4, e5, e6, e7, e8⟩ := sizeR_back l 0 0 m a h (by decide) (fun _ => rfl)
  have hd := decD_unique ds e2 (e8 rfl)
  rw [← e4] at hd
  refine ⟨r, by rw [hd]; exact e1, by rw [hd]; omega, ?_⟩
  rw [← decD_len_iff, hd]; omega
/-! numbers -/
theorem magD (M : Nat) : ∀ (l : List UInt8) (acc : Nat), l.all isD = true → numD acc l ≤ M → M ≤ 18446744073709551615 → Lib.parseUintM M acc l = .ok (numD acc l)
  | [], acc, _, _, _ => rfl
  | c :: t, acc, ha, hm, hM => by
    rw [List.all_cons, Bool.and_eq_true] at ha
    have hc := isD_iff.1 ha.1
    have e : numD acc (c :: t) = numD (10 * acc + (c.toNat - 48)) t := rfl
    have hmono := numD_mono t (10 * acc + (c.toNat - 48))
    rw [e] at hm ⊢
    simp only [Lib.parseUintM]
    rw [if_pos hc, if_neg (by omega), if_neg (by omega), show acc * 10 + (c.toNat - 48) = 10 * acc + (c.toNat - 48) by omega]
    exact magD M t _ ha.2 hm hM
theorem uintD (u : Nat) (h : u ≤ 18446744073709551615) : Lib.parseUintB 64 (Lib.decDigits u) = .ok u := by
  unfold Lib.parseUintB
  have hp := decDigits_pos u
  rw [if_neg (by intro e; rw [e] at hp; simp at hp)]
  have e : (2 : Nat) ^ 64 - 1 = 18446744073709551615 := by decide
  rw [e, magD _ _ 0 (decD_all u) (by rw [decD_num]; exact h) (Nat.le_refl _), decD_num]
theorem c63 : (2 : Nat) ^ (64 - 1) = 9223372036854775808 := by decide
theorem numP_itoa {v : Int} (h : -9223372036854775808 ≤ v ∧ v ≤ 9223372036854775807) : numP (Lib.itoa v) = some v := by
  have key : Lib.parseIntB 64 (Lib.itoa v) = .ok v := by
    by_cases hv : v < 0
    · unfold Lib.itoa
      rw [if_pos hv, Lib.parseIntB_minus, uintD _ (by omega), c63]
      simp only [Lib.signedC]
      rw [if_neg (by omega), show -((v.natAbs : Nat) : Int) = v by omega]
    · unfold Lib.itoa
      rw [if_neg hv]
      obtain ⟨c, t, e⟩ : ∃ c t, Lib.decDigits v.toNat = c :: t := by
        cases h : Lib.decDigits v.toNat with
        | nil => have := decDigits_pos v.toNat; rw [h] at this; simp at this
        | cons c t => exact ⟨c, t, rfl⟩
      have hc : isD c = true := by
        have := decD_all v.toNat
        rw [e, List.all_cons, Bool.and_eq_true] at this
        exact this.1
      have hc := isD_iff.1 hc
      have hu := uintD v.toNat (by omega)
      rw [e] at hu ⊢
      rw [Lib.parseIntB_plain _ _ _ (by omega) (by omega), hu, c63]
      simp only [Lib.signlessC]
      rw [if_neg (by omega), show ((v.toNat : Nat) : Int) = v by omega]
  unfold numP
  rw [key]; simp
theorem numP_text {l : List UInt8} {v : Int} (h : numP l = some v) : Lib.itoa v = l := by
  unfold numP at h
  split at h
  · rename_i u hu
    split at h
    · rename_i e
      simp only [Option.some.injEq] at h; subst h; exact e
    · cases h
  · cases h
end Go.Proofs.YthbbfdlacclccaaDoor
namespace Go.Proofs.YthbbfdlacclccaaDoor
open Go.RowKit

/-- What a value's text holds; its end. -/
def pbody : PV → List UInt8
  | .mk k n s l => if k = 1 then Lib.itoa n else if k = 3 then pputL l else s.data.toList
def pend : PV → UInt8
  | .mk k _ _ _ => if k = 1 then 35 else if k = 3 then 93 else 44
theorem pput_wrap (x : PV) : pput x = wrapT (pbody x) (pend x) := by
  cases x with
  | mk k n s l => unfold pput wrapT pbody pend; rfl
theorem wrapT_eq (t : List UInt8) (e : UInt8) : wrapT t e = Lib.decDigits t.length ++ (58 :: (t ++ [e])) := by unfold wrapT; rw [itoa_nat]
mutual
def fits : PV → Prop
  | .mk _ n _ l => (-9223372036854775808 ≤ n ∧ n ≤ 9223372036854775807) ∧ fitsL l
def fitsL : List PV → Prop
  | [] => True
  | x :: t => fits x ∧ fitsL t
end
theorem fitsL_append {l l' : List PV} (h : fitsL l) (h' : fitsL l') : fitsL (l ++ l') := by
  induction l with
  | nil => exact h'
  | cons x t ih => exact ⟨h.1, ih h.2⟩
theorem pbody_lt (x : PV) : (pbody x).length < (pput x).length := by
  have := wrapT_len (pbody x) (pend x)
  rw [pput_wrap]; omega
/-- What get makes of a text of a good length. -/
def getW (f : Nat) (t : List UInt8) (e : UInt8) : PV × Nat × Nat :=
  if e.toNat = 35 then
    match numP t with
    | some v => (.mk 1 v ⟨#[]⟩ [], (wrapT t e).length, 0)
    | none => (pz, 0, 1)
  else if e.toNat = 93 then
    match listP (getP f) 6000 ⟨t.toArray⟩ [] with
    | some l => (.mk 3 0 ⟨#[]⟩ l, (wrapT t e).length, 0)
    | none => (pz, 0, 1)
  else if e.toNat = 44 then (.mk 2 0 ⟨t.toArray⟩ [], (wrapT t e).length, 0)
  else (pz, 0, 1)
theorem getP_wrap (f : Nat) (t : List UInt8) (e : UInt8) (rest : List UInt8) (h : t.length < 10000000) {s : ByteArray} (hs : s.data.toList = wrapT t e ++ rest) : getP (f + 1) s = getW f t e := by
  have hz : sizeP s.data.toList = (t.length, (Lib.decDigits t.length).length + 1, 0) := by
    rw [hs, wrapT_eq, List.append_assoc]; exact sizeP_put _ _ h
  obtain ⟨a, ha⟩ : ∃ a, (Lib.decDigits t.length).length = a := ⟨_, rfl⟩
  have hw : (wrapT t e).length = a + 1 + t.length + 1 := by rw [wrapT_eq]; simp [ha]; omega
  have hsz : s.size = a + 1 + t.length + 1 + rest.length := by rw [Lib.size_eq, hs, List.length_append, hw]
  rw [ha] at hz
  have e0 : s.data.toList = (Lib.decDigits t.length ++ [58]) ++ (t ++ e :: rest) := by rw [hs, wrapT_eq]; simp
  have hdl : (Lib.decDigits t.length ++ [58]).length = a + 1 := by simp [ha]
  have e1 : s.data.toList.getD (a + 1 + t.length) 0 = e := by
    rw [List.getD, e0, List.getElem?_append_right (by omega), hdl, show a + 1 + t.length - (a + 1) = t.length by omega, List.getElem?_append_right (Nat.le_refl _), Nat.sub_self]
    rfl
  have e2 : s.extract (a + 1) (a + 1 + t.length) = ⟨t.toArray⟩ := by
    rw [Lib.extract_eq, e0, List.drop_append_of_le_length (by omega), List.drop_of_length_le (by omega), List.nil_append, show a + 1 + t.length - (a + 1) = t.length by omega, List.take_append_of_le_length (Nat.le_refl _), List.take_length]
  rw [getP_succ f hz (by omega), e1, e2]
  unfold getW
  rw [hw]
  rfl
theorem getP_cases {f : Nat} {s : ByteArray} (h : (getP f s).2.2 = 0) : ∃ f' t e rest, f = f' + 1 ∧ s.data.toList = wrapT t e ++ rest ∧ t.length < 10000000 := by
  cases f with
  | zero =>
    unfold getP at h
    split at h
    · rename_i h2; exact absurd h h2
    · simp at h
  | succ f =>
    obtain ⟨⟨n, a, er⟩, hz⟩ : ∃ r, sizeP s.data.toList = r := ⟨_, rfl⟩
    by_cases her : er = 0
    · subst her
      obtain ⟨r, e, ea, hn⟩ := sizeP_back hz
      by_cases hlt : a + n < s.size
      · have hl : n < r.length := by
          rw [Lib.size_eq, e] at hlt
          simp at hlt
          omega
        have ht : (r.take n).length = n := by rw [List.length_take]; omega
        refine ⟨f, r.take n, r[n], r.drop (n + 1), rfl, ?_, by rw [ht]; exact hn⟩
        rw [wrapT_eq, ht, e]
        simp only [List.append_assoc, List.cons_append, List.nil_append]
        rw [List.getElem_cons_drop, List.take_append_drop]
      · rw [getP, hz, if_neg (by simp), if_pos (by simpa using Nat.le_of_not_lt hlt)] at h
        simp at h
    · rw [getP, hz, if_pos (by simpa using her)] at h
      exact absurd h her
theorem getW_err {f : Nat} {t : List UInt8} {e : UInt8} (h : (getW f t e).2.2 ≠ 0) : getW f t e = (pz, 0, 1) := by
  unfold getW at h ⊢
  split
  · rename_i h1
    rw [if_pos h1] at h
    cases hn : numP t with
    | some v => rw [hn] at h; simp at h
    | none => rfl
  · rename_i h1
    rw [if_neg h1] at h
    split
    · rename_i h2
      rw [if_pos h2] at h
      cases hn : listP (getP f) 6000 ⟨t.toArray⟩ [] with
      | some v => rw [hn] at h; simp at h
      | none => rfl
    · rename_i h2
      rw [if_neg h2] at h
      split
      · rename_i h3; rw [if_pos h3] at h; simp at h
      · rfl
theorem getP_err {f : Nat} {s : ByteArray} (h : (getP f s).2.2 ≠ 0) : (getP f s).1 = pz ∧ (getP f s).2.1 = 0 := by
  cases f with
  | zero => unfold getP; split <;> exact ⟨rfl, rfl⟩
  | succ f =>
    obtain ⟨⟨n, a, er⟩, hz⟩ : ∃ r, sizeP s.data.toList = r := ⟨_, rfl⟩
    by_cases her : er = 0
    · subst her
      by_cases hlt : a + n < s.size
      · rw [getP_succ f hz hlt] at h ⊢
        split
        · rename_i h1
          rw [if_pos h1] at h
          split
          · rename_i v hv; rw [hv] at h; simp at h
          · exact ⟨rfl, rfl⟩
        · rename_i h1
          rw [if_neg h1] at h
          split
          · rename_i h2
            rw [if_pos h2] at h
            split
            · rename_i v hv; rw [hv] at h; simp at h
            · exact ⟨rfl, rfl⟩
          · rename_i h2
            rw [if_neg h2] at h
            split
            · rename_i h3; rw [if_pos h3] at h; simp at h
            · exact ⟨rfl, rfl⟩
      · rw [getP, hz, if_neg (by simp), if_pos (by simpa using Nat.le_of_not_lt hlt)]
        exact ⟨rfl, rfl⟩
    · rw [getP, hz, if_pos (by simpa using her)]
      exact ⟨rfl, rfl⟩
/-! what was put is read -/
theorem pcount_pos (x : PV) (d : Nat) : 1 ≤ pcount x d := by
  have go : ∀ (l : List PV) (d a : Nat), 1 ≤ a → 1 ≤ pcountL l d a := by
    intro l
    induction l with
    | nil => intro d a h; unfold pcountL; exact h
    | cons x t ih =>
      intro d a h
      unfold pcountL
      split
      · omega
      · exact ih _ _ (by omega)
  cases x with
  | mk k n s l =>
    unfold pcount
    split
    · omega
    · split
      · omega
      · split
        · omega
        · exact go _ _ _ (by omega)
theorem pcountL_cons {x : PV} {t : List PV} {d a : Nat} (h : pcountL (x :: t) d a ≤ 6000) : a + pcount x d ≤ 6000 ∧ pcountL t d (a + pcount x d) ≤ 6000 := by
  unfold pcountL at h
  split at h
  · omega
  · exact ⟨by omega, h⟩
theorem pcountL_length : ∀ (l : List PV) (d a : Nat), a ≤ 6000 → pcountL l d a ≤ 6000 → a + l.length ≤ 6000
  | [], _, _, h, _ => by simpa using h
  | x :: t, d, a, _, h => by
    obtain ⟨h1, h2⟩ := pcountL_cons h
    have := pcountL_length t d _ h1 h2
    have := pcount_pos x d
    rw [List.length_cons]; omega
theorem pput_ne (x : PV) : 1 ≤ (pput x).length := by have := pbody_lt x; omega
theorem ba_nil {s : ByteArray} (h : s.size = 0) : s = ⟨#[]⟩ := by
  have h1 : s.data.toList = [] := List.length_eq_zero_iff.1 (by rw [← Lib.size_eq]; exact h)
  rw [← Lib.mk_data s, h1]
mutual
theorem getP_put : ∀ (x : PV) (d f : Nat) (rest : List UInt8) (s : ByteArray), d + f = 7 → pcount x d ≤ 6000 → fits x → (pbody x).length < 10000000 → s.data.toList = pput x ++ rest → getP f s = (x, (pput x).length, 0)
  | .mk k n s l, d, f, rest, S, hf, hc, hfit, hb, hS => by
    have hc' := hc
    unfold pcount at hc'
    split at hc'
    · omega
    rename_i h6
    obtain ⟨f, rfl⟩ : ∃ f', f = f' + 1 := ⟨f - 1, by omega⟩
    rw [pput_wrap] at hS ⊢
    rw [getP_wrap f _ _ rest hb hS]
    split at hc'
    · rename_i h1
      rcases h1 with ⟨rfl, h2, h3⟩ | ⟨rfl, rfl, h3⟩
      · obtain rfl := ba_nil h2
        obtain rfl := List.length_eq_zero_iff.1 h3
        have e1 : pbody (.mk 1 n ⟨#[]⟩ []) = Lib.itoa n := rfl
        have e2 : pend (.mk 1 n ⟨#[]⟩ []) = 35 := rfl
        rw [e1, e2]
        unfold getW
        rw [if_pos (by decide), numP_itoa hfit.1]
      · obtain rfl := List.length_eq_zero_iff.1 h3
        have e1 : pbody (.mk 2 0 s []) = s.data.toList := rfl
        have e2 : pend (.mk 2 0 s []) = 44 := rfl
        rw [e1, e2]
        unfold getW
        rw [if_neg (by decide), if_neg (by decide), if_pos (by decide), Lib.mk_data]
    · split at hc'
      · omega
      · rename_i h1 h2
        have h3 : k = 3 ∧ n = 0 ∧ s.size = 0 := by
          refine ⟨Classical.byContradiction fun q => h2 (Or.inl q), Classical.byContradiction fun q => h2 (Or.inr (Or.inl q)), Classical.byContradiction fun q => h2 (Or.inr (Or.inr q))⟩
        obtain ⟨rfl, rfl, h4⟩ := h3
        obtain rfl := ba_nil h4
        have e1 : pbody (.mk 3 0 ⟨#[]⟩ l) = pputL l := rfl
        have e2 : pend (.mk 3 0 ⟨#[]⟩ l) = 93 := rfl
        rw [e1] at hb
        rw [e1, e2]
        have hll := pcountL_length l (d + 1) 1 (by omega) hc'
        have := listP_put l (d + 1) f 6000 1 [] ⟨(pputL l).toArray⟩ (by omega) hc' hfit.2 hb (by omega) rfl
        unfold getW
        rw [if_neg (by decide), if_pos (by decide), this]
        rfl
theorem listP_put : ∀ (l : List PV) (d f m a : Nat) (acc : List PV) (s : ByteArray), d + f = 7 → pcountL l d a ≤ 6000 → fitsL l → (pputL l).length < 10000000 → l.length ≤ m → s.data.toList = pputL l → listP (getP f) m s acc = some (acc ++ l)
  | [], d, f, m, a, acc, s, _, _, _, _, _, hs => by
    have h0 : s.size = 0 := by rw [Lib.size_eq, hs]; rfl
    rw [listP_end h0, List.append_nil]
  | x :: t, d, f, m, a, acc, s, hf, hc, hfit, hb, hm, hs => by
    obtain ⟨h1, h2⟩ := pcountL_cons hc
    obtain ⟨m, rfl⟩ : ∃ m', m = m' + 1 := ⟨m - 1, by rw [List.length_cons] at hm; omega⟩
    have e : pputL (x :: t) = pput x ++ pputL t := rfl
    rw [e, List.length_append] at hb
    rw [e] at hs
    have hx := pbody_lt x
    have hg := getP_put x d f (pputL t) s hf (by omega) hfit.1 (by omega) hs
    have hne := pput_ne x
    have hsz : s.size = (pput x).length + (pputL t).length := by rw [Lib.size_eq, hs, List.length_append]
    unfold listP
    rw [if_neg (by omega), hg, if_neg (by simp)]
    have hrest : (s.extract (pput x).length s.size).data.toList = pputL t := by
      rw [Lib.extract_to_end, hs, List.drop_left]
    rw [listP_put t d f m _ (acc ++ [x]) _ hf h2 hfit.2 (by omega) (by rw [List.length_cons] at hm; omega) hrest, List.append_assoc]
    rfl
end
/-! what is read was put -/
theorem listP_text {g : ByteArray → PV × Nat × Nat} (hg : ∀ s x n, g s = (x, n, 0) → s.data.toList.take n = pput x ∧ fits x) : ∀ (m : Nat) (s : ByteArray) (acc l : List PV), listP g m s acc = some l → ∃ l', l = acc ++ l' ∧ s.data.toList = pputL l' ∧ fitsL l'
  | m, s, acc, l, h => by
    by_cases h0 : s.size = 0
    · rw [listP_end h0] at h
      simp only [Option.some.injEq] at h
      refine ⟨[], by rw [List.append_nil]; exact h.symm, ?_, trivial⟩
      exact List.length_eq_zero_iff.1 (by rw [← Lib.size_eq]; exact h0)
    · cases m with
      | zero => unfold listP at h; rw [if_neg h0] at h; cases h
      | succ m =>
        unfold listP at h
        rw [if_neg h0] at h
        split at h
        · cases h
        · rename_i her
          obtain ⟨⟨x, n, er⟩, hgs⟩ : ∃ r, g s = r := ⟨_, rfl⟩
          rw [hgs] at h her
          have her : er = 0 := Classical.byContradiction fun q => her q
          subst her
          obtain ⟨h1, h2⟩ := hg s x n hgs
          obtain ⟨l', e1, e2, e3⟩ := listP_text hg m _ _ _ h
          refine ⟨x :: l', by rw [e1, List.append_assoc]; rfl, ?_, h2, e3⟩
          rw [Lib.extract_to_end] at e2
          show _ = pput x ++ pputL l'
          rw [← h1, ← e2, List.take_append_drop]
theorem getP_text : ∀ (f : Nat) (s : ByteArray) (x : PV) (n : Nat), getP f s = (x, n, 0) → s.data.toList.take n = pput x ∧ n = (pput x).length ∧ n ≤ s.size ∧ fits x ∧ (pbody x).length < 10000000
  | f, s, x, n, h => by
    obtain ⟨f, t, e, rest, rfl, hs, ht⟩ := getP_cases (f := f) (s := s) (by rw [h])
    rw [getP_wrap f t e rest ht hs] at h
    have hsz : s.size = (wrapT t e).length + rest.length := by rw [Lib.size_eq, hs, List.length_append]
    have fin : ∀ x, pbody x = t → pend x = e → fits x → s.data.toList.take (wrapT t e).length = pput x ∧ (wrapT t e).length = (pput x).length ∧ (wrapT t e).length ≤ s.size ∧ fits x ∧ (pbody x).length < 10000000 := by
      intro x h1 h2 h3
      rw [pput_wrap, h1, h2, hs, List.take_left]
      exact ⟨rfl, rfl, by omega, h3, ht⟩
    unfold getW at h
    split at h
    · rename_i h1
      have he : e = 35 := UInt8.toNat.inj h1
      subst he
      split at h
      · rename_i v hv
        simp only [Prod.mk.injEq, and_true] at h
        obtain ⟨rfl, rfl⟩ := h
        exact fin _ (numP_text hv) rfl ⟨numP_bd hv, trivial⟩
      · simp at h
    · split at h
      · rename_i h1 h2
        have he : e = 93 := UInt8.toNat.inj h2
        subst he
        split at h
        · rename_i l hl
          simp only [Prod.mk.injEq, and_true] at h
          obtain ⟨rfl, rfl⟩ := h
          obtain ⟨l', e1, e2, e3⟩ := listP_text (fun s x n q => ⟨(getP_text f s x n q).1, (getP_text f s x n q).2.2.2.1⟩) _ _ _ _ hl
          rw [List.nil_append] at e1
          subst e1
          exact fin _ e2.symm rfl ⟨by decide, e3⟩
        · simp at h
      · rename_i h1 h2
        split at h
        · rename_i h3
          have he : e = 44 := UInt8.toNat.inj h3
          subst he
          simp only [Prod.mk.injEq, and_true] at h
          obtain ⟨rfl, rfl⟩ := h
          exact fin _ rfl rfl ⟨by decide, trivial⟩
        · simp at h
/-! the length's digits -/
theorem indexByte_digits : ∀ (l r : List UInt8), l.all isD = true → Lib.indexByte (l ++ 58 :: r) 58 = l.length
  | [], _, _ => by show Lib.indexByte (58 :: _) 58 = _; unfold Lib.indexByte; rfl
  | c :: t, r, h => by
    rw [List.all_cons, Bool.and_eq_true] at h
    have hc := isD_iff.1 h.1
    have ih := indexByte_digits t r h.2
    show Lib.indexByte (c :: (t ++ 58 :: r)) 58 = _
    unfold Lib.indexByte
    have hne : (c == 58) = false := by
      rw [beq_eq_false_iff_ne]; rintro rfl; revert hc; decide
    have hi : ((t.length : Int) == -1) = false := by rw [beq_eq_false_iff_ne]; omega
    rw [hne, ih, hi]
    simp
theorem pPut_eq (x : PV) : pPut x = if pmay x = true ∧ (pbody x).length < 10000000 then pput x else [] := by
  unfold pPut
  have e : Lib.indexByte (pput x) 58 ≤ 7 ↔ (pbody x).length < 10000000 := by
    rw [pput_wrap, wrapT_eq, indexByte_digits _ _ (decD_all _), ← decD_len_iff]
    omega
  simp only [e]
theorem pPut_ne {x : PV} (h : pPut x ≠ []) : pmay x = true ∧ (pbody x).length < 10000000 ∧ pPut x = pput x := by
  rw [pPut_eq] at h ⊢
  split at h
  · rename_i q; rw [if_pos q]; exact ⟨q.1, q.2, rfl⟩
  · exact absurd rfl h
theorem pmay_iff (x : PV) : pmay x = true ↔ pcount x 1 ≤ 6000 := by unfold pmay; simp
theorem pGet_put {x : PV} (hf : fits x) (h : pPut x ≠ []) {rest : List UInt8} {s : ByteArray} (hs : s.data.toList = pPut x ++ rest) : pGet s = (x, (pPut x).length, 0) := by
  obtain ⟨h1, h2, h3⟩ := pPut_ne h
  rw [h3] at hs ⊢
  have := getP_put x 1 6 rest s rfl ((pmay_iff x).1 h1) hf h2 hs
  unfold pGet
  rw [this, if_neg (by simp [h1])]
theorem pGet_ok {s : ByteArray} {x : PV} {n : Nat} (h : pGet s = (x, n, 0)) : s.data.toList.take n = pPut x ∧ n = (pPut x).length ∧ 1 ≤ n ∧ n ≤ s.size ∧ pmay x = true ∧ fits x := by
  unfold pGet at h
  split at h
  · simp at h
  · rename_i hm
    obtain ⟨h1, h2, h3, h4, h5⟩ := getP_text 6 s x n h
    rw [h] at hm
    have hmay : pmay x = true := by
      cases hp : pmay x with
      | true => rfl
      | false => exact absurd ⟨rfl, hp⟩ hm
    rw [pPut_eq, if_pos ⟨hmay, h5⟩]
    exact ⟨h1, h2, by have := pput_ne x; omega, h3, hmay, h4⟩
theorem pGet_err {s : ByteArray} (h : (pGet s).2.2 ≠ 0) : (pGet s).1 = pz ∧ (pGet s).2.1 = 0 ∧ ((pGet s).2.2 = 1 ∨ (pGet s).2.2 = 2) := by
  have hb := pGet_bd s
  refine ⟨?_, ?_, by omega⟩
  · unfold pGet at h ⊢
    split
    · rfl
    · rename_i q; rw [if_neg q] at h; exact (getP_err h).1
  · unfold pGet at h ⊢
    split
    · rfl
    · rename_i q; rw [if_neg q] at h; exact (getP_err h).2
end Go.Proofs.YthbbfdlacclccaaDoor
namespace Go.Proofs.YthbbfdlacclccaaDoor
open Go.RowKit

theorem pAll_ok {x : PV} {s : ByteArray} (hf : fits x) (h : pPut x ≠ []) (hs : s.data.toList = pPut x) : pAll s = (x, 0) := by
  have := pGet_put hf h (rest := []) (s := s) (by rw [List.append_nil]; exact hs)
  have hsz : s.size = (pPut x).length := by rw [Lib.size_eq, hs]
  unfold pAll
  rw [this, if_neg (by rintro (q | q); exact q rfl; exact q hsz.symm)]
theorem pAll_inv {s : ByteArray} {x : PV} (h : pAll s = (x, 0)) : s.data.toList = pPut x ∧ pmay x = true ∧ fits x := by
  unfold pAll at h
  split at h
  · simp at h
  · rename_i q
    obtain ⟨⟨y, n, er⟩, hg⟩ : ∃ r, pGet s = r := ⟨_, rfl⟩
    rw [hg] at h q
    have he : er = 0 := Classical.byContradiction fun e => q (Or.inl e)
    have hn : n = s.size := Classical.byContradiction fun e => q (Or.inr e)
    subst he hn
    simp only [Prod.mk.injEq, and_true] at h
    subst h
    obtain ⟨h1, h2, h3, h4, h5, h6⟩ := pGet_ok hg
    rw [Lib.size_eq, List.take_length] at h1
    exact ⟨h1, h5, h6⟩
theorem pAll_two (s : ByteArray) : (pAll s).2 = 0 ∨ pAll s = (pz, 1) := by
  unfold pAll
  split
  · exact Or.inr rfl
  · exact Or.inl rfl
/-! numbers -/
theorem pmay_num (n : Int) : pmay (.mk 1 n ⟨#[]⟩ []) = true := by rw [pmay_iff]; unfold pcount; rw [if_neg (by decide), if_pos (Or.inl ⟨rfl, rfl, rfl⟩)]; decide
theorem pmay_str (s : ByteArray) : pmay (.mk 2 0 s []) = true := by rw [pmay_iff]; unfold pcount; simp
theorem nDigits_le : ∀ (k m : Nat), m < 10 ^ (k + 1) → (Lib.decDigits m).length ≤ k + 1 := by
  intro k
  induction k with
  | zero => intro m h; rw [Lib.decDigits_length, Lib.nDigits_small (by simpa using h)]; omega
  | succ k ih =>
    intro m h
    by_cases h10 : m < 10
    · rw [Lib.decDigits_length, Lib.nDigits_small h10]; omega
    · have := ih (m / 10) (by rw [Nat.pow_succ] at h; omega)
      rw [Lib.decDigits_length] at this ⊢
      rw [Lib.nDigits_big h10]
      omega
theorem itoa_len {v : Int} (h : -9223372036854775808 ≤ v ∧ v ≤ 9223372036854775807) : 1 ≤ (Lib.itoa v).length ∧ (Lib.itoa v).length ≤ 20 := by
  have h1 := decDigits_pos v.natAbs
  have h2 := decDigits_pos v.toNat
  have h3 := nDigits_le 18 v.natAbs (by omega)
  have h4 := nDigits_le 18 v.toNat (by omega)
  unfold Lib.itoa
  split
  · simp; omega
  · omega
theorem pPut_num {n : Int} (h : -9223372036854775808 ≤ n ∧ n ≤ 9223372036854775807) : pPut (.mk 1 n ⟨#[]⟩ []) = wrapT (Lib.itoa n) 35 := by
  have := itoa_len h
  rw [pPut_eq, if_pos ⟨pmay_num n, by show (Lib.itoa n).length < _; omega⟩, pput_wrap]
  rfl
theorem pAll_num {n : Int} (h : -9223372036854775808 ≤ n ∧ n ≤ 9223372036854775807) {s : ByteArray} (hs : s.data.toList = wrapT (Lib.itoa n) 35) : pAll s = (.mk 1 n ⟨#[]⟩ [], 0) := by
  refine pAll_ok ⟨h, trivial⟩ ?_ (by rw [pPut_num h]; exact hs)
  rw [pPut_num h, wrapT_eq]; simp
theorem pAll_bad {l : List UInt8} (h : numP l = none) (hl : l.length < 10000000) {s : ByteArray} (hs : s.data.toList = wrapT l 35) : pAll s = (pz, 1) := by
  have hg := getP_wrap 5 l 35 [] hl (s := s) (by rw [List.append_nil]; exact hs)
  have : getW 5 l 35 = (pz, 0, 1) := by unfold getW; rw [if_pos (by decide), h]
  rw [this] at hg
  unfold pAll pGet
  rw [hg]
  simp
theorem itoa_form (v : Int) : (0 ≤ v ∧ Lib.itoa v = Lib.decDigits v.toNat) ∨ (v < 0 ∧ Lib.itoa v = 45 :: Lib.decDigits v.natAbs) := by
  unfold Lib.itoa
  by_cases h : v < 0
  · exact Or.inr ⟨h, by rw [if_pos h]⟩
  · exact Or.inl ⟨by omega, by rw [if_neg h]⟩
theorem numP_none {l : List UInt8} (h : ∀ v : Int, -9223372036854775808 ≤ v ∧ v ≤ 9223372036854775807 → Lib.itoa v ≠ l) : numP l = none := by
  cases hn : numP l with
  | none => rfl
  | some v => exact absurd (numP_text hn) (h v (numP_bd hn))
theorem bad_nought {d : List UInt8} (hd : d ≠ []) : numP (48 :: d) = none := by
  refine numP_none fun v _ e => ?_
  rcases itoa_form v with ⟨_, q⟩ | ⟨_, q⟩
  · have := (decD_head v.toNat).1
    rw [← q, e] at this
    exact hd (this rfl)
  · rw [q] at e
    have := (List.cons.inj e).1
    revert this; decide
theorem bad_plus (d : List UInt8) : numP (43 :: d) = none := by
  refine numP_none fun v _ e => ?_
  rcases itoa_form v with ⟨_, q⟩ | ⟨_, q⟩
  · have := decD_all v.toNat
    rw [← q, e, List.all_cons, Bool.and_eq_true] at this
    exact absurd this.1 (by decide)
  · rw [q] at e
    have := (List.cons.inj e).1
    revert this; decide
theorem bad_space {d : List UInt8} (hd : d ≠ []) : numP (d ++ [32]) = none := by
  refine numP_none fun v _ e => ?_
  have key : ∀ (u : Nat) (t : List UInt8), Lib.decDigits u = t ++ [32] → False := fun u t q => by
    have := decD_all u
    rw [q, List.all_append, Bool.and_eq_true] at this
    exact absurd this.2 (by decide)
  rcases itoa_form v with ⟨_, q⟩ | ⟨_, q⟩
  · exact key _ d (by rw [← q, e])
  · rw [q] at e
    cases d with
    | nil => exact hd rfl
    | cons c t => exact key _ t (List.cons.inj e).2
theorem bad_minus : numP [45, 48] = none := by
  refine numP_none fun v _ e => ?_
  rcases itoa_form v with ⟨_, q⟩ | ⟨hv, q⟩
  · have := decD_all v.toNat
    rw [← q, e, List.all_cons, Bool.and_eq_true] at this
    exact absurd this.1 (by decide)
  · rw [q] at e
    have e := (List.cons.inj e).2
    have := decD_num v.natAbs
    rw [e] at this
    have : (0 : Nat) = v.natAbs := this
    omega
theorem bad_long {d : List UInt8} (h : 20 < d.length) : numP d = none := by
  refine numP_none fun v hv e => ?_
  have := itoa_len hv
  rw [e] at this
  omega
/-! lengths -/
theorem wrapM_inj {m : Nat} {r : List UInt8} {t : List UInt8} {e : UInt8} (h : Lib.decDigits m ++ 58 :: r = wrapT t e) (hm : m < 10000000) (ht : t.length < 10000000) : m = t.length ∧ r = t ++ [e] := by
  have h1 := sizeP_put m r hm
  rw [h, wrapT_eq, sizeP_put _ _ ht] at h1
  have h2 : t.length = m := (Prod.mk.inj h1).1
  subst h2
  rw [wrapT_eq] at h
  exact ⟨rfl, (List.cons.inj (List.append_cancel_left h)).2⟩
/-- A text with a length that may be another one. -/
theorem len_inv {m : Nat} {l : List UInt8} (hm : m < 10000000) {s : ByteArray} (hs : s.data.toList = Lib.decDigits m ++ 58 :: (l ++ [44])) {x : PV} (h : pAll s = (x, 0)) :
    ∃ u : ByteArray, x = .mk 2 0 u [] ∧ u.data.toList = l ∧ l.length = m := by
  obtain ⟨h1, h2, h3⟩ := pAll_inv h
  have hne : pPut x ≠ [] := by
    rw [← h1, hs]
    simp
  obtain ⟨-, hb, hp⟩ := pPut_ne hne
  rw [hp, pput_wrap, hs] at h1
  obtain ⟨e1, e2⟩ := wrapM_inj h1 hm hb
  have e3 : l = pbody x ∧ (44 : UInt8) = pend x := by
    have := List.append_inj' e2 rfl
    exact ⟨this.1, (List.cons.inj this.2).1⟩
  cases x with
  | mk k n u t =>
    have hk1 : k ≠ 1 := by
      rintro rfl
      have : (44 : UInt8) = 35 := e3.2
      revert this; decide
    have hk3 : k ≠ 3 := by
      rintro rfl
      have : (44 : UInt8) = 93 := e3.2
      revert this; decide
    have hc := (pmay_iff _).1 h2
    unfold pcount at hc
    rw [if_neg (by decide)] at hc
    split at hc
    · rename_i q
      rcases q with ⟨q, _, _⟩ | ⟨q1, q2, q3⟩
      · exact absurd q hk1
      · subst q1 q2
        obtain rfl := List.length_eq_zero_iff.1 q3
        exact ⟨u, rfl, e3.1.symm, by rw [e3.1]; exact e1.symm⟩
    · split at hc
      · omega
      · rename_i q
        exact absurd (Or.inl hk3) q
theorem pPut_str {s : ByteArray} (h : s.size < 10000000) : pPut (.mk 2 0 s []) = wrapT s.data.toList 44 := by
  rw [pPut_eq, if_pos ⟨pmay_str s, by show s.data.toList.length < _; rw [← Lib.size_eq]; exact h⟩, pput_wrap]
  rfl
theorem pAll_str {u s : ByteArray} (h : u.size < 10000000) (hs : s.data.toList = wrapT u.data.toList 44) : pAll s = (.mk 2 0 u [], 0) := by
  refine pAll_ok ⟨by decide, trivial⟩ ?_ (by rw [pPut_str h]; exact hs)
  rw [pPut_str h, wrapT_eq]; simp
/-- A nought ahead of a length. -/
theorem lead_bad {m : Nat} {r : List UInt8} {s : ByteArray} (hs : s.data.toList = 48 :: (Lib.decDigits m ++ r)) : pAll s = (pz, 1) := by
  have hz : (sizeP s.data.toList).2.2 = 1 := by
    obtain ⟨c, t, e⟩ : ∃ c t, Lib.decDigits m = c :: t := by
      cases h : Lib.decDigits m with
      | nil => have := decDigits_pos m; rw [h] at this; simp at this
      | cons c t => exact ⟨c, t, rfl⟩
    have hc : isD c = true := by
      have := decD_all m
      rw [e, List.all_cons, Bool.and_eq_true] at this
      exact this.1
    have hc := isD_iff.1 hc
    have e1 : sizeP s.data.toList = sizeR (c :: (t ++ r)) 1 0 := by
      rw [hs, e]
      show sizeR (48 :: (c :: (t ++ r))) 0 0 = _
      conv => lhs; unfold sizeR
      rw [if_neg (by decide), if_neg (by decide)]
      rfl
    rw [e1]
    unfold sizeR
    rw [if_neg (by omega), if_pos (Or.inr (Or.inr (Or.inr ⟨by decide, rfl⟩)))]
  have hg : (getP 6 s).2.2 = 1 := by
    rw [getP_zero 6 (by rw [hz]; decide)]; exact hz
  have hp : (pGet s).2.2 = 1 := by
    unfold pGet
    split
    · rfl
    · exact hg
  unfold pAll
  rw [if_pos (Or.inl (by rw [hp]; decide))]
/-! deep ones, many -/
/-- So many lists around a text. -/
def nest : Nat → PV
  | 0 => .mk 2 0 ⟨#[120]⟩ []
  | n + 1 => .mk 3 0 ⟨#[]⟩ [nest n]
theorem nest_may : ∀ n : Fin 10, pmay (nest n.val) = decide (n.val ≤ 5) ∧ (pPut (nest n.val) = [] ↔ ¬ n.val ≤ 5) := by
  decide +kernel
def numV1 (i : Nat) : PV := .mk 1 (i : Int) ⟨#[]⟩ []
def nums (n : Nat) : List PV := (List.range n).map numV1
theorem nums_succ (n : Nat) : nums (n + 1) = nums n ++ [.mk 1 (n : Int) ⟨#[]⟩ []] := by unfold nums; rw [List.range_succ, List.map_append]; rfl
theorem nums_len (n : Nat) : (nums n).length = n := by unfold nums; simp
theorem pcountL_flat : ∀ (l : List PV) (a : Nat), (∀ x ∈ l, pcount x 2 = 1) → a ≤ 6000 → pcountL l 2 a = if a + l.length ≤ 6000 then a + l.length else 6001
  | [], a, _, ha => by unfold pcountL; rw [if_pos (by simpa using ha)]; rfl
  | x :: t, a, h, ha => by
    unfold pcountL
    rw [h x (by simp)]
    by_cases h1 : 6000 < a + 1
    · rw [if_pos h1, if_neg (by rw [List.length_cons]; omega)]
    · rw [if_neg h1, pcountL_flat t (a + 1) (fun y hy => h y (by simp [hy])) (by omega), List.length_cons]
      by_cases h2 : a + 1 + t.length ≤ 6000
      · rw [if_pos h2, if_pos (by omega)]; omega
      · rw [if_neg h2, if_neg (by omega)]
theorem nums_may (n : Nat) : pmay (.mk 3 0 ⟨#[]⟩ (nums n)) = decide (n ≤ 5999) := by
  unfold pmay
  congr 1
  have e : pcount (.mk 3 0 ⟨#[]⟩ (nums n)) 1 = pcountL (nums n) 2 1 := by
    unfold pcount
    rw [if_neg (by decide), if_neg (by rintro (⟨q, -, -⟩ | ⟨q, -, -⟩) <;> exact absurd q (by decide)), if_neg (by decide)]
  rw [e, pcountL_flat _ _ (fun x hx => ?_) (by decide), nums_len, eq_iff_iff]
  · split <;> omega
  · unfold nums at hx
    obtain ⟨i, -, rfl⟩ := List.mem_map.1 hx
    unfold numV1 pcount
    rw [if_neg (by decide), if_pos (Or.inl ⟨rfl, rfl, rfl⟩)]
theorem nums_text (n : Nat) (hn : n ≤ 6100) : (pputL (nums n)).length ≤ n * 10 := by
  induction n with
  | zero => exact Nat.zero_le _
  | succ n ih =>
    rw [nums_succ, pputL_append, pputL_one, List.length_append]
    have h1 := nDigits_le 3 n (by omega)
    have e : pput (.mk 1 (n : Int) ⟨#[]⟩ []) = wrapT (Lib.decDigits n) 35 := by rw [pput_wrap]; show wrapT (Lib.itoa (n : Int)) 35 = _; rw [itoa_nat]
    have h2 := wrapT_len (Lib.decDigits n) 35
    rw [itoa_nat] at h2
    have h3 := nDigits_le 0 (Lib.decDigits n).length (by omega)
    rw [e]
    have := ih (by omega)
    omega
theorem nums_put (n : Nat) (hn : n ≤ 6100) : pPut (.mk 3 0 ⟨#[]⟩ (nums n)) = [] ↔ ¬ n ≤ 5999 := by
  rw [pPut_eq, nums_may]
  have hl := nums_text n hn
  by_cases h : n ≤ 5999
  · rw [if_pos ⟨by simpa using h, by show (pputL (nums n)).length < _; omega⟩]
    have := pput_ne (.mk 3 0 ⟨#[]⟩ (nums n))
    constructor
    · intro e; rw [e] at this; simp at this
    · intro e; exact absurd h e
  · rw [if_neg (by simp [h])]
    simp [h]
end Go.Proofs.YthbbfdlacclccaaDoor
