/- Plain laws for PouchNums, PouchLengths, PouchDeep. -/
import Derived.Test.YtchfphhelafbbaaDoorQb
namespace Go.Proofs.YtchfphhelafbbaaDoor
open Go.RowKit

theorem pAll_ok {x : PV} {s : ByteArray} (hf : fits x) (h : pPut x ≠ []) (hs : s.data.toList = pPut x) : pAll s = (x, 0) := by
  have := pGet_put hf h (rest := []) (s := s) (by rw [List.append_nil]; exact hs)
  have hsz : s.size = (pPut x).length := by rw [Lib.size_eq, hs]
  unfold pAll
  rw [this, if_neg (by rintro (q | q); exact q rfl; exact q hsz.symm)]
theorem pAll_inv {s : ByteArray} {x : PV} (h : pAll s = (x, 0)) : s.data.toList = pPut x ∧ pmay x = true ∧ fits x := by
  unfold pAll at h
  split at h
  · simp at h
  · rename_i q
    obtain ⟨⟨y, n, er⟩, hg⟩ : ∃ r, pGet s = r := ⟨_, rfl⟩
    rw [hg] at h q
    have he : er = 0 := Classical.byContradiction fun e => q (Or.inl e)
    have hn : n = s.size := Classical.byContradiction fun e => q (Or.inr e)
    subst he hn
    simp only [Prod.mk.injEq, and_true] at h
    subst h
    obtain ⟨h1, h2, h3, h4, h5, h6⟩ := pGet_ok hg
    rw [Lib.size_eq, List.take_length] at h1
    exact ⟨h1, h5, h6⟩
theorem pAll_two (s : ByteArray) : (pAll s).2 = 0 ∨ pAll s = (pz, 1) := by
  unfold pAll
  split
  · exact Or.inr rfl
  · exact Or.inl rfl
/-! numbers -/
theorem pmay_num (n : Int) : pmay (.mk 1 n ⟨#[]⟩ []) = true := by rw [pmay_iff]; unfold pcount; rw [if_neg (by decide), if_pos (Or.inl ⟨rfl, rfl, rfl⟩)]; decide
theorem pmay_str (s : ByteArray) : pmay (.mk 2 0 s []) = true := by rw [pmay_iff]; unfold pcount; simp
theorem nDigits_le : ∀ (k m : Nat), m < 10 ^ (k + 1) → (Lib.decDigits m).length ≤ k + 1 := by
  intro k
  induction k with
  | zero => intro m h; rw [Lib.decDigits_length, Lib.nDigits_small (by simpa using h)]; omega
  | succ k ih =>
    intro m h
    by_cases h10 : m < 10
    · rw [Lib.decDigits_length, Lib.nDigits_small h10]; omega
    · have := ih (m / 10) (by rw [Nat.pow_succ] at h; omega)
      rw [Lib.decDigits_length] at this ⊢
      rw [Lib.nDigits_big h10]
      omega
theorem itoa_len {v : Int} (h : -9223372036854775808 ≤ v ∧ v ≤ 9223372036854775807) : 1 ≤ (Lib.itoa v).length ∧ (Lib.itoa v).length ≤ 20 := by
  have h1 := decDigits_pos v.natAbs
  have h2 := decDigits_pos v.toNat
  have h3 := nDigits_le 18 v.natAbs (by omega)
  have h4 := nDigits_le 18 v.toNat (by omega)
  unfold Lib.itoa
  split
  · simp; omega
  · omega
theorem pPut_num {n : Int} (h : -9223372036854775808 ≤ n ∧ n ≤ 9223372036854775807) : pPut (.mk 1 n ⟨#[]⟩ []) = wrapT (Lib.itoa n) 35 := by
  have := itoa_len h
  rw [pPut_eq, if_pos ⟨pmay_num n, by show (Lib.itoa n).length < _; omega⟩, pput_wrap]
  rfl
theorem pAll_num {n : Int} (h : -9223372036854775808 ≤ n ∧ n ≤ 9223372036854775807) {s : ByteArray} (hs : s.data.toList = wrapT (Lib.itoa n) 35) : pAll s = (.mk 1 n ⟨#[]⟩ [], 0) := by
  refine pAll_ok ⟨h, trivial⟩ ?_ (by rw [pPut_num h]; exact hs)
  rw [pPut_num h, wrapT_eq]; simp
theorem pAll_bad {l : List UInt8} (h : numP l = none) (hl : l.length < 10000000) {s : ByteArray} (hs : s.data.toList = wrapT l 35) : pAll s = (pz, 1) := by
  have hg := getP_wrap 5 l 35 [] hl (s := s) (by rw [List.append_nil]; exact hs)
  have : getW 5 l 35 = (pz, 0, 1) := by unfold getW; rw [if_pos (by decide), h]
  rw [this] at hg
  unfold pAll pGet
  rw [hg]
  simp
theorem itoa_form (v : Int) : (0 ≤ v ∧ Lib.itoa v = Lib.decDigits v.toNat) ∨ (v < 0 ∧ Lib.itoa v = 45 :: Lib.decDigits v.natAbs) := by
  unfold Lib.itoa
  by_cases h : v < 0
  · exact Or.inr ⟨h, by rw [if_pos h]⟩
  · exact Or.inl ⟨by omega, by rw [if_neg h]⟩
theorem numP_none {l : List UInt8} (h : ∀ v : Int, -9223372036854775808 ≤ v ∧ v ≤ 9223372036854775807 → Lib.itoa v ≠ l) : numP l = none := by
  cases hn : numP l with
  | none => rfl
  | some v => exact absurd (numP_text hn) (h v (numP_bd hn))
theorem bad_nought {d : List UInt8} (hd : d ≠ []) : numP (48 :: d) = none := by
  refine numP_none fun v _ e => ?_
  rcases itoa_form v with ⟨_, q⟩ | ⟨_, q⟩
  · have := (decD_head v.toNat).1
    rw [← q, e] at this
    exact hd (this rfl)
  · rw [q] at e
    have := (List.cons.inj e).1
    revert this; decide
theorem bad_plus (d : List UInt8) : numP (43 :: d) = none := by
  refine numP_none fun v _ e => ?_
  rcases itoa_form v with ⟨_, q⟩ | ⟨_, q⟩
  · have := decD_all v.toNat
    rw [← q, e, List.all_cons, Bool.and_eq_true] at this
    exact absurd this.1 (by decide)
  · rw [q] at e
    have := (List.cons.inj e).1
    revert this; decide
theorem bad_space {d : List UInt8} (hd : d ≠ []) : numP (d ++ [32]) = none := by
  refine numP_none fun v _ e => ?_
  have key : ∀ (u : Nat) (t : List UInt8), Lib.decDigits u = t ++ [32] → False := fun u t q => by
    have := decD_all u
    rw [q, List.all_append, Bool.and_eq_true] at this
    exact absurd this.2 (by decide)
  rcases itoa_form v with ⟨_, q⟩ | ⟨_, q⟩
  · exact key _ d (by rw [← q, e])
  · rw [q] at e
    cases d with
    | nil => exact hd rfl
    | cons c t => exact key _ t (List.cons.inj e).2
theorem bad_minus : numP [45, 48] = none := by
  refine numP_none fun v _ e => ?_
  rcases itoa_form v with ⟨_, q⟩ | ⟨hv, q⟩
  · have := decD_all v.toNat
    rw [← q, e, List.all_cons, Bool.and_eq_true] at this
    exact absurd this.1 (by decide)
  · rw [q] at e
    have e := (List.cons.inj e).2
    have := decD_num v.natAbs
    rw [e] at this
    have : (0 : Nat) = v.natAbs := this
    omega
theorem bad_long {d : List UInt8} (h : 20 < d.length) : numP d = none := by
  refine numP_none fun v hv e => ?_
  have := itoa_len hv
  rw [e] at this
  omega
/-! lengths -/
theorem wrapM_inj {m : Nat} {r : List UInt8} {t : List UInt8} {e : UInt8} (h : Lib.decDigits m ++ 58 :: r = wrapT t e) (hm : m < 10000000) (ht : t.length < 10000000) : m = t.length ∧ r = t ++ [e] := by
  have h1 := sizeP_put m r hm
  rw [h, wrapT_eq, sizeP_put _ _ ht] at h1
  have h2 : t.length = m := (Prod.mk.inj h1).1
  subst h2
  rw [wrapT_eq] at h
  exact ⟨rfl, (List.cons.inj (List.append_cancel_left h)).2⟩
/-- A text with a length that may be another one. -/
theorem len_inv {m : Nat} {l : List UInt8} (hm : m < 10000000) {s : ByteArray} (hs : s.data.toList = Lib.decDigits m ++ 58 :: (l ++ [44])) {x : PV} (h : pAll s = (x, 0)) :
    ∃ u : ByteArray, x = .mk 2 0 u [] ∧ u.data.toList = l ∧ l.length = m := by
  obtain ⟨h1, h2, h3⟩ := pAll_inv h
  have hne : pPut x ≠ [] := by
    rw [← h1, hs]
    simp
  obtain ⟨-, hb, hp⟩ := pPut_ne hne
  rw [hp, pput_wrap, hs] at h1
  obtain ⟨e1, e2⟩ := wrapM_inj h1 hm hb
  have e3 : l = pbody x ∧ (44 : UInt8) = pend x := by
    have := List.append_inj' e2 rfl
    exact ⟨this.1, (List.cons.inj this.2).1⟩
  cases x with
  | mk k n u t =>
    have hk1 : k ≠ 1 := by
      rintro rfl
      have : (44 : UInt8) = 35 := e3.2
      revert this; decide
    have hk3 : k ≠ 3 := by
      rintro rfl
      have : (44 : UInt8) = 93 := e3.2
      revert this; decide
    have hc := (pmay_iff _).1 h2
    unfold pcount at hc
    rw [if_neg (by decide)] at hc
    split at hc
    · rename_i q
      rcases q with ⟨q, _, _⟩ | ⟨q1, q2, q3⟩
      · exact absurd q hk1
      · subst q1 q2
        obtain rfl := List.length_eq_zero_iff.1 q3
        exact ⟨u, rfl, e3.1.symm, by rw [e3.1]; exact e1.symm⟩
    · split at hc
      · omega
      · rename_i q
        exact absurd (Or.inl hk3) q
theorem pPut_str {s : ByteArray} (h : s.size < 10000000) : pPut (.mk 2 0 s []) = wrapT s.data.toList 44 := by
  rw [pPut_eq, if_pos ⟨pmay_str s, by show s.data.toList.length < _; rw [← Lib.size_eq]; exact h⟩, pput_wrap]
  rfl
theorem pAll_str {u s : ByteArray} (h : u.size < 10000000) (hs : s.data.toList = wrapT u.data.toList 44) : pAll s = (.mk 2 0 u [], 0) := by
  refine pAll_ok ⟨by decide, trivial⟩ ?_ (by rw [pPut_str h]; exact hs)
  rw [pPut_str h, wrapT_eq]; simp
/-- A nought ahead of a length. -/
theorem lead_bad {m : Nat} {r : List UInt8} {s : ByteArray} (hs : s.data.toList = 48 :: (Lib.decDigits m ++ r)) : pAll s = (pz, 1) := by
  have hz : (sizeP s.data.toList).2.2 = 1 := by
    obtain ⟨c, t, e⟩ : ∃ c t, Lib.decDigits m = c :: t := by
      cases h : Lib.decDigits m with
      | nil => have := decDigits_pos m; rw [h] at this; simp at this
      | cons c t => exact ⟨c, t, rfl⟩
    have hc : isD c = true := by
      have := decD_all m
      rw [e, List.all_cons, Bool.and_eq_true] at this
      exact this.1
    have hc := isD_iff.1 hc
    have e1 : sizeP s.data.toList = sizeR (c :: (t ++ r)) 1 0 := by
      rw [hs, e]
      show sizeR (48 :: (c :: (t ++ r))) 0 0 = _
      conv => lhs; unfold sizeR
      rw [if_neg (by decide), if_neg (by decide)]
      rfl
    rw [e1]
    unfold sizeR
    rw [if_neg (by omega), if_pos (Or.inr (Or.inr (Or.inr ⟨by decide, rfl⟩)))]
  have hg : (getP 6 s).2.2 = 1 := by
    rw [getP_zero 6 (by rw [hz]; decide)]; exact hz
  have hp : (pGet s).2.2 = 1 := by
    unfold pGet
    split
    · rfl
    · exact hg
  unfold pAll
  rw [if_pos (Or.inl (by rw [hp]; decide))]
/-! deep ones, many -/
/-- So many lists around a text. -/
def nest : Nat → PV
  | 0 => .mk 2 0 ⟨#[120]⟩ []
  | n + 1 => .mk 3 0 ⟨#[]⟩ [nest n]
theorem nest_may : ∀ n : Fin 10, pmay (nest n.val) = decide (n.val ≤ 5) ∧ (pPut (nest n.val) = [] ↔ ¬ n.val ≤ 5) := by
  decide +kernel
def numV1 (i : Nat) : PV := .mk 1 (i : Int) ⟨#[]⟩ []
def nums (n : Nat) : List PV := (List.range n).map numV1
theorem nums_succ (n : Nat) : nums (n + 1) = nums n ++ [.mk 1 (n : Int) ⟨#[]⟩ []] := by unfold nums; rw [List.range_succ, List.map_append]; rfl
theorem nums_len (n : Nat) : (nums n).length = n := by unfold nums; simp
theorem pcountL_flat : ∀ (l : List PV) (a : Nat), (∀ x ∈ l, pcount x 2 = 1) → a ≤ 6000 → pcountL l 2 a = if a + l.length ≤ 6000 then a + l.length else 6001
  | [], a, _, ha => by unfold pcountL; rw [if_pos (by simpa using ha)]; rfl
  | x :: t, a, h, ha => by
    unfold pcountL
    rw [h x (by simp)]
    by_cases h1 : 6000 < a + 1
    · rw [if_pos h1, if_neg (by rw [List.length_cons]; omega)]
    · rw [if_neg h1, pcountL_flat t (a + 1) (fun y hy => h y (by simp [hy])) (by omega), List.length_cons]
      by_cases h2 : a + 1 + t.length ≤ 6000
      · rw [if_pos h2, if_pos (by omega)]; omega
      · rw [if_neg h2, if_neg (by omega)]
theorem nums_may (n : Nat) : pmay (.mk 3 0 ⟨#[]⟩ (nums n)) = decide (n ≤ 5999) := by
  unfold pmay
  congr 1
  have e : pcount (.mk 3 0 ⟨#[]⟩ (nums n)) 1 = pcountL (nums n) 2 1 := by
    unfold pcount
    rw [if_neg (by decide), if_neg (by rintro (⟨q, -, -⟩ | ⟨q, -, -⟩) <;> exact absurd q (by decide)), if_neg (by decide)]
  rw [e, pcountL_flat _ _ (fun x hx => ?_) (by decide), nums_len, eq_iff_iff]
  · split <;> omega
  · unfold nums at hx
    obtain ⟨i, -, rfl⟩ := List.mem_map.1 hx
    unfold numV1 pcount
    rw [if_neg (by decide), if_pos (Or.inl ⟨rfl, rfl, rfl⟩)]
theorem nums_text (n : Nat) (hn : n ≤ 6100) : (pputL (nums n)).length ≤ n * 10 := by
  induction n with
  | zero => exact Nat.zero_le _
  | succ n ih =>
    rw [nums_succ, pputL_append, pputL_one, List.length_append]
    have h1 := nDigits_le 3 n (by omega)
    have e : pput (.mk 1 (n : Int) ⟨#[]⟩ []) = wrapT (Lib.decDigits n) 35 := by rw [pput_wrap]; show wrapT (Lib.itoa (n : Int)) 35 = _; rw [itoa_nat]
    have h2 := wrapT_len (Lib.decDigits n) 35
    rw [itoa_nat] at h2
    have h3 := nDigits_le 0 (Lib.decDigits n).length (by omega)
    rw [e]
    have := ih (by omega)
    omega
theorem nums_put (n : Nat) (hn : n ≤ 6100) : pPut (.mk 3 0 ⟨#[]⟩ (nums n)) = [] ↔ ¬ n ≤ 5999 := by
  rw [pPut_eq, nums_may]
  have hl := nums_text n hn
  by_cases h : n ≤ 5999
  · rw [if_pos ⟨by simpa using h, by show (pputL (nums n)).length < _; omega⟩]
    have := pput_ne (.mk 3 0 ⟨#[]⟩ (nums n))
    constructor
    · intro e; rw [e] at this; simp at this
    · intro e; exact absurd h e
  · rw [if_neg (by simp [h])]
    simp [h]
end Go.Proofs.YtchfphhelafbbaaDoor
