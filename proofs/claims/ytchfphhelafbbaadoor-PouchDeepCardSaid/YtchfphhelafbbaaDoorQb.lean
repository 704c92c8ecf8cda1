/- Plain laws on pouch's texts: a value's text is read back; what is read is a value's text. -/
import Derived.Test.YtchfphhelafbbaaDoorQa
import Derived.Lib.IndexBytes
namespace Go.Proofs.YtchfphhelafbbaaDoor
open Go.RowKit

/-- What a value's text holds; its end. -/
def pbody : PV → List UInt8
  | .mk k n s l => if k = 1 then Lib.itoa n else if k = 3 then pputL l else s.data.toList
def pend : PV → UInt8
  | .mk k _ _ _ => if k = 1 then 35 else if k = 3 then 93 else 44
theorem pput_wrap (x : PV) : pput x = wrapT (pbody x) (pend x) := by
  cases x with
  | mk k n s l => unfold pput wrapT pbody pend; rfl
theorem wrapT_eq (t : List UInt8) (e : UInt8) : wrapT t e = Lib.decDigits t.length ++ (58 :: (t ++ [e])) := by unfold wrapT; rw [itoa_nat]
mutual
def fits : PV → Prop
  | .mk _ n _ l => (-9223372036854775808 ≤ n ∧ n ≤ 9223372036854775807) ∧ fitsL l
def fitsL : List PV → Prop
  | [] => True
  | x :: t => fits x ∧ fitsL t
end
theorem fitsL_append {l l' : List PV} (h : fitsL l) (h' : fitsL l') : fitsL (l ++ l') := by
  induction l with
  | nil => exact h'
  | cons x t ih => exact ⟨h.1, ih h.2⟩
theorem pbody_lt (x : PV) : (pbody x).length < (pput x).length := by
  have := wrapT_len (pbody x) (pend x)
  rw [pput_wrap]; omega
/-- What get makes of a text of a good length. -/
def getW (f : Nat) (t : List UInt8) (e : UInt8) : PV × Nat × Nat :=
  if e.toNat = 35 then
    match numP t with
    | some v => (.mk 1 v ⟨#[]⟩ [], (wrapT t e).length, 0)
    | none => (pz, 0, 1)
  else if e.toNat = 93 then
    match listP (getP f) 6000 ⟨t.toArray⟩ [] with
    | some l => (.mk 3 0 ⟨#[]⟩ l, (wrapT t e).length, 0)
    | none => (pz, 0, 1)
  else if e.toNat = 44 then (.mk 2 0 ⟨t.toArray⟩ [], (wrapT t e).length, 0)
  else (pz, 0, 1)
theorem getP_wrap (f : Nat) (t : List UInt8) (e : UInt8) (rest : List UInt8) (h : t.length < 10000000) {s : ByteArray} (hs : s.data.toList = wrapT t e ++ rest) : getP (f + 1) s = getW f t e := by
  have hz : sizeP s.data.toList = (t.length, (Lib.decDigits t.length).length + 1, 0) := by
    rw [hs, wrapT_eq, List.append_assoc]; exact sizeP_put _ _ h
  obtain ⟨a, ha⟩ : ∃ a, (Lib.decDigits t.length).length = a := ⟨_, rfl⟩
  have hw : (wrapT t e).length = a + 1 + t.length + 1 := by rw [wrapT_eq]; simp [ha]; omega
  have hsz : s.size = a + 1 + t.length + 1 + rest.length := by rw [Lib.size_eq, hs, List.length_append, hw]
  rw [ha] at hz
  have e0 : s.data.toList = (Lib.decDigits t.length ++ [58]) ++ (t ++ e :: rest) := by rw [hs, wrapT_eq]; simp
  have hdl : (Lib.decDigits t.length ++ [58]).length = a + 1 := by simp [ha]
  have e1 : s.data.toList.getD (a + 1 + t.length) 0 = e := by
    rw [List.getD, e0, List.getElem?_append_right (by omega), hdl, show a + 1 + t.length - (a + 1) = t.length by omega, List.getElem?_append_right (Nat.le_refl _), Nat.sub_self]
    rfl
  have e2 : s.extract (a + 1) (a + 1 + t.length) = ⟨t.toArray⟩ := by
    rw [Lib.extract_eq, e0, List.drop_append_of_le_length (by omega), List.drop_of_length_le (by omega), List.nil_append, show a + 1 + t.length - (a + 1) = t.length by omega, List.take_append_of_le_length (Nat.le_refl _), List.take_length]
  rw [getP_succ f hz (by omega), e1, e2]
  unfold getW
  rw [hw]
  rfl
theorem getP_cases {f : Nat} {s : ByteArray} (h : (getP f s).2.2 = 0) : ∃ f' t e rest, f = f' + 1 ∧ s.data.toList = wrapT t e ++ rest ∧ t.length < 10000000 := by
  cases f with
  | zero =>
    unfold getP at h
    split at h
    · rename_i h2; exact absurd h h2
    · simp at h
  | succ f =>
    obtain ⟨⟨n, a, er⟩, hz⟩ : ∃ r, sizeP s.data.toList = r := ⟨_, rfl⟩
    by_cases her : er = 0
    · subst her
      obtain ⟨r, e, ea, hn⟩ := sizeP_back hz
      by_cases hlt : a + n < s.size
      · have hl : n < r.length := by
          rw [Lib.size_eq, e] at hlt
          simp at hlt
          omega
        have ht : (r.take n).length = n := by rw [List.length_take]; omega
        refine ⟨f, r.take n, r[n], r.drop (n + 1), rfl, ?_, by rw [ht]; exact hn⟩
        rw [wrapT_eq, ht, e]
        simp only [List.append_assoc, List.cons_append, List.nil_append]
        rw [List.getElem_cons_drop, List.take_append_drop]
      · rw [getP, hz, if_neg (by simp), if_pos (by simpa using Nat.le_of_not_lt hlt)] at h
        simp at h
    · rw [getP, hz, if_pos (by simpa using her)] at h
      exact absurd h her
theorem getW_err {f : Nat} {t : List UInt8} {e : UInt8} (h : (getW f t e).2.2 ≠ 0) : getW f t e = (pz, 0, 1) := by
  unfold getW at h ⊢
  split
  · rename_i h1
    rw [if_pos h1] at h
    cases hn : numP t with
    | some v => rw [hn] at h; simp at h
    | none => rfl
  · rename_i h1
    rw [if_neg h1] at h
    split
    · rename_i h2
      rw [if_pos h2] at h
      cases hn : listP (getP f) 6000 ⟨t.toArray⟩ [] with
      | some v => rw [hn] at h; simp at h
      | none => rfl
    · rename_i h2
      rw [if_neg h2] at h
      split
      · rename_i h3; rw [if_pos h3] at h; simp at h
      · rfl
theorem getP_err {f : Nat} {s : ByteArray} (h : (getP f s).2.2 ≠ 0) : (getP f s).1 = pz ∧ (getP f s).2.1 = 0 := by
  cases f with
  | zero => unfold getP; split <;> exact ⟨rfl, rfl⟩
  | succ f =>
    obtain ⟨⟨n, a, er⟩, hz⟩ : ∃ r, sizeP s.data.toList = r := ⟨_, rfl⟩
    by_cases her : er = 0
    · subst her
      by_cases hlt : a + n < s.size
      · rw [getP_succ f hz hlt] at h ⊢
        split
        · rename_i h1
          rw [if_pos h1] at h
          split
          · rename_i v hv; rw [hv] at h; simp at h
          · exact ⟨rfl, rfl⟩
        · rename_i h1
          rw [if_neg h1] at h
          split
          · rename_i h2
            rw [if_pos h2] at h
            split
            · rename_i v hv; rw [hv] at h; simp at h
            · exact ⟨rfl, rfl⟩
          · rename_i h2
            rw [if_neg h2] at h
            split
            · rename_i h3; rw [if_pos h3] at h; simp at h
            · exact ⟨rfl, rfl⟩
      · rw [getP, hz, if_neg (by simp), if_pos (by simpa using Nat.le_of_not_lt hlt)]
        exact ⟨rfl, rfl⟩
    · rw [getP, hz, if_pos (by simpa using her)]
      exact ⟨rfl, rfl⟩
/-! what was put is read -/
theorem pcount_pos (x : PV) (d : Nat) : 1 ≤ pcount x d := by
  have go : ∀ (l : List PV) (d a : Nat), 1 ≤ a → 1 ≤ pcountL l d a := by
    intro l
    induction l with
    | nil => intro d a h; unfold pcountL; exact h
    | cons x t ih =>
      intro d a h
      unfold pcountL
      split
      · omega
      · exact ih _ _ (by omega)
  cases x with
  | mk k n s l =>
    unfold pcount
    split
    · omega
    · split
      · omega
      · split
        · omega
        · exact go _ _ _ (by omega)
theorem pcountL_cons {x : PV} {t : List PV} {d a : Nat} (h : pcountL (x :: t) d a ≤ 6000) : a + pcount x d ≤ 6000 ∧ pcountL t d (a + pcount x d) ≤ 6000 := by
  unfold pcountL at h
  split at h
  · omega
  · exact ⟨by omega, h⟩
theorem pcountL_length : ∀ (l : List PV) (d a : Nat), a ≤ 6000 → pcountL l d a ≤ 6000 → a + l.length ≤ 6000
  | [], _, _, h, _ => by simpa using h
  | x :: t, d, a, _, h => by
    obtain ⟨h1, h2⟩ := pcountL_cons h
    have := pcountL_length t d _ h1 h2
    have := pcount_pos x d
    rw [List.length_cons]; omega
theorem pput_ne (x : PV) : 1 ≤ (pput x).length := by have := pbody_lt x; omega
theorem ba_nil {s : ByteArray} (h : s.size = 0) : s = ⟨#[]⟩ := by
  have h1 : s.data.toList = [] := List.length_eq_zero_iff.1 (by rw [← Lib.size_eq]; exact h)
  rw [← Lib.mk_data s, h1]
mutual
theorem getP_put : ∀ (x : PV) (d f : Nat) (rest : List UInt8) (s : ByteArray), d + f = 7 → pcount x d ≤ 6000 → fits x → (pbody x).length < 10000000 → s.data.toList = pput x ++ rest → getP f s = (x, (pput x).length, 0)
  | .mk k n s l, d, f, rest, S, hf, hc, hfit, hb, hS => by
    have hc' := hc
    unfold pcount at hc'
    split at hc'
    · omega
    rename_i h6
    obtain ⟨f, rfl⟩ : ∃ f', f = f' + 1 := ⟨f - 1, by omega⟩
    rw [pput_wrap] at hS ⊢
    rw [getP_wrap f _ _ rest hb hS]
    split at hc'
    · rename_i h1
      rcases h1 with ⟨rfl, h2, h3⟩ | ⟨rfl, rfl, h3⟩
      · obtain rfl := ba_nil h2
        obtain rfl := List.length_eq_zero_iff.1 h3
        have e1 : pbody (.mk 1 n ⟨#[]⟩ []) = Lib.itoa n := rfl
        have e2 : pend (.mk 1 n ⟨#[]⟩ []) = 35 := rfl
        rw [e1, e2]
        unfold getW
        rw [if_pos (by decide), numP_itoa hfit.1]
      · obtain rfl := List.length_eq_zero_iff.1 h3
        have e1 : pbody (.mk 2 0 s []) = s.data.toList := rfl
        have e2 : pend (.mk 2 0 s []) = 44 := rfl
        rw [e1, e2]
        unfold getW
        rw [if_neg (by decide), if_neg (by decide), if_pos (by decide), Lib.mk_data]
    · split at hc'
      · omega
      · rename_i h1 h2
        have h3 : k = 3 ∧ n = 0 ∧ s.size = 0 := by
          refine ⟨Classical.byContradiction fun q => h2 (Or.inl q), Classical.byContradiction fun q => h2 (Or.inr (Or.inl q)), Classical.byContradiction fun q => h2 (Or.inr (Or.inr q))⟩
        obtain ⟨rfl, rfl, h4⟩ := h3
        obtain rfl := ba_nil h4
        have e1 : pbody (.mk 3 0 ⟨#[]⟩ l) = pputL l := rfl
        have e2 : pend (.mk 3 0 ⟨#[]⟩ l) = 93 := rfl
        rw [e1] at hb
        rw [e1, e2]
        have hll := pcountL_length l (d + 1) 1 (by omega) hc'
        have := listP_put l (d + 1) f 6000 1 [] ⟨(pputL l).toArray⟩ (by omega) hc' hfit.2 hb (by omega) rfl
        unfold getW
        rw [if_neg (by decide), if_pos (by decide), this]
        rfl
theorem listP_put : ∀ (l : List PV) (d f m a : Nat) (acc : List PV) (s : ByteArray), d + f = 7 → pcountL l d a ≤ 6000 → fitsL l → (pputL l).length < 10000000 → l.length ≤ m → s.data.toList = pputL l → listP (getP f) m s acc = some (acc ++ l)
  | [], d, f, m, a, acc, s, _, _, _, _, _, hs => by
    have h0 : s.size = 0 := by rw [Lib.size_eq, hs]; rfl
    rw [listP_end h0, List.append_nil]
  | x :: t, d, f, m, a, acc, s, hf, hc, hfit, hb, hm, hs => by
    obtain ⟨h1, h2⟩ := pcountL_cons hc
    obtain ⟨m, rfl⟩ : ∃ m', m = m' + 1 := ⟨m - 1, by rw [List.length_cons] at hm; omega⟩
    have e : pputL (x :: t) = pput x ++ pputL t := rfl
    rw [e, List.length_append] at hb
    rw [e] at hs
    have hx := pbody_lt x
    have hg := getP_put x d f (pputL t) s hf (by omega) hfit.1 (by omega) hs
    have hne := pput_ne x
    have hsz : s.size = (pput x).length + (pputL t).length := by rw [Lib.size_eq, hs, List.length_append]
    unfold listP
    rw [if_neg (by omega), hg, if_neg (by simp)]
    have hrest : (s.extract (pput x).length s.size).data.toList = pputL t := by
      rw [Lib.extract_to_end, hs, List.drop_left]
    rw [listP_put t d f m _ (acc ++ [x]) _ hf h2 hfit.2 (by omega) (by rw [List.length_cons] at hm; omega) hrest, List.append_assoc]
    rfl
end
/-! what is read was put -/
theorem listP_text {g : ByteArray → PV × Nat × Nat} (hg : ∀ s x n, g s = (x, n, 0) → s.data.toList.take n = pput x ∧ fits x) : ∀ (m : Nat) (s : ByteArray) (acc l : List PV), listP g m s acc = some l → ∃ l', l = acc ++ l' ∧ s.data.toList = pputL l' ∧ fitsL l'
  | m, s, acc, l, h => by
    by_cases h0 : s.size = 0
    · rw [listP_end h0] at h
      simp only [Option.some.injEq] at h
      refine ⟨[], by rw [List.append_nil]; exact h.symm, ?_, trivial⟩
      exact List.length_eq_zero_iff.1 (by rw [← Lib.size_eq]; exact h0)
    · cases m with
      | zero => unfold listP at h; rw [if_neg h0] at h; cases h
      | succ m =>
        unfold listP at h
        rw [if_neg h0] at h
        split at h
        · cases h
        · rename_i her
          obtain ⟨⟨x, n, er⟩, hgs⟩ : ∃ r, g s = r := ⟨_, rfl⟩
          rw [hgs] at h her
          have her : er = 0 := Classical.byContradiction fun q => her q
          subst her
          obtain ⟨h1, h2⟩ := hg s x n hgs
          obtain ⟨l', e1, e2, e3⟩ := listP_text hg m _ _ _ h
          refine ⟨x :: l', by rw [e1, List.append_assoc]; rfl, ?_, h2, e3⟩
          rw [Lib.extract_to_end] at e2
          show _ = pput x ++ pputL l'
          rw [← h1, ← e2, List.take_append_drop]
theorem getP_text : ∀ (f : Nat) (s : ByteArray) (x : PV) (n : Nat), getP f s = (x, n, 0) → s.data.toList.take n = pput x ∧ n = (pput x).length ∧ n ≤ s.size ∧ fits x ∧ (pbody x).length < 10000000
  | f, s, x, n, h => by
    obtain ⟨f, t, e, rest, rfl, hs, ht⟩ := getP_cases (f := f) (s := s) (by rw [h])
    rw [getP_wrap f t e rest ht hs] at h
    have hsz : s.size = (wrapT t e).length + rest.length := by rw [Lib.size_eq, hs, List.length_append]
    have fin : ∀ x, pbody x = t → pend x = e → fits x → s.data.toList.take (wrapT t e).length = pput x ∧ (wrapT t e).length = (pput x).length ∧ (wrapT t e).length ≤ s.size ∧ fits x ∧ (pbody x).length < 10000000 := by
      intro x h1 h2 h3
      rw [pput_wrap, h1, h2, hs, List.take_left]
      exact ⟨rfl, rfl, by omega, h3, ht⟩
    unfold getW at h
    split at h
    · rename_i h1
      have he : e = 35 := UInt8.toNat.inj h1
      subst he
      split at h
      · rename_i v hv
        simp only [Prod.mk.injEq, and_true] at h
        obtain ⟨rfl, rfl⟩ := h
        exact fin _ (numP_text hv) rfl ⟨numP_bd hv, trivial⟩
      · simp at h
    · split at h
      · rename_i h1 h2
        have he : e = 93 := UInt8.toNat.inj h2
        subst he
        split at h
        · rename_i l hl
          simp only [Prod.mk.injEq, and_true] at h
          obtain ⟨rfl, rfl⟩ := h
          obtain ⟨l', e1, e2, e3⟩ := listP_text (fun s x n q => ⟨(getP_text f s x n q).1, (getP_text f s x n q).2.2.2.1⟩) _ _ _ _ hl
          rw [List.nil_append] at e1
          subst e1
          exact fin _ e2.symm rfl ⟨by decide, e3⟩
        · simp at h
      · rename_i h1 h2
        split at h
        · rename_i h3
          have he : e = 44 := UInt8.toNat.inj h3
          subst he
          simp only [Prod.mk.injEq, and_true] at h
          obtain ⟨rfl, rfl⟩ := h
          exact fin _ rfl rfl ⟨by decide, trivial⟩
        · simp at h
/-! the length's digits -/
theorem indexByte_digits : ∀ (l r : List UInt8), l.all isD = true → Lib.indexByte (l ++ 58 :: r) 58 = l.length
  | [], _, _ => by show Lib.indexByte (58 :: _) 58 = _; unfold Lib.indexByte; rfl
  | c :: t, r, h => by
    rw [List.all_cons, Bool.and_eq_true] at h
    have hc := isD_iff.1 h.1
    have ih := indexByte_digits t r h.2
    show Lib.indexByte (c :: (t ++ 58 :: r)) 58 = _
    unfold Lib.indexByte
    have hne : (c == 58) = false := by
      rw [beq_eq_false_iff_ne]; rintro rfl; revert hc; decide
    have hi : ((t.length : Int) == -1) = false := by rw [beq_eq_false_iff_ne]; omega
    rw [hne, ih, hi]
    simp
theorem pPut_eq (x : PV) : pPut x = if pmay x = true ∧ (pbody x).length < 10000000 then pput x else [] := by
  unfold pPut
  have e : Lib.indexByte (pput x) 58 ≤ 7 ↔ (pbody x).length < 10000000 := by
    rw [pput_wrap, wrapT_eq, indexByte_digits _ _ (decD_all _), ← decD_len_iff]
    omega
  simp only [e]
theorem pPut_ne {x : PV} (h : pPut x ≠ []) : pmay x = true ∧ (pbody x).length < 10000000 ∧ pPut x = pput x := by
  rw [pPut_eq] at h ⊢
  split at h
  · rename_i q; rw [if_pos q]; exact ⟨q.1, q.2, rfl⟩
  · exact absurd rfl h
theorem pmay_iff (x : PV) : pmay x = true ↔ pcount x 1 ≤ 6000 := by unfold pmay; simp
theorem pGet_put {x : PV} (hf : fits x) (h : pPut x ≠ []) {rest : List UInt8} {s : ByteArray} (hs : s.data.toList = pPut x ++ rest) : pGet s = (x, (pPut x).length, 0) := by
  obtain ⟨h1, h2, h3⟩ := pPut_ne h
  rw [h3] at hs ⊢
  have := getP_put x 1 6 rest s rfl ((pmay_iff x).1 h1) hf h2 hs
  unfold pGet
  rw [this, if_neg (by simp [h1])]
theorem pGet_ok {s : ByteArray} {x : PV} {n : Nat} (h : pGet s = (x, n, 0)) : s.data.toList.take n = pPut x ∧ n = (pPut x).length ∧ 1 ≤ n ∧ n ≤ s.size ∧ pmay x = true ∧ fits x := by
  unfold pGet at h
  split at h
  · simp at h
  · rename_i hm
    obtain ⟨h1, h2, h3, h4, h5⟩ := getP_text 6 s x n h
    rw [h] at hm
    have hmay : pmay x = true := by
      cases hp : pmay x with
      | true => rfl
      | false => exact absurd ⟨rfl, hp⟩ hm
    rw [pPut_eq, if_pos ⟨hmay, h5⟩]
    exact ⟨h1, h2, by have := pput_ne x; omega, h3, hmay, h4⟩
theorem pGet_err {s : ByteArray} (h : (pGet s).2.2 ≠ 0) : (pGet s).1 = pz ∧ (pGet s).2.1 = 0 ∧ ((pGet s).2.2 = 1 ∨ (pGet s).2.2 = 2) := by
  have hb := pGet_bd s
  refine ⟨?_, ?_, by omega⟩
  · unfold pGet at h ⊢
    split
    · rfl
    · rename_i q; rw [if_neg q] at h; exact (getP_err h).1
  · unfold pGet at h ⊢
    split
    · rfl
    · rename_i q; rw [if_neg q] at h; exact (getP_err h).2
end Go.Proofs.YtchfphhelafbbaaDoor
