/- Plain laws on leaves that were turned: one byte, but of the length, is told. -/
import Derived.Test.YtjblbjamceloaaaGreatDoorNE
namespace Go.Proofs.YtjblbjamceloaaaGreatDoor
open Go.RowKit

theorem hex4_inj {x y : Nat} (hx : x < 65521) (hy : y < 65521) (h : hex4 x = hex4 y) : x = y := by
  obtain ⟨a, b, c, d, e1, -, -, -, -, v1⟩ := hex4_ok hx
  obtain ⟨a', b', c', d', e2, -, -, -, -, v2⟩ := hex4_ok hy
  rw [e1, e2] at h
  simp only [List.cons.injEq, and_true] at h
  obtain ⟨rfl, rfl, rfl, rfl⟩ := h
  omega
theorem textL_same {p q : ZP} (h : textL p = textL q) : Same p q := by
  unfold textL at h
  obtain ⟨h1, h2⟩ := List.append_inj h rfl
  have a1 := rs_bd p.1
  have a2 := rs_bd p.2
  have a3 := rs_bd q.1
  have a4 := rs_bd q.2
  have e1 := hex4_inj (by omega) (by omega) h1
  have e2 := hex4_inj (by omega) (by omega) h2
  exact ⟨by omega, by omega⟩
theorem dig_inj {a b : Nat} {x y : List UInt8} (h : Lib.decDigits a ++ 58 :: x = Lib.decDigits b ++ 58 :: y) (ha : a < 10000000) (hb : b < 10000000) : a = b ∧ x = y := by
  have h1 := sizeP_put a x ha
  have h2 := sizeP_put b y hb
  rw [h, h2] at h1
  simp only [Prod.mk.injEq] at h1
  obtain rfl := h1.1
  have := List.append_cancel_left h
  simp only [List.cons.injEq, true_and] at this
  exact ⟨rfl, this⟩
theorem wrap_front {u t : List UInt8} {e : UInt8} {r r2 : List UInt8} (h : wrapT u 44 ++ r = wrapT t e ++ r2) (hu : u.length < 10000000) (ht : t.length < 10000000) : u = t ∧ e = 44 := by
  rw [wrapT_eq, wrapT_eq, List.append_assoc, List.append_assoc] at h
  obtain ⟨h1, h2⟩ := dig_inj h hu ht
  have h2' : (u ++ [44]) ++ r = (t ++ [e]) ++ r2 := h2
  rw [List.append_assoc, List.append_assoc] at h2'
  obtain ⟨rfl, h3⟩ := List.append_inj h2' h1
  simp only [List.cons_append, List.nil_append, List.cons.injEq] at h3
  exact ⟨rfl, h3.1.symm⟩
theorem getW_two (f : Nat) (t : List UInt8) (e : UInt8) : (getW f t e).2.2 = 0 ∨ (getW f t e).2.2 = 1 := by
  by_cases h : (getW f t e).2.2 = 0
  · exact Or.inl h
  · exact Or.inr (by rw [getW_err h])
theorem pGet_two {t : List UInt8} {e : UInt8} {r : List UInt8} {s : ByteArray} (ht : t.length < 10000000) (hs : s.data.toList = wrapT t e ++ r) : (pGet s).2.2 = 0 ∨ (pGet s).2.2 = 1 := by
  have h := getP_wrap 5 t e r ht hs
  unfold pGet
  rw [h]
  split
  · exact Or.inr rfl
  · exact getW_two _ _ _
/-- A text that begins as marks do, with a value of any form behind, that is no leaf. -/
theorem turn_bad {B : ByteArray} {m t : List UInt8} {e : UInt8} {r : List UInt8} (hB : B.data.toList = m ++ (wrapT t e ++ r)) (hm : m.length = 8) (ht : t.length ≤ 400000) (hno : ¬ (e = 44 ∧ textL (cmark t) = m)) : (turnS B).2.2 = 3 := by
  unfold turnS
  split
  · rfl
  · have h8 : ¬ B.size < 8 := by rw [Lib.size_eq, hB, List.length_append]; omega
    rw [if_neg h8]
    have he : (B.extract 8 B.size).data.toList = wrapT t e ++ r := by
      rw [Lib.extract_to_end, hB]
      exact List.drop_left' hm
    have h2 := pGet_two (by omega) he
    rw [if_neg (by omega)]
    split
    rename_i k mm u l n er hg
    split
    · rfl
    · rename_i hq
      exfalso
      have h0 : er = 0 := Classical.byContradiction fun q => hq (Or.inl q)
      subst h0
      have hl : leafL u.data.toList = B.data.toList.take (8 + n) := Classical.byContradiction fun q => hq (Or.inr (Or.inr q))
      obtain ⟨-, -, hn1, hn2, -, -⟩ := pGet_ok hg
      by_cases hu : u.data.toList.length ≤ 400000
      · rw [leafL_eq hu] at hl
        have hl2 : textL (cmark u.data.toList) ++ (wrapT u.data.toList 44 ++ B.data.toList.drop (8 + n)) = m ++ (wrapT t e ++ r) := by
          rw [← List.append_assoc, hl, List.take_append_drop, hB]
        obtain ⟨h3, h4⟩ := List.append_inj hl2 (by rw [textL_len, hm])
        obtain ⟨h5, h6⟩ := wrap_front h4 (by omega) (by omega)
        exact hno ⟨h6, by rw [← h5]; exact h3⟩
      · unfold leafL at hl
        rw [if_pos (by omega)] at hl
        have := congrArg List.length hl
        rw [List.length_take, ← Lib.size_eq] at this
        simp only [List.length_nil] at this
        omega
/-- One byte of a leaf turned, but of its length. -/
theorem turn_spoilt {s B : ByteArray} (hs : s.size ≤ 400000) {k : Nat} {y : UInt8} {r : List UInt8} (hk : k < (leafL s.data.toList).length) (hy : y ≠ (leafL s.data.toList)[k]) (hr : k < 8 ∨ 8 + (Lib.decDigits s.size).length < k) (hB : B.data.toList = (leafL s.data.toList).set k y ++ r) : (turnS B).2.2 = 3 := by
  have hl : s.data.toList.length ≤ 400000 := by rw [← Lib.size_eq]; exact hs
  have hle := leafL_eq hl
  rcases hr with hr | hr
  · have h1 : (leafL s.data.toList).set k y = (textL (cmark s.data.toList)).set k y ++ wrapT s.data.toList 44 := by
      rw [hle, List.set_append_left _ _ (by rw [textL_len]; exact hr)]
    rw [h1, List.append_assoc] at hB
    refine turn_bad hB (by rw [List.length_set, textL_len]) hl ?_
    rintro ⟨-, h2⟩
    have h3 : k < (textL (cmark s.data.toList)).length := by rw [textL_len]; exact hr
    have h4 : (textL (cmark s.data.toList))[k] = (leafL s.data.toList)[k] := by
      simp only [hle]
      rw [List.getElem_append_left h3]
    have h5 : ((textL (cmark s.data.toList)).set k y)[k]'(by rw [List.length_set]; exact h3) = y := List.getElem_set_self _
    rw [← h4] at hy
    apply hy
    rw [← h5]
    exact (List.getElem_of_eq h2 _).symm
  · obtain ⟨j, rfl⟩ : ∃ j, k = 8 + ((Lib.decDigits s.size).length + (1 + j)) := ⟨k - 8 - (Lib.decDigits s.size).length - 1, by omega⟩
    have hw : wrapT s.data.toList 44 = Lib.decDigits s.size ++ (58 :: (s.data.toList ++ [44])) := by rw [wrapT_eq, ← Lib.size_eq]
    have h1 : (leafL s.data.toList).set (8 + ((Lib.decDigits s.size).length + (1 + j))) y = textL (cmark s.data.toList) ++ (Lib.decDigits s.size ++ (58 :: (s.data.toList ++ [44]).set j y)) := by
      rw [hle, hw, List.set_append_right _ _ (by rw [textL_len]; omega), textL_len, Nat.add_sub_cancel_left, List.set_append_right _ _ (by omega), Nat.add_sub_cancel_left, Nat.add_comm 1 j, List.set_cons_succ]
    have hj : j < s.size + 1 := by
      rw [leafL_len hl, ← Lib.size_eq] at hk
      omega
    have hg : (leafL s.data.toList)[8 + ((Lib.decDigits s.size).length + (1 + j))] = (s.data.toList ++ [44])[j]'(by rw [List.length_append, ← Lib.size_eq]; exact hj) := by
      have e1 : leafL s.data.toList = textL (cmark s.data.toList) ++ (Lib.decDigits s.size ++ (58 :: (s.data.toList ++ [44]))) := by rw [hle, hw]
      simp only [e1]
      rw [List.getElem_append_right (by rw [textL_len]; omega), List.getElem_append_right (by rw [textL_len]; omega)]
      simp only [textL_len, Nat.add_sub_cancel_left, Nat.add_comm 1 j, List.getElem_cons_succ]
    rw [hg] at hy
    rw [h1, List.append_assoc] at hB
    by_cases hjs : j < s.size
    · have hjl : j < s.data.toList.length := by rw [← Lib.size_eq]; exact hjs
      have e2 : (s.data.toList ++ [44]).set j y = s.data.toList.set j y ++ [44] := List.set_append_left _ _ hjl
      have e3 : Lib.decDigits s.size ++ (58 :: (s.data.toList ++ [44]).set j y) = wrapT (s.data.toList.set j y) 44 := by
        rw [e2, wrapT_eq, List.length_set, ← Lib.size_eq]
      rw [e3] at hB
      refine turn_bad hB (textL_len _) (by rw [List.length_set]; exact hl) ?_
      rintro ⟨-, h2⟩
      rw [List.getElem_append_left hjl] at hy
      exact hy ((cmark_set _ _ hjl _).1 (textL_same h2))
    · obtain rfl : j = s.size := by omega
      have e2 : (s.data.toList ++ [44]).set s.size y = s.data.toList ++ [y] := by
        rw [List.set_append_right _ _ (by rw [← Lib.size_eq]; exact Nat.le_refl _), ← Lib.size_eq, Nat.sub_self]; rfl
      have e3 : Lib.decDigits s.size ++ (58 :: (s.data.toList ++ [44]).set s.size y) = wrapT s.data.toList y := by
        rw [e2, wrapT_eq, ← Lib.size_eq]
      rw [e3] at hB
      refine turn_bad hB (textL_len _) hl ?_
      rintro ⟨h2, -⟩
      apply hy
      rw [h2, List.getElem_append_right (by rw [← Lib.size_eq]; exact Nat.le_refl _)]
      simp [← Lib.size_eq]
/-- Whole leaves, then one that was turned. -/
theorem prun_spoilt : ∀ (front : List ByteArray) (s x : ByteArray) (k j : Nat) (y : UInt8) (r : List UInt8), (∀ x ∈ front, x.size ≤ 400000) → x.size ≤ 400000 → (hj : j < (leafL x.data.toList).length) → y ≠ (leafL x.data.toList)[j] → (j < 8 ∨ 8 + (Lib.decDigits x.size).length < j) → k ≤ s.size → s.data.toList.drop k = leavesL front ++ ((leafL x.data.toList).set j y ++ r) →
    PRun s k front (k + (leavesL front).length) 3
  | [], s, x, k, j, y, r, _, hx, hj, hy, hr, hk, h => by
    have hX : (s.extract k s.size).data.toList = (leafL x.data.toList).set j y ++ r := by rw [Lib.extract_to_end]; exact h
    have hl : k < s.size := by
      have := congrArg List.length h
      rw [List.length_drop, ← Lib.size_eq, List.length_append, List.length_append, List.length_set] at this
      omega
    exact .err _ _ hl (turn_spoilt hx hj hy hr hX) (by decide)
  | z :: front, s, x, k, j, y, r, hf, hx, hj, hy, hr, hk, h => by
    have e1 : leavesL (z :: front) = leafL z.data.toList ++ leavesL front := rfl
    rw [e1, List.append_assoc] at h
    have hX : (s.extract k s.size).data.toList = leafL z.data.toList ++ (leavesL front ++ ((leafL x.data.toList).set j y ++ r)) := by rw [Lib.extract_to_end]; exact h
    have ht := turn_leaf (hf z (by simp)) hX
    have hlen : s.size - k = (leafL z.data.toList).length + ((leavesL front).length + ((leafL x.data.toList).length + r.length)) := by
      have := congrArg List.length h
      rw [List.length_drop, ← Lib.size_eq, List.length_append, List.length_append, List.length_append, List.length_set] at this
      exact this
    have hd : s.data.toList.drop (k + (leafL z.data.toList).length) = leavesL front ++ ((leafL x.data.toList).set j y ++ r) := by
      rw [← List.drop_drop, h, List.drop_left]
    have ih := prun_spoilt front s x (k + (leafL z.data.toList).length) j y r (fun q hq => hf q (by simp [hq])) hx hj hy hr (by omega) hd
    rw [e1, List.length_append, ← Nat.add_assoc]
    exact .step _ _ _ _ _ _ (by omega) ht ih
end Go.Proofs.YtjblbjamceloaaaGreatDoor
