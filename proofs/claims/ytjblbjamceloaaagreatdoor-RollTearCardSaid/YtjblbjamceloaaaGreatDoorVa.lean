/- Plain: where a name stands among rising ones; rolls as cells. -/
import Derived.Test.YtjblbjamceloaaaGreatDoorN3
namespace Go.Proofs.YtjblbjamceloaaaGreatDoor
open Go.RowKit

/-- How many names are below one. -/
def placeL (n : Nm) : List Rl → Nat
  | [] => 0
  | x :: r => if x.1 < n then placeL n r + 1 else 0
theorem placeL_le (n : Nm) : ∀ L : List Rl, placeL n L ≤ L.length
  | [] => Nat.le_refl _
  | x :: r => by
    unfold placeL
    split
    · have := placeL_le n r; simp; omega
    · omega
/-- The place, as a loop finds it. -/
theorem placeL_is {n : Nm} : ∀ {L : List Rl} {k : Nat}, k ≤ L.length → (∀ i, i < k → ∀ x, L[i]? = some x → x.1 < n) → (k = L.length ∨ ∃ x, L[k]? = some x ∧ ¬ x.1 < n) → k = placeL n L
  | [], k, hk, _, _ => by simpa [placeL] using hk
  | x :: r, 0, _, _, h => by
    rcases h with h | ⟨y, hy, hn⟩
    · simp at h
    · simp at hy; subst hy
      unfold placeL; rw [if_neg hn]
  | x :: r, k + 1, hk, hl, h => by
    have h0 := hl 0 (by omega) x rfl
    unfold placeL
    rw [if_pos h0, ← placeL_is (n := n) (L := r) (k := k) (by simpa using hk) (fun i hi y hy => hl (i + 1) (by omega) y (by simpa using hy)) (by
      rcases h with h | ⟨y, hy, hn⟩
      · exact Or.inl (by simpa using h)
      · exact Or.inr ⟨y, by simpa using hy, hn⟩)]
theorem look_place {n : Nm} : ∀ {L : List Rl}, Rising L → ∀ c, (lookL n L = some c ↔ L[placeL n L]? = some (n, c))
  | [], _, c => by simp [lookL]
  | x :: r, hs, c => by
    unfold lookL placeL
    have hr : Rising r := (List.pairwise_cons.1 hs).2
    by_cases h : x.1 = n
    · rw [if_pos h, if_neg (by rw [h]; exact lt_irr _)]
      obtain ⟨a, b⟩ := x
      simp only at h
      subst h
      simp
    · rw [if_neg h]
      by_cases h2 : x.1 < n
      · rw [if_pos h2]
        simpa using look_place hr c
      · rw [if_neg h2]
        have h3 := lt_tri h2 h
        have h4 : lookL n r = none := look_of_low (fun y hy => lt_tr h3 ((List.pairwise_cons.1 hs).1 y hy))
        rw [h4]
        simp only [List.getElem?_cons_zero, Option.some.injEq, reduceCtorEq, false_iff]
        rintro rfl
        exact h rfl
theorem put_there {n : Nm} {c : Scr} : ∀ {L : List Rl}, Rising L → (lookL n L).isSome = true → putL n c L = L.set (placeL n L) (n, c)
  | [], _, h => by simp [lookL] at h
  | x :: r, hs, h => by
    have hr : Rising r := (List.pairwise_cons.1 hs).2
    unfold putL placeL
    unfold lookL at h
    by_cases h1 : x.1 = n
    · rw [if_neg (by rw [h1]; exact lt_irr _), if_pos h1, if_neg (by rw [h1]; exact lt_irr _)]; rfl
    · rw [if_neg h1] at h
      have h2 : x.1 < n := Classical.byContradiction fun h2 => by
        have h3 := lt_tri h2 h1
        rw [look_of_low (fun y hy => lt_tr h3 ((List.pairwise_cons.1 hs).1 y hy))] at h
        simp at h
      rw [if_neg (fun h3 => lt_irr _ (lt_tr h2 h3)), if_neg h1, if_pos h2, put_there hr h]; rfl
theorem put_new {n : Nm} {c : Scr} : ∀ {L : List Rl}, Rising L → lookL n L = none → putL n c L = L.take (placeL n L) ++ ((n, c) :: L.drop (placeL n L))
  | [], _, _ => rfl
  | x :: r, hs, h => by
    have hr : Rising r := (List.pairwise_cons.1 hs).2
    unfold putL placeL
    unfold lookL at h
    by_cases h1 : x.1 = n
    · rw [if_pos h1] at h; simp at h
    · rw [if_neg h1] at h
      by_cases h2 : x.1 < n
      · rw [if_neg (fun h3 => lt_irr _ (lt_tr h2 h3)), if_neg h1, if_pos h2, put_new hr h]; rfl
      · rw [if_pos (lt_tri h2 h1), if_neg h2]; rfl
theorem del_there {n : Nm} : ∀ {L : List Rl}, Rising L → (lookL n L).isSome = true → delL n L = L.take (placeL n L) ++ L.drop (placeL n L + 1)
  | [], _, h => by simp [lookL] at h
  | x :: r, hs, h => by
    have hr : Rising r := (List.pairwise_cons.1 hs).2
    unfold placeL
    unfold lookL at h
    by_cases h1 : x.1 = n
    · rw [if_neg (by rw [h1]; exact lt_irr _)]
      unfold delL
      rw [List.filter_cons_of_neg (by simp [h1]), List.filter_eq_self.2 (fun y hy => by
        have h3 := (List.pairwise_cons.1 hs).1 y hy
        simp only [Bool.not_eq_true', decide_eq_false_iff_not]
        intro e
        rw [e, h1] at h3
        exact lt_irr _ h3)]
      rfl
    · rw [if_neg h1] at h
      have h2 : x.1 < n := Classical.byContradiction fun h2 => by
        have h3 := lt_tri h2 h1
        rw [look_of_low (fun y hy => lt_tr h3 ((List.pairwise_cons.1 hs).1 y hy))] at h
        simp at h
      rw [if_pos h2]
      have := del_there hr h
      unfold delL at this ⊢
      rw [List.filter_cons_of_pos (by simp [h1]), this]; rfl
theorem del_none {n : Nm} {L : List Rl} (h : lookL n L = none) : delL n L = L := List.filter_eq_self.2 fun y hy => by simpa using lookL_none h y hy
/-- A name as bytes. -/
def nmB (n : Nm) : ByteArray := ⟨n.toArray⟩
theorem nmB_list (n : Nm) : (nmB n).data.toList = n := rfl
theorem nmB_of (s : ByteArray) : nmB s.data.toList = s := ba_ext rfl
/-- A roll's cells. -/
def rollC (x : Rl) : List Value := [.string (nmB x.1), .string x.2.s, .int .i64 x.2.p, .bool x.2.k]
def rollsC (L : List Rl) : List Value := L.flatMap rollC
theorem rollsC_nil : rollsC [] = [] := rfl
theorem rollsC_cons (x : Rl) (L : List Rl) : rollsC (x :: L) = rollC x ++ rollsC L := rfl
theorem rollsC_append (a b : List Rl) : rollsC (a ++ b) = rollsC a ++ rollsC b := List.flatMap_append
theorem rollsC_len : ∀ L : List Rl, (rollsC L).length = L.length * 4
  | [] => rfl
  | x :: r => by rw [rollsC_cons, List.length_append, rollsC_len r, List.length_cons]; show 4 + _ = _; omega
theorem rollsC_get : ∀ {L : List Rl} {i : Nat} {x : Rl}, L[i]? = some x → ∀ j, j < 4 → (rollsC L)[i * 4 + j]? = (rollC x)[j]?
  | [], i, x, h, _, _ => by simp at h
  | y :: r, 0, x, h, j, hj => by
    simp at h; subst h
    rw [rollsC_cons, Nat.zero_mul, Nat.zero_add, List.getElem?_append_left (by exact hj)]
  | y :: r, i + 1, x, h, j, hj => by
    rw [rollsC_cons, List.getElem?_append_right (by show 4 ≤ _; omega)]
    have : (i + 1) * 4 + j - (rollC y).length = i * 4 + j := by show (i + 1) * 4 + j - 4 = _; omega
    rw [this]
    exact rollsC_get (by simpa using h) j hj
theorem rollsC_set : ∀ {L : List Rl} {i : Nat} {x y : Rl} {j : Nat} {u : Value}, L[i]? = some x → j < 4 → rollC y = (rollC x).set j u → rollsC (L.set i y) = (rollsC L).set (i * 4 + j) u
  | [], i, x, y, j, u, h, _, _ => by simp at h
  | z :: r, 0, x, y, j, u, h, hj, e => by
    simp at h; subst h
    rw [List.set_cons_zero, rollsC_cons, rollsC_cons, e, Nat.zero_mul, Nat.zero_add, List.set_append_left _ _ (by exact hj)]
  | z :: r, i + 1, x, y, j, u, h, hj, e => by
    rw [List.set_cons_succ, rollsC_cons, rollsC_cons, rollsC_set (L := r) (i := i) (by simpa using h) hj e, List.set_append_right _ _ (by show 4 ≤ _; omega)]
    congr 2
    show _ = (i + 1) * 4 + j - 4
    omega
theorem rollsC_one {L : List Rl} : ∀ u ∈ rollsC L, u.oneCell' = true := fun u hu => by
  obtain ⟨x, -, hx⟩ := List.mem_flatMap.1 hu
  simp only [rollC, List.mem_cons, List.mem_nil_iff, or_false] at hx
  rcases hx with rfl | rfl | rfl | rfl <;> rfl
theorem sumL_append (a b : List Rl) : sumL (a ++ b) = sumL a + sumL b := by
  induction a with
  | nil => simp [sumL]
  | cons x r ih =>
    show (x.2.s.size : Int) + sumL (r ++ b) = (x.2.s.size : Int) + sumL r + sumL b
    rw [ih]; omega
theorem sumL_take_succ {L : List Rl} {k : Nat} {x : Rl} (h : L[k]? = some x) : sumL (L.take (k + 1)) = sumL (L.take k) + x.2.s.size := by
  obtain ⟨hk, e⟩ := List.getElem?_eq_some_iff.1 h
  rw [List.take_succ_eq_append_getElem hk, sumL_append, e]
  simp [sumL]
theorem sumL_take_le (L : List Rl) (k : Nat) : 0 ≤ sumL (L.take k) ∧ sumL (L.take k) ≤ sumL L := by
  refine ⟨sumL_nonneg _, ?_⟩
  have h := sumL_append (L.take k) (L.drop k)
  rw [List.take_append_drop] at h
  have := sumL_nonneg (L.drop k)
  omega
end Go.Proofs.YtjblbjamceloaaaGreatDoor
