/- PouchMany: plain laws, and what stands while the loops run. -/
import Derived.Test.YthbbfdlacclccaaDoorTf
import Derived.Test.YthbbfdlacclccaaDoorTc
import Derived.Test.YthbbfdlacclccaaDoorTd
namespace Go.Proofs.YthbbfdlacclccaaDoor
open Go.RowKit

/-- The texts of values, one behind the other; the values that have one. -/
def ptexts (l : List PV) : List UInt8 := l.flatMap pPut
def good (l : List PV) : List PV := l.filter fun x => !(pPut x).isEmpty
theorem ptexts_good (l : List PV) : ptexts (good l) = ptexts l := by
  induction l with
  | nil => rfl
  | cons x t ih =>
    unfold good ptexts at *
    rw [List.filter_cons]
    by_cases h : (pPut x).isEmpty = true
    · rw [if_neg (by simp [h]), List.flatMap_cons, ih, List.isEmpty_iff.1 h, List.nil_append]
    · rw [if_pos (by simp [h]), List.flatMap_cons, List.flatMap_cons, ih]
theorem ptexts_snoc (l : List PV) (x : PV) : ptexts (l ++ [x]) = ptexts l ++ pPut x := by unfold ptexts; rw [List.flatMap_append]; simp
theorem good_snoc (l : List PV) (x : PV) : good (l ++ [x]) = if pPut x = [] then good l else good l ++ [x] := by
  unfold good
  rw [List.filter_append, List.filter_cons]
  by_cases h : pPut x = []
  · rw [if_pos h, if_neg (by simp [h])]; simp
  · rw [if_neg h, if_pos (by simp [h])]; rfl
theorem ptexts_len {l : List PV} (h : ∀ x ∈ l, fits x ∧ pbulk x ≤ 1048576) : (ptexts l).length ≤ l.length * 67108864 := by
  induction l with
  | nil => exact Nat.zero_le _
  | cons x t ih =>
    have h1 := pPut_small (h x (by simp)).1 (h x (by simp)).2
    have h2 := ih fun y hy => h y (by simp [hy])
    show (pPut x ++ ptexts t).length ≤ _
    rw [List.length_append, List.length_cons]
    omega
/-- A row of trees in memory, element by element; each element's four cells. -/
def TreesAt (w : World) (a : Option Addr) (xs : List PV) : Prop := ∃ vs : Nat → Value, RowP w a xs.length vs ∧ ∀ j x, xs[j]? = some x → PAt w x (vs j)
theorem TreesAt.keep {w w' : World} {a : Option Addr} {xs : List PV} (h : TreesAt w a xs) (hb : Below w.heap.size w w') : TreesAt w' a xs := by
  obtain ⟨vs, h1, h2⟩ := h
  exact ⟨vs, h1.below hb (Nat.le_refl _), fun j x hx => (h2 j x hx).keep hb⟩
/-- The state of the first loop: the values that have a text lie in a row of the call's own. -/
def InS (w : World) (xs : List PV) (va : Value) (wr : World) : Prop :=
  ∃ us : List Value, OwnT 30 wr w.heap.size va us ∧ us.length = xs.length ∧ (∀ (j : Nat) (x : PV), xs[j]? = some x → ∃ v, us[j]? = some v ∧ PAt w x v) ∧ Below w.heap.size w wr
theorem InS.start (w : World) : InS w [] (.slice none 0 0) w := ⟨[], ⟨World.ownsRow_nil _ _ _ _, fun v hv => by simp at hv⟩, rfl, fun j x hx => by simp at hx, Below.refl _ _⟩
theorem InS.keep {w wr wr' : World} {xs : List PV} {va : Value} (h : InS w xs va wr) (hb : Below wr.heap.size wr wr') : InS w xs va wr' := by
  obtain ⟨us, h1, h2, h3, h4⟩ := h
  exact ⟨us, ⟨ownsRow_below h1.1 hb, h1.2⟩, h2, h3, below_on h4 hb⟩
theorem InS.slice {w wr : World} {xs : List PV} {va : Value} (h : InS w xs va wr) : ∃ a c, va = .slice a xs.length c := by
  obtain ⟨us, h1, h2, h3, h4⟩ := h
  obtain ⟨a, c, e, -⟩ := h1.row (P := fun _ => True) (fun _ _ => trivial)
  exact ⟨a, c, by rw [← h2]; exact e⟩
theorem InS.trees {w wr : World} {xs : List PV} {a : Option Addr} {m c : Nat} (h : InS w xs (.slice a m c) wr) : m = xs.length ∧ TreesAt wr a xs := by
  obtain ⟨us, h1, h2, h3, h4⟩ := h
  obtain ⟨a', c', e, hr⟩ := h1.row (P := fun _ => True) (fun _ _ => trivial)
  simp only [Value.slice.injEq] at e
  obtain ⟨rfl, rfl, rfl⟩ := e
  refine ⟨h2, fun j => us.getD j undef, by rw [← h2]; exact hr.row, fun j x hx => ?_⟩
  obtain ⟨v, hv, hp⟩ := h3 j x hx
  show PAt wr x (us.getD j undef)
  rw [show us.getD j undef = v from by simp [List.getD, hv]]
  exact hp.keep h4
theorem InS.push {w W3 w' : World} {xs : List PV} {va v' : Value} {x : PV} {c0 c1 c2 c3 : Value} {us : List Value} (h1 : OwnT 30 W3 w.heap.size va us) (h2 : us.length = xs.length) (h3 : ∀ (j : Nat) (x : PV), xs[j]? = some x → ∃ v, us[j]? = some v ∧ PAt w x v) (h4 : Below w.heap.size w W3)
    (hp : PAt w x (.agg #[c0, c1, c2, c3])) (own : w'.ownsRow w.heap.size 30 4 v' (us.length + 1) (cells4 us ++ [c0, c1, c2, c3])) (hb : Below w.heap.size W3 w') :
    InS w (xs ++ [x]) v' w' := by
  refine ⟨us ++ [.agg #[c0, c1, c2, c3]], ⟨?_, ?_⟩, by simp [h2], fun j y hy => ?_, h4.trans hb⟩
  · rw [cells4_append, cells4_cons, List.length_append]
    exact own
  · intro u hu
    rcases List.mem_append.1 hu with hu | hu
    · exact h1.2 u hu
    · rw [List.mem_singleton.1 hu]; exact ⟨_, _, _, _, rfl⟩
  · by_cases hj : j < xs.length
    · rw [List.getElem?_append_left hj] at hy
      obtain ⟨v, hv, hq⟩ := h3 j y hy
      exact ⟨v, by rw [List.getElem?_append_left (by omega)]; exact hv, hq⟩
    · have hj' : j = xs.length := by
        have := (List.getElem?_eq_some_iff.1 hy).1
        simp at this; omega
      subst hj'
      simp at hy
      subst hy
      exact ⟨_, by rw [← h2]; simp, hp⟩
/-- One value's text and what stands behind it. -/
theorem pGet_next {x : PV} {xs : List PV} (hf : fits x) (hne : pPut x ≠ []) {t : ByteArray} (ht : t.data.toList = ptexts (x :: xs)) : pGet t = (x, (pPut x).length, 0) ∧ (pPut x).length ≤ t.size ∧ (t.extract (pPut x).length t.size).data.toList = ptexts xs := by
  have e : ptexts (x :: xs) = pPut x ++ ptexts xs := by unfold ptexts; rw [List.flatMap_cons]
  rw [e] at ht
  refine ⟨pGet_put hf hne ht, by rw [size_list, ht, List.length_append]; omega, ?_⟩
  rw [Lib.extract_to_end, ht, List.drop_left]
end Go.Proofs.YthbbfdlacclccaaDoor
