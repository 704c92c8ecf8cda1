/- The frame's part for slices of structs that come in as arguments. -/
import Derived.Test.YtjblbjamceloaaaGreatDoorFs
import Derived.Test.YtjblbjamceloaaaGreatDoorRz
namespace Go.Proofs.YtjblbjamceloaaaGreatDoor
open Go.ChangeShapes Go.WideShapes Go.ChangeAt Go.RowKit Go.Joins

theorem addr_off (q o j : Nat) : (⟨q, o, none⟩ : Addr).add j = ⟨q, o + j, none⟩ := by unfold Addr.add; split <;> simp_all
theorem list_of' {α : Type} (g : α → List Value) {L : List (List Value)} (h : ∀ u ∈ L, ∃ x, u = g x) : ∃ xs : List α, L = xs.map g := by
  induction L with
  | nil => exact ⟨[], rfl⟩
  | cons u t ih =>
    obtain ⟨xs, hx⟩ := ih fun v hv => h v (by simp [hv])
    obtain ⟨x, hu⟩ := h u (by simp)
    exact ⟨x :: xs, by rw [hx, hu]; rfl⟩
theorem open_rows {H : Type} {enc : TypeId × Value → H} {P : Program} {W : World} {r : Reach} {b0 base : Nat} {spare : Nat → Bool} {held : Bool} {t e : TypeId} {α : Type} (g : α → List Value) {φ : α → Prop} {n : Nat} {v : Value} {d : DataW H} {p : List MemPlace}
    (ht : P.underlying t = some (.slice e)) (hc : P.cellsOf e = n) (hn : 0 < n) (hφ : ∀ k cs y, DataW.trod enc P W base spare held k e cs = some y → ∃ x, cs = g x ∧ φ x)
    (hv : Value.okWide P W r b0 t v) (h : DataW.Trod enc P W base spare held t v d p) :
    ∃ (a : Option Addr) (c : Nat) (L : List α), v = .slice a L.length c ∧ RowsAt W a n (L.map g) ∧ (∀ x ∈ L, φ x) ∧ L.length ≤ c ∧ c ≤ maxLen := by
  obtain ⟨a0, l0, c0, rfl⟩ := okWide_slice ht hv
  obtain ⟨fuel, hf⟩ := h
  have hcs : (Value.slice a0 l0 c0).cells.toList = [.slice a0 l0 c0] := by simp [Value.cells]
  rw [hcs] at hf
  rcases DataW.trod_slice ht hf with ⟨h0, _⟩ | ⟨a, len, cap, elems, rest, m, _, h1, _, hb, hl, hm, hlen, hel, hsp, hns⟩
  · simp only [List.cons.injEq, and_true] at h0
    rw [h0]
    exact ⟨none, 0, [], rfl, Or.inl rfl, by simp, by simp, by simp [maxLen]⟩
  · simp only [List.cons.injEq, and_true] at h1
    rw [h1]
    have each : ∀ i, i < len → ∃ x, φ x ∧ W.cells? base (a.add (i * n)) n = some (g x) := by
      intro i hi
      have h2 := hel i hi
      rw [List.getElem?_eq_getElem (by omega), hc, Option.bind_eq_some_iff] at h2
      obtain ⟨cs, h3, h4⟩ := h2
      obtain ⟨x, rfl, hx⟩ := hφ _ _ _ h4
      exact ⟨x, hx, h3⟩
    obtain ⟨L, hL, hg⟩ : ∃ L : List α, L.length = len ∧ ∀ i x, L[i]? = some x → φ x ∧ W.cells? base (a.add (i * n)) n = some (g x) := by
      clear hl hlen hel hsp hns hf h1
      induction len with
      | zero => exact ⟨[], rfl, by simp⟩
      | succ k ih =>
        obtain ⟨L, h1, h2⟩ := ih (fun i hi => each i (by omega))
        obtain ⟨x, hx, hc2⟩ := each k (by omega)
        refine ⟨L ++ [x], by simp [h1], fun i y hi => ?_⟩
        by_cases hk : i < L.length
        · rw [List.getElem?_append_left hk] at hi
          exact h2 i y hi
        · have hi2 : i = k := by
            have := (List.getElem?_eq_some_iff.1 hi).1
            simp at this
            omega
          subst hi2
          rw [List.getElem?_append_right (by omega), h1, Nat.sub_self] at hi
          simp at hi
          subst hi
          exact ⟨hx, hc2⟩
    refine ⟨some a, cap, L, by rw [hL], ?_, fun x hx => ?_, by omega, hm⟩
    · by_cases h0 : len = 0
      · left
        have : L = [] := List.length_eq_zero_iff.1 (by omega)
        rw [this]; rfl
      · right
        obtain ⟨x0, hx0⟩ : ∃ x, L[0]? = some x := ⟨_, List.getElem?_eq_getElem (by omega)⟩
        obtain ⟨b, off, ap⟩ := a
        have hz := World.cells?_some (hg 0 x0 hx0).2
        have hg0 : ∃ u, (g x0)[0]? = some u := ⟨_, List.getElem?_eq_getElem (by have := hz.2.1; omega)⟩
        obtain ⟨u0, hu0⟩ := hg0
        have hc0 := (hz.2.2 0 (by have := hz.2.1; omega)).trans hu0
        have hap : ap = none := by simpa [Addr.add] using World.cell?_spot hc0
        subst hap
        refine ⟨b, off, rfl, ?_, fun i cs hi j u hj => ?_⟩
        · have h3 := hc0
          rw [Nat.zero_mul, addr_off, addr_off] at h3
          exact cell_old h3
        · rw [List.getElem?_map] at hi
          cases hx : L[i]? with
          | none => rw [hx] at hi; simp at hi
          | some x =>
            rw [hx] at hi
            simp only [Option.map_some, Option.some.injEq] at hi
            subst hi
            have hz := World.cells?_some (hg i x hx).2
            have hj1 := (List.getElem?_eq_some_iff.1 hj).1
            have h3 := (hz.2.2 j (by have := hz.2.1; omega)).trans hj
            rw [addr_off, addr_off] at h3
            exact h3
    · obtain ⟨i, hi⟩ := List.mem_iff_getElem?.1 hx
      exact (hg i x hi).1
theorem trod_bool_cell {H : Type} {enc : TypeId × Value → H} {P : Program} {W : World} {base : Nat} {spare : Nat → Bool} {held : Bool} {t : TypeId} {k : Nat} {cs : List Value} {y : DataW H × List MemPlace} (ht : P.underlying t = some .bool) (h : DataW.trod enc P W base spare held k t cs = some y) : ∃ b, cs = [.bool b] := by
  cases k with
  | zero => simp [DataW.trod] at h
  | succ k =>
    unfold DataW.trod at h
    rw [ht] at h
    split at h <;> simp_all
theorem four_of {cs : List Value} (h : cs.length = 4) : ∃ a b c d, cs = [a, b, c, d] := by
  match cs, h with
  | [a, b, c, d], _ => exact ⟨a, b, c, d, rfl⟩
end Go.Proofs.YtjblbjamceloaaaGreatDoor
