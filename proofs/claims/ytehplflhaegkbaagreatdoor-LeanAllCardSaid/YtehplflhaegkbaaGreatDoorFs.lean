/- The frame's part for slices of one-cell elements that come in as arguments. -/
import Derived.Test.YtehplflhaegkbaaGreatDoorFk
namespace Go.Proofs.YtehplflhaegkbaaGreatDoor
open Go.ChangeShapes Go.WideShapes Go.ChangeAt Go.RowKit Go.Joins

theorem open_row {H : Type} {enc : TypeId × Value → H} {P : Program} {W : World} {r : Reach} {b0 base : Nat} {spare : Nat → Bool} {held : Bool} {t e : TypeId} {φ : Value → Prop} {v : Value} {d : DataW H} {p : List MemPlace}
    (ht : P.underlying t = some (.slice e)) (hc : P.cellsOf e = 1) (hφ : ∀ n cs y, DataW.trod enc P W base spare held n e cs = some y → ∃ u, cs = [u] ∧ φ u)
    (hv : Value.okWide P W r b0 t v) (h : DataW.Trod enc P W base spare held t v d p) :
    ∃ (a : Option Addr) (c : Nat) (vs : List Value), v = .slice a vs.length c ∧ RowAt W a vs ∧ (∀ u ∈ vs, φ u) ∧ vs.length ≤ c ∧ c ≤ maxLen := by
  obtain ⟨a0, l0, c0, rfl⟩ := okWide_slice ht hv
  obtain ⟨fuel, hf⟩ := h
  have hcs : (Value.slice a0 l0 c0).cells.toList = [.slice a0 l0 c0] := by simp [Value.cells]
  rw [hcs] at hf
  rcases DataW.trod_slice ht hf with ⟨h0, _⟩ | ⟨a, len, cap, elems, rest, n, _, h1, _, hb, hl, hm, hlen, hel, hsp, hns⟩
  · simp only [List.cons.injEq, and_true] at h0
    rw [h0]
    exact ⟨none, 0, [], rfl, Or.inl rfl, by simp, by simp, by simp [maxLen]⟩
  · simp only [List.cons.injEq, and_true] at h1
    rw [h1]
    have each : ∀ i, i < len → ∃ u, φ u ∧ W.cell? (a.add i) = some u := by
      intro i hi
      have h2 := hel i hi
      rw [List.getElem?_eq_getElem (by omega), hc, Nat.mul_one, Option.bind_eq_some_iff] at h2
      obtain ⟨cs, h3, h4⟩ := h2
      obtain ⟨u, rfl, hu⟩ := hφ _ _ _ h4
      exact ⟨u, hu, cell_of_cells?_one h3⟩
    let f : Nat → Value := fun i => (W.cell? (a.add i)).getD undef
    have hf : ∀ i, i < len → φ (f i) ∧ W.cell? (a.add i) = some (f i) := fun i hi => by
      obtain ⟨u, h5, h6⟩ := each i hi
      have : f i = u := by simp only [f, h6, Option.getD_some]
      rw [this]; exact ⟨h5, h6⟩
    refine ⟨some a, cap, (List.range len).map f, by simp, ?_, ?_, by simpa using hl, hm⟩
    · by_cases h0 : len = 0
      · left; simp [h0]
      · right
        obtain ⟨b, off, ap⟩ := a
        have hap : ap = none := by simpa [Addr.add] using World.cell?_spot (hf 0 (by omega)).2
        subst hap
        have hadd : ∀ j, (⟨b, off, none⟩ : Addr).add j = ⟨b, off + j, none⟩ := fun j => by unfold Addr.add; split <;> simp_all
        refine ⟨b, off, rfl, ?_, fun j u hj => ?_⟩
        · have := (hf 0 (by omega)).2
          exact cell_old this
        · obtain ⟨hj1, hj2⟩ := List.getElem?_eq_some_iff.1 hj
          simp at hj1 hj2
          rw [← hadd, (hf j hj1).2, hj2]
    · intro u hu
      obtain ⟨i, hi, rfl⟩ := List.mem_map.1 hu
      exact (hf i (by simpa using hi)).1
theorem list_of {vs : List Value} {α : Type} (g : α → Value) (_z : α) (h : ∀ u ∈ vs, ∃ x, u = g x) : ∃ xs : List α, vs = xs.map g := by
  induction vs with
  | nil => exact ⟨[], rfl⟩
  | cons u t ih =>
    obtain ⟨xs, hx⟩ := ih fun v hv => h v (by simp [hv])
    obtain ⟨x, hu⟩ := h u (by simp)
    exact ⟨x :: xs, by rw [hx, hu]; rfl⟩
theorem open_bools' {H : Type} {enc : TypeId × Value → H} {P : Program} {W : World} {r : Reach} {b0 base : Nat} {spare : Nat → Bool} {held : Bool} {t e : TypeId} {v : Value} {d : DataW H} {p : List MemPlace}
    (ht : P.underlying t = some (.slice e)) (he : P.underlying e = some .bool) (hc : P.cellsOf e = 1)
    (hv : Value.okWide P W r b0 t v) (h : DataW.Trod enc P W base spare held t v d p) :
    ∃ (a : Option Addr) (c : Nat) (bs : List Bool), v = .slice a bs.length c ∧ RowAt W a (bs.map .bool) ∧ bs.length ≤ c ∧ c ≤ maxLen := by
  obtain ⟨a, c, vs, rfl, h1, h2, h3, h4⟩ := open_row (φ := fun u => ∃ b, u = .bool b) ht hc (fun n cs y hy => by obtain ⟨b, rfl, _⟩ := DataW.trod_bool he hy; exact ⟨_, rfl, b, rfl⟩) hv h
  obtain ⟨bs, rfl⟩ := list_of Value.bool false h2
  exact ⟨a, c, bs, by simp, h1, by simpa using h3, h4⟩
theorem open_ints' {H : Type} {enc : TypeId × Value → H} {P : Program} {W : World} {r : Reach} {b0 base : Nat} {spare : Nat → Bool} {held : Bool} {t e : TypeId} {v : Value} {d : DataW H} {p : List MemPlace}
    (ht : P.underlying t = some (.slice e)) (he : P.underlying e = some (.int .i64)) (hc : P.cellsOf e = 1)
    (hv : Value.okWide P W r b0 t v) (h : DataW.Trod enc P W base spare held t v d p) :
    ∃ (a : Option Addr) (c : Nat) (zs : List Int), v = .slice a zs.length c ∧ IntsAt W a zs ∧ zs.length ≤ c ∧ c ≤ maxLen := by
  obtain ⟨a, c, vs, rfl, h1, h2, h3, h4⟩ := open_row (φ := fun u => ∃ n, u = .int .i64 n) ht hc (fun n cs y hy => by obtain ⟨b, rfl, _⟩ := DataW.trod_int he hy; exact ⟨_, rfl, b, rfl⟩) hv h
  obtain ⟨zs, rfl⟩ := list_of (Value.int .i64) 0 h2
  exact ⟨a, c, zs, by simp, h1.ints, by simpa using h3, h4⟩

theorem open_strs' {H : Type} {enc : TypeId × Value → H} {P : Program} {W : World} {r : Reach} {b0 base : Nat} {spare : Nat → Bool} {held : Bool} {t e : TypeId} {v : Value} {d : DataW H} {p : List MemPlace}
    (ht : P.underlying t = some (.slice e)) (he : P.underlying e = some .string) (hc : P.cellsOf e = 1)
    (hv : Value.okWide P W r b0 t v) (h : DataW.Trod enc P W base spare held t v d p) :
    ∃ (a : Option Addr) (c : Nat) (ss : List ByteArray), v = .slice a ss.length c ∧ RowAt W a (ss.map .string) ∧ (∀ s ∈ ss, s.size ≤ maxLen) ∧ ss.length ≤ c ∧ c ≤ maxLen := by
  obtain ⟨a, c, vs, rfl, h1, h2, h3, h4⟩ := open_row (φ := fun u => ∃ s : ByteArray, u = .string s ∧ s.size ≤ maxLen) ht hc (fun n cs y hy => by obtain ⟨s, rfl, _, hs⟩ := DataW.trod_string he hy; exact ⟨_, rfl, s, rfl, hs⟩) hv h
  obtain ⟨ss, rfl⟩ := list_of Value.string ByteArray.empty (fun u hu => by obtain ⟨s, rfl, _⟩ := h2 u hu; exact ⟨s, rfl⟩)
  refine ⟨a, c, ss, by simp, h1, fun s hs => ?_, by simpa using h3, h4⟩
  obtain ⟨s', e, hs'⟩ := h2 (.string s) (List.mem_map.2 ⟨s, hs, rfl⟩)
  cases e
  exact hs'
end Go.Proofs.YtehplflhaegkbaaGreatDoor
