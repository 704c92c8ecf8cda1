/- The frame's part for values and lists of values that come in as arguments: opened as trees, with the bound of what they hold. -/
import Derived.Test.YthbbfdlacclccaaDoorOp
namespace Go.Proofs.YthbbfdlacclccaaDoor
open Go.ChangeShapes Go.WideShapes Go.ChangeAt Go.RowKit Go.Joins

set_option maxRecDepth 100000
theorem open_value {H : Type} {enc : TypeId × Value → H} {W : World} {base : Nat} {spare : Nat → Bool} {held : Bool} {v : Value} {d : DataW H} {p : List MemPlace} {r : Reach} {b0 : Nat}
    (hv : Value.okWide Tryd.prog W r b0 30 v) (h : DataW.Trod enc Tryd.prog W base spare held 30 v d p) : ∃ x : PV, PAt W x v ∧ fits x ∧ pbulk x ≤ Rows.uptoBulk d := by
  obtain ⟨cs, rfl, -⟩ := okWide_struct Tryd.underlying30 hv
  obtain ⟨fuel, hf⟩ := h
  obtain ⟨x, c0, c1, c2, c3, hc, hx, hfx, hb⟩ := pv_cells fuel hf
  have e : cs = #[c0, c1, c2, c3] := Array.toList_inj.1 hc
  exact ⟨x, by rw [e]; exact hx, hfx, hb⟩
theorem fitsL_all {l : List PV} (h : fitsL l) : ∀ x ∈ l, fits x := by
  induction l with
  | nil => intro x hx; cases hx
  | cons y t ih =>
    intro x hx
    rcases List.mem_cons.1 hx with rfl | hx
    · exact h.1
    · exact ih h.2 x hx
theorem open_trees {H : Type} {enc : TypeId × Value → H} {W : World} {base : Nat} {spare : Nat → Bool} {held : Bool} {v : Value} {d : DataW H} {p : List MemPlace} {r : Reach} {b0 : Nat}
    (hv : Value.okWide Tryd.prog W r b0 22 v) (h : DataW.Trod enc Tryd.prog W base spare held 22 v d p) :
    ∃ (a : Option Addr) (c : Nat) (l : List PV), v = .slice a l.length c ∧ TreesAt W a l ∧ (∀ x ∈ l, fits x) ∧ pbulkL l ≤ Rows.uptoBulk d ∧ l.length ≤ 9223372036854775807 := by
  obtain ⟨a0, l0, c0, rfl⟩ := okWide_slice Tryd.underlying22 hv
  obtain ⟨fuel, hf⟩ := h
  have hcs : (Value.slice a0 l0 c0).cells.toList = [.slice a0 l0 c0] := by simp [Value.cells]
  rw [hcs] at hf
  rcases DataW.trod_slice Tryd.underlying22 hf with ⟨e3, _⟩ | ⟨ad, len, cap, elems, rest, m, hm, e3, hz3s, hb, hlc, hcm, hle, hel, _⟩
  · simp only [List.cons.injEq, and_true] at e3
    rw [e3]
    exact ⟨none, 0, [], rfl, ⟨fun _ => undef, Or.inl rfl, fun j x hj => by simp at hj⟩, by simp, Nat.zero_le _, by decide⟩
  · simp only [List.cons.injEq, and_true] at e3
    rw [e3]
    obtain ⟨L, hL, hg, hfL, hbL⟩ := pv_rows (W := W) (base := base) (elems := elems) (a := ad) (len := len) (fun i hi => by
      have h4 := hel i hi
      rw [List.getElem?_eq_getElem (by omega), c_val, Option.bind_eq_some_iff] at h4
      obtain ⟨cs, h5, h6⟩ := h4
      obtain ⟨x, c0, c1, c2, c3, rfl, hx2, hf2, hb2⟩ := pv_cells m h6
      exact ⟨x, c0, c1, c2, c3, _, List.getElem?_eq_getElem (by omega), h5, hx2, hf2, hb2⟩)
    have hz3b : Rows.uptoBulkAll (elems.map (·.1)) ≤ Rows.uptoBulk d := by
      have e : d = DataW.slice (elems.map (·.1)) (rest.map (·.1)) := by simpa using (congrArg Prod.fst hz3s)
      rw [e]
      simp only [Rows.uptoBulk]
      omega
    rw [List.take_of_length_le (by omega)] at hbL
    refine ⟨some ad, cap, L.map (·.1), by rw [List.length_map, hL], ⟨fun j => ((L[j]?).map (·.2)).getD undef, ?_, ?_⟩, fitsL_all hfL, by omega, by rw [List.length_map]; unfold maxLen at hcm; omega⟩
    · rw [List.length_map, hL]
      by_cases h0 : len = 0
      · exact Or.inl h0
      · right
        obtain ⟨p0, hp0⟩ : ∃ p, L[0]? = some p := ⟨_, List.getElem?_eq_getElem (by omega)⟩
        obtain ⟨b, off, ap⟩ := ad
        have hap : ap = none := by
          obtain ⟨-, c0, c1, c2, c3, -, h5⟩ := hg 0 p0 hp0
          have h6 := (World.cells?_some h5).2.2 0 (by decide)
          simpa [Addr.add] using World.cell?_spot h6
        subst hap
        have each : ∀ j, j < len → ∃ c0 c1 c2 c3, ((L[j]?).map (·.2)).getD undef = .agg #[c0, c1, c2, c3] ∧ W.cell? ⟨b, off + j * 4, none⟩ = some c0 ∧ W.cell? ⟨b, off + j * 4 + 1, none⟩ = some c1 ∧ W.cell? ⟨b, off + j * 4 + 2, none⟩ = some c2 ∧ W.cell? ⟨b, off + j * 4 + 3, none⟩ = some c3 := fun j hj => by
          obtain ⟨p, hp⟩ : ∃ p, L[j]? = some p := ⟨_, List.getElem?_eq_getElem (by omega)⟩
          obtain ⟨-, c0, c1, c2, c3, e4, h5⟩ := hg j p hp
          have h6 := (World.cells?_some h5).2.2
          refine ⟨c0, c1, c2, c3, by rw [hp]; exact e4, ?_, ?_, ?_, ?_⟩
          · have := h6 0 (by decide); rw [addr_off, addr_off] at this; exact this
          · have := h6 1 (by decide); rw [addr_off, addr_off] at this; exact this
          · have := h6 2 (by decide); rw [addr_off, addr_off] at this; exact this
          · have := h6 3 (by decide); rw [addr_off, addr_off] at this; exact this
        refine ⟨b, off, rfl, ?_, each⟩
        obtain ⟨c0, c1, c2, c3, -, h6, -⟩ := each 0 (by omega)
        exact cell_old h6
    · intro j x hj
      rw [List.getElem?_map] at hj
      cases hp : L[j]? with
      | none => rw [hp] at hj; simp at hj
      | some p =>
        rw [hp] at hj
        simp at hj
        subst hj
        simp only [hp, Option.map_some, Option.getD_some]
        exact (hg j p hp).1
end Go.Proofs.YthbbfdlacclccaaDoor
