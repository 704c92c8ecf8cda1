/- The frame's part for a value, as a tree, that comes in as an argument. -/
import Derived.Test.YthbbfdlacclccaaDoorFo
import Derived.Test.YthbbfdlacclccaaDoorOq
import Derived.Test.YthbbfdlacclccaaDoorTg
namespace Go.Proofs.YthbbfdlacclccaaDoor
open Go.ChangeShapes Go.WideShapes Go.ChangeAt Go.RowKit Go.Joins

set_option maxRecDepth 100000
section
variable {H : Type} {enc : TypeId × Value → H} {W : World} {base : Nat} {spare : Nat → Bool} {held : Bool}
theorem c_val : Tryd.prog.cellsOf 30 = 4 := by kernel_rfl
theorem c_vals : Tryd.prog.cellsOf 22 = 1 := by kernel_rfl
theorem c_str : Tryd.prog.cellsOf 9 = 1 := by kernel_rfl
theorem pbulkL_app (l l' : List PV) : pbulkL (l ++ l') = pbulkL l + pbulkL l' := by
  induction l with
  | nil => show pbulkL l' = 0 + pbulkL l'; omega
  | cons x t ih => show pbulk x + pbulkL (t ++ l') = pbulk x + pbulkL t + pbulkL l'; rw [ih]; omega
theorem bulkAll_app (l r : List (DataW H)) : Rows.uptoBulkAll (l ++ r) = Rows.uptoBulkAll l + Rows.uptoBulkAll r := by
  induction l with
  | nil => simp [Rows.uptoBulkAll]
  | cons x l ih => simp only [List.cons_append, Rows.uptoBulkAll, ih]; omega
/-- The rows of a value's list, each a tree. -/
theorem pv_rows {elems : List (DataW H × List MemPlace)} {a : Addr} : ∀ {len : Nat}, (∀ i, i < len → ∃ (x : PV) (c0 c1 c2 c3 : Value) (z : DataW H × List MemPlace), elems[i]? = some z ∧ W.cells? base (a.add (i * 4)) 4 = some [c0, c1, c2, c3] ∧ PAt W x (.agg #[c0, c1, c2, c3]) ∧ fits x ∧ pbulk x ≤ Rows.uptoBulk z.1) →
    ∃ L : List (PV × Value), L.length = len ∧ (∀ i p, L[i]? = some p → PAt W p.1 p.2 ∧ ∃ c0 c1 c2 c3, p.2 = .agg #[c0, c1, c2, c3] ∧ W.cells? base (a.add (i * 4)) 4 = some [c0, c1, c2, c3]) ∧ fitsL (L.map (·.1)) ∧ pbulkL (L.map (·.1)) ≤ Rows.uptoBulkAll ((elems.take len).map (·.1)) := by
  intro len
  induction len with
  | zero => exact fun _ => ⟨[], rfl, by simp, trivial, by show (0 : Nat) ≤ _; omega⟩
  | succ k ih =>
    intro each
    obtain ⟨L, h1, h2, h3, h4⟩ := ih (fun i hi => each i (by omega))
    obtain ⟨x, c0, c1, c2, c3, z, hz, hc, hx, hf, hb⟩ := each k (by omega)
    refine ⟨L ++ [(x, .agg #[c0, c1, c2, c3])], by simp [h1], fun i p hi => ?_, ?_, ?_⟩
    · by_cases hk : i < L.length
      · rw [List.getElem?_append_left hk] at hi
        exact h2 i p hi
      · have hi2 : i = k := by
          have := (List.getElem?_eq_some_iff.1 hi).1
          simp at this
          omega
        subst hi2
        rw [List.getElem?_append_right (by omega), h1, Nat.sub_self] at hi
        simp at hi
        subst hi
        exact ⟨hx, c0, c1, c2, c3, rfl, hc⟩
    · rw [List.map_append]
      exact fitsL_append h3 ⟨hf, trivial⟩
    · have hkl : k < elems.length := (List.getElem?_eq_some_iff.1 hz).1
      have hzk : elems[k] = z := (List.getElem?_eq_some_iff.1 hz).2
      rw [List.map_append, pbulkL_app, List.take_succ_eq_append_getElem hkl, List.map_append, bulkAll_app, hzk]
      have e1 : pbulkL (List.map (fun p : PV × Value => p.1) [(x, Value.agg #[c0, c1, c2, c3])]) = pbulk x + 0 := rfl
      have e2 : Rows.uptoBulkAll (List.map (fun p : DataW H × List MemPlace => p.1) [z]) = Rows.uptoBulk z.1 + Rows.uptoBulkAll ([] : List (DataW H)) := by simp [Rows.uptoBulkAll]
      have e3 : Rows.uptoBulkAll ([] : List (DataW H)) = 0 := by simp [Rows.uptoBulkAll]
      omega
theorem pv_cells : ∀ (k : Nat) {cs : List Value} {y : DataW H × List MemPlace}, DataW.trod enc Tryd.prog W base spare held k 30 cs = some y → ∃ (x : PV) (c0 c1 c2 c3 : Value), cs = [c0, c1, c2, c3] ∧ PAt W x (.agg #[c0, c1, c2, c3]) ∧ fits x ∧ pbulk x ≤ Rows.uptoBulk y.1 := by
  intro k
  induction k using Nat.strongRecOn with
  | ind k ih =>
    intro cs y h
    obtain ⟨xs, n, hkn, hy, hl, hlen, hff⟩ := DataW.trod_struct Tryd.underlying30 h
    rw [c_val] at hl
    obtain ⟨a, b, c, d, rfl⟩ := four_of hl
    have hx : ∀ i, i < 4 → ∃ z, xs[i]? = some z := fun i hi => ⟨_, List.getElem?_eq_getElem (by rw [hlen]; exact hi)⟩
    obtain ⟨z0, hz0⟩ := hx 0 (by decide)
    obtain ⟨z1, hz1⟩ := hx 1 (by decide)
    obtain ⟨z2, hz2⟩ := hx 2 (by decide)
    obtain ⟨z3, hz3⟩ := hx 3 (by decide)
    have hxs : xs = [z0, z1, z2, z3] := by
      match xs, hlen, hz0, hz1, hz2, hz3 with
      | [w0, w1, w2, w3], _, hz0, hz1, hz2, hz3 => simp at hz0 hz1 hz2 hz3; rw [hz0, hz1, hz2, hz3]
    have h0 := (hff 0 _ rfl).trans hz0
    have h1 := (hff 1 _ rfl).trans hz1
    have h2 := (hff 2 _ rfl).trans hz2
    have h3 := (hff 3 _ rfl).trans hz3
    simp only [List.getElem_toArray, List.getElem_cons_zero, List.getElem_cons_succ] at h0 h1 h2 h3
    simp only [c_int, c_i64, c_str, c_vals, List.drop_zero, List.drop_succ_cons, List.take_succ_cons, List.take_zero] at h0 h1 h2 h3
    obtain ⟨n0, e0, b0⟩ := one_int Tryd.underlying3 h0
    obtain ⟨n1, e1, b1⟩ := one_int Tryd.underlying2 h1
    obtain ⟨s, e2, hz2s, hs⟩ := DataW.trod_string Tryd.underlying9 h2
    simp only [List.cons.injEq, and_true] at e0 e1 e2
    subst e0 e1 e2
    have hbk : Rows.uptoBulk y.1 = Rows.uptoBulk z0.1 + (Rows.uptoBulk z1.1 + (s.size + 1 + (Rows.uptoBulk z3.1 + 0))) + 1 := by
      rw [hy, hxs, hz2s]
      simp [Rows.uptoBulk, Rows.uptoBulkAll]
    have hsz : s.size ≤ 9223372036854775807 := by unfold maxLen at hs; omega
    rcases DataW.trod_slice Tryd.underlying22 h3 with ⟨e3, _⟩ | ⟨ad, len, cap, elems, rest, m, hm, e3, hz3s, hb, hlc, hcm, hle, hel, _⟩
    · simp only [List.cons.injEq, and_true] at e3
      subst e3
      exact ⟨.mk n0 n1 s [], _, _, _, _, rfl, .mk n0 n1 s [] none 0 (fun _ => undef) b0 b1 hsz (by decide) (Or.inl rfl) (fun j x hj => by simp at hj), ⟨b1, trivial⟩, by show s.size + 1 + 0 ≤ _; omega⟩
    · simp only [List.cons.injEq, and_true] at e3
      subst e3
      obtain ⟨L, hL, hg, hfL, hbL⟩ := pv_rows (W := W) (base := base) (elems := elems) (a := ad) (len := len) (fun i hi => by
        have h4 := hel i hi
        rw [List.getElem?_eq_getElem (by omega), c_val, Option.bind_eq_some_iff] at h4
        obtain ⟨cs, h5, h6⟩ := h4
        obtain ⟨x, c0, c1, c2, c3, rfl, hx2, hf2, hb2⟩ := ih m (by omega) h6
        exact ⟨x, c0, c1, c2, c3, _, List.getElem?_eq_getElem (by omega), h5, hx2, hf2, hb2⟩)
      have hz3b : Rows.uptoBulkAll (elems.map (·.1)) ≤ Rows.uptoBulk z3.1 := by
        rw [hz3s]
        simp only [Rows.uptoBulk]
        omega
      rw [List.take_of_length_le (by omega)] at hbL
      refine ⟨.mk n0 n1 s (L.map (·.1)), _, _, _, _, rfl, ?_, ⟨b1, hfL⟩, by show s.size + 1 + pbulkL (L.map (·.1)) ≤ _; omega⟩
      have hmk := PAt.mk (w := W) n0 n1 s (L.map (·.1)) (some ad) cap (fun j => ((L[j]?).map (·.2)).getD undef) b0 b1 hsz (by rw [List.length_map]; unfold maxLen at hcm; omega) ?_ ?_
      · rw [List.length_map, hL] at hmk
        exact hmk
      · rw [List.length_map, hL]
        by_cases h0 : len = 0
        · exact Or.inl h0
        · right
          obtain ⟨p0, hp0⟩ : ∃ p, L[0]? = some p := ⟨_, List.getElem?_eq_getElem (by omega)⟩
          obtain ⟨b, off, ap⟩ := ad
          have hap : ap = none := by
            obtain ⟨-, c0, c1, c2, c3, -, h5⟩ := hg 0 p0 hp0
            have h6 := (World.cells?_some h5).2.2 0 (by decide)
            simpa [Addr.add] using World.cell?_spot h6
          subst hap
          have each : ∀ j, j < len → ∃ c0 c1 c2 c3, ((L[j]?).map (·.2)).getD undef = .agg #[c0, c1, c2, c3] ∧ W.cell? ⟨b, off + j * 4, none⟩ = some c0 ∧ W.cell? ⟨b, off + j * 4 + 1, none⟩ = some c1 ∧ W.cell? ⟨b, off + j * 4 + 2, none⟩ = some c2 ∧ W.cell? ⟨b, off + j * 4 + 3, none⟩ = some c3 := fun j hj => by
            obtain ⟨p, hp⟩ : ∃ p, L[j]? = some p := ⟨_, List.getElem?_eq_getElem (by omega)⟩
            obtain ⟨-, c0, c1, c2, c3, e4, h5⟩ := hg j p hp
            have h6 := (World.cells?_some h5).2.2
            refine ⟨c0, c1, c2, c3, by rw [hp]; exact e4, ?_, ?_, ?_, ?_⟩
            · have := h6 0 (by decide); rw [addr_off, addr_off] at this; exact this
            · have := h6 1 (by decide); rw [addr_off, addr_off] at this; exact this
            · have := h6 2 (by decide); rw [addr_off, addr_off] at this; exact this
            · have := h6 3 (by decide); rw [addr_off, addr_off] at this; exact this
          refine ⟨b, off, rfl, ?_, each⟩
          obtain ⟨c0, c1, c2, c3, -, h6, -⟩ := each 0 (by omega)
          exact cell_old h6
      · intro j x hj
        rw [List.getElem?_map] at hj
        cases hp : L[j]? with
        | none => rw [hp] at hj; simp at hj
        | some p =>
          rw [hp] at hj
          simp at hj
          subst hj
          simp only [hp, Option.map_some, Option.getD_some]
          exact (hg j p hp).1
end
end Go.Proofs.YthbbfdlacclccaaDoor
