/- Values of package pouch in memory: as trees. -/
import Derived.Test.YtdpkmcbpeloljaaDoorGn
namespace Go.Proofs.YtdpkmcbpeloljaaDoor
open Go.RowKit

/-- A value: a tree. -/
inductive PV where
  | mk (k n : Int) (s : ByteArray) (l : List PV)
/-- The four cells of a value in memory. -/
def CellP (w : World) (b o : Nat) (v : Value) : Prop := ∃ c0 c1 c2 c3, v = .agg #[c0, c1, c2, c3] ∧ w.cell? ⟨b, o, none⟩ = some c0 ∧ w.cell? ⟨b, o + 1, none⟩ = some c1 ∧ w.cell? ⟨b, o + 2, none⟩ = some c2 ∧ w.cell? ⟨b, o + 3, none⟩ = some c3
theorem CellP.below {w w' : World} {b o : Nat} {v : Value} {B : Nat} (h : CellP w b o v) (hb : Below B w w') (hB : b < B) : CellP w' b o v := by
  obtain ⟨c0, c1, c2, c3, rfl, h0, h1, h2, h3⟩ := h
  refine ⟨c0, c1, c2, c3, rfl, ?_, ?_, ?_, ?_⟩
  · rw [hb.cell (p := ⟨b, o, none⟩) hB]; exact h0
  · rw [hb.cell (p := ⟨b, o + 1, none⟩) hB]; exact h1
  · rw [hb.cell (p := ⟨b, o + 2, none⟩) hB]; exact h2
  · rw [hb.cell (p := ⟨b, o + 3, none⟩) hB]; exact h3
def RowP (w : World) (a : Option Addr) (len : Nat) (vs : Nat → Value) : Prop := len = 0 ∨ ∃ b off, a = some ⟨b, off, none⟩ ∧ b < w.heap.size ∧ ∀ j, j < len → CellP w b (off + j * 4) (vs j)
theorem RowP.below {w w' : World} {a : Option Addr} {len : Nat} {vs : Nat → Value} {B : Nat} (h : RowP w a len vs) (hb : Below B w w') (hB : w.heap.size ≤ B) : RowP w' a len vs := by
  rcases h with h | ⟨b, off, rfl, hs, hc⟩
  · exact Or.inl h
  · exact Or.inr ⟨b, off, rfl, Nat.lt_of_lt_of_le hs hb.size, fun j hj => (hc j hj).below hb (by omega)⟩
/-- A value that reads as a tree. -/
inductive PAt (w : World) : PV → Value → Prop where
  | mk (k n : Int) (s : ByteArray) (l : List PV) (a : Option Addr) (c : Nat) (vs : Nat → Value) (hk : -9223372036854775808 ≤ k ∧ k ≤ 9223372036854775807) (hn : -9223372036854775808 ≤ n ∧ n ≤ 9223372036854775807)
    (hs : s.size ≤ 9223372036854775807) (hl : l.length ≤ 9223372036854775807) (hr : RowP w a l.length vs) (hv : ∀ j x, l[j]? = some x → PAt w x (vs j)) :
    PAt w (.mk k n s l) (.agg #[.int .i64 k, .int .i64 n, .string s, .slice a l.length c])
theorem PAt.keep {w : World} {x : PV} {v : Value} (h : PAt w x v) : ∀ {w' : World}, Below w.heap.size w w' → PAt w' x v := by
  induction h with
  | mk k n s l a c vs hk hn hs hl hr hv ih =>
    intro w' hb
    exact .mk k n s l a c vs hk hn hs hl (hr.below hb (Nat.le_refl _)) fun j x hx => ih j x hx hb
theorem CellP.of {w : World} {b o : Nat} {v x0 x1 x2 x3 : Value} (h : CellP w b o v) (hv : v = .agg #[x0, x1, x2, x3]) : w.cell? ⟨b, o, none⟩ = some x0 ∧ w.cell? ⟨b, o + 1, none⟩ = some x1 ∧ w.cell? ⟨b, o + 2, none⟩ = some x2 ∧ w.cell? ⟨b, o + 3, none⟩ = some x3 := by
  obtain ⟨c0, c1, c2, c3, e, h0, h1, h2, h3⟩ := h
  rw [e] at hv
  simp only [Value.agg.injEq, Array.mk.injEq, List.cons.injEq, and_true] at hv
  obtain ⟨rfl, rfl, rfl, rfl⟩ := hv
  exact ⟨h0, h1, h2, h3⟩
theorem PAt.form {w : World} {x : PV} {v : Value} (h : PAt w x v) : ∃ (k n : Int) (s : ByteArray) (a : Option Addr) (m c : Nat), v = .agg #[.int .i64 k, .int .i64 n, .string s, .slice a m c] := by
  cases h; exact ⟨_, _, _, _, _, _, rfl⟩
theorem PAt.four {w : World} {x : PV} {v : Value} (h : PAt w x v) : ∃ c0 c1 c2 c3, v = .agg #[c0, c1, c2, c3] := by
  cases h; exact ⟨_, _, _, _, rfl⟩
/-! how many values a value has -/
mutual
def pcount : PV → Nat → Nat
  | .mk k n s l, d => if 6 < d then 6001 else if (k = 1 ∧ s.size = 0 ∧ l.length = 0) ∨ (k = 2 ∧ n = 0 ∧ l.length = 0) then 1 else if k ≠ 3 ∨ n ≠ 0 ∨ s.size ≠ 0 then 6001 else pcountL l (d + 1) 1
def pcountL : List PV → Nat → Nat → Nat
  | [], _, a => a
  | x :: t, d, a => if 6000 < a + pcount x d then 6001 else pcountL t d (a + pcount x d)
end
theorem pcountL_le : ∀ (l : List PV) (d a : Nat), a ≤ 6001 → pcountL l d a ≤ 6001
  | [], d, a, h => by unfold pcountL; exact h
  | x :: t, d, a, h => by
    unfold pcountL
    split
    · exact Nat.le_refl _
    · exact pcountL_le t d _ (by omega)
theorem pcount_le (x : PV) (d : Nat) : pcount x d ≤ 6001 := by
  cases x with
  | mk k n s l =>
    unfold pcount
    split
    · exact Nat.le_refl _
    · split
      · omega
      · split
        · exact Nat.le_refl _
        · exact pcountL_le _ _ _ (by omega)
theorem drop_cons {α : Type} {l : List α} {k : Nat} (h : k < l.length) : l.drop k = l[k] :: l.drop (k + 1) := by
  rw [List.drop_eq_getElem_cons h]
end Go.Proofs.YtdpkmcbpeloljaaDoor
