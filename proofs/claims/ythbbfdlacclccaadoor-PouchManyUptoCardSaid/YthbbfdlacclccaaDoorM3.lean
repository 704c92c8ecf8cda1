/- Walks of the document's numbers: mod, Add, Mul, Pow, On, Mark; pair, z. Walks of pair, z, and of the document's Pow, On, Mark. Walks of the document's On, Mark. -/
import Derived.Test.YthbbfdlacclccaaDoorM2
import Derived.StillTailTactics
import Derived.IntWalk
import Derived.Deep.CutBlock
import Derived.Lib.Walk
import Derived.Deep.CutRange
namespace Go.Proofs.YthbbfdlacclccaaDoor
open Go.RowKit

/-- A drawn region of reads and quiet calls ahead of a tail, the world under a name. -/
theorem still_tail {P : Program} {id : Nat} {Q : Exit → Act → World → Prop} {a : Act} {w : World} {l : List Oper} (n : Nat) (hm : P.follows .mixedOrders = true) (hB : Region.lexTailB .any l.toArray n = true)
    (h : ∀ W : World, W = w.drew → wpStill P l.toArray W (fun a' => wpList P l.toArray Q (l.drop n) a' W) (l.take n) a) : (Code.region id l.toArray true).wp P Q a w :=
  wp_region_still_tail n hm hB (h w.drew rfl)
/-- A pair of whole numbers as the document's struct. -/
abbrev zv (p : ZP) : Value := .agg #[.int .i64 p.1, .int .i64 p.2]
def norm (p : ZP) : ZP := (rs p.1, rs p.2)
theorem same_norm (p : ZP) : Same (norm p) p := same_rs p
theorem norm_same {p q : ZP} (h : Same p q) : norm p = norm q := by unfold norm; rw [h.1, h.2]
/-- Two pairs in boxes, and a place for a third. -/
def Z3 (w : World) (a b c d : Int) (W : World) : Prop :=
  W.cell? ⟨w.heap.size, 0, none⟩ = some (.int .i64 a) ∧ W.cell? ⟨w.heap.size, 1, none⟩ = some (.int .i64 b) ∧
  W.cell? ⟨w.heap.size + 1, 0, none⟩ = some (.int .i64 c) ∧ W.cell? ⟨w.heap.size + 1, 1, none⟩ = some (.int .i64 d) ∧
  W.cell? ⟨w.heap.size + 1 + 1, 0, none⟩ = some (.int .i64 0) ∧ W.cell? ⟨w.heap.size + 1 + 1, 1, none⟩ = some (.int .i64 0) ∧
  W.frozen? ⟨w.heap.size + 1 + 1, 0, none⟩ = false ∧ W.frozen? ⟨w.heap.size + 1 + 1, 1, none⟩ = false ∧ Below w.heap.size w W
theorem Z3.start (w : World) (a b c d : Int) (t : TypeId) : Z3 w a b c d (((w.alloc (.cells #[.int .i64 a, .int .i64 b] t)).alloc (.cells #[.int .i64 c, .int .i64 d] t)).alloc (.cells #[.int .i64 0, .int .i64 0] t)) := by
  refine ⟨?_, ?_, ?_, ?_, ?_, ?_, ?_, ?_, below_alloc (below_alloc (below_alloc (Below.refl _ _) _) _) _⟩ <;> simp [go_sem]
theorem Z3.drew {w W : World} {a b c d : Int} (h : Z3 w a b c d W) : Z3 w a b c d W.drew := by
  obtain ⟨h1, h2, h3, h4, h5, h6, h7, h8, h9⟩ := h
  exact ⟨by simpa using h1, by simpa using h2, by simpa using h3, by simpa using h4, by simpa using h5, by simpa using h6, by simpa using h7, by simpa using h8, h9.drew⟩
theorem set_two {W : World} {B : Nat} {u v : Value} (u' v' : Value) (h0 : W.cell? ⟨B, 0, none⟩ = some u) (h1 : W.cell? ⟨B, 1, none⟩ = some v) :
    (W.setCell ⟨B, 0, none⟩ u').cell? ⟨B, 0, none⟩ = some u' ∧ ((W.setCell ⟨B, 0, none⟩ u').setCell ⟨B, 1, none⟩ v').cell? ⟨B, 1, none⟩ = some v' :=
  ⟨World.cell?_setCell_same _ _ _ h0, World.cell?_setCell_same _ _ _ (u := v) (by rw [World.cell?_setCell_other _ _ _ _ (by simp)]; exact h1)⟩
end Go.Proofs.YthbbfdlacclccaaDoor
namespace Go.Proofs.YthbbfdlacclccaaDoor
open Go.RowKit

theorem norm_norm (p : ZP) : norm (norm p) = norm p := norm_same (same_norm p)
theorem norm_bd (p : ZP) : 0 ≤ (norm p).1 ∧ (norm p).1 < 65521 ∧ 0 ≤ (norm p).2 ∧ (norm p).2 < 65521 := by
  have h1 := rs_bd p.1
  have h2 := rs_bd p.2
  exact ⟨h1.1, h1.2, h2.1, h2.2⟩
/-- A box of two cells that may be written. -/
def Box2 (B : Nat) (u v : Value) (W : World) : Prop := W.cell? ⟨B, 0, none⟩ = some u ∧ W.cell? ⟨B, 1, none⟩ = some v ∧ W.frozen? ⟨B, 0, none⟩ = false ∧ W.frozen? ⟨B, 1, none⟩ = false
theorem Box2.keep {B : Nat} {u v : Value} {W W' : World} (h : Box2 B u v W) (hb : Below W.heap.size W W') : Box2 B u v W' :=
  ⟨cell_keep hb h.1, cell_keep hb h.2.1, frozen_keep hb h.1 h.2.2.1, frozen_keep hb h.2.1 h.2.2.2⟩
theorem Box2.drew {B : Nat} {u v : Value} {W : World} (h : Box2 B u v W) : Box2 B u v W.drew := h.keep (Below.refl _ _).drew
theorem Box2.set {B : Nat} {u v : Value} {W : World} (h : Box2 B u v W) (u' v' : Value) : Box2 B u' v' ((W.setCell ⟨B, 0, none⟩ u').setCell ⟨B, 1, none⟩ v') := by
  obtain ⟨h0, h1, f0, f1⟩ := h
  refine ⟨?_, World.cell?_setCell_same _ _ _ (u := v) (by rw [World.cell?_setCell_other _ _ _ _ (by simp)]; exact h1), by simp [f0], by simp [f1]⟩
  rw [World.cell?_setCell_other _ _ _ _ (by simp)]; exact World.cell?_setCell_same _ _ _ h0
theorem Box2.other {B B' : Nat} {u v : Value} {W : World} (h : Box2 B u v W) (hne : B ≠ B') (u' v' : Value) : Box2 B u v ((W.setCell ⟨B', 0, none⟩ u').setCell ⟨B', 1, none⟩ v') := by
  obtain ⟨h0, h1, f0, f1⟩ := h
  refine ⟨?_, ?_, by simp [f0], by simp [f1]⟩
  · rw [World.cell?_setCell_other _ _ _ _ (by intro e; simp only [Addr.mk.injEq] at e; omega), World.cell?_setCell_other _ _ _ _ (by intro e; simp only [Addr.mk.injEq] at e; omega)]; exact h0
  · rw [World.cell?_setCell_other _ _ _ _ (by intro e; simp only [Addr.mk.injEq] at e; omega), World.cell?_setCell_other _ _ _ _ (by intro e; simp only [Addr.mk.injEq] at e; omega)]; exact h1
theorem below_set2 {B b : Nat} {a w : World} (h : Below B a w) (hb : B ≤ b) (u v : Value) : Below B a ((w.setCell ⟨b, 0, none⟩ u).setCell ⟨b, 1, none⟩ v) :=
  (h.setCell (p := ⟨b, 0, none⟩) hb u).setCell (p := ⟨b, 1, none⟩) hb v
def bxZ (B : Nat) (p : ZP) (W : World) : Prop := Box2 B (.int .i64 (norm p).1) (.int .i64 (norm p).2) W
/-- The state of the document's Pow. -/
def PowS (w : World) (p u : ZP) (W : World) : Prop := bxZ w.heap.size p W ∧ Box2 (w.heap.size + 1) (.int .i64 0) (.int .i64 0) W ∧ bxZ (w.heap.size + 1 + 1) u W ∧ Below w.heap.size w W
theorem PowS.keep {w W W' : World} {p u : ZP} (h : PowS w p u W) (hb : Below W.heap.size W W') : PowS w p u W' := ⟨h.1.keep hb, h.2.1.keep hb, h.2.2.1.keep hb, below_on h.2.2.2 hb⟩
theorem PowS.set {w W : World} {p u : ZP} (h : PowS w p u W) (u' : ZP) : PowS w p u' ((W.setCell ⟨w.heap.size + 1 + 1, 0, none⟩ (.int .i64 (norm u').1)).setCell ⟨w.heap.size + 1 + 1, 1, none⟩ (.int .i64 (norm u').2)) :=
  ⟨h.1.other (by omega) _ _, h.2.1.other (by omega) _ _, h.2.2.1.set _ _, below_set2 h.2.2.2 (by omega) _ _⟩
theorem PowS.start (w : World) (p : ZP) (t : TypeId) : PowS w p (1, 0) (((w.alloc (.cells #[.int .i64 (norm p).1, .int .i64 (norm p).2] t)).alloc (.cells #[.int .i64 0, .int .i64 0] t)).alloc (.cells #[.int .i64 1, .int .i64 0] t)) := by
  refine ⟨⟨?_, ?_, ?_, ?_⟩, ⟨?_, ?_, ?_, ?_⟩, ⟨?_, ?_, ?_, ?_⟩, below_alloc (below_alloc (below_alloc (Below.refl _ _) _) _) _⟩ <;> simp [go_sem, norm, rs]
end Go.Proofs.YthbbfdlacclccaaDoor
namespace Go.Proofs.YthbbfdlacclccaaDoor
open Go.RowKit

def OnR (w : World) (p : ZP) (W : World) : Prop := bxZ w.heap.size p W ∧ Box2 (w.heap.size + 1) (.int .i64 0) (.int .i64 0) W ∧ Below w.heap.size w W
theorem OnR.keep {w W W' : World} {p : ZP} (h : OnR w p W) (hb : Below W.heap.size W W') : OnR w p W' := ⟨h.1.keep hb, h.2.1.keep hb, below_on h.2.2 hb⟩
theorem OnR.set {w W : World} {p : ZP} (h : OnR w p W) (u' : ZP) : OnR w u' ((W.setCell ⟨w.heap.size, 0, none⟩ (.int .i64 (norm u').1)).setCell ⟨w.heap.size, 1, none⟩ (.int .i64 (norm u').2)) :=
  ⟨h.1.set _ _, h.2.1.other (by omega) _ _, below_set2 h.2.2 (by omega) _ _⟩
theorem OnR.start (w : World) (p : ZP) (t : TypeId) : OnR w p ((w.alloc (.cells #[.int .i64 (norm p).1, .int .i64 (norm p).2] t)).alloc (.cells #[.int .i64 0, .int .i64 0] t)) := by
  refine ⟨⟨?_, ?_, ?_, ?_⟩, ⟨?_, ?_, ?_, ?_⟩, below_alloc (below_alloc (Below.refl _ _) _) _⟩ <;> simp [go_sem]
theorem str_next (s : ByteArray) (k : Nat) (h : k < s.size) : s.data.toList.take (k + 1) = s.data.toList.take k ++ [s[k]] := by
  rw [List.take_succ_eq_append_getElem (by simpa using h)]; rfl
end Go.Proofs.YthbbfdlacclccaaDoor
