/- Walk of the document's Read. -/
import Derived.Test.YtdpkmcbpeloljaaDoorGm
namespace Go.Proofs.YtdpkmcbpeloljaaDoor
open Go.RowKit

theorem Box2.put {B B' : Nat} {u v : Value} {W : World} (h : Box2 B u v W) (hne : B ≠ B') (i : Nat) (x : Value) : Box2 B u v (W.setCell ⟨B', i, none⟩ x) := by
  obtain ⟨h0, h1, f0, f1⟩ := h
  exact ⟨by rw [World.cell?_setCell_other _ _ _ _ (by intro e; simp only [Addr.mk.injEq] at e; omega)]; exact h0, by rw [World.cell?_setCell_other _ _ _ _ (by intro e; simp only [Addr.mk.injEq] at e; omega)]; exact h1, by simp [f0], by simp [f1]⟩
end Go.Proofs.YtdpkmcbpeloljaaDoor
