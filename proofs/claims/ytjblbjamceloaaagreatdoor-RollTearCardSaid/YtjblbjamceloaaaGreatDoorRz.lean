/- Rows of cells, so many each, one behind the other. -/
import Derived.Test.YtjblbjamceloaaaGreatDoorKit
namespace Go.Proofs.YtjblbjamceloaaaGreatDoor
open Go.RowKit

/-- Rows of cells, so many each, one behind the other. -/
def RowsAt (w : World) (a : Option Addr) (n : Nat) (L : List (List Value)) : Prop :=
  L = [] ∨ ∃ b off, a = some ⟨b, off, none⟩ ∧ b < w.heap.size ∧ ∀ i cs, L[i]? = some cs → ∀ j u, cs[j]? = some u → w.cell? ⟨b, off + i * n + j, none⟩ = some u
theorem RowsAt.keep {w w' : World} {a : Option Addr} {n : Nat} {L : List (List Value)} (h : RowsAt w a n L) (k : Below w.heap.size w w') : RowsAt w' a n L := by
  rcases h with h | ⟨b, off, rfl, hb, hc⟩
  · exact Or.inl h
  · exact Or.inr ⟨b, off, rfl, Nat.lt_of_lt_of_le hb k.size, fun i cs hi j u hj => (k.cell (p := ⟨b, off + i * n + j, none⟩) hb).trans (hc i cs hi j u hj)⟩
end Go.Proofs.YtjblbjamceloaaaGreatDoor
