/- JournalLay: the walk. -/
import Derived.Test.YtjblbjamceloaaaGreatDoorJs
namespace Go.Proofs.YtjblbjamceloaaaGreatDoor
open Go.RowKit

/-- A new roll beside the log. -/
theorem Log.aside {n : Nat} {r : Int} {L : List Rl} {s : ByteArray} {p : Int} {k : Bool} (h : Log n r L s p k) (x : ByteArray) (hr : (x.size : Int) ≤ r) :
    ∃ L', writeS r L kNEW x = (0, r - x.size, L') ∧ Log (n + 1) (r - x.size) L' s p k := by
  have h1 := writeS_put (L := L) (n := kNEW) (s := x) good_NEW hr
  have h2 := writeS_ok h.ok h.ri kNEW x
  rw [h1] at h2
  refine ⟨_, h1, ⟨⟨h2.1, h2.2.1, by have := h2.2.2.1; have := h.ln; simp only at *; omega⟩, ?_⟩⟩
  rw [look_putL h.ri, if_neg log_ne_new]
  exact h.lk
theorem Side.chest {w0 w w' : World} {J g b : Nat} {v va : Value} {all : List ByteArray} (h : Side w0 w J g b v va all) (k : Only [g, b] w w') : Side w0 w' J g b v va all :=
  ⟨h.mr.keep k (fun q hq hm => by
    simp at hm
    rcases hm with rfl | rfl
    · exact h.ng hq
    · exact h.nb hq), h.lo, h.nj, h.ng, h.nb, h.nv⟩
theorem take_all {α : Type} {l : List α} {j : Nat} (h : l.length ≤ j) : l.take j = l := List.take_of_length_le h
end Go.Proofs.YtjblbjamceloaaaGreatDoor
