/-
  DERIVED. GIVEN WITH THE SEED: THE CARDS: each row of YtehplflhaegkbaaGreatDoorRows.lean that lists a variable, with what it lists TIED to the program's text (the seventh form; the later family's looks); each row that meets fmt, with fmt's text TOLD by the authors' own Lean function (tested against real Go, not proved from fmt's source: count such statements apart). THE CARD IS WHAT COUNTS. Prove the row's statement (the work); the ties are given (YtehplflhaegkbaaGreatDoorTie.lean); close each card by the builder's one call (the guide's Derived/Test/ToyasCard.lean, 'card_holds'). Laid BY PROGRAM, IN A SANDBOX (cutbox-door.mjs). By AI agents, Wed Nov 11 2026. No macro, syntax, notation, axiom, sorry.
-/
import Derived.Test.YtehplflhaegkbaaGreatDoorRows
import GoSem.ClaimSeven
namespace Go.Proofs.YtehplflhaegkbaaGreatDoor
namespace Rows

/-- THE TIED CARD OF 'armariumlaw14.LeanAll'. -/
def leanAllCard : Claim7 := { stood := { row := leanAllRow, standIns := [], harness := (true, "64fa88b041ebab78470b1d65b2a41e191c27c4ec52cdbb24f7662633398bb0e5"), looks := true }, kinds := [], alts := [], laidByText := true, laidKinds := [.data, .data, .data, .sentinel, .sentinel], laidTests := true, laidLooks := .later }
def LeanAllCardSaid : Prop := Claim7.holds Tryz.pinned (.plain (OpenSpec.ofChange leanAllSpec)) leanAllCard

/-- THE SECOND FORM's CARD OF 'armariumlaw14.LeanAll'. -/
def leanAllUptoCard : Claim7 := { stood := { row := leanAllUptoRow, standIns := [], harness := (true, "64fa88b041ebab78470b1d65b2a41e191c27c4ec52cdbb24f7662633398bb0e5"), looks := true }, kinds := [], alts := [], laidByText := true, laidKinds := [.data, .data, .data, .sentinel, .sentinel], laidTests := true, laidLooks := .later }
def LeanAllUptoCardSaid : Prop := Claim7.holds Tryz.pinned (.plain (OpenSpec.upto leanAllSpec)) leanAllUptoCard
end Rows
end Go.Proofs.YtehplflhaegkbaaGreatDoor
