/-
  DERIVED. GIVEN WITH THE SEED: THE CARDS: each row of YtcfimmemnmmiiaaGreatDoorRows.lean that lists a variable, with what it lists TIED to the program's text (the seventh form; the later family's looks); each row that meets fmt, with fmt's text TOLD by the authors' own Lean function (tested against real Go, not proved from fmt's source: count such statements apart). THE CARD IS WHAT COUNTS. Prove the row's statement (the work); the ties are given (YtcfimmemnmmiiaaGreatDoorTie.lean); close each card by the builder's one call (the guide's Derived/Test/ToyasCard.lean, 'card_holds'). Laid BY PROGRAM, IN A SANDBOX (cutbox-door.mjs). By AI agents, Wed Nov 11 2026. No macro, syntax, notation, axiom, sorry.
-/
import Derived.Test.YtcfimmemnmmiiaaGreatDoorRows
import GoSem.ClaimSeven
namespace Go.Proofs.YtcfimmemnmmiiaaGreatDoor
namespace Rows

/-- THE TIED CARD OF 'armariumlaw3.RollAll'. -/
def rollAllCard : Claim7 := { stood := { row := rollAllRow, standIns := [], harness := (true, "b801e831c8f080f785028b7a115fa6b9c76bf2295c7ad65ae219bafac19ed140"), looks := true }, kinds := [], alts := [], laidByText := true, laidKinds := [.data, .data, .data, .sentinel, .sentinel], laidTests := true, laidLooks := .later }
def RollAllCardSaid : Prop := Claim7.holds Tryz.pinned (.plain (OpenSpec.ofChange rollAllSpec)) rollAllCard

/-- THE TIED CARD OF 'armariumlaw3.RollTear'. -/
def rollTearCard : Claim7 := { stood := { row := rollTearRow, standIns := [], harness := (true, "b801e831c8f080f785028b7a115fa6b9c76bf2295c7ad65ae219bafac19ed140"), looks := true }, kinds := [], alts := [], laidByText := true, laidKinds := [.data, .data, .data, .sentinel, .sentinel], laidTests := true, laidLooks := .later }
def RollTearCardSaid : Prop := Claim7.holds Tryz.pinned (.plain (OpenSpec.ofChange rollTearSpec)) rollTearCard

/-- THE TIED CARD OF 'armariumlaw3.RollCall'. -/
def rollCallCard : Claim7 := { stood := { row := rollCallRow, standIns := [], harness := (true, "b801e831c8f080f785028b7a115fa6b9c76bf2295c7ad65ae219bafac19ed140"), looks := true }, kinds := [], alts := [], laidByText := true, laidKinds := [.data, .data, .data, .sentinel, .sentinel], laidTests := true, laidLooks := .later }
def RollCallCardSaid : Prop := Claim7.holds Tryz.pinned (.plain (OpenSpec.ofChange rollCallSpec)) rollCallCard

/-- THE TIED CARD OF 'armariumlaw3.RollNone'. -/
def rollNoneCard : Claim7 := { stood := { row := rollNoneRow, standIns := [], harness := (true, "b801e831c8f080f785028b7a115fa6b9c76bf2295c7ad65ae219bafac19ed140"), looks := true }, kinds := [], alts := [], laidByText := true, laidKinds := [.data, .data, .data, .sentinel, .sentinel], laidTests := true, laidLooks := .later }
def RollNoneCardSaid : Prop := Claim7.holds Tryz.pinned (.plain (OpenSpec.ofChange rollNoneSpec)) rollNoneCard

/-- THE TIED CARD OF 'armariumlaw3.RollNames'. -/
def rollNamesCard : Claim7 := { stood := { row := rollNamesRow, standIns := [], harness := (true, "b801e831c8f080f785028b7a115fa6b9c76bf2295c7ad65ae219bafac19ed140"), looks := true }, kinds := [], alts := [], laidByText := true, laidKinds := [.data, .data, .data, .sentinel, .sentinel], laidTests := true, laidLooks := .later }
def RollNamesCardSaid : Prop := Claim7.holds Tryz.pinned (.plain (OpenSpec.ofChange rollNamesSpec)) rollNamesCard

/-- THE TIED CARD OF 'armariumlaw4.JournalLeaf'. -/
def journalLeafCard : Claim7 := { stood := { row := journalLeafRow, standIns := [], harness := (true, "b801e831c8f080f785028b7a115fa6b9c76bf2295c7ad65ae219bafac19ed140"), looks := true }, kinds := [], alts := [], laidByText := true, laidKinds := [.data, .data, .data, .sentinel, .sentinel], laidTests := true, laidLooks := .later }
def JournalLeafCardSaid : Prop := Claim7.holds Tryz.pinned (.plain (OpenSpec.ofChange journalLeafSpec)) journalLeafCard

/-- THE TIED CARD OF 'armariumlaw4.JournalAll'. -/
def journalAllCard : Claim7 := { stood := { row := journalAllRow, standIns := [], harness := (true, "b801e831c8f080f785028b7a115fa6b9c76bf2295c7ad65ae219bafac19ed140"), looks := true }, kinds := [], alts := [], laidByText := true, laidKinds := [.data, .data, .data, .sentinel, .sentinel], laidTests := true, laidLooks := .later }
def JournalAllCardSaid : Prop := Claim7.holds Tryz.pinned (.plain (OpenSpec.ofChange journalAllSpec)) journalAllCard

/-- THE TIED CARD OF 'armariumlaw4.JournalTorn'. -/
def journalTornCard : Claim7 := { stood := { row := journalTornRow, standIns := [], harness := (true, "b801e831c8f080f785028b7a115fa6b9c76bf2295c7ad65ae219bafac19ed140"), looks := true }, kinds := [], alts := [], laidByText := true, laidKinds := [.data, .data, .data, .sentinel, .sentinel], laidTests := true, laidLooks := .later }
def JournalTornCardSaid : Prop := Claim7.holds Tryz.pinned (.plain (OpenSpec.ofChange journalTornSpec)) journalTornCard

/-- THE TIED CARD OF 'armariumlaw4.JournalSpoilt'. -/
def journalSpoiltCard : Claim7 := { stood := { row := journalSpoiltRow, standIns := [], harness := (true, "b801e831c8f080f785028b7a115fa6b9c76bf2295c7ad65ae219bafac19ed140"), looks := true }, kinds := [], alts := [], laidByText := true, laidKinds := [.data, .data, .data, .sentinel, .sentinel], laidTests := true, laidLooks := .later }
def JournalSpoiltCardSaid : Prop := Claim7.holds Tryz.pinned (.plain (OpenSpec.ofChange journalSpoiltSpec)) journalSpoiltCard

/-- THE TIED CARD OF 'armariumlaw4.JournalLay'. -/
def journalLayCard : Claim7 := { stood := { row := journalLayRow, standIns := [], harness := (true, "b801e831c8f080f785028b7a115fa6b9c76bf2295c7ad65ae219bafac19ed140"), looks := true }, kinds := [], alts := [], laidByText := true, laidKinds := [.data, .data, .data, .sentinel, .sentinel], laidTests := true, laidLooks := .later }
def JournalLayCardSaid : Prop := Claim7.holds Tryz.pinned (.plain (OpenSpec.ofChange journalLaySpec)) journalLayCard

/-- THE TIED CARD OF 'armariumlaw4.JournalFull'. -/
def journalFullCard : Claim7 := { stood := { row := journalFullRow, standIns := [], harness := (true, "b801e831c8f080f785028b7a115fa6b9c76bf2295c7ad65ae219bafac19ed140"), looks := true }, kinds := [], alts := [], laidByText := true, laidKinds := [.data, .data, .data, .sentinel, .sentinel], laidTests := true, laidLooks := .later }
def JournalFullCardSaid : Prop := Claim7.holds Tryz.pinned (.plain (OpenSpec.ofChange journalFullSpec)) journalFullCard

/-- THE SECOND FORM's CARD OF 'armariumlaw3.RollAll'. -/
def rollAllUptoCard : Claim7 := { stood := { row := rollAllUptoRow, standIns := [], harness := (true, "b801e831c8f080f785028b7a115fa6b9c76bf2295c7ad65ae219bafac19ed140"), looks := true }, kinds := [], alts := [], laidByText := true, laidKinds := [.data, .data, .data, .sentinel, .sentinel], laidTests := true, laidLooks := .later }
def RollAllUptoCardSaid : Prop := Claim7.holds Tryz.pinned (.plain (OpenSpec.upto rollAllSpec)) rollAllUptoCard

/-- THE SECOND FORM's CARD OF 'armariumlaw3.RollTear'. -/
def rollTearUptoCard : Claim7 := { stood := { row := rollTearUptoRow, standIns := [], harness := (true, "b801e831c8f080f785028b7a115fa6b9c76bf2295c7ad65ae219bafac19ed140"), looks := true }, kinds := [], alts := [], laidByText := true, laidKinds := [.data, .data, .data, .sentinel, .sentinel], laidTests := true, laidLooks := .later }
def RollTearUptoCardSaid : Prop := Claim7.holds Tryz.pinned (.plain (OpenSpec.upto rollTearSpec)) rollTearUptoCard

/-- THE SECOND FORM's CARD OF 'armariumlaw3.RollCall'. -/
def rollCallUptoCard : Claim7 := { stood := { row := rollCallUptoRow, standIns := [], harness := (true, "b801e831c8f080f785028b7a115fa6b9c76bf2295c7ad65ae219bafac19ed140"), looks := true }, kinds := [], alts := [], laidByText := true, laidKinds := [.data, .data, .data, .sentinel, .sentinel], laidTests := true, laidLooks := .later }
def RollCallUptoCardSaid : Prop := Claim7.holds Tryz.pinned (.plain (OpenSpec.upto rollCallSpec)) rollCallUptoCard

/-- THE SECOND FORM's CARD OF 'armariumlaw3.RollNone'. -/
def rollNoneUptoCard : Claim7 := { stood := { row := rollNoneUptoRow, standIns := [], harness := (true, "b801e831c8f080f785028b7a115fa6b9c76bf2295c7ad65ae219bafac19ed140"), looks := true }, kinds := [], alts := [], laidByText := true, laidKinds := [.data, .data, .data, .sentinel, .sentinel], laidTests := true, laidLooks := .later }
def RollNoneUptoCardSaid : Prop := Claim7.holds Tryz.pinned (.plain (OpenSpec.upto rollNoneSpec)) rollNoneUptoCard

/-- THE SECOND FORM's CARD OF 'armariumlaw3.RollNames'. -/
def rollNamesUptoCard : Claim7 := { stood := { row := rollNamesUptoRow, standIns := [], harness := (true, "b801e831c8f080f785028b7a115fa6b9c76bf2295c7ad65ae219bafac19ed140"), looks := true }, kinds := [], alts := [], laidByText := true, laidKinds := [.data, .data, .data, .sentinel, .sentinel], laidTests := true, laidLooks := .later }
def RollNamesUptoCardSaid : Prop := Claim7.holds Tryz.pinned (.plain (OpenSpec.upto rollNamesSpec)) rollNamesUptoCard

/-- THE SECOND FORM's CARD OF 'armariumlaw4.JournalLeaf'. -/
def journalLeafUptoCard : Claim7 := { stood := { row := journalLeafUptoRow, standIns := [], harness := (true, "b801e831c8f080f785028b7a115fa6b9c76bf2295c7ad65ae219bafac19ed140"), looks := true }, kinds := [], alts := [], laidByText := true, laidKinds := [.data, .data, .data, .sentinel, .sentinel], laidTests := true, laidLooks := .later }
def JournalLeafUptoCardSaid : Prop := Claim7.holds Tryz.pinned (.plain (OpenSpec.upto journalLeafSpec)) journalLeafUptoCard

/-- THE SECOND FORM's CARD OF 'armariumlaw4.JournalAll'. -/
def journalAllUptoCard : Claim7 := { stood := { row := journalAllUptoRow, standIns := [], harness := (true, "b801e831c8f080f785028b7a115fa6b9c76bf2295c7ad65ae219bafac19ed140"), looks := true }, kinds := [], alts := [], laidByText := true, laidKinds := [.data, .data, .data, .sentinel, .sentinel], laidTests := true, laidLooks := .later }
def JournalAllUptoCardSaid : Prop := Claim7.holds Tryz.pinned (.plain (OpenSpec.upto journalAllSpec)) journalAllUptoCard

/-- THE SECOND FORM's CARD OF 'armariumlaw4.JournalTorn'. -/
def journalTornUptoCard : Claim7 := { stood := { row := journalTornUptoRow, standIns := [], harness := (true, "b801e831c8f080f785028b7a115fa6b9c76bf2295c7ad65ae219bafac19ed140"), looks := true }, kinds := [], alts := [], laidByText := true, laidKinds := [.data, .data, .data, .sentinel, .sentinel], laidTests := true, laidLooks := .later }
def JournalTornUptoCardSaid : Prop := Claim7.holds Tryz.pinned (.plain (OpenSpec.upto journalTornSpec)) journalTornUptoCard

/-- THE SECOND FORM's CARD OF 'armariumlaw4.JournalSpoilt'. -/
def journalSpoiltUptoCard : Claim7 := { stood := { row := journalSpoiltUptoRow, standIns := [], harness := (true, "b801e831c8f080f785028b7a115fa6b9c76bf2295c7ad65ae219bafac19ed140"), looks := true }, kinds := [], alts := [], laidByText := true, laidKinds := [.data, .data, .data, .sentinel, .sentinel], laidTests := true, laidLooks := .later }
def JournalSpoiltUptoCardSaid : Prop := Claim7.holds Tryz.pinned (.plain (OpenSpec.upto journalSpoiltSpec)) journalSpoiltUptoCard

/-- THE SECOND FORM's CARD OF 'armariumlaw4.JournalLay'. -/
def journalLayUptoCard : Claim7 := { stood := { row := journalLayUptoRow, standIns := [], harness := (true, "b801e831c8f080f785028b7a115fa6b9c76bf2295c7ad65ae219bafac19ed140"), looks := true }, kinds := [], alts := [], laidByText := true, laidKinds := [.data, .data, .data, .sentinel, .sentinel], laidTests := true, laidLooks := .later }
def JournalLayUptoCardSaid : Prop := Claim7.holds Tryz.pinned (.plain (OpenSpec.upto journalLaySpec)) journalLayUptoCard

/-- THE SECOND FORM's CARD OF 'armariumlaw4.JournalFull'. -/
def journalFullUptoCard : Claim7 := { stood := { row := journalFullUptoRow, standIns := [], harness := (true, "b801e831c8f080f785028b7a115fa6b9c76bf2295c7ad65ae219bafac19ed140"), looks := true }, kinds := [], alts := [], laidByText := true, laidKinds := [.data, .data, .data, .sentinel, .sentinel], laidTests := true, laidLooks := .later }
def JournalFullUptoCardSaid : Prop := Claim7.holds Tryz.pinned (.plain (OpenSpec.upto journalFullSpec)) journalFullUptoCard
end Rows
end Go.Proofs.YtcfimmemnmmiiaaGreatDoor
