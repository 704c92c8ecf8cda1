/-
  DERIVED. GIVEN WITH THE SEED: THE CARDS: each row of YtjblbjamceloaaaGreatDoorRows.lean that lists a variable, with what it lists TIED to the program's text (the seventh form; the later family's looks); each row that meets fmt, with fmt's text TOLD by the authors' own Lean function (tested against real Go, not proved from fmt's source: count such statements apart). THE CARD IS WHAT COUNTS. Prove the row's statement (the work); the ties are given (YtjblbjamceloaaaGreatDoorTie.lean); close each card by the builder's one call (the guide's Derived/Test/ToyasCard.lean, 'card_holds'). Laid BY PROGRAM, IN A SANDBOX (cutbox-door.mjs). By AI agents, Wed Nov 11 2026. No macro, syntax, notation, axiom, sorry.
-/
import Derived.Test.YtjblbjamceloaaaGreatDoorRows
import GoSem.ClaimSeven
namespace Go.Proofs.YtjblbjamceloaaaGreatDoor
namespace Rows

/-- THE TIED CARD OF 'armariumlaw4.JournalAll'. -/
def journalAllCard : Claim7 := { stood := { row := journalAllRow, standIns := [], harness := (true, "3b5d1b704597beed79531c4d6111040918601997d7fe5adb37d484dc7e052a12"), looks := true }, kinds := [], alts := [], laidByText := true, laidKinds := [.data, .data, .data, .sentinel, .sentinel], laidTests := true, laidLooks := .later }
def JournalAllCardSaid : Prop := Claim7.holds Tryz.pinned (.plain (OpenSpec.ofChange journalAllSpec)) journalAllCard

/-- THE TIED CARD OF 'armariumlaw4.JournalTorn'. -/
def journalTornCard : Claim7 := { stood := { row := journalTornRow, standIns := [], harness := (true, "3b5d1b704597beed79531c4d6111040918601997d7fe5adb37d484dc7e052a12"), looks := true }, kinds := [], alts := [], laidByText := true, laidKinds := [.data, .data, .data, .sentinel, .sentinel], laidTests := true, laidLooks := .later }
def JournalTornCardSaid : Prop := Claim7.holds Tryz.pinned (.plain (OpenSpec.ofChange journalTornSpec)) journalTornCard

/-- THE TIED CARD OF 'armariumlaw4.JournalSpoilt'. -/
def journalSpoiltCard : Claim7 := { stood := { row := journalSpoiltRow, standIns := [], harness := (true, "3b5d1b704597beed79531c4d6111040918601997d7fe5adb37d484dc7e052a12"), looks := true }, kinds := [], alts := [], laidByText := true, laidKinds := [.data, .data, .data, .sentinel, .sentinel], laidTests := true, laidLooks := .later }
def JournalSpoiltCardSaid : Prop := Claim7.holds Tryz.pinned (.plain (OpenSpec.ofChange journalSpoiltSpec)) journalSpoiltCard

/-- THE TIED CARD OF 'armariumlaw3.RollAll'. -/
def rollAllCard : Claim7 := { stood := { row := rollAllRow, standIns := [], harness := (true, "3b5d1b704597beed79531c4d6111040918601997d7fe5adb37d484dc7e052a12"), looks := true }, kinds := [], alts := [], laidByText := true, laidKinds := [.data, .data, .data, .sentinel, .sentinel], laidTests := true, laidLooks := .later }
def RollAllCardSaid : Prop := Claim7.holds Tryz.pinned (.plain (OpenSpec.ofChange rollAllSpec)) rollAllCard

/-- THE TIED CARD OF 'armariumlaw3.RollTear'. -/
def rollTearCard : Claim7 := { stood := { row := rollTearRow, standIns := [], harness := (true, "3b5d1b704597beed79531c4d6111040918601997d7fe5adb37d484dc7e052a12"), looks := true }, kinds := [], alts := [], laidByText := true, laidKinds := [.data, .data, .data, .sentinel, .sentinel], laidTests := true, laidLooks := .later }
def RollTearCardSaid : Prop := Claim7.holds Tryz.pinned (.plain (OpenSpec.ofChange rollTearSpec)) rollTearCard

/-- THE SECOND FORM's CARD OF 'armariumlaw4.JournalAll'. -/
def journalAllUptoCard : Claim7 := { stood := { row := journalAllUptoRow, standIns := [], harness := (true, "3b5d1b704597beed79531c4d6111040918601997d7fe5adb37d484dc7e052a12"), looks := true }, kinds := [], alts := [], laidByText := true, laidKinds := [.data, .data, .data, .sentinel, .sentinel], laidTests := true, laidLooks := .later }
def JournalAllUptoCardSaid : Prop := Claim7.holds Tryz.pinned (.plain (OpenSpec.upto journalAllSpec)) journalAllUptoCard

/-- THE SECOND FORM's CARD OF 'armariumlaw4.JournalTorn'. -/
def journalTornUptoCard : Claim7 := { stood := { row := journalTornUptoRow, standIns := [], harness := (true, "3b5d1b704597beed79531c4d6111040918601997d7fe5adb37d484dc7e052a12"), looks := true }, kinds := [], alts := [], laidByText := true, laidKinds := [.data, .data, .data, .sentinel, .sentinel], laidTests := true, laidLooks := .later }
def JournalTornUptoCardSaid : Prop := Claim7.holds Tryz.pinned (.plain (OpenSpec.upto journalTornSpec)) journalTornUptoCard

/-- THE SECOND FORM's CARD OF 'armariumlaw4.JournalSpoilt'. -/
def journalSpoiltUptoCard : Claim7 := { stood := { row := journalSpoiltUptoRow, standIns := [], harness := (true, "3b5d1b704597beed79531c4d6111040918601997d7fe5adb37d484dc7e052a12"), looks := true }, kinds := [], alts := [], laidByText := true, laidKinds := [.data, .data, .data, .sentinel, .sentinel], laidTests := true, laidLooks := .later }
def JournalSpoiltUptoCardSaid : Prop := Claim7.holds Tryz.pinned (.plain (OpenSpec.upto journalSpoiltSpec)) journalSpoiltUptoCard

/-- THE SECOND FORM's CARD OF 'armariumlaw3.RollAll'. -/
def rollAllUptoCard : Claim7 := { stood := { row := rollAllUptoRow, standIns := [], harness := (true, "3b5d1b704597beed79531c4d6111040918601997d7fe5adb37d484dc7e052a12"), looks := true }, kinds := [], alts := [], laidByText := true, laidKinds := [.data, .data, .data, .sentinel, .sentinel], laidTests := true, laidLooks := .later }
def RollAllUptoCardSaid : Prop := Claim7.holds Tryz.pinned (.plain (OpenSpec.upto rollAllSpec)) rollAllUptoCard

/-- THE SECOND FORM's CARD OF 'armariumlaw3.RollTear'. -/
def rollTearUptoCard : Claim7 := { stood := { row := rollTearUptoRow, standIns := [], harness := (true, "3b5d1b704597beed79531c4d6111040918601997d7fe5adb37d484dc7e052a12"), looks := true }, kinds := [], alts := [], laidByText := true, laidKinds := [.data, .data, .data, .sentinel, .sentinel], laidTests := true, laidLooks := .later }
def RollTearUptoCardSaid : Prop := Claim7.holds Tryz.pinned (.plain (OpenSpec.upto rollTearSpec)) rollTearUptoCard
end Rows
end Go.Proofs.YtjblbjamceloaaaGreatDoor
