/-
  DERIVED. GIVEN WITH THE SEED: THE CARDS: each row of YthbbfdlacclccaaDoorRows.lean that lists a variable, with what it lists TIED to the program's text (the seventh form; the later family's looks); each row that meets fmt, with fmt's text TOLD by the authors' own Lean function (tested against real Go, not proved from fmt's source: count such statements apart). THE CARD IS WHAT COUNTS. Prove the row's statement (the work); the ties are given (YthbbfdlacclccaaDoorTie.lean); close each card by the builder's one call (the guide's Derived/Test/ToyasCard.lean, 'card_holds'). Laid BY PROGRAM, IN A SANDBOX (cutbox-door.mjs). By AI agents, Wed Nov 11 2026. No macro, syntax, notation, axiom, sorry.
-/
import Derived.Test.YthbbfdlacclccaaDoorRows
import GoSem.ClaimSeven
namespace Go.Proofs.YthbbfdlacclccaaDoor
namespace Rows

/-- THE TIED CARD OF 'armariumlaw1.PouchMany'. -/
def pouchManyCard : Claim7 := { stood := { row := pouchManyRow, standIns := [], harness := (true, "da3ed7678d67f3c2d1739310934602d4bcba02b4e3961feec39c65e97f5acc1e"), looks := true }, kinds := [], alts := [], laidByText := true, laidKinds := [.data, .data, .data, .sentinel, .sentinel], laidTests := true, laidLooks := .later }
def PouchManyCardSaid : Prop := Claim7.holds Tryd.pinned (.plain (OpenSpec.ofChange pouchManySpec)) pouchManyCard

/-- THE TIED CARD OF 'armariumlaw1.PouchAny'. -/
def pouchAnyCard : Claim7 := { stood := { row := pouchAnyRow, standIns := [], harness := (true, "da3ed7678d67f3c2d1739310934602d4bcba02b4e3961feec39c65e97f5acc1e"), looks := true }, kinds := [], alts := [], laidByText := true, laidKinds := [.data, .data, .data, .sentinel, .sentinel], laidTests := true, laidLooks := .later }
def PouchAnyCardSaid : Prop := Claim7.holds Tryd.pinned (.plain (OpenSpec.ofChange pouchAnySpec)) pouchAnyCard

/-- THE SECOND FORM's CARD OF 'armariumlaw1.PouchMany'. -/
def pouchManyUptoCard : Claim7 := { stood := { row := pouchManyUptoRow, standIns := [], harness := (true, "da3ed7678d67f3c2d1739310934602d4bcba02b4e3961feec39c65e97f5acc1e"), looks := true }, kinds := [], alts := [], laidByText := true, laidKinds := [.data, .data, .data, .sentinel, .sentinel], laidTests := true, laidLooks := .later }
def PouchManyUptoCardSaid : Prop := Claim7.holds Tryd.pinned (.plain (OpenSpec.upto pouchManySpec)) pouchManyUptoCard

/-- THE SECOND FORM's CARD OF 'armariumlaw1.PouchAny'. -/
def pouchAnyUptoCard : Claim7 := { stood := { row := pouchAnyUptoRow, standIns := [], harness := (true, "da3ed7678d67f3c2d1739310934602d4bcba02b4e3961feec39c65e97f5acc1e"), looks := true }, kinds := [], alts := [], laidByText := true, laidKinds := [.data, .data, .data, .sentinel, .sentinel], laidTests := true, laidLooks := .later }
def PouchAnyUptoCardSaid : Prop := Claim7.holds Tryd.pinned (.plain (OpenSpec.upto pouchAnySpec)) pouchAnyUptoCard
end Rows
end Go.Proofs.YthbbfdlacclccaaDoor
