/-
  DERIVED. GIVEN WITH THE SEED: THE CARDS: each row of YtchfphhelafbbaaDoorRows.lean that lists a variable, with what it lists TIED to the program's text (the seventh form; the later family's looks); each row that meets fmt, with fmt's text TOLD by the authors' own Lean function (tested against real Go, not proved from fmt's source: count such statements apart). THE CARD IS WHAT COUNTS. Prove the row's statement (the work); the ties are given (YtchfphhelafbbaaDoorTie.lean); close each card by the builder's one call (the guide's Derived/Test/ToyasCard.lean, 'card_holds'). Laid BY PROGRAM, IN A SANDBOX (cutbox-door.mjs). By AI agents, Wed Nov 11 2026. No macro, syntax, notation, axiom, sorry.
-/
import Derived.Test.YtchfphhelafbbaaDoorRows
import GoSem.ClaimSeven
namespace Go.Proofs.YtchfphhelafbbaaDoor
namespace Rows

/-- THE TIED CARD OF 'armariumlaw1.GaussMod'. -/
def gaussModCard : Claim7 := { stood := { row := gaussModRow, standIns := [], harness := (true, "638cf30a6fcb7491c4fb7496c5ddc2fd72149adf7fbc45ea4ea8c3770e95d5c0"), looks := true }, kinds := [], alts := [], laidByText := true, laidKinds := [.data, .data, .data, .sentinel, .sentinel], laidTests := true, laidLooks := .later }
def GaussModCardSaid : Prop := Claim7.holds Tryd.pinned (.plain (OpenSpec.ofChange gaussModSpec)) gaussModCard

/-- THE TIED CARD OF 'armariumlaw1.GaussLaws'. -/
def gaussLawsCard : Claim7 := { stood := { row := gaussLawsRow, standIns := [], harness := (true, "638cf30a6fcb7491c4fb7496c5ddc2fd72149adf7fbc45ea4ea8c3770e95d5c0"), looks := true }, kinds := [], alts := [], laidByText := true, laidKinds := [.data, .data, .data, .sentinel, .sentinel], laidTests := true, laidLooks := .later }
def GaussLawsCardSaid : Prop := Claim7.holds Tryd.pinned (.plain (OpenSpec.ofChange gaussLawsSpec)) gaussLawsCard

/-- THE TIED CARD OF 'armariumlaw1.MarkAll'. -/
def markAllCard : Claim7 := { stood := { row := markAllRow, standIns := [], harness := (true, "638cf30a6fcb7491c4fb7496c5ddc2fd72149adf7fbc45ea4ea8c3770e95d5c0"), looks := true }, kinds := [], alts := [], laidByText := true, laidKinds := [.data, .data, .data, .sentinel, .sentinel], laidTests := true, laidLooks := .later }
def MarkAllCardSaid : Prop := Claim7.holds Tryd.pinned (.plain (OpenSpec.ofChange markAllSpec)) markAllCard

/-- THE TIED CARD OF 'armariumlaw1.MarkTurn'. -/
def markTurnCard : Claim7 := { stood := { row := markTurnRow, standIns := [], harness := (true, "638cf30a6fcb7491c4fb7496c5ddc2fd72149adf7fbc45ea4ea8c3770e95d5c0"), looks := true }, kinds := [], alts := [], laidByText := true, laidKinds := [.data, .data, .data, .sentinel, .sentinel], laidTests := true, laidLooks := .later }
def MarkTurnCardSaid : Prop := Claim7.holds Tryd.pinned (.plain (OpenSpec.ofChange markTurnSpec)) markTurnCard

/-- THE TIED CARD OF 'armariumlaw1.MarkText'. -/
def markTextCard : Claim7 := { stood := { row := markTextRow, standIns := [], harness := (true, "638cf30a6fcb7491c4fb7496c5ddc2fd72149adf7fbc45ea4ea8c3770e95d5c0"), looks := true }, kinds := [], alts := [], laidByText := true, laidKinds := [.data, .data, .data, .sentinel, .sentinel], laidTests := true, laidLooks := .later }
def MarkTextCardSaid : Prop := Claim7.holds Tryd.pinned (.plain (OpenSpec.ofChange markTextSpec)) markTextCard

/-- THE TIED CARD OF 'armariumlaw1.PouchDeep'. -/
def pouchDeepCard : Claim7 := { stood := { row := pouchDeepRow, standIns := [], harness := (true, "638cf30a6fcb7491c4fb7496c5ddc2fd72149adf7fbc45ea4ea8c3770e95d5c0"), looks := true }, kinds := [], alts := [], laidByText := true, laidKinds := [.data, .data, .data, .sentinel, .sentinel], laidTests := true, laidLooks := .later }
def PouchDeepCardSaid : Prop := Claim7.holds Tryd.pinned (.plain (OpenSpec.ofChange pouchDeepSpec)) pouchDeepCard

/-- THE TIED CARD OF 'armariumlaw1.GaussNegative'. -/
def gaussNegativeCard : Claim7 := { stood := { row := gaussNegativeRow, standIns := [], harness := (true, "638cf30a6fcb7491c4fb7496c5ddc2fd72149adf7fbc45ea4ea8c3770e95d5c0"), looks := true }, kinds := [], alts := [], laidByText := true, laidKinds := [.data, .data, .data, .sentinel, .sentinel], laidTests := true, laidLooks := .later }
def GaussNegativeCardSaid : Prop := Claim7.holds Tryd.pinned (.plain (OpenSpec.ofChange gaussNegativeSpec)) gaussNegativeCard

/-- THE TIED CARD OF 'armariumlaw1.MarkParts'. -/
def markPartsCard : Claim7 := { stood := { row := markPartsRow, standIns := [], harness := (true, "638cf30a6fcb7491c4fb7496c5ddc2fd72149adf7fbc45ea4ea8c3770e95d5c0"), looks := true }, kinds := [], alts := [], laidByText := true, laidKinds := [.data, .data, .data, .sentinel, .sentinel], laidTests := true, laidLooks := .later }
def MarkPartsCardSaid : Prop := Claim7.holds Tryd.pinned (.plain (OpenSpec.ofChange markPartsSpec)) markPartsCard

/-- THE TIED CARD OF 'armariumlaw1.MarkSwap'. -/
def markSwapCard : Claim7 := { stood := { row := markSwapRow, standIns := [], harness := (true, "638cf30a6fcb7491c4fb7496c5ddc2fd72149adf7fbc45ea4ea8c3770e95d5c0"), looks := true }, kinds := [], alts := [], laidByText := true, laidKinds := [.data, .data, .data, .sentinel, .sentinel], laidTests := true, laidLooks := .later }
def MarkSwapCardSaid : Prop := Claim7.holds Tryd.pinned (.plain (OpenSpec.ofChange markSwapSpec)) markSwapCard

/-- THE TIED CARD OF 'armariumlaw1.PouchMany'. -/
def pouchManyCard : Claim7 := { stood := { row := pouchManyRow, standIns := [], harness := (true, "638cf30a6fcb7491c4fb7496c5ddc2fd72149adf7fbc45ea4ea8c3770e95d5c0"), looks := true }, kinds := [], alts := [], laidByText := true, laidKinds := [.data, .data, .data, .sentinel, .sentinel], laidTests := true, laidLooks := .later }
def PouchManyCardSaid : Prop := Claim7.holds Tryd.pinned (.plain (OpenSpec.ofChange pouchManySpec)) pouchManyCard

/-- THE TIED CARD OF 'armariumlaw1.PouchAny'. -/
def pouchAnyCard : Claim7 := { stood := { row := pouchAnyRow, standIns := [], harness := (true, "638cf30a6fcb7491c4fb7496c5ddc2fd72149adf7fbc45ea4ea8c3770e95d5c0"), looks := true }, kinds := [], alts := [], laidByText := true, laidKinds := [.data, .data, .data, .sentinel, .sentinel], laidTests := true, laidLooks := .later }
def PouchAnyCardSaid : Prop := Claim7.holds Tryd.pinned (.plain (OpenSpec.ofChange pouchAnySpec)) pouchAnyCard

/-- THE TIED CARD OF 'armariumlaw1.PouchNums'. -/
def pouchNumsCard : Claim7 := { stood := { row := pouchNumsRow, standIns := [], harness := (true, "638cf30a6fcb7491c4fb7496c5ddc2fd72149adf7fbc45ea4ea8c3770e95d5c0"), looks := true }, kinds := [], alts := [], laidByText := true, laidKinds := [.data, .data, .data, .sentinel, .sentinel], laidTests := true, laidLooks := .later }
def PouchNumsCardSaid : Prop := Claim7.holds Tryd.pinned (.plain (OpenSpec.ofChange pouchNumsSpec)) pouchNumsCard

/-- THE TIED CARD OF 'armariumlaw1.PouchLengths'. -/
def pouchLengthsCard : Claim7 := { stood := { row := pouchLengthsRow, standIns := [], harness := (true, "638cf30a6fcb7491c4fb7496c5ddc2fd72149adf7fbc45ea4ea8c3770e95d5c0"), looks := true }, kinds := [], alts := [], laidByText := true, laidKinds := [.data, .data, .data, .sentinel, .sentinel], laidTests := true, laidLooks := .later }
def PouchLengthsCardSaid : Prop := Claim7.holds Tryd.pinned (.plain (OpenSpec.ofChange pouchLengthsSpec)) pouchLengthsCard

/-- THE TIED CARD OF 'armariumlaw1.GaussAll'. -/
def gaussAllCard : Claim7 := { stood := { row := gaussAllRow, standIns := [], harness := (true, "638cf30a6fcb7491c4fb7496c5ddc2fd72149adf7fbc45ea4ea8c3770e95d5c0"), looks := true }, kinds := [], alts := [], laidByText := true, laidKinds := [.data, .data, .data, .sentinel, .sentinel], laidTests := true, laidLooks := .later }
def GaussAllCardSaid : Prop := Claim7.holds Tryd.pinned (.plain (OpenSpec.ofChange gaussAllSpec)) gaussAllCard

/-- THE TIED CARD OF 'armariumlaw1.GaussMay'. -/
def gaussMayCard : Claim7 := { stood := { row := gaussMayRow, standIns := [], harness := (true, "638cf30a6fcb7491c4fb7496c5ddc2fd72149adf7fbc45ea4ea8c3770e95d5c0"), looks := true }, kinds := [], alts := [], laidByText := true, laidKinds := [.data, .data, .data, .sentinel, .sentinel], laidTests := true, laidLooks := .later }
def GaussMayCardSaid : Prop := Claim7.holds Tryd.pinned (.plain (OpenSpec.ofChange gaussMaySpec)) gaussMayCard

/-- THE TIED CARD OF 'armariumlaw1.GaussPowers'. -/
def gaussPowersCard : Claim7 := { stood := { row := gaussPowersRow, standIns := [], harness := (true, "638cf30a6fcb7491c4fb7496c5ddc2fd72149adf7fbc45ea4ea8c3770e95d5c0"), looks := true }, kinds := [], alts := [], laidByText := true, laidKinds := [.data, .data, .data, .sentinel, .sentinel], laidTests := true, laidLooks := .later }
def GaussPowersCardSaid : Prop := Claim7.holds Tryd.pinned (.plain (OpenSpec.ofChange gaussPowersSpec)) gaussPowersCard

/-- THE SECOND FORM's CARD OF 'armariumlaw1.GaussMod'. -/
def gaussModUptoCard : Claim7 := { stood := { row := gaussModUptoRow, standIns := [], harness := (true, "638cf30a6fcb7491c4fb7496c5ddc2fd72149adf7fbc45ea4ea8c3770e95d5c0"), looks := true }, kinds := [], alts := [], laidByText := true, laidKinds := [.data, .data, .data, .sentinel, .sentinel], laidTests := true, laidLooks := .later }
def GaussModUptoCardSaid : Prop := Claim7.holds Tryd.pinned (.plain (OpenSpec.upto gaussModSpec)) gaussModUptoCard

/-- THE SECOND FORM's CARD OF 'armariumlaw1.GaussLaws'. -/
def gaussLawsUptoCard : Claim7 := { stood := { row := gaussLawsUptoRow, standIns := [], harness := (true, "638cf30a6fcb7491c4fb7496c5ddc2fd72149adf7fbc45ea4ea8c3770e95d5c0"), looks := true }, kinds := [], alts := [], laidByText := true, laidKinds := [.data, .data, .data, .sentinel, .sentinel], laidTests := true, laidLooks := .later }
def GaussLawsUptoCardSaid : Prop := Claim7.holds Tryd.pinned (.plain (OpenSpec.upto gaussLawsSpec)) gaussLawsUptoCard

/-- THE SECOND FORM's CARD OF 'armariumlaw1.MarkAll'. -/
def markAllUptoCard : Claim7 := { stood := { row := markAllUptoRow, standIns := [], harness := (true, "638cf30a6fcb7491c4fb7496c5ddc2fd72149adf7fbc45ea4ea8c3770e95d5c0"), looks := true }, kinds := [], alts := [], laidByText := true, laidKinds := [.data, .data, .data, .sentinel, .sentinel], laidTests := true, laidLooks := .later }
def MarkAllUptoCardSaid : Prop := Claim7.holds Tryd.pinned (.plain (OpenSpec.upto markAllSpec)) markAllUptoCard

/-- THE SECOND FORM's CARD OF 'armariumlaw1.MarkTurn'. -/
def markTurnUptoCard : Claim7 := { stood := { row := markTurnUptoRow, standIns := [], harness := (true, "638cf30a6fcb7491c4fb7496c5ddc2fd72149adf7fbc45ea4ea8c3770e95d5c0"), looks := true }, kinds := [], alts := [], laidByText := true, laidKinds := [.data, .data, .data, .sentinel, .sentinel], laidTests := true, laidLooks := .later }
def MarkTurnUptoCardSaid : Prop := Claim7.holds Tryd.pinned (.plain (OpenSpec.upto markTurnSpec)) markTurnUptoCard

/-- THE SECOND FORM's CARD OF 'armariumlaw1.MarkText'. -/
def markTextUptoCard : Claim7 := { stood := { row := markTextUptoRow, standIns := [], harness := (true, "638cf30a6fcb7491c4fb7496c5ddc2fd72149adf7fbc45ea4ea8c3770e95d5c0"), looks := true }, kinds := [], alts := [], laidByText := true, laidKinds := [.data, .data, .data, .sentinel, .sentinel], laidTests := true, laidLooks := .later }
def MarkTextUptoCardSaid : Prop := Claim7.holds Tryd.pinned (.plain (OpenSpec.upto markTextSpec)) markTextUptoCard

/-- THE SECOND FORM's CARD OF 'armariumlaw1.PouchDeep'. -/
def pouchDeepUptoCard : Claim7 := { stood := { row := pouchDeepUptoRow, standIns := [], harness := (true, "638cf30a6fcb7491c4fb7496c5ddc2fd72149adf7fbc45ea4ea8c3770e95d5c0"), looks := true }, kinds := [], alts := [], laidByText := true, laidKinds := [.data, .data, .data, .sentinel, .sentinel], laidTests := true, laidLooks := .later }
def PouchDeepUptoCardSaid : Prop := Claim7.holds Tryd.pinned (.plain (OpenSpec.upto pouchDeepSpec)) pouchDeepUptoCard

/-- THE SECOND FORM's CARD OF 'armariumlaw1.GaussNegative'. -/
def gaussNegativeUptoCard : Claim7 := { stood := { row := gaussNegativeUptoRow, standIns := [], harness := (true, "638cf30a6fcb7491c4fb7496c5ddc2fd72149adf7fbc45ea4ea8c3770e95d5c0"), looks := true }, kinds := [], alts := [], laidByText := true, laidKinds := [.data, .data, .data, .sentinel, .sentinel], laidTests := true, laidLooks := .later }
def GaussNegativeUptoCardSaid : Prop := Claim7.holds Tryd.pinned (.plain (OpenSpec.upto gaussNegativeSpec)) gaussNegativeUptoCard

/-- THE SECOND FORM's CARD OF 'armariumlaw1.MarkParts'. -/
def markPartsUptoCard : Claim7 := { stood := { row := markPartsUptoRow, standIns := [], harness := (true, "638cf30a6fcb7491c4fb7496c5ddc2fd72149adf7fbc45ea4ea8c3770e95d5c0"), looks := true }, kinds := [], alts := [], laidByText := true, laidKinds := [.data, .data, .data, .sentinel, .sentinel], laidTests := true, laidLooks := .later }
def MarkPartsUptoCardSaid : Prop := Claim7.holds Tryd.pinned (.plain (OpenSpec.upto markPartsSpec)) markPartsUptoCard

/-- THE SECOND FORM's CARD OF 'armariumlaw1.MarkSwap'. -/
def markSwapUptoCard : Claim7 := { stood := { row := markSwapUptoRow, standIns := [], harness := (true, "638cf30a6fcb7491c4fb7496c5ddc2fd72149adf7fbc45ea4ea8c3770e95d5c0"), looks := true }, kinds := [], alts := [], laidByText := true, laidKinds := [.data, .data, .data, .sentinel, .sentinel], laidTests := true, laidLooks := .later }
def MarkSwapUptoCardSaid : Prop := Claim7.holds Tryd.pinned (.plain (OpenSpec.upto markSwapSpec)) markSwapUptoCard

/-- THE SECOND FORM's CARD OF 'armariumlaw1.PouchMany'. -/
def pouchManyUptoCard : Claim7 := { stood := { row := pouchManyUptoRow, standIns := [], harness := (true, "638cf30a6fcb7491c4fb7496c5ddc2fd72149adf7fbc45ea4ea8c3770e95d5c0"), looks := true }, kinds := [], alts := [], laidByText := true, laidKinds := [.data, .data, .data, .sentinel, .sentinel], laidTests := true, laidLooks := .later }
def PouchManyUptoCardSaid : Prop := Claim7.holds Tryd.pinned (.plain (OpenSpec.upto pouchManySpec)) pouchManyUptoCard

/-- THE SECOND FORM's CARD OF 'armariumlaw1.PouchAny'. -/
def pouchAnyUptoCard : Claim7 := { stood := { row := pouchAnyUptoRow, standIns := [], harness := (true, "638cf30a6fcb7491c4fb7496c5ddc2fd72149adf7fbc45ea4ea8c3770e95d5c0"), looks := true }, kinds := [], alts := [], laidByText := true, laidKinds := [.data, .data, .data, .sentinel, .sentinel], laidTests := true, laidLooks := .later }
def PouchAnyUptoCardSaid : Prop := Claim7.holds Tryd.pinned (.plain (OpenSpec.upto pouchAnySpec)) pouchAnyUptoCard

/-- THE SECOND FORM's CARD OF 'armariumlaw1.PouchNums'. -/
def pouchNumsUptoCard : Claim7 := { stood := { row := pouchNumsUptoRow, standIns := [], harness := (true, "638cf30a6fcb7491c4fb7496c5ddc2fd72149adf7fbc45ea4ea8c3770e95d5c0"), looks := true }, kinds := [], alts := [], laidByText := true, laidKinds := [.data, .data, .data, .sentinel, .sentinel], laidTests := true, laidLooks := .later }
def PouchNumsUptoCardSaid : Prop := Claim7.holds Tryd.pinned (.plain (OpenSpec.upto pouchNumsSpec)) pouchNumsUptoCard

/-- THE SECOND FORM's CARD OF 'armariumlaw1.PouchLengths'. -/
def pouchLengthsUptoCard : Claim7 := { stood := { row := pouchLengthsUptoRow, standIns := [], harness := (true, "638cf30a6fcb7491c4fb7496c5ddc2fd72149adf7fbc45ea4ea8c3770e95d5c0"), looks := true }, kinds := [], alts := [], laidByText := true, laidKinds := [.data, .data, .data, .sentinel, .sentinel], laidTests := true, laidLooks := .later }
def PouchLengthsUptoCardSaid : Prop := Claim7.holds Tryd.pinned (.plain (OpenSpec.upto pouchLengthsSpec)) pouchLengthsUptoCard

/-- THE SECOND FORM's CARD OF 'armariumlaw1.GaussAll'. -/
def gaussAllUptoCard : Claim7 := { stood := { row := gaussAllUptoRow, standIns := [], harness := (true, "638cf30a6fcb7491c4fb7496c5ddc2fd72149adf7fbc45ea4ea8c3770e95d5c0"), looks := true }, kinds := [], alts := [], laidByText := true, laidKinds := [.data, .data, .data, .sentinel, .sentinel], laidTests := true, laidLooks := .later }
def GaussAllUptoCardSaid : Prop := Claim7.holds Tryd.pinned (.plain (OpenSpec.upto gaussAllSpec)) gaussAllUptoCard

/-- THE SECOND FORM's CARD OF 'armariumlaw1.GaussMay'. -/
def gaussMayUptoCard : Claim7 := { stood := { row := gaussMayUptoRow, standIns := [], harness := (true, "638cf30a6fcb7491c4fb7496c5ddc2fd72149adf7fbc45ea4ea8c3770e95d5c0"), looks := true }, kinds := [], alts := [], laidByText := true, laidKinds := [.data, .data, .data, .sentinel, .sentinel], laidTests := true, laidLooks := .later }
def GaussMayUptoCardSaid : Prop := Claim7.holds Tryd.pinned (.plain (OpenSpec.upto gaussMaySpec)) gaussMayUptoCard

/-- THE SECOND FORM's CARD OF 'armariumlaw1.GaussPowers'. -/
def gaussPowersUptoCard : Claim7 := { stood := { row := gaussPowersUptoRow, standIns := [], harness := (true, "638cf30a6fcb7491c4fb7496c5ddc2fd72149adf7fbc45ea4ea8c3770e95d5c0"), looks := true }, kinds := [], alts := [], laidByText := true, laidKinds := [.data, .data, .data, .sentinel, .sentinel], laidTests := true, laidLooks := .later }
def GaussPowersUptoCardSaid : Prop := Claim7.holds Tryd.pinned (.plain (OpenSpec.upto gaussPowersSpec)) gaussPowersUptoCard
end Rows
end Go.Proofs.YtchfphhelafbbaaDoor
