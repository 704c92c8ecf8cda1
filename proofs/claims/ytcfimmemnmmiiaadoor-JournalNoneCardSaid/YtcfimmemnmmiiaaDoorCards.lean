/-
  DERIVED. GIVEN WITH THE SEED: THE CARDS: each row of YtcfimmemnmmiiaaDoorRows.lean that lists a variable, with what it lists TIED to the program's text (the seventh form; the later family's looks); each row that meets fmt, with fmt's text TOLD by the authors' own Lean function (tested against real Go, not proved from fmt's source: count such statements apart). THE CARD IS WHAT COUNTS. Prove the row's statement (the work); the ties are given (YtcfimmemnmmiiaaDoorTie.lean); close each card by the builder's one call (the guide's Derived/Test/ToyasCard.lean, 'card_holds'). Laid BY PROGRAM, IN A SANDBOX (cutbox-door.mjs). By AI agents, Wed Nov 11 2026. No macro, syntax, notation, axiom, sorry.
-/
import Derived.Test.YtcfimmemnmmiiaaDoorRows
import GoSem.ClaimSeven
namespace Go.Proofs.YtcfimmemnmmiiaaDoor
namespace Rows

/-- THE TIED CARD OF 'armariumlaw3.RollPress'. -/
def rollPressCard : Claim7 := { stood := { row := rollPressRow, standIns := [], harness := (true, "e686e2e2a5d9d9308e1b5ea2135beef1ca56e7f8d72bf0ca07756f8435f4cd5d"), looks := true }, kinds := [], alts := [], laidByText := true, laidKinds := [.data, .data, .data, .sentinel, .sentinel], laidTests := true, laidLooks := .later }
def RollPressCardSaid : Prop := Claim7.holds Tryd.pinned (.plain (OpenSpec.ofChange rollPressSpec)) rollPressCard

/-- THE TIED CARD OF 'armariumlaw3.RollRoom'. -/
def rollRoomCard : Claim7 := { stood := { row := rollRoomRow, standIns := [], harness := (true, "e686e2e2a5d9d9308e1b5ea2135beef1ca56e7f8d72bf0ca07756f8435f4cd5d"), looks := true }, kinds := [], alts := [], laidByText := true, laidKinds := [.data, .data, .data, .sentinel, .sentinel], laidTests := true, laidLooks := .later }
def RollRoomCardSaid : Prop := Claim7.holds Tryd.pinned (.plain (OpenSpec.ofChange rollRoomSpec)) rollRoomCard

/-- THE TIED CARD OF 'armariumlaw3.RollEmpty'. -/
def rollEmptyCard : Claim7 := { stood := { row := rollEmptyRow, standIns := [], harness := (true, "e686e2e2a5d9d9308e1b5ea2135beef1ca56e7f8d72bf0ca07756f8435f4cd5d"), looks := true }, kinds := [], alts := [], laidByText := true, laidKinds := [.data, .data, .data, .sentinel, .sentinel], laidTests := true, laidLooks := .later }
def RollEmptyCardSaid : Prop := Claim7.holds Tryd.pinned (.plain (OpenSpec.ofChange rollEmptySpec)) rollEmptyCard

/-- THE TIED CARD OF 'armariumlaw4.JournalNone'. -/
def journalNoneCard : Claim7 := { stood := { row := journalNoneRow, standIns := [], harness := (true, "e686e2e2a5d9d9308e1b5ea2135beef1ca56e7f8d72bf0ca07756f8435f4cd5d"), looks := true }, kinds := [], alts := [], laidByText := true, laidKinds := [.data, .data, .data, .sentinel, .sentinel], laidTests := true, laidLooks := .later }
def JournalNoneCardSaid : Prop := Claim7.holds Tryd.pinned (.plain (OpenSpec.ofChange journalNoneSpec)) journalNoneCard

/-- THE SECOND FORM's CARD OF 'armariumlaw3.RollPress'. -/
def rollPressUptoCard : Claim7 := { stood := { row := rollPressUptoRow, standIns := [], harness := (true, "e686e2e2a5d9d9308e1b5ea2135beef1ca56e7f8d72bf0ca07756f8435f4cd5d"), looks := true }, kinds := [], alts := [], laidByText := true, laidKinds := [.data, .data, .data, .sentinel, .sentinel], laidTests := true, laidLooks := .later }
def RollPressUptoCardSaid : Prop := Claim7.holds Tryd.pinned (.plain (OpenSpec.upto rollPressSpec)) rollPressUptoCard

/-- THE SECOND FORM's CARD OF 'armariumlaw3.RollRoom'. -/
def rollRoomUptoCard : Claim7 := { stood := { row := rollRoomUptoRow, standIns := [], harness := (true, "e686e2e2a5d9d9308e1b5ea2135beef1ca56e7f8d72bf0ca07756f8435f4cd5d"), looks := true }, kinds := [], alts := [], laidByText := true, laidKinds := [.data, .data, .data, .sentinel, .sentinel], laidTests := true, laidLooks := .later }
def RollRoomUptoCardSaid : Prop := Claim7.holds Tryd.pinned (.plain (OpenSpec.upto rollRoomSpec)) rollRoomUptoCard

/-- THE SECOND FORM's CARD OF 'armariumlaw3.RollEmpty'. -/
def rollEmptyUptoCard : Claim7 := { stood := { row := rollEmptyUptoRow, standIns := [], harness := (true, "e686e2e2a5d9d9308e1b5ea2135beef1ca56e7f8d72bf0ca07756f8435f4cd5d"), looks := true }, kinds := [], alts := [], laidByText := true, laidKinds := [.data, .data, .data, .sentinel, .sentinel], laidTests := true, laidLooks := .later }
def RollEmptyUptoCardSaid : Prop := Claim7.holds Tryd.pinned (.plain (OpenSpec.upto rollEmptySpec)) rollEmptyUptoCard

/-- THE SECOND FORM's CARD OF 'armariumlaw4.JournalNone'. -/
def journalNoneUptoCard : Claim7 := { stood := { row := journalNoneUptoRow, standIns := [], harness := (true, "e686e2e2a5d9d9308e1b5ea2135beef1ca56e7f8d72bf0ca07756f8435f4cd5d"), looks := true }, kinds := [], alts := [], laidByText := true, laidKinds := [.data, .data, .data, .sentinel, .sentinel], laidTests := true, laidLooks := .later }
def JournalNoneUptoCardSaid : Prop := Claim7.holds Tryd.pinned (.plain (OpenSpec.upto journalNoneSpec)) journalNoneUptoCard
end Rows
end Go.Proofs.YtcfimmemnmmiiaaDoor
