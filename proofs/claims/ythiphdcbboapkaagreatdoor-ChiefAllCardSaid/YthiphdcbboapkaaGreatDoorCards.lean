/-
  DERIVED. GIVEN WITH THE SEED: THE CARDS: each row of YthiphdcbboapkaaGreatDoorRows.lean that lists a variable, with what it lists TIED to the program's text (the seventh form; the later family's looks); each row that meets fmt, with fmt's text TOLD by the authors' own Lean function (tested against real Go, not proved from fmt's source: count such statements apart). THE CARD IS WHAT COUNTS. Prove the row's statement (the work); the ties are given (YthiphdcbboapkaaGreatDoorTie.lean); close each card by the builder's one call (the guide's Derived/Test/ToyasCard.lean, 'card_holds'). Laid BY PROGRAM, IN A SANDBOX (cutbox-door.mjs). By AI agents, Wed Nov 11 2026. No macro, syntax, notation, axiom, sorry.
-/
import Derived.Test.YthiphdcbboapkaaGreatDoorRows
import GoSem.ClaimSeven
namespace Go.Proofs.YthiphdcbboapkaaGreatDoor
namespace Rows

/-- THE TIED CARD OF 'armariumlaw10.ChiefAll'. -/
def chiefAllCard : Claim7 := { stood := { row := chiefAllRow, standIns := [], harness := (true, "9d76930b77df69eb063b1a9dc961e47640fdd852135c534583767b1e46053bcb"), looks := true }, kinds := [], alts := [], laidByText := true, laidKinds := [.data, .data, .data, .sentinel, .sentinel], laidTests := true, laidLooks := .later }
def ChiefAllCardSaid : Prop := Claim7.holds Tryz.pinned (.plain (OpenSpec.ofChange chiefAllSpec)) chiefAllCard

/-- THE TIED CARD OF 'armariumlaw10.ChiefLeases'. -/
def chiefLeasesCard : Claim7 := { stood := { row := chiefLeasesRow, standIns := [], harness := (true, "9d76930b77df69eb063b1a9dc961e47640fdd852135c534583767b1e46053bcb"), looks := true }, kinds := [], alts := [], laidByText := true, laidKinds := [.data, .data, .data, .sentinel, .sentinel], laidTests := true, laidLooks := .later }
def ChiefLeasesCardSaid : Prop := Claim7.holds Tryz.pinned (.plain (OpenSpec.ofChange chiefLeasesSpec)) chiefLeasesCard

/-- THE TIED CARD OF 'armariumlaw10.ChiefSilent'. -/
def chiefSilentCard : Claim7 := { stood := { row := chiefSilentRow, standIns := [], harness := (true, "9d76930b77df69eb063b1a9dc961e47640fdd852135c534583767b1e46053bcb"), looks := true }, kinds := [], alts := [], laidByText := true, laidKinds := [.data, .data, .data, .sentinel, .sentinel], laidTests := true, laidLooks := .later }
def ChiefSilentCardSaid : Prop := Claim7.holds Tryz.pinned (.plain (OpenSpec.ofChange chiefSilentSpec)) chiefSilentCard

/-- THE TIED CARD OF 'armariumlaw10.ChiefLast'. -/
def chiefLastCard : Claim7 := { stood := { row := chiefLastRow, standIns := [], harness := (true, "9d76930b77df69eb063b1a9dc961e47640fdd852135c534583767b1e46053bcb"), looks := true }, kinds := [], alts := [], laidByText := true, laidKinds := [.data, .data, .data, .sentinel, .sentinel], laidTests := true, laidLooks := .later }
def ChiefLastCardSaid : Prop := Claim7.holds Tryz.pinned (.plain (OpenSpec.ofChange chiefLastSpec)) chiefLastCard

/-- THE TIED CARD OF 'armariumlaw10.ChiefLasts'. -/
def chiefLastsCard : Claim7 := { stood := { row := chiefLastsRow, standIns := [], harness := (true, "9d76930b77df69eb063b1a9dc961e47640fdd852135c534583767b1e46053bcb"), looks := true }, kinds := [], alts := [], laidByText := true, laidKinds := [.data, .data, .data, .sentinel, .sentinel], laidTests := true, laidLooks := .later }
def ChiefLastsCardSaid : Prop := Claim7.holds Tryz.pinned (.plain (OpenSpec.ofChange chiefLastsSpec)) chiefLastsCard

/-- THE TIED CARD OF 'armariumlaw10.ChiefNone'. -/
def chiefNoneCard : Claim7 := { stood := { row := chiefNoneRow, standIns := [], harness := (true, "9d76930b77df69eb063b1a9dc961e47640fdd852135c534583767b1e46053bcb"), looks := true }, kinds := [], alts := [], laidByText := true, laidKinds := [.data, .data, .data, .sentinel, .sentinel], laidTests := true, laidLooks := .later }
def ChiefNoneCardSaid : Prop := Claim7.holds Tryz.pinned (.plain (OpenSpec.ofChange chiefNoneSpec)) chiefNoneCard

/-- THE TIED CARD OF 'armariumlaw10.ChiefJoins'. -/
def chiefJoinsCard : Claim7 := { stood := { row := chiefJoinsRow, standIns := [], harness := (true, "9d76930b77df69eb063b1a9dc961e47640fdd852135c534583767b1e46053bcb"), looks := true }, kinds := [], alts := [], laidByText := true, laidKinds := [.data, .data, .data, .sentinel, .sentinel], laidTests := true, laidLooks := .later }
def ChiefJoinsCardSaid : Prop := Claim7.holds Tryz.pinned (.plain (OpenSpec.ofChange chiefJoinsSpec)) chiefJoinsCard

/-- THE TIED CARD OF 'armariumlaw10.ChiefOwn'. -/
def chiefOwnCard : Claim7 := { stood := { row := chiefOwnRow, standIns := [], harness := (true, "9d76930b77df69eb063b1a9dc961e47640fdd852135c534583767b1e46053bcb"), looks := true }, kinds := [], alts := [], laidByText := true, laidKinds := [.data, .data, .data, .sentinel, .sentinel], laidTests := true, laidLooks := .later }
def ChiefOwnCardSaid : Prop := Claim7.holds Tryz.pinned (.plain (OpenSpec.ofChange chiefOwnSpec)) chiefOwnCard

/-- THE TIED CARD OF 'armariumlaw10.ChiefWords'. -/
def chiefWordsCard : Claim7 := { stood := { row := chiefWordsRow, standIns := [], harness := (true, "9d76930b77df69eb063b1a9dc961e47640fdd852135c534583767b1e46053bcb"), looks := true }, kinds := [], alts := [], laidByText := true, laidKinds := [.data, .data, .data, .sentinel, .sentinel], laidTests := true, laidLooks := .later }
def ChiefWordsCardSaid : Prop := Claim7.holds Tryz.pinned (.plain (OpenSpec.ofChange chiefWordsSpec)) chiefWordsCard

/-- THE SECOND FORM's CARD OF 'armariumlaw10.ChiefAll'. -/
def chiefAllUptoCard : Claim7 := { stood := { row := chiefAllUptoRow, standIns := [], harness := (true, "9d76930b77df69eb063b1a9dc961e47640fdd852135c534583767b1e46053bcb"), looks := true }, kinds := [], alts := [], laidByText := true, laidKinds := [.data, .data, .data, .sentinel, .sentinel], laidTests := true, laidLooks := .later }
def ChiefAllUptoCardSaid : Prop := Claim7.holds Tryz.pinned (.plain (OpenSpec.upto chiefAllSpec)) chiefAllUptoCard

/-- THE SECOND FORM's CARD OF 'armariumlaw10.ChiefLeases'. -/
def chiefLeasesUptoCard : Claim7 := { stood := { row := chiefLeasesUptoRow, standIns := [], harness := (true, "9d76930b77df69eb063b1a9dc961e47640fdd852135c534583767b1e46053bcb"), looks := true }, kinds := [], alts := [], laidByText := true, laidKinds := [.data, .data, .data, .sentinel, .sentinel], laidTests := true, laidLooks := .later }
def ChiefLeasesUptoCardSaid : Prop := Claim7.holds Tryz.pinned (.plain (OpenSpec.upto chiefLeasesSpec)) chiefLeasesUptoCard

/-- THE SECOND FORM's CARD OF 'armariumlaw10.ChiefSilent'. -/
def chiefSilentUptoCard : Claim7 := { stood := { row := chiefSilentUptoRow, standIns := [], harness := (true, "9d76930b77df69eb063b1a9dc961e47640fdd852135c534583767b1e46053bcb"), looks := true }, kinds := [], alts := [], laidByText := true, laidKinds := [.data, .data, .data, .sentinel, .sentinel], laidTests := true, laidLooks := .later }
def ChiefSilentUptoCardSaid : Prop := Claim7.holds Tryz.pinned (.plain (OpenSpec.upto chiefSilentSpec)) chiefSilentUptoCard

/-- THE SECOND FORM's CARD OF 'armariumlaw10.ChiefLast'. -/
def chiefLastUptoCard : Claim7 := { stood := { row := chiefLastUptoRow, standIns := [], harness := (true, "9d76930b77df69eb063b1a9dc961e47640fdd852135c534583767b1e46053bcb"), looks := true }, kinds := [], alts := [], laidByText := true, laidKinds := [.data, .data, .data, .sentinel, .sentinel], laidTests := true, laidLooks := .later }
def ChiefLastUptoCardSaid : Prop := Claim7.holds Tryz.pinned (.plain (OpenSpec.upto chiefLastSpec)) chiefLastUptoCard

/-- THE SECOND FORM's CARD OF 'armariumlaw10.ChiefLasts'. -/
def chiefLastsUptoCard : Claim7 := { stood := { row := chiefLastsUptoRow, standIns := [], harness := (true, "9d76930b77df69eb063b1a9dc961e47640fdd852135c534583767b1e46053bcb"), looks := true }, kinds := [], alts := [], laidByText := true, laidKinds := [.data, .data, .data, .sentinel, .sentinel], laidTests := true, laidLooks := .later }
def ChiefLastsUptoCardSaid : Prop := Claim7.holds Tryz.pinned (.plain (OpenSpec.upto chiefLastsSpec)) chiefLastsUptoCard

/-- THE SECOND FORM's CARD OF 'armariumlaw10.ChiefNone'. -/
def chiefNoneUptoCard : Claim7 := { stood := { row := chiefNoneUptoRow, standIns := [], harness := (true, "9d76930b77df69eb063b1a9dc961e47640fdd852135c534583767b1e46053bcb"), looks := true }, kinds := [], alts := [], laidByText := true, laidKinds := [.data, .data, .data, .sentinel, .sentinel], laidTests := true, laidLooks := .later }
def ChiefNoneUptoCardSaid : Prop := Claim7.holds Tryz.pinned (.plain (OpenSpec.upto chiefNoneSpec)) chiefNoneUptoCard

/-- THE SECOND FORM's CARD OF 'armariumlaw10.ChiefJoins'. -/
def chiefJoinsUptoCard : Claim7 := { stood := { row := chiefJoinsUptoRow, standIns := [], harness := (true, "9d76930b77df69eb063b1a9dc961e47640fdd852135c534583767b1e46053bcb"), looks := true }, kinds := [], alts := [], laidByText := true, laidKinds := [.data, .data, .data, .sentinel, .sentinel], laidTests := true, laidLooks := .later }
def ChiefJoinsUptoCardSaid : Prop := Claim7.holds Tryz.pinned (.plain (OpenSpec.upto chiefJoinsSpec)) chiefJoinsUptoCard

/-- THE SECOND FORM's CARD OF 'armariumlaw10.ChiefOwn'. -/
def chiefOwnUptoCard : Claim7 := { stood := { row := chiefOwnUptoRow, standIns := [], harness := (true, "9d76930b77df69eb063b1a9dc961e47640fdd852135c534583767b1e46053bcb"), looks := true }, kinds := [], alts := [], laidByText := true, laidKinds := [.data, .data, .data, .sentinel, .sentinel], laidTests := true, laidLooks := .later }
def ChiefOwnUptoCardSaid : Prop := Claim7.holds Tryz.pinned (.plain (OpenSpec.upto chiefOwnSpec)) chiefOwnUptoCard

/-- THE SECOND FORM's CARD OF 'armariumlaw10.ChiefWords'. -/
def chiefWordsUptoCard : Claim7 := { stood := { row := chiefWordsUptoRow, standIns := [], harness := (true, "9d76930b77df69eb063b1a9dc961e47640fdd852135c534583767b1e46053bcb"), looks := true }, kinds := [], alts := [], laidByText := true, laidKinds := [.data, .data, .data, .sentinel, .sentinel], laidTests := true, laidLooks := .later }
def ChiefWordsUptoCardSaid : Prop := Claim7.holds Tryz.pinned (.plain (OpenSpec.upto chiefWordsSpec)) chiefWordsUptoCard
end Rows
end Go.Proofs.YthiphdcbboapkaaGreatDoor
