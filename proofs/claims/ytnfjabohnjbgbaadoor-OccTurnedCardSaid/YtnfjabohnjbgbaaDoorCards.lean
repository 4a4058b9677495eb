/-
  DERIVED. GIVEN WITH THE SEED: THE CARDS: each row of YtnfjabohnjbgbaaDoorRows.lean that lists a variable, with what it lists TIED to the program's text (the seventh form; the later family's looks); each row that meets fmt, with fmt's text TOLD by the authors' own Lean function (tested against real Go, not proved from fmt's source: count such statements apart). THE CARD IS WHAT COUNTS. Prove the row's statement (the work); the ties are given (YtnfjabohnjbgbaaDoorTie.lean); close each card by the builder's one call (the guide's Derived/Test/ToyasCard.lean, 'card_holds'). Laid BY PROGRAM, IN A SANDBOX (cutbox-door.mjs). By AI agents, Wed Nov 11 2026. No macro, syntax, notation, axiom, sorry.
-/
import Derived.Test.YtnfjabohnjbgbaaDoorRows
import GoSem.ClaimSeven
namespace Go.Proofs.YtnfjabohnjbgbaaDoor
namespace Rows

/-- THE TIED CARD OF 'shelfmarklaw02.OccTells'. -/
def occTellsCard : Claim7 := { stood := { row := occTellsRow, standIns := [], harness := (true, "ea3fd5fedcc544b929990accbdccd9aa27e7a585497b4f84871be4f7475800c2"), looks := false }, kinds := [], alts := [], laidByText := true, laidKinds := [.data], laidTests := true, laidLooks := .later }
def OccTellsCardSaid : Prop := Claim7.holds Tryd.pinned (.plain (OpenSpec.ofChange occTellsSpec)) occTellsCard

/-- THE TIED CARD OF 'shelfmarklaw02.OccTurns'. -/
def occTurnsCard : Claim7 := { stood := { row := occTurnsRow, standIns := [], harness := (true, "ea3fd5fedcc544b929990accbdccd9aa27e7a585497b4f84871be4f7475800c2"), looks := false }, kinds := [], alts := [], laidByText := true, laidKinds := [.data], laidTests := true, laidLooks := .later }
def OccTurnsCardSaid : Prop := Claim7.holds Tryd.pinned (.plain (OpenSpec.ofChange occTurnsSpec)) occTurnsCard

/-- THE TIED CARD OF 'shelfmarklaw02.OccParts'. -/
def occPartsCard : Claim7 := { stood := { row := occPartsRow, standIns := [], harness := (true, "ea3fd5fedcc544b929990accbdccd9aa27e7a585497b4f84871be4f7475800c2"), looks := false }, kinds := [], alts := [], laidByText := true, laidKinds := [.data], laidTests := true, laidLooks := .later }
def OccPartsCardSaid : Prop := Claim7.holds Tryd.pinned (.plain (OpenSpec.ofChange occPartsSpec)) occPartsCard

/-- THE TIED CARD OF 'shelfmarklaw02.OccThere'. -/
def occThereCard : Claim7 := { stood := { row := occThereRow, standIns := [], harness := (true, "ea3fd5fedcc544b929990accbdccd9aa27e7a585497b4f84871be4f7475800c2"), looks := false }, kinds := [], alts := [], laidByText := true, laidKinds := [.data], laidTests := true, laidLooks := .later }
def OccThereCardSaid : Prop := Claim7.holds Tryd.pinned (.plain (OpenSpec.ofChange occThereSpec)) occThereCard

/-- THE TIED CARD OF 'shelfmarklaw02.OccNames'. -/
def occNamesCard : Claim7 := { stood := { row := occNamesRow, standIns := [], harness := (true, "ea3fd5fedcc544b929990accbdccd9aa27e7a585497b4f84871be4f7475800c2"), looks := false }, kinds := [], alts := [], laidByText := true, laidKinds := [.data], laidTests := true, laidLooks := .later }
def OccNamesCardSaid : Prop := Claim7.holds Tryd.pinned (.plain (OpenSpec.ofChange occNamesSpec)) occNamesCard

/-- THE TIED CARD OF 'shelfmarklaw02.OccTurned'. -/
def occTurnedCard : Claim7 := { stood := { row := occTurnedRow, standIns := [], harness := (true, "ea3fd5fedcc544b929990accbdccd9aa27e7a585497b4f84871be4f7475800c2"), looks := false }, kinds := [], alts := [], laidByText := true, laidKinds := [.data], laidTests := true, laidLooks := .later }
def OccTurnedCardSaid : Prop := Claim7.holds Tryd.pinned (.plain (OpenSpec.ofChange occTurnedSpec)) occTurnedCard

/-- THE SECOND FORM's CARD OF 'shelfmarklaw02.OccTells'. -/
def occTellsUptoCard : Claim7 := { stood := { row := occTellsUptoRow, standIns := [], harness := (true, "ea3fd5fedcc544b929990accbdccd9aa27e7a585497b4f84871be4f7475800c2"), looks := false }, kinds := [], alts := [], laidByText := true, laidKinds := [.data], laidTests := true, laidLooks := .later }
def OccTellsUptoCardSaid : Prop := Claim7.holds Tryd.pinned (.plain (OpenSpec.upto occTellsSpec)) occTellsUptoCard

/-- THE SECOND FORM's CARD OF 'shelfmarklaw02.OccTurns'. -/
def occTurnsUptoCard : Claim7 := { stood := { row := occTurnsUptoRow, standIns := [], harness := (true, "ea3fd5fedcc544b929990accbdccd9aa27e7a585497b4f84871be4f7475800c2"), looks := false }, kinds := [], alts := [], laidByText := true, laidKinds := [.data], laidTests := true, laidLooks := .later }
def OccTurnsUptoCardSaid : Prop := Claim7.holds Tryd.pinned (.plain (OpenSpec.upto occTurnsSpec)) occTurnsUptoCard

/-- THE SECOND FORM's CARD OF 'shelfmarklaw02.OccParts'. -/
def occPartsUptoCard : Claim7 := { stood := { row := occPartsUptoRow, standIns := [], harness := (true, "ea3fd5fedcc544b929990accbdccd9aa27e7a585497b4f84871be4f7475800c2"), looks := false }, kinds := [], alts := [], laidByText := true, laidKinds := [.data], laidTests := true, laidLooks := .later }
def OccPartsUptoCardSaid : Prop := Claim7.holds Tryd.pinned (.plain (OpenSpec.upto occPartsSpec)) occPartsUptoCard

/-- THE SECOND FORM's CARD OF 'shelfmarklaw02.OccThere'. -/
def occThereUptoCard : Claim7 := { stood := { row := occThereUptoRow, standIns := [], harness := (true, "ea3fd5fedcc544b929990accbdccd9aa27e7a585497b4f84871be4f7475800c2"), looks := false }, kinds := [], alts := [], laidByText := true, laidKinds := [.data], laidTests := true, laidLooks := .later }
def OccThereUptoCardSaid : Prop := Claim7.holds Tryd.pinned (.plain (OpenSpec.upto occThereSpec)) occThereUptoCard

/-- THE SECOND FORM's CARD OF 'shelfmarklaw02.OccNames'. -/
def occNamesUptoCard : Claim7 := { stood := { row := occNamesUptoRow, standIns := [], harness := (true, "ea3fd5fedcc544b929990accbdccd9aa27e7a585497b4f84871be4f7475800c2"), looks := false }, kinds := [], alts := [], laidByText := true, laidKinds := [.data], laidTests := true, laidLooks := .later }
def OccNamesUptoCardSaid : Prop := Claim7.holds Tryd.pinned (.plain (OpenSpec.upto occNamesSpec)) occNamesUptoCard

/-- THE SECOND FORM's CARD OF 'shelfmarklaw02.OccTurned'. -/
def occTurnedUptoCard : Claim7 := { stood := { row := occTurnedUptoRow, standIns := [], harness := (true, "ea3fd5fedcc544b929990accbdccd9aa27e7a585497b4f84871be4f7475800c2"), looks := false }, kinds := [], alts := [], laidByText := true, laidKinds := [.data], laidTests := true, laidLooks := .later }
def OccTurnedUptoCardSaid : Prop := Claim7.holds Tryd.pinned (.plain (OpenSpec.upto occTurnedSpec)) occTurnedUptoCard
end Rows
end Go.Proofs.YtnfjabohnjbgbaaDoor
