/-
  DERIVED. GIVEN WITH THE SEED: THE CARDS: each row of YtimbkhphcnehmaaGreatDoorRows.lean that lists a variable, with what it lists TIED to the program's text (the seventh form; the later family's looks); each row that meets fmt, with fmt's text TOLD by the authors' own Lean function (tested against real Go, not proved from fmt's source: count such statements apart). THE CARD IS WHAT COUNTS. Prove the row's statement (the work); the ties are given (YtimbkhphcnehmaaGreatDoorTie.lean); close each card by the builder's one call (the guide's Derived/Test/ToyasCard.lean, 'card_holds'). Laid BY PROGRAM, IN A SANDBOX (cutbox-door.mjs). By AI agents, Wed Nov 11 2026. No macro, syntax, notation, axiom, sorry.
-/
import Derived.Test.YtimbkhphcnehmaaGreatDoorRows
import GoSem.ClaimSeven
namespace Go.Proofs.YtimbkhphcnehmaaGreatDoor
namespace Rows

/-- THE TIED CARD OF 'laws.FnExactDoneData'. -/
def fnExactDoneDataCard : Claim7 := { stood := { row := fnExactDoneDataRow, standIns := [], harness := (true, "a95ed8574cd7882b99d509f8b52a91ed65c8b47d8526801365d9bf51af9d0464"), looks := true }, kinds := [], alts := [], laidByText := true, laidKinds := [.data, .data, .data, .sentinel, .sentinel], laidTests := true, laidLooks := .later }
def FnExactDoneDataCardSaid : Prop := Claim7.holds Tryz.pinned (.plain (OpenSpec.ofChange fnExactDoneDataSpec)) fnExactDoneDataCard

/-- THE TIED CARD OF 'laws.FnExactTakeData'. -/
def fnExactTakeDataCard : Claim7 := { stood := { row := fnExactTakeDataRow, standIns := [], harness := (true, "a95ed8574cd7882b99d509f8b52a91ed65c8b47d8526801365d9bf51af9d0464"), looks := true }, kinds := [], alts := [], laidByText := true, laidKinds := [.data, .data, .data, .sentinel, .sentinel], laidTests := true, laidLooks := .later }
def FnExactTakeDataCardSaid : Prop := Claim7.holds Tryz.pinned (.plain (OpenSpec.ofChange fnExactTakeDataSpec)) fnExactTakeDataCard

/-- THE TIED CARD OF 'laws.FnDone'. -/
def fnDoneCard : Claim7 := { stood := { row := fnDoneRow, standIns := [], harness := (true, "a95ed8574cd7882b99d509f8b52a91ed65c8b47d8526801365d9bf51af9d0464"), looks := true }, kinds := [], alts := [], laidByText := true, laidKinds := [.data, .data, .data, .sentinel, .sentinel], laidTests := true, laidLooks := .later }
def FnDoneCardSaid : Prop := Claim7.holds Tryz.pinned (.plain (OpenSpec.ofChange fnDoneSpec)) fnDoneCard

/-- THE SECOND FORM's CARD OF 'laws.FnExactDoneData'. -/
def fnExactDoneDataUptoCard : Claim7 := { stood := { row := fnExactDoneDataUptoRow, standIns := [], harness := (true, "a95ed8574cd7882b99d509f8b52a91ed65c8b47d8526801365d9bf51af9d0464"), looks := true }, kinds := [], alts := [], laidByText := true, laidKinds := [.data, .data, .data, .sentinel, .sentinel], laidTests := true, laidLooks := .later }
def FnExactDoneDataUptoCardSaid : Prop := Claim7.holds Tryz.pinned (.plain (OpenSpec.upto fnExactDoneDataSpec)) fnExactDoneDataUptoCard

/-- THE SECOND FORM's CARD OF 'laws.FnExactTakeData'. -/
def fnExactTakeDataUptoCard : Claim7 := { stood := { row := fnExactTakeDataUptoRow, standIns := [], harness := (true, "a95ed8574cd7882b99d509f8b52a91ed65c8b47d8526801365d9bf51af9d0464"), looks := true }, kinds := [], alts := [], laidByText := true, laidKinds := [.data, .data, .data, .sentinel, .sentinel], laidTests := true, laidLooks := .later }
def FnExactTakeDataUptoCardSaid : Prop := Claim7.holds Tryz.pinned (.plain (OpenSpec.upto fnExactTakeDataSpec)) fnExactTakeDataUptoCard

/-- THE SECOND FORM's CARD OF 'laws.FnDone'. -/
def fnDoneUptoCard : Claim7 := { stood := { row := fnDoneUptoRow, standIns := [], harness := (true, "a95ed8574cd7882b99d509f8b52a91ed65c8b47d8526801365d9bf51af9d0464"), looks := true }, kinds := [], alts := [], laidByText := true, laidKinds := [.data, .data, .data, .sentinel, .sentinel], laidTests := true, laidLooks := .later }
def FnDoneUptoCardSaid : Prop := Claim7.holds Tryz.pinned (.plain (OpenSpec.upto fnDoneSpec)) fnDoneUptoCard
end Rows
end Go.Proofs.YtimbkhphcnehmaaGreatDoor
