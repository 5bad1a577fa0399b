/-
  DERIVED. GIVEN WITH THE SEED: THE CARDS: each row of YtahngpmkkhechaaGreatDoorRows.lean that lists a variable, with what it lists TIED to the program's text (the seventh form; the later family's looks); each row that meets fmt, with fmt's text TOLD by the authors' own Lean function (tested against real Go, not proved from fmt's source: count such statements apart). THE CARD IS WHAT COUNTS. Prove the row's statement (the work); the ties are given (YtahngpmkkhechaaGreatDoorTie.lean); close each card by the builder's one call (the guide's Derived/Test/ToyasCard.lean, 'card_holds'). Laid BY PROGRAM, IN A SANDBOX (cutbox-door.mjs). By AI agents, Wed Nov 11 2026. No macro, syntax, notation, axiom, sorry.
-/
import Derived.Test.YtahngpmkkhechaaGreatDoorRows
import GoSem.ClaimSeven
namespace Go.Proofs.YtahngpmkkhechaaGreatDoor
namespace Rows

/-- THE TIED CARD OF 'laws.FnExactNewWorld'. -/
def fnExactNewWorldCard : Claim7 := { stood := { row := fnExactNewWorldRow, standIns := [], harness := (true, "6a7713dced3dba5903c0323c1ae9c5de6c48e9e03e9727221e4eeb6228655df5"), looks := true }, kinds := [], alts := [], laidByText := true, laidKinds := [.data, .data, .data, .sentinel, .sentinel], laidTests := true, laidLooks := .later }
def FnExactNewWorldCardSaid : Prop := Claim7.holds Tryz.pinned (.plain (OpenSpec.ofChange fnExactNewWorldSpec)) fnExactNewWorldCard

/-- THE TIED CARD OF 'laws.FnBlocks'. -/
def fnBlocksCard : Claim7 := { stood := { row := fnBlocksRow, standIns := [], harness := (true, "6a7713dced3dba5903c0323c1ae9c5de6c48e9e03e9727221e4eeb6228655df5"), looks := true }, kinds := [], alts := [], laidByText := true, laidKinds := [.data, .data, .data, .sentinel, .sentinel], laidTests := true, laidLooks := .later }
def FnBlocksCardSaid : Prop := Claim7.holds Tryz.pinned (.plain (OpenSpec.ofChange fnBlocksSpec)) fnBlocksCard

/-- THE SECOND FORM's CARD OF 'laws.FnExactNewWorld'. -/
def fnExactNewWorldUptoCard : Claim7 := { stood := { row := fnExactNewWorldUptoRow, standIns := [], harness := (true, "6a7713dced3dba5903c0323c1ae9c5de6c48e9e03e9727221e4eeb6228655df5"), looks := true }, kinds := [], alts := [], laidByText := true, laidKinds := [.data, .data, .data, .sentinel, .sentinel], laidTests := true, laidLooks := .later }
def FnExactNewWorldUptoCardSaid : Prop := Claim7.holds Tryz.pinned (.plain (OpenSpec.upto fnExactNewWorldSpec)) fnExactNewWorldUptoCard

/-- THE SECOND FORM's CARD OF 'laws.FnBlocks'. -/
def fnBlocksUptoCard : Claim7 := { stood := { row := fnBlocksUptoRow, standIns := [], harness := (true, "6a7713dced3dba5903c0323c1ae9c5de6c48e9e03e9727221e4eeb6228655df5"), looks := true }, kinds := [], alts := [], laidByText := true, laidKinds := [.data, .data, .data, .sentinel, .sentinel], laidTests := true, laidLooks := .later }
def FnBlocksUptoCardSaid : Prop := Claim7.holds Tryz.pinned (.plain (OpenSpec.upto fnBlocksSpec)) fnBlocksUptoCard
end Rows
end Go.Proofs.YtahngpmkkhechaaGreatDoor
