/-
  DERIVED. GIVEN WITH THE SEED: THE CARDS: each row of YtplomnjdkpedkaaGreatDoorRows.lean that lists a variable, with what it lists TIED to the program's text (the seventh form; the later family's looks); each row that meets fmt, with fmt's text TOLD by the authors' own Lean function (tested against real Go, not proved from fmt's source: count such statements apart). THE CARD IS WHAT COUNTS. Prove the row's statement (the work); the ties are given (YtplomnjdkpedkaaGreatDoorTie.lean); close each card by the builder's one call (the guide's Derived/Test/ToyasCard.lean, 'card_holds'). Laid BY PROGRAM, IN A SANDBOX (cutbox-door.mjs). By AI agents, Wed Nov 11 2026. No macro, syntax, notation, axiom, sorry.
-/
import Derived.Test.YtplomnjdkpedkaaGreatDoorRows
import GoSem.ClaimSeven
namespace Go.Proofs.YtplomnjdkpedkaaGreatDoor
namespace Rows

/-- THE TIED CARD OF 'laws.FnTx'. -/
def fnTxCard : Claim7 := { stood := { row := fnTxRow, standIns := [], harness := (true, "66397a0e4f3802d6a5c554eeecf39d6e80c1b204d60b9c82477e005d33b2c78b"), looks := true }, kinds := [], alts := [], laidByText := true, laidKinds := [.data, .data, .data, .sentinel, .sentinel], laidTests := true, laidLooks := .later }
def FnTxCardSaid : Prop := Claim7.holds Tryz.pinned (.plain (OpenSpec.ofChange fnTxSpec)) fnTxCard

/-- THE SECOND FORM's CARD OF 'laws.FnTx'. -/
def fnTxUptoCard : Claim7 := { stood := { row := fnTxUptoRow, standIns := [], harness := (true, "66397a0e4f3802d6a5c554eeecf39d6e80c1b204d60b9c82477e005d33b2c78b"), looks := true }, kinds := [], alts := [], laidByText := true, laidKinds := [.data, .data, .data, .sentinel, .sentinel], laidTests := true, laidLooks := .later }
def FnTxUptoCardSaid : Prop := Claim7.holds Tryz.pinned (.plain (OpenSpec.upto fnTxSpec)) fnTxUptoCard
end Rows
end Go.Proofs.YtplomnjdkpedkaaGreatDoor
