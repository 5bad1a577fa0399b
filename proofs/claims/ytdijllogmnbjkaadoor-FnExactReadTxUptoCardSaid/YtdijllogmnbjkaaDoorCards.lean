/-
  DERIVED. GIVEN WITH THE SEED: THE CARDS: each row of YtdijllogmnbjkaaDoorRows.lean that lists a variable, with what it lists TIED to the program's text (the seventh form; the later family's looks); each row that meets fmt, with fmt's text TOLD by the authors' own Lean function (tested against real Go, not proved from fmt's source: count such statements apart). THE CARD IS WHAT COUNTS. Prove the row's statement (the work); the ties are given (YtdijllogmnbjkaaDoorTie.lean); close each card by the builder's one call (the guide's Derived/Test/ToyasCard.lean, 'card_holds'). Laid BY PROGRAM, IN A SANDBOX (cutbox-door.mjs). By AI agents, Wed Nov 11 2026. No macro, syntax, notation, axiom, sorry.
-/
import Derived.Test.YtdijllogmnbjkaaDoorRows
import GoSem.ClaimSeven
namespace Go.Proofs.YtdijllogmnbjkaaDoor
namespace Rows

/-- THE TIED CARD OF 'laws.FnExactReadTx'. -/
def fnExactReadTxCard : Claim7 := { stood := { row := fnExactReadTxRow, standIns := [], harness := (true, "acd54c1a6508b7e6d0ae7ae804de7723ba8c9b4abbe1de76fa281cbb50d5c1a3"), looks := true }, kinds := [], alts := [], laidByText := true, laidKinds := [.data, .data, .data, .data, .sentinel, .sentinel, .pinned], laidTests := true, laidLooks := .later }
def FnExactReadTxCardSaid : Prop := Claim7.holds Tryd.pinned (.plain (OpenSpec.ofChange fnExactReadTxSpec)) fnExactReadTxCard

/-- THE SECOND FORM's CARD OF 'laws.FnExactReadTx'. -/
def fnExactReadTxUptoCard : Claim7 := { stood := { row := fnExactReadTxUptoRow, standIns := [], harness := (true, "acd54c1a6508b7e6d0ae7ae804de7723ba8c9b4abbe1de76fa281cbb50d5c1a3"), looks := true }, kinds := [], alts := [], laidByText := true, laidKinds := [.data, .data, .data, .data, .sentinel, .sentinel, .pinned], laidTests := true, laidLooks := .later }
def FnExactReadTxUptoCardSaid : Prop := Claim7.holds Tryd.pinned (.plain (OpenSpec.upto fnExactReadTxSpec)) fnExactReadTxUptoCard
end Rows
end Go.Proofs.YtdijllogmnbjkaaDoor
