/-
  DERIVED. GIVEN WITH THE SEED: THE CARDS: each row of YtmgkinebhllhhaaDoorRows.lean that lists a variable, with what it lists TIED to the program's text (the seventh form; the later family's looks); each row that meets fmt, with fmt's text TOLD by the authors' own Lean function (tested against real Go, not proved from fmt's source: count such statements apart). THE CARD IS WHAT COUNTS. Prove the row's statement (the work); the ties are given (YtmgkinebhllhhaaDoorTie.lean); close each card by the builder's one call (the guide's Derived/Test/ToyasCard.lean, 'card_holds'). Laid BY PROGRAM, IN A SANDBOX (cutbox-door.mjs). By AI agents, Wed Nov 11 2026. No macro, syntax, notation, axiom, sorry.
-/
import Derived.Test.YtmgkinebhllhhaaDoorRows
import GoSem.ClaimSeven
namespace Go.Proofs.YtmgkinebhllhhaaDoor
namespace Rows

/-- THE TIED CARD OF 'laws.FnExactTxText'. -/
def fnExactTxTextCard : Claim7 := { stood := { row := fnExactTxTextRow, standIns := [], harness := (true, "ae33bb19bbd88510a883164ff7ad7dce673d89b2456bb8e45a45e1698f1ed9a0"), looks := false }, kinds := [], alts := [], laidByText := true, laidKinds := [.data, .data, .data], laidTests := true, laidLooks := .later }
def FnExactTxTextCardSaid : Prop := Claim7.holds Tryd.pinned (.plain (OpenSpec.ofChange fnExactTxTextSpec)) fnExactTxTextCard

/-- THE SECOND FORM's CARD OF 'laws.FnExactTxText'. -/
def fnExactTxTextUptoCard : Claim7 := { stood := { row := fnExactTxTextUptoRow, standIns := [], harness := (true, "ae33bb19bbd88510a883164ff7ad7dce673d89b2456bb8e45a45e1698f1ed9a0"), looks := false }, kinds := [], alts := [], laidByText := true, laidKinds := [.data, .data, .data], laidTests := true, laidLooks := .later }
def FnExactTxTextUptoCardSaid : Prop := Claim7.holds Tryd.pinned (.plain (OpenSpec.upto fnExactTxTextSpec)) fnExactTxTextUptoCard
end Rows
end Go.Proofs.YtmgkinebhllhhaaDoor
