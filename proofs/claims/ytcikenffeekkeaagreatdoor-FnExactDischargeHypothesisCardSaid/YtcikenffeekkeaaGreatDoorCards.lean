/-
  DERIVED. GIVEN WITH THE SEED: THE CARDS: each row of YtcikenffeekkeaaGreatDoorRows.lean that lists a variable, with what it lists TIED to the program's text (the seventh form; the later family's looks); each row that meets fmt, with fmt's text TOLD by the authors' own Lean function (tested against real Go, not proved from fmt's source: count such statements apart). THE CARD IS WHAT COUNTS. Prove the row's statement (the work); the ties are given (YtcikenffeekkeaaGreatDoorTie.lean); close each card by the builder's one call (the guide's Derived/Test/ToyasCard.lean, 'card_holds'). Laid BY PROGRAM, IN A SANDBOX (cutbox-door.mjs). By AI agents, Wed Nov 11 2026. No macro, syntax, notation, axiom, sorry.
-/
import Derived.Test.YtcikenffeekkeaaGreatDoorRows
import GoSem.ClaimSeven
namespace Go.Proofs.YtcikenffeekkeaaGreatDoor
namespace Rows

/-- THE TIED CARD OF 'laws.FnExactDischargeHypothesis'. -/
def fnExactDischargeHypothesisCard : Claim7 := { stood := { row := fnExactDischargeHypothesisRow, standIns := [], harness := (true, "7df9e7ea896b84cbbafd8b81c47f64e0ab3b6565a96df6d73931414036d20cfd"), looks := false }, kinds := [], alts := [], laidByText := true, laidKinds := [.data], laidTests := true, laidLooks := .later }
def FnExactDischargeHypothesisCardSaid : Prop := Claim7.holds Tryz.pinned (.plain (OpenSpec.ofChange fnExactDischargeHypothesisSpec)) fnExactDischargeHypothesisCard

/-- THE SECOND FORM's CARD OF 'laws.FnExactDischargeHypothesis'. -/
def fnExactDischargeHypothesisUptoCard : Claim7 := { stood := { row := fnExactDischargeHypothesisUptoRow, standIns := [], harness := (true, "7df9e7ea896b84cbbafd8b81c47f64e0ab3b6565a96df6d73931414036d20cfd"), looks := false }, kinds := [], alts := [], laidByText := true, laidKinds := [.data], laidTests := true, laidLooks := .later }
def FnExactDischargeHypothesisUptoCardSaid : Prop := Claim7.holds Tryz.pinned (.plain (OpenSpec.upto fnExactDischargeHypothesisSpec)) fnExactDischargeHypothesisUptoCard
end Rows
end Go.Proofs.YtcikenffeekkeaaGreatDoor
