/-
  DERIVED. GIVEN WITH THE SEED: THE CARDS: each row of YtodfcppfmpakjaaDoorRows.lean that lists a variable, with what it lists TIED to the program's text (the seventh form; the later family's looks); each row that meets fmt, with fmt's text TOLD by the authors' own Lean function (tested against real Go, not proved from fmt's source: count such statements apart). THE CARD IS WHAT COUNTS. Prove the row's statement (the work); the ties are given (YtodfcppfmpakjaaDoorTie.lean); close each card by the builder's one call (the guide's Derived/Test/ToyasCard.lean, 'card_holds'). Laid BY PROGRAM, IN A SANDBOX (cutbox-door.mjs). By AI agents, Wed Nov 11 2026. No macro, syntax, notation, axiom, sorry.
-/
import Derived.Test.YtodfcppfmpakjaaDoorRows
import GoSem.ClaimSeven
namespace Go.Proofs.YtodfcppfmpakjaaDoor
namespace Rows

/-- THE TIED CARD OF 'laws.FnExactAlikeClasses'. -/
def fnExactAlikeClassesCard : Claim7 := { stood := { row := fnExactAlikeClassesRow, standIns := [], harness := (true, "ead25210a5cd62f48a537677d32cbe03d017403a2cb47bf17420a9888afedebf"), looks := false }, kinds := [], alts := [], laidByText := true, laidKinds := [.data, .data, .data], laidTests := true, laidLooks := .later }
def FnExactAlikeClassesCardSaid : Prop := Claim7.holds Tryd.pinned (.plain (OpenSpec.ofChange fnExactAlikeClassesSpec)) fnExactAlikeClassesCard

/-- THE TIED CARD OF 'laws.FnExactLeastFiltration'. -/
def fnExactLeastFiltrationCard : Claim7 := { stood := { row := fnExactLeastFiltrationRow, standIns := [], harness := (true, "ead25210a5cd62f48a537677d32cbe03d017403a2cb47bf17420a9888afedebf"), looks := false }, kinds := [], alts := [], laidByText := true, laidKinds := [.data, .data, .data], laidTests := true, laidLooks := .later }
def FnExactLeastFiltrationCardSaid : Prop := Claim7.holds Tryd.pinned (.plain (OpenSpec.ofChange fnExactLeastFiltrationSpec)) fnExactLeastFiltrationCard

/-- THE SECOND FORM's CARD OF 'laws.FnExactAlikeClasses'. -/
def fnExactAlikeClassesUptoCard : Claim7 := { stood := { row := fnExactAlikeClassesUptoRow, standIns := [], harness := (true, "ead25210a5cd62f48a537677d32cbe03d017403a2cb47bf17420a9888afedebf"), looks := false }, kinds := [], alts := [], laidByText := true, laidKinds := [.data, .data, .data], laidTests := true, laidLooks := .later }
def FnExactAlikeClassesUptoCardSaid : Prop := Claim7.holds Tryd.pinned (.plain (OpenSpec.upto fnExactAlikeClassesSpec)) fnExactAlikeClassesUptoCard

/-- THE SECOND FORM's CARD OF 'laws.FnExactLeastFiltration'. -/
def fnExactLeastFiltrationUptoCard : Claim7 := { stood := { row := fnExactLeastFiltrationUptoRow, standIns := [], harness := (true, "ead25210a5cd62f48a537677d32cbe03d017403a2cb47bf17420a9888afedebf"), looks := false }, kinds := [], alts := [], laidByText := true, laidKinds := [.data, .data, .data], laidTests := true, laidLooks := .later }
def FnExactLeastFiltrationUptoCardSaid : Prop := Claim7.holds Tryd.pinned (.plain (OpenSpec.upto fnExactLeastFiltrationSpec)) fnExactLeastFiltrationUptoCard
end Rows
end Go.Proofs.YtodfcppfmpakjaaDoor
