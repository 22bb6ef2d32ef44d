/-
  DERIVED. GIVEN WITH THE SEED: THE CARDS: each row of YtboldkahppdmbaaGreatDoorRows.lean that lists a variable, with what it lists TIED to the program's text (the seventh form; the later family's looks); each row that meets fmt, with fmt's text TOLD by the authors' own Lean function (tested against real Go, not proved from fmt's source: count such statements apart). THE CARD IS WHAT COUNTS. Prove the row's statement (the work); the ties are given (YtboldkahppdmbaaGreatDoorTie.lean); close each card by the builder's one call (the guide's Derived/Test/ToyasCard.lean, 'card_holds'). Laid BY PROGRAM, IN A SANDBOX (cutbox-door.mjs). By AI agents, Wed Nov 11 2026. No macro, syntax, notation, axiom, sorry.
-/
import Derived.Test.YtboldkahppdmbaaGreatDoorRows
import GoSem.ClaimSeven
namespace Go.Proofs.YtboldkahppdmbaaGreatDoor
namespace Rows

/-- THE TIED CARD OF 'laws.FnFiltered'. -/
def fnFilteredCard : Claim7 := { stood := { row := fnFilteredRow, standIns := [], harness := (true, "482288615dd1933654a4575052032ea975bbf39ff26a56d01b9edc34902f1fb5"), looks := false }, kinds := [], alts := [], laidByText := true, laidKinds := [.data, .data, .data], laidTests := true, laidLooks := .later }
def FnFilteredCardSaid : Prop := Claim7.holds Tryz.pinned (.plain (OpenSpec.ofChange fnFilteredSpec)) fnFilteredCard

/-- THE SECOND FORM's CARD OF 'laws.FnFiltered'. -/
def fnFilteredUptoCard : Claim7 := { stood := { row := fnFilteredUptoRow, standIns := [], harness := (true, "482288615dd1933654a4575052032ea975bbf39ff26a56d01b9edc34902f1fb5"), looks := false }, kinds := [], alts := [], laidByText := true, laidKinds := [.data, .data, .data], laidTests := true, laidLooks := .later }
def FnFilteredUptoCardSaid : Prop := Claim7.holds Tryz.pinned (.plain (OpenSpec.upto fnFilteredSpec)) fnFilteredUptoCard
end Rows
end Go.Proofs.YtboldkahppdmbaaGreatDoor
