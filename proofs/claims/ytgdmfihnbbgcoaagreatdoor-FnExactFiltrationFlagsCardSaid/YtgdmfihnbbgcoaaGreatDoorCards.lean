/-
  DERIVED. GIVEN WITH THE SEED: THE CARDS: each row of YtgdmfihnbbgcoaaGreatDoorRows.lean that lists a variable, with what it lists TIED to the program's text (the seventh form; the later family's looks); each row that meets fmt, with fmt's text TOLD by the authors' own Lean function (tested against real Go, not proved from fmt's source: count such statements apart). THE CARD IS WHAT COUNTS. Prove the row's statement (the work); the ties are given (YtgdmfihnbbgcoaaGreatDoorTie.lean); close each card by the builder's one call (the guide's Derived/Test/ToyasCard.lean, 'card_holds'). Laid BY PROGRAM, IN A SANDBOX (cutbox-door.mjs). By AI agents, Wed Nov 11 2026. No macro, syntax, notation, axiom, sorry.
-/
import Derived.Test.YtgdmfihnbbgcoaaGreatDoorRows
import GoSem.ClaimSeven
namespace Go.Proofs.YtgdmfihnbbgcoaaGreatDoor
namespace Rows

/-- THE TIED CARD OF 'laws.FnExactFiltrationModel'. -/
def fnExactFiltrationModelCard : Claim7 := { stood := { row := fnExactFiltrationModelRow, standIns := [], harness := (true, "d8b05dbddeadd54fb41f7b6f47fc50d4e7462bc1225e0b6ffae7411c199f36ff"), looks := false }, kinds := [], alts := [], laidByText := true, laidKinds := [.data, .data, .data], laidTests := true, laidLooks := .later }
def FnExactFiltrationModelCardSaid : Prop := Claim7.holds Tryz.pinned (.plain (OpenSpec.ofChange fnExactFiltrationModelSpec)) fnExactFiltrationModelCard

/-- THE TIED CARD OF 'laws.FnExactAllFiltrations'. -/
def fnExactAllFiltrationsCard : Claim7 := { stood := { row := fnExactAllFiltrationsRow, standIns := [], harness := (true, "d8b05dbddeadd54fb41f7b6f47fc50d4e7462bc1225e0b6ffae7411c199f36ff"), looks := false }, kinds := [], alts := [], laidByText := true, laidKinds := [.data, .data, .data], laidTests := true, laidLooks := .later }
def FnExactAllFiltrationsCardSaid : Prop := Claim7.holds Tryz.pinned (.plain (OpenSpec.ofChange fnExactAllFiltrationsSpec)) fnExactAllFiltrationsCard

/-- THE TIED CARD OF 'laws.FnExactFiltrationFlags'. -/
def fnExactFiltrationFlagsCard : Claim7 := { stood := { row := fnExactFiltrationFlagsRow, standIns := [], harness := (true, "d8b05dbddeadd54fb41f7b6f47fc50d4e7462bc1225e0b6ffae7411c199f36ff"), looks := false }, kinds := [], alts := [], laidByText := true, laidKinds := [.data, .data, .data], laidTests := true, laidLooks := .later }
def FnExactFiltrationFlagsCardSaid : Prop := Claim7.holds Tryz.pinned (.plain (OpenSpec.ofChange fnExactFiltrationFlagsSpec)) fnExactFiltrationFlagsCard

/-- THE SECOND FORM's CARD OF 'laws.FnExactFiltrationModel'. -/
def fnExactFiltrationModelUptoCard : Claim7 := { stood := { row := fnExactFiltrationModelUptoRow, standIns := [], harness := (true, "d8b05dbddeadd54fb41f7b6f47fc50d4e7462bc1225e0b6ffae7411c199f36ff"), looks := false }, kinds := [], alts := [], laidByText := true, laidKinds := [.data, .data, .data], laidTests := true, laidLooks := .later }
def FnExactFiltrationModelUptoCardSaid : Prop := Claim7.holds Tryz.pinned (.plain (OpenSpec.upto fnExactFiltrationModelSpec)) fnExactFiltrationModelUptoCard

/-- THE SECOND FORM's CARD OF 'laws.FnExactAllFiltrations'. -/
def fnExactAllFiltrationsUptoCard : Claim7 := { stood := { row := fnExactAllFiltrationsUptoRow, standIns := [], harness := (true, "d8b05dbddeadd54fb41f7b6f47fc50d4e7462bc1225e0b6ffae7411c199f36ff"), looks := false }, kinds := [], alts := [], laidByText := true, laidKinds := [.data, .data, .data], laidTests := true, laidLooks := .later }
def FnExactAllFiltrationsUptoCardSaid : Prop := Claim7.holds Tryz.pinned (.plain (OpenSpec.upto fnExactAllFiltrationsSpec)) fnExactAllFiltrationsUptoCard

/-- THE SECOND FORM's CARD OF 'laws.FnExactFiltrationFlags'. -/
def fnExactFiltrationFlagsUptoCard : Claim7 := { stood := { row := fnExactFiltrationFlagsUptoRow, standIns := [], harness := (true, "d8b05dbddeadd54fb41f7b6f47fc50d4e7462bc1225e0b6ffae7411c199f36ff"), looks := false }, kinds := [], alts := [], laidByText := true, laidKinds := [.data, .data, .data], laidTests := true, laidLooks := .later }
def FnExactFiltrationFlagsUptoCardSaid : Prop := Claim7.holds Tryz.pinned (.plain (OpenSpec.upto fnExactFiltrationFlagsSpec)) fnExactFiltrationFlagsUptoCard
end Rows
end Go.Proofs.YtgdmfihnbbgcoaaGreatDoor
