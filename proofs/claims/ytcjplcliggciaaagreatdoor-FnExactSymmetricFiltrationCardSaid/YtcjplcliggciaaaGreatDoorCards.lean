/-
  DERIVED. GIVEN WITH THE SEED: THE CARDS: each row of YtcjplcliggciaaaGreatDoorRows.lean that lists a variable, with what it lists TIED to the program's text (the seventh form; the later family's looks); each row that meets fmt, with fmt's text TOLD by the authors' own Lean function (tested against real Go, not proved from fmt's source: count such statements apart). THE CARD IS WHAT COUNTS. Prove the row's statement (the work); the ties are given (YtcjplcliggciaaaGreatDoorTie.lean); close each card by the builder's one call (the guide's Derived/Test/ToyasCard.lean, 'card_holds'). Laid BY PROGRAM, IN A SANDBOX (cutbox-door.mjs). By AI agents, Wed Nov 11 2026. No macro, syntax, notation, axiom, sorry.
-/
import Derived.Test.YtcjplcliggciaaaGreatDoorRows
import GoSem.ClaimSeven
namespace Go.Proofs.YtcjplcliggciaaaGreatDoor
namespace Rows

/-- THE TIED CARD OF 'laws.FnExactIsFiltration'. -/
def fnExactIsFiltrationCard : Claim7 := { stood := { row := fnExactIsFiltrationRow, standIns := [], harness := (true, "58b3102842855487894b0faa2fc5aca4af0d9b4101adceab81d0108c52238ad4"), looks := false }, kinds := [], alts := [], laidByText := true, laidKinds := [.data, .data, .data], laidTests := true, laidLooks := .later }
def FnExactIsFiltrationCardSaid : Prop := Claim7.holds Tryz.pinned (.plain (OpenSpec.ofChange fnExactIsFiltrationSpec)) fnExactIsFiltrationCard

/-- THE TIED CARD OF 'laws.FnExactCountFiltrations'. -/
def fnExactCountFiltrationsCard : Claim7 := { stood := { row := fnExactCountFiltrationsRow, standIns := [], harness := (true, "58b3102842855487894b0faa2fc5aca4af0d9b4101adceab81d0108c52238ad4"), looks := false }, kinds := [], alts := [], laidByText := true, laidKinds := [.data, .data, .data], laidTests := true, laidLooks := .later }
def FnExactCountFiltrationsCardSaid : Prop := Claim7.holds Tryz.pinned (.plain (OpenSpec.ofChange fnExactCountFiltrationsSpec)) fnExactCountFiltrationsCard

/-- THE TIED CARD OF 'laws.FnExactFiltrationModel'. -/
def fnExactFiltrationModelCard : Claim7 := { stood := { row := fnExactFiltrationModelRow, standIns := [], harness := (true, "58b3102842855487894b0faa2fc5aca4af0d9b4101adceab81d0108c52238ad4"), looks := false }, kinds := [], alts := [], laidByText := true, laidKinds := [.data, .data, .data], laidTests := true, laidLooks := .later }
def FnExactFiltrationModelCardSaid : Prop := Claim7.holds Tryz.pinned (.plain (OpenSpec.ofChange fnExactFiltrationModelSpec)) fnExactFiltrationModelCard

/-- THE TIED CARD OF 'laws.FnExactSymmetricFiltration'. -/
def fnExactSymmetricFiltrationCard : Claim7 := { stood := { row := fnExactSymmetricFiltrationRow, standIns := [], harness := (true, "58b3102842855487894b0faa2fc5aca4af0d9b4101adceab81d0108c52238ad4"), looks := false }, kinds := [], alts := [], laidByText := true, laidKinds := [.data, .data, .data], laidTests := true, laidLooks := .later }
def FnExactSymmetricFiltrationCardSaid : Prop := Claim7.holds Tryz.pinned (.plain (OpenSpec.ofChange fnExactSymmetricFiltrationSpec)) fnExactSymmetricFiltrationCard

/-- THE TIED CARD OF 'laws.FnExactTransitiveFiltration'. -/
def fnExactTransitiveFiltrationCard : Claim7 := { stood := { row := fnExactTransitiveFiltrationRow, standIns := [], harness := (true, "58b3102842855487894b0faa2fc5aca4af0d9b4101adceab81d0108c52238ad4"), looks := false }, kinds := [], alts := [], laidByText := true, laidKinds := [.data, .data, .data], laidTests := true, laidLooks := .later }
def FnExactTransitiveFiltrationCardSaid : Prop := Claim7.holds Tryz.pinned (.plain (OpenSpec.ofChange fnExactTransitiveFiltrationSpec)) fnExactTransitiveFiltrationCard

/-- THE TIED CARD OF 'laws.FnExactAllFiltrations'. -/
def fnExactAllFiltrationsCard : Claim7 := { stood := { row := fnExactAllFiltrationsRow, standIns := [], harness := (true, "58b3102842855487894b0faa2fc5aca4af0d9b4101adceab81d0108c52238ad4"), looks := false }, kinds := [], alts := [], laidByText := true, laidKinds := [.data, .data, .data], laidTests := true, laidLooks := .later }
def FnExactAllFiltrationsCardSaid : Prop := Claim7.holds Tryz.pinned (.plain (OpenSpec.ofChange fnExactAllFiltrationsSpec)) fnExactAllFiltrationsCard

/-- THE SECOND FORM's CARD OF 'laws.FnExactIsFiltration'. -/
def fnExactIsFiltrationUptoCard : Claim7 := { stood := { row := fnExactIsFiltrationUptoRow, standIns := [], harness := (true, "58b3102842855487894b0faa2fc5aca4af0d9b4101adceab81d0108c52238ad4"), looks := false }, kinds := [], alts := [], laidByText := true, laidKinds := [.data, .data, .data], laidTests := true, laidLooks := .later }
def FnExactIsFiltrationUptoCardSaid : Prop := Claim7.holds Tryz.pinned (.plain (OpenSpec.upto fnExactIsFiltrationSpec)) fnExactIsFiltrationUptoCard

/-- THE SECOND FORM's CARD OF 'laws.FnExactCountFiltrations'. -/
def fnExactCountFiltrationsUptoCard : Claim7 := { stood := { row := fnExactCountFiltrationsUptoRow, standIns := [], harness := (true, "58b3102842855487894b0faa2fc5aca4af0d9b4101adceab81d0108c52238ad4"), looks := false }, kinds := [], alts := [], laidByText := true, laidKinds := [.data, .data, .data], laidTests := true, laidLooks := .later }
def FnExactCountFiltrationsUptoCardSaid : Prop := Claim7.holds Tryz.pinned (.plain (OpenSpec.upto fnExactCountFiltrationsSpec)) fnExactCountFiltrationsUptoCard

/-- THE SECOND FORM's CARD OF 'laws.FnExactFiltrationModel'. -/
def fnExactFiltrationModelUptoCard : Claim7 := { stood := { row := fnExactFiltrationModelUptoRow, standIns := [], harness := (true, "58b3102842855487894b0faa2fc5aca4af0d9b4101adceab81d0108c52238ad4"), looks := false }, kinds := [], alts := [], laidByText := true, laidKinds := [.data, .data, .data], laidTests := true, laidLooks := .later }
def FnExactFiltrationModelUptoCardSaid : Prop := Claim7.holds Tryz.pinned (.plain (OpenSpec.upto fnExactFiltrationModelSpec)) fnExactFiltrationModelUptoCard

/-- THE SECOND FORM's CARD OF 'laws.FnExactSymmetricFiltration'. -/
def fnExactSymmetricFiltrationUptoCard : Claim7 := { stood := { row := fnExactSymmetricFiltrationUptoRow, standIns := [], harness := (true, "58b3102842855487894b0faa2fc5aca4af0d9b4101adceab81d0108c52238ad4"), looks := false }, kinds := [], alts := [], laidByText := true, laidKinds := [.data, .data, .data], laidTests := true, laidLooks := .later }
def FnExactSymmetricFiltrationUptoCardSaid : Prop := Claim7.holds Tryz.pinned (.plain (OpenSpec.upto fnExactSymmetricFiltrationSpec)) fnExactSymmetricFiltrationUptoCard

/-- THE SECOND FORM's CARD OF 'laws.FnExactTransitiveFiltration'. -/
def fnExactTransitiveFiltrationUptoCard : Claim7 := { stood := { row := fnExactTransitiveFiltrationUptoRow, standIns := [], harness := (true, "58b3102842855487894b0faa2fc5aca4af0d9b4101adceab81d0108c52238ad4"), looks := false }, kinds := [], alts := [], laidByText := true, laidKinds := [.data, .data, .data], laidTests := true, laidLooks := .later }
def FnExactTransitiveFiltrationUptoCardSaid : Prop := Claim7.holds Tryz.pinned (.plain (OpenSpec.upto fnExactTransitiveFiltrationSpec)) fnExactTransitiveFiltrationUptoCard

/-- THE SECOND FORM's CARD OF 'laws.FnExactAllFiltrations'. -/
def fnExactAllFiltrationsUptoCard : Claim7 := { stood := { row := fnExactAllFiltrationsUptoRow, standIns := [], harness := (true, "58b3102842855487894b0faa2fc5aca4af0d9b4101adceab81d0108c52238ad4"), looks := false }, kinds := [], alts := [], laidByText := true, laidKinds := [.data, .data, .data], laidTests := true, laidLooks := .later }
def FnExactAllFiltrationsUptoCardSaid : Prop := Claim7.holds Tryz.pinned (.plain (OpenSpec.upto fnExactAllFiltrationsSpec)) fnExactAllFiltrationsUptoCard
end Rows
end Go.Proofs.YtcjplcliggciaaaGreatDoor
