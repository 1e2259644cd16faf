/-
  DERIVED. GIVEN WITH THE SEED: THE CARDS: each row of YtoihoackmkapaaaDoorRows.lean that lists a variable, with what it lists TIED to the program's text (the seventh form; the later family's looks); each row that meets fmt, with fmt's text TOLD by the authors' own Lean function (tested against real Go, not proved from fmt's source: count such statements apart). THE CARD IS WHAT COUNTS. Prove the row's statement (the work); the ties are given (YtoihoackmkapaaaDoorTie.lean); close each card by the builder's one call (the guide's Derived/Test/ToyasCard.lean, 'card_holds'). Laid BY PROGRAM, IN A SANDBOX (cutbox-door.mjs). By AI agents, Wed Nov 11 2026. No macro, syntax, notation, axiom, sorry.
-/
import Derived.Test.YtoihoackmkapaaaDoorRows
import GoSem.ClaimSeven
namespace Go.Proofs.YtoihoackmkapaaaDoor
namespace Rows

/-- THE TIED CARD OF 'lintellaw12.CheckModules'. -/
def checkModulesCard : Claim7 := { stood := { row := checkModulesRow, standIns := [], harness := (true, "57ec26d5e3cb37be8561158daf4484f12f03cd4bec6ec696d03e53a375bf7d45"), looks := false }, kinds := [], alts := [], laidByText := true, laidKinds := [.listed, .data], laidTests := true, laidLooks := .later }
def CheckModulesCardSaid : Prop := Claim7.holds Tryd.pinned (.plain (OpenSpec.ofChange checkModulesSpec)) checkModulesCard

/-- THE TIED CARD OF 'lintellaw12.CheckReach'. -/
def checkReachCard : Claim7 := { stood := { row := checkReachRow, standIns := [], harness := (true, "57ec26d5e3cb37be8561158daf4484f12f03cd4bec6ec696d03e53a375bf7d45"), looks := false }, kinds := [], alts := [], laidByText := true, laidKinds := [.listed, .data], laidTests := true, laidLooks := .later }
def CheckReachCardSaid : Prop := Claim7.holds Tryd.pinned (.plain (OpenSpec.ofChange checkReachSpec)) checkReachCard

/-- THE TIED CARD OF 'lintellaw12.CheckGuards'. -/
def checkGuardsCard : Claim7 := { stood := { row := checkGuardsRow, standIns := [], harness := (true, "57ec26d5e3cb37be8561158daf4484f12f03cd4bec6ec696d03e53a375bf7d45"), looks := false }, kinds := [], alts := [], laidByText := true, laidKinds := [.listed, .data], laidTests := true, laidLooks := .later }
def CheckGuardsCardSaid : Prop := Claim7.holds Tryd.pinned (.plain (OpenSpec.ofChange checkGuardsSpec)) checkGuardsCard

/-- THE TIED CARD OF 'lintellaw12.CheckParts'. -/
def checkPartsCard : Claim7 := { stood := { row := checkPartsRow, standIns := [], harness := (true, "57ec26d5e3cb37be8561158daf4484f12f03cd4bec6ec696d03e53a375bf7d45"), looks := false }, kinds := [], alts := [], laidByText := true, laidKinds := [.listed, .data], laidTests := true, laidLooks := .later }
def CheckPartsCardSaid : Prop := Claim7.holds Tryd.pinned (.plain (OpenSpec.ofChange checkPartsSpec)) checkPartsCard

/-- THE SECOND FORM's CARD OF 'lintellaw12.CheckModules'. -/
def checkModulesUptoCard : Claim7 := { stood := { row := checkModulesUptoRow, standIns := [], harness := (true, "57ec26d5e3cb37be8561158daf4484f12f03cd4bec6ec696d03e53a375bf7d45"), looks := false }, kinds := [], alts := [], laidByText := true, laidKinds := [.listed, .data], laidTests := true, laidLooks := .later }
def CheckModulesUptoCardSaid : Prop := Claim7.holds Tryd.pinned (.plain (OpenSpec.upto checkModulesSpec)) checkModulesUptoCard

/-- THE SECOND FORM's CARD OF 'lintellaw12.CheckReach'. -/
def checkReachUptoCard : Claim7 := { stood := { row := checkReachUptoRow, standIns := [], harness := (true, "57ec26d5e3cb37be8561158daf4484f12f03cd4bec6ec696d03e53a375bf7d45"), looks := false }, kinds := [], alts := [], laidByText := true, laidKinds := [.listed, .data], laidTests := true, laidLooks := .later }
def CheckReachUptoCardSaid : Prop := Claim7.holds Tryd.pinned (.plain (OpenSpec.upto checkReachSpec)) checkReachUptoCard

/-- THE SECOND FORM's CARD OF 'lintellaw12.CheckGuards'. -/
def checkGuardsUptoCard : Claim7 := { stood := { row := checkGuardsUptoRow, standIns := [], harness := (true, "57ec26d5e3cb37be8561158daf4484f12f03cd4bec6ec696d03e53a375bf7d45"), looks := false }, kinds := [], alts := [], laidByText := true, laidKinds := [.listed, .data], laidTests := true, laidLooks := .later }
def CheckGuardsUptoCardSaid : Prop := Claim7.holds Tryd.pinned (.plain (OpenSpec.upto checkGuardsSpec)) checkGuardsUptoCard

/-- THE SECOND FORM's CARD OF 'lintellaw12.CheckParts'. -/
def checkPartsUptoCard : Claim7 := { stood := { row := checkPartsUptoRow, standIns := [], harness := (true, "57ec26d5e3cb37be8561158daf4484f12f03cd4bec6ec696d03e53a375bf7d45"), looks := false }, kinds := [], alts := [], laidByText := true, laidKinds := [.listed, .data], laidTests := true, laidLooks := .later }
def CheckPartsUptoCardSaid : Prop := Claim7.holds Tryd.pinned (.plain (OpenSpec.upto checkPartsSpec)) checkPartsUptoCard
end Rows
end Go.Proofs.YtoihoackmkapaaaDoor
