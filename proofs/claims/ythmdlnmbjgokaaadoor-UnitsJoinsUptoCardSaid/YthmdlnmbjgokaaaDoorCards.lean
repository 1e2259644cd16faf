/-
  DERIVED. GIVEN WITH THE SEED: THE CARDS: each row of YthmdlnmbjgokaaaDoorRows.lean that lists a variable, with what it lists TIED to the program's text (the seventh form; the later family's looks); each row that meets fmt, with fmt's text TOLD by the authors' own Lean function (tested against real Go, not proved from fmt's source: count such statements apart). THE CARD IS WHAT COUNTS. Prove the row's statement (the work); the ties are given (YthmdlnmbjgokaaaDoorTie.lean); close each card by the builder's one call (the guide's Derived/Test/ToyasCard.lean, 'card_holds'). Laid BY PROGRAM, IN A SANDBOX (cutbox-door.mjs). By AI agents, Wed Nov 11 2026. No macro, syntax, notation, axiom, sorry.
-/
import Derived.Test.YthmdlnmbjgokaaaDoorRows
import GoSem.ClaimSeven
namespace Go.Proofs.YthmdlnmbjgokaaaDoor
namespace Rows

/-- THE TIED CARD OF 'lintellaw01.UnitsReads'. -/
def unitsReadsCard : Claim7 := { stood := { row := unitsReadsRow, standIns := [], harness := (true, "357ca12360e200f75c86f3d1275219276adc57dd7c391f19c874e7d4f9a9573e"), looks := false }, kinds := [], alts := [], laidByText := true, laidKinds := [.data, .pinned], laidTests := true, laidLooks := .later }
def UnitsReadsCardSaid : Prop := Claim7.holds Tryd.pinned (.plain (OpenSpec.ofChange unitsReadsSpec)) unitsReadsCard

/-- THE TIED CARD OF 'lintellaw01.UnitsPoints'. -/
def unitsPointsCard : Claim7 := { stood := { row := unitsPointsRow, standIns := [], harness := (true, "357ca12360e200f75c86f3d1275219276adc57dd7c391f19c874e7d4f9a9573e"), looks := false }, kinds := [], alts := [], laidByText := true, laidKinds := [.data, .pinned], laidTests := true, laidLooks := .later }
def UnitsPointsCardSaid : Prop := Claim7.holds Tryd.pinned (.plain (OpenSpec.ofChange unitsPointsSpec)) unitsPointsCard

/-- THE TIED CARD OF 'lintellaw01.UnitsBack'. -/
def unitsBackCard : Claim7 := { stood := { row := unitsBackRow, standIns := [], harness := (true, "357ca12360e200f75c86f3d1275219276adc57dd7c391f19c874e7d4f9a9573e"), looks := false }, kinds := [], alts := [], laidByText := true, laidKinds := [.data, .pinned], laidTests := true, laidLooks := .later }
def UnitsBackCardSaid : Prop := Claim7.holds Tryd.pinned (.plain (OpenSpec.ofChange unitsBackSpec)) unitsBackCard

/-- THE TIED CARD OF 'lintellaw01.UnitsJoins'. -/
def unitsJoinsCard : Claim7 := { stood := { row := unitsJoinsRow, standIns := [], harness := (true, "357ca12360e200f75c86f3d1275219276adc57dd7c391f19c874e7d4f9a9573e"), looks := false }, kinds := [], alts := [], laidByText := true, laidKinds := [.data, .pinned], laidTests := true, laidLooks := .later }
def UnitsJoinsCardSaid : Prop := Claim7.holds Tryd.pinned (.plain (OpenSpec.ofChange unitsJoinsSpec)) unitsJoinsCard

/-- THE TIED CARD OF 'lintellaw01.UnitsPieces'. -/
def unitsPiecesCard : Claim7 := { stood := { row := unitsPiecesRow, standIns := [], harness := (true, "357ca12360e200f75c86f3d1275219276adc57dd7c391f19c874e7d4f9a9573e"), looks := false }, kinds := [], alts := [], laidByText := true, laidKinds := [.data, .pinned], laidTests := true, laidLooks := .later }
def UnitsPiecesCardSaid : Prop := Claim7.holds Tryd.pinned (.plain (OpenSpec.ofChange unitsPiecesSpec)) unitsPiecesCard

/-- THE TIED CARD OF 'lintellaw01.UnitsOrder'. -/
def unitsOrderCard : Claim7 := { stood := { row := unitsOrderRow, standIns := [], harness := (true, "357ca12360e200f75c86f3d1275219276adc57dd7c391f19c874e7d4f9a9573e"), looks := false }, kinds := [], alts := [], laidByText := true, laidKinds := [.data, .pinned], laidTests := true, laidLooks := .later }
def UnitsOrderCardSaid : Prop := Claim7.holds Tryd.pinned (.plain (OpenSpec.ofChange unitsOrderSpec)) unitsOrderCard

/-- THE TIED CARD OF 'lintellaw01.UnitsFinds'. -/
def unitsFindsCard : Claim7 := { stood := { row := unitsFindsRow, standIns := [], harness := (true, "357ca12360e200f75c86f3d1275219276adc57dd7c391f19c874e7d4f9a9573e"), looks := false }, kinds := [], alts := [], laidByText := true, laidKinds := [.data, .pinned], laidTests := true, laidLooks := .later }
def UnitsFindsCardSaid : Prop := Claim7.holds Tryd.pinned (.plain (OpenSpec.ofChange unitsFindsSpec)) unitsFindsCard

/-- THE SECOND FORM's CARD OF 'lintellaw01.UnitsReads'. -/
def unitsReadsUptoCard : Claim7 := { stood := { row := unitsReadsUptoRow, standIns := [], harness := (true, "357ca12360e200f75c86f3d1275219276adc57dd7c391f19c874e7d4f9a9573e"), looks := false }, kinds := [], alts := [], laidByText := true, laidKinds := [.data, .pinned], laidTests := true, laidLooks := .later }
def UnitsReadsUptoCardSaid : Prop := Claim7.holds Tryd.pinned (.plain (OpenSpec.upto unitsReadsSpec)) unitsReadsUptoCard

/-- THE SECOND FORM's CARD OF 'lintellaw01.UnitsPoints'. -/
def unitsPointsUptoCard : Claim7 := { stood := { row := unitsPointsUptoRow, standIns := [], harness := (true, "357ca12360e200f75c86f3d1275219276adc57dd7c391f19c874e7d4f9a9573e"), looks := false }, kinds := [], alts := [], laidByText := true, laidKinds := [.data, .pinned], laidTests := true, laidLooks := .later }
def UnitsPointsUptoCardSaid : Prop := Claim7.holds Tryd.pinned (.plain (OpenSpec.upto unitsPointsSpec)) unitsPointsUptoCard

/-- THE SECOND FORM's CARD OF 'lintellaw01.UnitsBack'. -/
def unitsBackUptoCard : Claim7 := { stood := { row := unitsBackUptoRow, standIns := [], harness := (true, "357ca12360e200f75c86f3d1275219276adc57dd7c391f19c874e7d4f9a9573e"), looks := false }, kinds := [], alts := [], laidByText := true, laidKinds := [.data, .pinned], laidTests := true, laidLooks := .later }
def UnitsBackUptoCardSaid : Prop := Claim7.holds Tryd.pinned (.plain (OpenSpec.upto unitsBackSpec)) unitsBackUptoCard

/-- THE SECOND FORM's CARD OF 'lintellaw01.UnitsJoins'. -/
def unitsJoinsUptoCard : Claim7 := { stood := { row := unitsJoinsUptoRow, standIns := [], harness := (true, "357ca12360e200f75c86f3d1275219276adc57dd7c391f19c874e7d4f9a9573e"), looks := false }, kinds := [], alts := [], laidByText := true, laidKinds := [.data, .pinned], laidTests := true, laidLooks := .later }
def UnitsJoinsUptoCardSaid : Prop := Claim7.holds Tryd.pinned (.plain (OpenSpec.upto unitsJoinsSpec)) unitsJoinsUptoCard

/-- THE SECOND FORM's CARD OF 'lintellaw01.UnitsPieces'. -/
def unitsPiecesUptoCard : Claim7 := { stood := { row := unitsPiecesUptoRow, standIns := [], harness := (true, "357ca12360e200f75c86f3d1275219276adc57dd7c391f19c874e7d4f9a9573e"), looks := false }, kinds := [], alts := [], laidByText := true, laidKinds := [.data, .pinned], laidTests := true, laidLooks := .later }
def UnitsPiecesUptoCardSaid : Prop := Claim7.holds Tryd.pinned (.plain (OpenSpec.upto unitsPiecesSpec)) unitsPiecesUptoCard

/-- THE SECOND FORM's CARD OF 'lintellaw01.UnitsOrder'. -/
def unitsOrderUptoCard : Claim7 := { stood := { row := unitsOrderUptoRow, standIns := [], harness := (true, "357ca12360e200f75c86f3d1275219276adc57dd7c391f19c874e7d4f9a9573e"), looks := false }, kinds := [], alts := [], laidByText := true, laidKinds := [.data, .pinned], laidTests := true, laidLooks := .later }
def UnitsOrderUptoCardSaid : Prop := Claim7.holds Tryd.pinned (.plain (OpenSpec.upto unitsOrderSpec)) unitsOrderUptoCard

/-- THE SECOND FORM's CARD OF 'lintellaw01.UnitsFinds'. -/
def unitsFindsUptoCard : Claim7 := { stood := { row := unitsFindsUptoRow, standIns := [], harness := (true, "357ca12360e200f75c86f3d1275219276adc57dd7c391f19c874e7d4f9a9573e"), looks := false }, kinds := [], alts := [], laidByText := true, laidKinds := [.data, .pinned], laidTests := true, laidLooks := .later }
def UnitsFindsUptoCardSaid : Prop := Claim7.holds Tryd.pinned (.plain (OpenSpec.upto unitsFindsSpec)) unitsFindsUptoCard
end Rows
end Go.Proofs.YthmdlnmbjgokaaaDoor
