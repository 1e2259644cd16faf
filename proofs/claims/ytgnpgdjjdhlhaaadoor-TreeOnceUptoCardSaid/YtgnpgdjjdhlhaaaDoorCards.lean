/-
  DERIVED. GIVEN WITH THE SEED: THE CARDS: each row of YtgnpgdjjdhlhaaaDoorRows.lean that lists a variable, with what it lists TIED to the program's text (the seventh form; the later family's looks); each row that meets fmt, with fmt's text TOLD by the authors' own Lean function (tested against real Go, not proved from fmt's source: count such statements apart). THE CARD IS WHAT COUNTS. Prove the row's statement (the work); the ties are given (YtgnpgdjjdhlhaaaDoorTie.lean); close each card by the builder's one call (the guide's Derived/Test/ToyasCard.lean, 'card_holds'). Laid BY PROGRAM, IN A SANDBOX (cutbox-door.mjs). By AI agents, Wed Nov 11 2026. No macro, syntax, notation, axiom, sorry.
-/
import Derived.Test.YtgnpgdjjdhlhaaaDoorRows
import GoSem.ClaimSeven
namespace Go.Proofs.YtgnpgdjjdhlhaaaDoor
namespace Rows

/-- THE TIED CARD OF 'lintellaw06.TreeOnce'. -/
def treeOnceCard : Claim7 := { stood := { row := treeOnceRow, standIns := [], harness := (true, "c358664527750006cc9e99e2ffa610bae54d964e53d1daf08984eb651de6af04"), looks := false }, kinds := [], alts := [], laidByText := true, laidKinds := [.listed, .data], laidTests := true, laidLooks := .later }
def TreeOnceCardSaid : Prop := Claim7.holds Tryd.pinned (.plain (OpenSpec.ofChange treeOnceSpec)) treeOnceCard

/-- THE TIED CARD OF 'lintellaw06.TreeOperators'. -/
def treeOperatorsCard : Claim7 := { stood := { row := treeOperatorsRow, standIns := [], harness := (true, "c358664527750006cc9e99e2ffa610bae54d964e53d1daf08984eb651de6af04"), looks := false }, kinds := [], alts := [], laidByText := true, laidKinds := [.listed, .data], laidTests := true, laidLooks := .later }
def TreeOperatorsCardSaid : Prop := Claim7.holds Tryd.pinned (.plain (OpenSpec.ofChange treeOperatorsSpec)) treeOperatorsCard

/-- THE SECOND FORM's CARD OF 'lintellaw06.TreeOnce'. -/
def treeOnceUptoCard : Claim7 := { stood := { row := treeOnceUptoRow, standIns := [], harness := (true, "c358664527750006cc9e99e2ffa610bae54d964e53d1daf08984eb651de6af04"), looks := false }, kinds := [], alts := [], laidByText := true, laidKinds := [.listed, .data], laidTests := true, laidLooks := .later }
def TreeOnceUptoCardSaid : Prop := Claim7.holds Tryd.pinned (.plain (OpenSpec.upto treeOnceSpec)) treeOnceUptoCard

/-- THE SECOND FORM's CARD OF 'lintellaw06.TreeOperators'. -/
def treeOperatorsUptoCard : Claim7 := { stood := { row := treeOperatorsUptoRow, standIns := [], harness := (true, "c358664527750006cc9e99e2ffa610bae54d964e53d1daf08984eb651de6af04"), looks := false }, kinds := [], alts := [], laidByText := true, laidKinds := [.listed, .data], laidTests := true, laidLooks := .later }
def TreeOperatorsUptoCardSaid : Prop := Claim7.holds Tryd.pinned (.plain (OpenSpec.upto treeOperatorsSpec)) treeOperatorsUptoCard
end Rows
end Go.Proofs.YtgnpgdjjdhlhaaaDoor
