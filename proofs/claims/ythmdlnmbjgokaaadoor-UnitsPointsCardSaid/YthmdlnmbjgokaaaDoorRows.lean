/-
  NARROWER THAN 'FOR EVERY INPUT', by the rows' own cells (each row's printed sentence says how): UnitsReads: laid · UnitsPoints: laid · UnitsBack: laid · UnitsJoins: laid · UnitsPieces: laid · UnitsOrder: laid · UnitsFinds: laid.
  DERIVED. THE GIVEN ROWS OF THIS SEAT. 7 by the template 'for every input the law returns true; each argument reads behind the call as it read before'; 0 by the template 'total and deterministic' (their statements: YthmdlnmbjgokaaaDoorTotals.lean).
  GIVEN WITH THE SEED: the statements are not yours to turn. If you find one false, say at which input.
  Laid BY PROGRAM, IN A SANDBOX (cutbox-rows.mjs): the forced cells as the released guide's own fill.sh prints them over the translation aab1af5a2c220443… (all of the seat's roots in one cut). By AI agents, Wed Nov 11 2026. No macro, syntax, notation, axiom, sorry.
-/
import Derived.Test.YthmdlnmbjgokaaaDoorChecked
import GoSem.PinnedTables
import GoSem.Claim
import GoSem.ClaimJoined
import GoSem.ClaimMapViews
import Derived.JoinedTies
import Derived.KernelRfl
namespace Go.Proofs.YthmdlnmbjgokaaaDoor
/- THE CELL 'sum', in the pinned program and in every row, IS THE sha256 OF THE DUMP (.gsa) THAT YthmdlnmbjgokaaaDoorProg.lean LOADS. Nothing in Lean hashes anything: it is a label: what it is worth is what the hold of that sum in a sandbox is worth. -/
noncomputable def Tryd.pinned : Pinned := { name := "ythmdlnmbjgokaaadoor", sum := "aab1af5a2c220443c3f19ec3bc46588da6f1bd18ebb504d0e21498123f6e5163", checked := Tryd.checked }
namespace Rows
def none {H : Type} : Left H := { results := [], args := [] }

/- WHAT THE LISTED PACKAGE-LEVEL VARIABLES READ AS WHEN THE CALL BEGINS. Each datum BY PROGRAM (the guide's laid-datum.mjs) off the statement by which the dump's own 'gosem.cut.vars' lays the variable. In a bare row this is a premise. The card (YthmdlnmbjgokaaaDoorCards.lean) ties it to the program's text. -/
def laid_unicode_utf8_acceptRanges {H : Type} : DataW H := .agg [.agg [.lit (.int .u8 128), .lit (.int .u8 191)], .agg [.lit (.int .u8 160), .lit (.int .u8 191)], .agg [.lit (.int .u8 128), .lit (.int .u8 159)], .agg [.lit (.int .u8 144), .lit (.int .u8 191)], .agg [.lit (.int .u8 128), .lit (.int .u8 143)], .agg [.lit (.int .u8 0), .lit (.int .u8 0)], .agg [.lit (.int .u8 0), .lit (.int .u8 0)], .agg [.lit (.int .u8 0), .lit (.int .u8 0)], .agg [.lit (.int .u8 0), .lit (.int .u8 0)], .agg [.lit (.int .u8 0), .lit (.int .u8 0)], .agg [.lit (.int .u8 0), .lit (.int .u8 0)], .agg [.lit (.int .u8 0), .lit (.int .u8 0)], .agg [.lit (.int .u8 0), .lit (.int .u8 0)], .agg [.lit (.int .u8 0), .lit (.int .u8 0)], .agg [.lit (.int .u8 0), .lit (.int .u8 0)], .agg [.lit (.int .u8 0), .lit (.int .u8 0)]]
/-- One of Go's own tables, pinned by name: the form's constant. -/
def laid_unicode_utf8_first : DataW Unit := Go.Pinned.utf8First

/-- 'lintellaw01.UnitsReads': WHATEVER THE INPUT: true; the input reads as it did. -/
def unitsReadsSpec : ChangeSpec := { name := "unitsReads", fn := fun _ => fun
  | [d1, d2] => { results := [.lit (.bool true)], args := [d1, d2] }
  | _ => none }
def unitsReadsRow : OpenClaim := { program := "ythmdlnmbjgokaaadoor", sum := "aab1af5a2c220443c3f19ec3bc46588da6f1bd18ebb504d0e21498123f6e5163", func := "lintel/lintellaw01.UnitsReads", spec := "unitsReads", inPlace := ["internal/abi.NoEscape"], unfollowed := true, recurses := true, named := ["unicode/utf8.first", "unicode/utf8.acceptRanges"], apart := false, laid := [("unicode/utf8.acceptRanges", laid_unicode_utf8_acceptRanges), ("unicode/utf8.first", laid_unicode_utf8_first)] }
def UnitsReadsSaid : Prop := unitsReadsRow.holds Tryd.pinned (OpenSpec.ofChange unitsReadsSpec)

/-- ITS FALSE NEIGHBOUR: 'it returns false'. Refute it at one input. -/
def unitsReadsWrong : ChangeSpec := { name := "unitsReads", fn := fun _ => fun
  | [d1, d2] => { results := [.lit (.bool false)], args := [d1, d2] }
  | _ => none }
def UnitsReadsWrongFalsely : Prop := unitsReadsRow.holds Tryd.pinned (OpenSpec.ofChange unitsReadsWrong)

/-- 'lintellaw01.UnitsPoints': WHATEVER THE INPUT: true; the input reads as it did. -/
def unitsPointsSpec : ChangeSpec := { name := "unitsPoints", fn := fun _ => fun
  | [d1, d2] => { results := [.lit (.bool true)], args := [d1, d2] }
  | _ => none }
def unitsPointsRow : OpenClaim := { program := "ythmdlnmbjgokaaadoor", sum := "aab1af5a2c220443c3f19ec3bc46588da6f1bd18ebb504d0e21498123f6e5163", func := "lintel/lintellaw01.UnitsPoints", spec := "unitsPoints", inPlace := ["internal/abi.NoEscape"], unfollowed := true, recurses := true, named := ["unicode/utf8.first", "unicode/utf8.acceptRanges"], apart := false, laid := [("unicode/utf8.acceptRanges", laid_unicode_utf8_acceptRanges), ("unicode/utf8.first", laid_unicode_utf8_first)] }
def UnitsPointsSaid : Prop := unitsPointsRow.holds Tryd.pinned (OpenSpec.ofChange unitsPointsSpec)

/-- ITS FALSE NEIGHBOUR: 'it returns false'. Refute it at one input. -/
def unitsPointsWrong : ChangeSpec := { name := "unitsPoints", fn := fun _ => fun
  | [d1, d2] => { results := [.lit (.bool false)], args := [d1, d2] }
  | _ => none }
def UnitsPointsWrongFalsely : Prop := unitsPointsRow.holds Tryd.pinned (OpenSpec.ofChange unitsPointsWrong)

/-- 'lintellaw01.UnitsBack': WHATEVER THE INPUT: true; the input reads as it did. -/
def unitsBackSpec : ChangeSpec := { name := "unitsBack", fn := fun _ => fun
  | [d] => { results := [.lit (.bool true)], args := [d] }
  | _ => none }
def unitsBackRow : OpenClaim := { program := "ythmdlnmbjgokaaadoor", sum := "aab1af5a2c220443c3f19ec3bc46588da6f1bd18ebb504d0e21498123f6e5163", func := "lintel/lintellaw01.UnitsBack", spec := "unitsBack", inPlace := ["internal/abi.NoEscape"], unfollowed := true, recurses := true, named := ["unicode/utf8.first", "unicode/utf8.acceptRanges"], apart := false, laid := [("unicode/utf8.acceptRanges", laid_unicode_utf8_acceptRanges), ("unicode/utf8.first", laid_unicode_utf8_first)] }
def UnitsBackSaid : Prop := unitsBackRow.holds Tryd.pinned (OpenSpec.ofChange unitsBackSpec)

/-- ITS FALSE NEIGHBOUR: 'it returns false'. Refute it at one input. -/
def unitsBackWrong : ChangeSpec := { name := "unitsBack", fn := fun _ => fun
  | [d] => { results := [.lit (.bool false)], args := [d] }
  | _ => none }
def UnitsBackWrongFalsely : Prop := unitsBackRow.holds Tryd.pinned (OpenSpec.ofChange unitsBackWrong)

/-- 'lintellaw01.UnitsJoins': WHATEVER THE INPUT: true; the input reads as it did. -/
def unitsJoinsSpec : ChangeSpec := { name := "unitsJoins", fn := fun _ => fun
  | [d1, d2, d3] => { results := [.lit (.bool true)], args := [d1, d2, d3] }
  | _ => none }
def unitsJoinsRow : OpenClaim := { program := "ythmdlnmbjgokaaadoor", sum := "aab1af5a2c220443c3f19ec3bc46588da6f1bd18ebb504d0e21498123f6e5163", func := "lintel/lintellaw01.UnitsJoins", spec := "unitsJoins", inPlace := ["internal/abi.NoEscape"], unfollowed := true, recurses := true, named := ["unicode/utf8.first", "unicode/utf8.acceptRanges"], apart := false, laid := [("unicode/utf8.acceptRanges", laid_unicode_utf8_acceptRanges), ("unicode/utf8.first", laid_unicode_utf8_first)] }
def UnitsJoinsSaid : Prop := unitsJoinsRow.holds Tryd.pinned (OpenSpec.ofChange unitsJoinsSpec)

/-- ITS FALSE NEIGHBOUR: 'it returns false'. Refute it at one input. -/
def unitsJoinsWrong : ChangeSpec := { name := "unitsJoins", fn := fun _ => fun
  | [d1, d2, d3] => { results := [.lit (.bool false)], args := [d1, d2, d3] }
  | _ => none }
def UnitsJoinsWrongFalsely : Prop := unitsJoinsRow.holds Tryd.pinned (OpenSpec.ofChange unitsJoinsWrong)

/-- 'lintellaw01.UnitsPieces': WHATEVER THE INPUT: true; the input reads as it did. -/
def unitsPiecesSpec : ChangeSpec := { name := "unitsPieces", fn := fun _ => fun
  | [d1, d2, d3, d4] => { results := [.lit (.bool true)], args := [d1, d2, d3, d4] }
  | _ => none }
def unitsPiecesRow : OpenClaim := { program := "ythmdlnmbjgokaaadoor", sum := "aab1af5a2c220443c3f19ec3bc46588da6f1bd18ebb504d0e21498123f6e5163", func := "lintel/lintellaw01.UnitsPieces", spec := "unitsPieces", inPlace := ["internal/abi.NoEscape"], unfollowed := true, recurses := true, named := ["unicode/utf8.first", "unicode/utf8.acceptRanges"], apart := false, laid := [("unicode/utf8.acceptRanges", laid_unicode_utf8_acceptRanges), ("unicode/utf8.first", laid_unicode_utf8_first)] }
def UnitsPiecesSaid : Prop := unitsPiecesRow.holds Tryd.pinned (OpenSpec.ofChange unitsPiecesSpec)

/-- ITS FALSE NEIGHBOUR: 'it returns false'. Refute it at one input. -/
def unitsPiecesWrong : ChangeSpec := { name := "unitsPieces", fn := fun _ => fun
  | [d1, d2, d3, d4] => { results := [.lit (.bool false)], args := [d1, d2, d3, d4] }
  | _ => none }
def UnitsPiecesWrongFalsely : Prop := unitsPiecesRow.holds Tryd.pinned (OpenSpec.ofChange unitsPiecesWrong)

/-- 'lintellaw01.UnitsOrder': WHATEVER THE INPUT: true; the input reads as it did. -/
def unitsOrderSpec : ChangeSpec := { name := "unitsOrder", fn := fun _ => fun
  | [d1, d2] => { results := [.lit (.bool true)], args := [d1, d2] }
  | _ => none }
def unitsOrderRow : OpenClaim := { program := "ythmdlnmbjgokaaadoor", sum := "aab1af5a2c220443c3f19ec3bc46588da6f1bd18ebb504d0e21498123f6e5163", func := "lintel/lintellaw01.UnitsOrder", spec := "unitsOrder", inPlace := ["internal/abi.NoEscape"], unfollowed := true, recurses := true, named := ["unicode/utf8.first", "unicode/utf8.acceptRanges"], apart := false, laid := [("unicode/utf8.acceptRanges", laid_unicode_utf8_acceptRanges), ("unicode/utf8.first", laid_unicode_utf8_first)] }
def UnitsOrderSaid : Prop := unitsOrderRow.holds Tryd.pinned (OpenSpec.ofChange unitsOrderSpec)

/-- ITS FALSE NEIGHBOUR: 'it returns false'. Refute it at one input. -/
def unitsOrderWrong : ChangeSpec := { name := "unitsOrder", fn := fun _ => fun
  | [d1, d2] => { results := [.lit (.bool false)], args := [d1, d2] }
  | _ => none }
def UnitsOrderWrongFalsely : Prop := unitsOrderRow.holds Tryd.pinned (OpenSpec.ofChange unitsOrderWrong)

/-- 'lintellaw01.UnitsFinds': WHATEVER THE INPUT: true; the input reads as it did. -/
def unitsFindsSpec : ChangeSpec := { name := "unitsFinds", fn := fun _ => fun
  | [d1, d2, d3] => { results := [.lit (.bool true)], args := [d1, d2, d3] }
  | _ => none }
def unitsFindsRow : OpenClaim := { program := "ythmdlnmbjgokaaadoor", sum := "aab1af5a2c220443c3f19ec3bc46588da6f1bd18ebb504d0e21498123f6e5163", func := "lintel/lintellaw01.UnitsFinds", spec := "unitsFinds", inPlace := ["internal/abi.NoEscape"], unfollowed := true, recurses := true, named := ["unicode/utf8.first", "unicode/utf8.acceptRanges"], apart := false, laid := [("unicode/utf8.acceptRanges", laid_unicode_utf8_acceptRanges), ("unicode/utf8.first", laid_unicode_utf8_first)] }
def UnitsFindsSaid : Prop := unitsFindsRow.holds Tryd.pinned (OpenSpec.ofChange unitsFindsSpec)

/-- ITS FALSE NEIGHBOUR: 'it returns false'. Refute it at one input. -/
def unitsFindsWrong : ChangeSpec := { name := "unitsFinds", fn := fun _ => fun
  | [d1, d2, d3] => { results := [.lit (.bool false)], args := [d1, d2, d3] }
  | _ => none }
def UnitsFindsWrongFalsely : Prop := unitsFindsRow.holds Tryd.pinned (OpenSpec.ofChange unitsFindsWrong)

/- THE SECOND FORM. 'bulk': how many values and letters a reading holds, each counted each time it is reached (what is shared counts as often as it is met; a slice's spare places count too). A statement '..UptoSaid' is the law's where the arguments, and the package variables that the reading takes, are together of bulk at most 1048576: NARROWER than '..Said'. Prove '..Said' where nothing that the law and all that it calls make is longer than what came in: it says more and counts as full. Else prove '..UptoSaid'. A law counts once. -/
mutual
def uptoBulk {H : Type} : DataW H → Nat
  | .lit (.string bytes) => bytes.length + 1
  | .lit _ => 1
  | .nil => 1
  | .ptr d => uptoBulk d + 1
  | .slice elems spare => uptoBulkAll elems + uptoBulkAll spare + 1
  | .agg parts => uptoBulkAll parts + 1
  | .iface _ d => uptoBulk d + 1
  | .map entries => uptoBulkEntries entries + 1
  | .held _ => 1
def uptoBulkAll {H : Type} : List (DataW H) → Nat
  | [] => 0
  | d :: r => uptoBulk d + uptoBulkAll r
def uptoBulkEntries {H : Type} : List (Lit × DataW H) → Nat
  | [] => 0
  | x :: r => uptoBulkEntry x + uptoBulkEntries r
def uptoBulkEntry {H : Type} : Lit × DataW H → Nat
  | (.string bytes, d) => bytes.length + uptoBulk d + 1
  | (_, d) => uptoBulk d + 1
 end
def uptoSmall : (H : Type) → List (DataW H) → Bool := fun _ ds => decide (uptoBulkAll ds ≤ 1048576)
def OpenSpec.upto (s : _root_.Go.ChangeSpec) : _root_.Go.OpenSpec := { _root_.Go.OpenSpec.ofChange s with cond := some uptoSmall }

/-- 'lintellaw01.UnitsReads', WHERE WHAT IT READS IS OF BULK AT MOST 1048576: true; the input reads as it did. -/
def unitsReadsUptoRow : OpenClaim := { program := "ythmdlnmbjgokaaadoor", sum := "aab1af5a2c220443c3f19ec3bc46588da6f1bd18ebb504d0e21498123f6e5163", func := "lintel/lintellaw01.UnitsReads", spec := "unitsReads", inPlace := ["internal/abi.NoEscape"], unfollowed := true, recurses := true, named := ["unicode/utf8.first", "unicode/utf8.acceptRanges"], apart := false, laid := [("unicode/utf8.acceptRanges", laid_unicode_utf8_acceptRanges), ("unicode/utf8.first", laid_unicode_utf8_first)], narrowed := true }
def UnitsReadsUptoSaid : Prop := unitsReadsUptoRow.holds Tryd.pinned (OpenSpec.upto unitsReadsSpec)

/-- 'lintellaw01.UnitsPoints', WHERE WHAT IT READS IS OF BULK AT MOST 1048576: true; the input reads as it did. -/
def unitsPointsUptoRow : OpenClaim := { program := "ythmdlnmbjgokaaadoor", sum := "aab1af5a2c220443c3f19ec3bc46588da6f1bd18ebb504d0e21498123f6e5163", func := "lintel/lintellaw01.UnitsPoints", spec := "unitsPoints", inPlace := ["internal/abi.NoEscape"], unfollowed := true, recurses := true, named := ["unicode/utf8.first", "unicode/utf8.acceptRanges"], apart := false, laid := [("unicode/utf8.acceptRanges", laid_unicode_utf8_acceptRanges), ("unicode/utf8.first", laid_unicode_utf8_first)], narrowed := true }
def UnitsPointsUptoSaid : Prop := unitsPointsUptoRow.holds Tryd.pinned (OpenSpec.upto unitsPointsSpec)

/-- 'lintellaw01.UnitsBack', WHERE WHAT IT READS IS OF BULK AT MOST 1048576: true; the input reads as it did. -/
def unitsBackUptoRow : OpenClaim := { program := "ythmdlnmbjgokaaadoor", sum := "aab1af5a2c220443c3f19ec3bc46588da6f1bd18ebb504d0e21498123f6e5163", func := "lintel/lintellaw01.UnitsBack", spec := "unitsBack", inPlace := ["internal/abi.NoEscape"], unfollowed := true, recurses := true, named := ["unicode/utf8.first", "unicode/utf8.acceptRanges"], apart := false, laid := [("unicode/utf8.acceptRanges", laid_unicode_utf8_acceptRanges), ("unicode/utf8.first", laid_unicode_utf8_first)], narrowed := true }
def UnitsBackUptoSaid : Prop := unitsBackUptoRow.holds Tryd.pinned (OpenSpec.upto unitsBackSpec)

/-- 'lintellaw01.UnitsJoins', WHERE WHAT IT READS IS OF BULK AT MOST 1048576: true; the input reads as it did. -/
def unitsJoinsUptoRow : OpenClaim := { program := "ythmdlnmbjgokaaadoor", sum := "aab1af5a2c220443c3f19ec3bc46588da6f1bd18ebb504d0e21498123f6e5163", func := "lintel/lintellaw01.UnitsJoins", spec := "unitsJoins", inPlace := ["internal/abi.NoEscape"], unfollowed := true, recurses := true, named := ["unicode/utf8.first", "unicode/utf8.acceptRanges"], apart := false, laid := [("unicode/utf8.acceptRanges", laid_unicode_utf8_acceptRanges), ("unicode/utf8.first", laid_unicode_utf8_first)], narrowed := true }
def UnitsJoinsUptoSaid : Prop := unitsJoinsUptoRow.holds Tryd.pinned (OpenSpec.upto unitsJoinsSpec)

/-- 'lintellaw01.UnitsPieces', WHERE WHAT IT READS IS OF BULK AT MOST 1048576: true; the input reads as it did. -/
def unitsPiecesUptoRow : OpenClaim := { program := "ythmdlnmbjgokaaadoor", sum := "aab1af5a2c220443c3f19ec3bc46588da6f1bd18ebb504d0e21498123f6e5163", func := "lintel/lintellaw01.UnitsPieces", spec := "unitsPieces", inPlace := ["internal/abi.NoEscape"], unfollowed := true, recurses := true, named := ["unicode/utf8.first", "unicode/utf8.acceptRanges"], apart := false, laid := [("unicode/utf8.acceptRanges", laid_unicode_utf8_acceptRanges), ("unicode/utf8.first", laid_unicode_utf8_first)], narrowed := true }
def UnitsPiecesUptoSaid : Prop := unitsPiecesUptoRow.holds Tryd.pinned (OpenSpec.upto unitsPiecesSpec)

/-- 'lintellaw01.UnitsOrder', WHERE WHAT IT READS IS OF BULK AT MOST 1048576: true; the input reads as it did. -/
def unitsOrderUptoRow : OpenClaim := { program := "ythmdlnmbjgokaaadoor", sum := "aab1af5a2c220443c3f19ec3bc46588da6f1bd18ebb504d0e21498123f6e5163", func := "lintel/lintellaw01.UnitsOrder", spec := "unitsOrder", inPlace := ["internal/abi.NoEscape"], unfollowed := true, recurses := true, named := ["unicode/utf8.first", "unicode/utf8.acceptRanges"], apart := false, laid := [("unicode/utf8.acceptRanges", laid_unicode_utf8_acceptRanges), ("unicode/utf8.first", laid_unicode_utf8_first)], narrowed := true }
def UnitsOrderUptoSaid : Prop := unitsOrderUptoRow.holds Tryd.pinned (OpenSpec.upto unitsOrderSpec)

/-- 'lintellaw01.UnitsFinds', WHERE WHAT IT READS IS OF BULK AT MOST 1048576: true; the input reads as it did. -/
def unitsFindsUptoRow : OpenClaim := { program := "ythmdlnmbjgokaaadoor", sum := "aab1af5a2c220443c3f19ec3bc46588da6f1bd18ebb504d0e21498123f6e5163", func := "lintel/lintellaw01.UnitsFinds", spec := "unitsFinds", inPlace := ["internal/abi.NoEscape"], unfollowed := true, recurses := true, named := ["unicode/utf8.first", "unicode/utf8.acceptRanges"], apart := false, laid := [("unicode/utf8.acceptRanges", laid_unicode_utf8_acceptRanges), ("unicode/utf8.first", laid_unicode_utf8_first)], narrowed := true }
def UnitsFindsUptoSaid : Prop := unitsFindsUptoRow.holds Tryd.pinned (OpenSpec.upto unitsFindsSpec)

end Rows
end Go.Proofs.YthmdlnmbjgokaaaDoor
