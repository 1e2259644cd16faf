/-
  No cell of these rows narrows 'for every input' (looked for: loops, veiled, ifaces, maps, wideKeys, modest, calm, conditions, laid).
  DERIVED. THE GIVEN ROWS OF THIS SEAT. 4 by the template 'for every input the law returns true; each argument reads behind the call as it read before'; 0 by the template 'total and deterministic' (their statements: YtopepkcmpogdoaaTotals.lean).
  GIVEN WITH THE SEED: the statements are not yours to turn. If you find one false, say at which input.
  Laid BY PROGRAM, IN A SANDBOX (cutbox-rows.mjs): the forced cells as the released guide's own fill.sh prints them over the translation c209358859cb06fb… (all of the seat's roots in one cut). By AI agents, Wed Nov 11 2026. No macro, syntax, notation, axiom, sorry.
-/
import Derived.Test.YtopepkcmpogdoaaChecked
import GoSem.Claim
import GoSem.ClaimJoined
import GoSem.ClaimMapViews
import Derived.JoinedTies
import Derived.KernelRfl
namespace Go.Proofs.Ytopepkcmpogdoaa
/- THE CELL 'sum', in the pinned program and in every row, IS THE sha256 OF THE DUMP (.gsa) THAT YtopepkcmpogdoaaProg.lean LOADS. Nothing in Lean hashes anything: it is a label: what it is worth is what the hold of that sum in a sandbox is worth. -/
noncomputable def Try.pinned : Pinned := { name := "ytopepkcmpogdoaa", sum := "c209358859cb06fbf1fed3460ce2ef7bad70e7c290a1260a2ceb03515b140a76", checked := Try.checked }
namespace Rows
def none {H : Type} : Left H := { results := [], args := [] }

/-- 'lintellaw14.ShapeShares': WHATEVER THE INPUT: true; the input reads as it did. -/
def shapeSharesSpec : ChangeSpec := { name := "shapeShares", fn := fun _ => fun
  | [d] => { results := [.lit (.bool true)], args := [d] }
  | _ => none }
def shapeSharesRow : OpenClaim := { program := "ytopepkcmpogdoaa", sum := "c209358859cb06fbf1fed3460ce2ef7bad70e7c290a1260a2ceb03515b140a76", func := "lintel/lintellaw14.ShapeShares", spec := "shapeShares", unfollowed := true, recurses := true, plainKeys := false, apart := false }
def ShapeSharesSaid : Prop := shapeSharesRow.holds Try.pinned (OpenSpec.ofChange shapeSharesSpec)

/-- ITS FALSE NEIGHBOUR: 'it returns false'. Refute it at one input. -/
def shapeSharesWrong : ChangeSpec := { name := "shapeShares", fn := fun _ => fun
  | [d] => { results := [.lit (.bool false)], args := [d] }
  | _ => none }
def ShapeSharesWrongFalsely : Prop := shapeSharesRow.holds Try.pinned (OpenSpec.ofChange shapeSharesWrong)

/-- 'lintellaw14.ShapeDoes': WHATEVER THE INPUT: true; the input reads as it did. -/
def shapeDoesSpec : ChangeSpec := { name := "shapeDoes", fn := fun _ => fun
  | [d] => { results := [.lit (.bool true)], args := [d] }
  | _ => none }
def shapeDoesRow : OpenClaim := { program := "ytopepkcmpogdoaa", sum := "c209358859cb06fbf1fed3460ce2ef7bad70e7c290a1260a2ceb03515b140a76", func := "lintel/lintellaw14.ShapeDoes", spec := "shapeDoes", unfollowed := true, recurses := true, plainKeys := false, apart := false }
def ShapeDoesSaid : Prop := shapeDoesRow.holds Try.pinned (OpenSpec.ofChange shapeDoesSpec)

/-- ITS FALSE NEIGHBOUR: 'it returns false'. Refute it at one input. -/
def shapeDoesWrong : ChangeSpec := { name := "shapeDoes", fn := fun _ => fun
  | [d] => { results := [.lit (.bool false)], args := [d] }
  | _ => none }
def ShapeDoesWrongFalsely : Prop := shapeDoesRow.holds Try.pinned (OpenSpec.ofChange shapeDoesWrong)

/-- 'lintellaw14.ShapeCaches': WHATEVER THE INPUT: true; the input reads as it did. -/
def shapeCachesSpec : ChangeSpec := { name := "shapeCaches", fn := fun _ => fun
  | [d] => { results := [.lit (.bool true)], args := [d] }
  | _ => none }
def shapeCachesRow : OpenClaim := { program := "ytopepkcmpogdoaa", sum := "c209358859cb06fbf1fed3460ce2ef7bad70e7c290a1260a2ceb03515b140a76", func := "lintel/lintellaw14.ShapeCaches", spec := "shapeCaches", inPlace := ["sync/atomic.AddInt64", "sync/atomic.LoadInt64"], plainKeys := false, apart := false }
def ShapeCachesSaid : Prop := shapeCachesRow.holds Try.pinned (OpenSpec.ofChange shapeCachesSpec)

/-- ITS FALSE NEIGHBOUR: 'it returns false'. Refute it at one input. -/
def shapeCachesWrong : ChangeSpec := { name := "shapeCaches", fn := fun _ => fun
  | [d] => { results := [.lit (.bool false)], args := [d] }
  | _ => none }
def ShapeCachesWrongFalsely : Prop := shapeCachesRow.holds Try.pinned (OpenSpec.ofChange shapeCachesWrong)

/-- 'lintellaw14.ShapeNone': WHATEVER THE INPUT: true; the input reads as it did. -/
def shapeNoneSpec : ChangeSpec := { name := "shapeNone", fn := fun _ => fun
  | [d1, d2] => { results := [.lit (.bool true)], args := [d1, d2] }
  | _ => none }
def shapeNoneRow : OpenClaim := { program := "ytopepkcmpogdoaa", sum := "c209358859cb06fbf1fed3460ce2ef7bad70e7c290a1260a2ceb03515b140a76", func := "lintel/lintellaw14.ShapeNone", spec := "shapeNone", inPlace := ["sync/atomic.AddInt64", "sync/atomic.LoadInt64"], unfollowed := true, recurses := true, plainKeys := false, apart := false }
def ShapeNoneSaid : Prop := shapeNoneRow.holds Try.pinned (OpenSpec.ofChange shapeNoneSpec)

/-- ITS FALSE NEIGHBOUR: 'it returns false'. Refute it at one input. -/
def shapeNoneWrong : ChangeSpec := { name := "shapeNone", fn := fun _ => fun
  | [d1, d2] => { results := [.lit (.bool false)], args := [d1, d2] }
  | _ => none }
def ShapeNoneWrongFalsely : Prop := shapeNoneRow.holds Try.pinned (OpenSpec.ofChange shapeNoneWrong)

/- THE SECOND FORM. 'bulk': how many values and letters a reading holds, each counted each time it is reached (what is shared counts as often as it is met; a slice's spare places count too). A statement '..UptoSaid' is the law's where the arguments, and the package variables that the reading takes, are together of bulk at most 1048576: NARROWER than '..Said'. Prove '..Said' where nothing that the law and all that it calls make is longer than what came in: it says more and counts as full. Else prove '..UptoSaid'. A law counts once. -/
mutual
def uptoBulk {H : Type} : DataW H → Nat
  | .lit (.string bytes) => bytes.length + 1
  | .lit _ => 1
  | .nil => 1
  | .ptr d => uptoBulk d + 1
  | .slice elems spare => uptoBulkAll elems + uptoBulkAll spare + 1
  | .agg parts => uptoBulkAll parts + 1
  | .iface _ d => uptoBulk d + 1
  | .map entries => uptoBulkEntries entries + 1
  | .held _ => 1
def uptoBulkAll {H : Type} : List (DataW H) → Nat
  | [] => 0
  | d :: r => uptoBulk d + uptoBulkAll r
def uptoBulkEntries {H : Type} : List (Lit × DataW H) → Nat
  | [] => 0
  | x :: r => uptoBulkEntry x + uptoBulkEntries r
def uptoBulkEntry {H : Type} : Lit × DataW H → Nat
  | (.string bytes, d) => bytes.length + uptoBulk d + 1
  | (_, d) => uptoBulk d + 1
 end
def uptoSmall : (H : Type) → List (DataW H) → Bool := fun _ ds => decide (uptoBulkAll ds ≤ 1048576)
def OpenSpec.upto (s : _root_.Go.ChangeSpec) : _root_.Go.OpenSpec := { _root_.Go.OpenSpec.ofChange s with cond := some uptoSmall }

/-- 'lintellaw14.ShapeShares', WHERE WHAT IT READS IS OF BULK AT MOST 1048576: true; the input reads as it did. -/
def shapeSharesUptoRow : OpenClaim := { program := "ytopepkcmpogdoaa", sum := "c209358859cb06fbf1fed3460ce2ef7bad70e7c290a1260a2ceb03515b140a76", func := "lintel/lintellaw14.ShapeShares", spec := "shapeShares", unfollowed := true, recurses := true, plainKeys := false, apart := false, narrowed := true }
def ShapeSharesUptoSaid : Prop := shapeSharesUptoRow.holds Try.pinned (OpenSpec.upto shapeSharesSpec)

/-- 'lintellaw14.ShapeDoes', WHERE WHAT IT READS IS OF BULK AT MOST 1048576: true; the input reads as it did. -/
def shapeDoesUptoRow : OpenClaim := { program := "ytopepkcmpogdoaa", sum := "c209358859cb06fbf1fed3460ce2ef7bad70e7c290a1260a2ceb03515b140a76", func := "lintel/lintellaw14.ShapeDoes", spec := "shapeDoes", unfollowed := true, recurses := true, plainKeys := false, apart := false, narrowed := true }
def ShapeDoesUptoSaid : Prop := shapeDoesUptoRow.holds Try.pinned (OpenSpec.upto shapeDoesSpec)

/-- 'lintellaw14.ShapeCaches', WHERE WHAT IT READS IS OF BULK AT MOST 1048576: true; the input reads as it did. -/
def shapeCachesUptoRow : OpenClaim := { program := "ytopepkcmpogdoaa", sum := "c209358859cb06fbf1fed3460ce2ef7bad70e7c290a1260a2ceb03515b140a76", func := "lintel/lintellaw14.ShapeCaches", spec := "shapeCaches", inPlace := ["sync/atomic.AddInt64", "sync/atomic.LoadInt64"], plainKeys := false, apart := false, narrowed := true }
def ShapeCachesUptoSaid : Prop := shapeCachesUptoRow.holds Try.pinned (OpenSpec.upto shapeCachesSpec)

/-- 'lintellaw14.ShapeNone', WHERE WHAT IT READS IS OF BULK AT MOST 1048576: true; the input reads as it did. -/
def shapeNoneUptoRow : OpenClaim := { program := "ytopepkcmpogdoaa", sum := "c209358859cb06fbf1fed3460ce2ef7bad70e7c290a1260a2ceb03515b140a76", func := "lintel/lintellaw14.ShapeNone", spec := "shapeNone", inPlace := ["sync/atomic.AddInt64", "sync/atomic.LoadInt64"], unfollowed := true, recurses := true, plainKeys := false, apart := false, narrowed := true }
def ShapeNoneUptoSaid : Prop := shapeNoneUptoRow.holds Try.pinned (OpenSpec.upto shapeNoneSpec)

end Rows
end Go.Proofs.Ytopepkcmpogdoaa
