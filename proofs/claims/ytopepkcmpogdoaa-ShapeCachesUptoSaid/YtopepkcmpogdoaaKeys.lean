/- The two kinds of keys of package shape's maps. -/
import Derived.Test.YtopepkcmpogdoaaMapK
import Derived.DeepKeys4
namespace Go.Proofs.Ytopepkcmpogdoaa
open Go.RowKit
open Go.Maps (Keyed)
set_option maxRecDepth 100000

theorem Try.laidOut : laidOutB Try.prog = true := by kernel_rfl

/-- a key: its name and its symbol -/
abbrev KK := ByteArray × Int
def encK (x : KK) : Value := .agg #[.string x.1, .int .i64 x.2]
def okK (x : KK) : Prop := x.1.size ≤ maxLen ∧ (Lit.int .i64 x.2).wf = true

theorem keyTypeK : Try.prog.keyType 30 = true := by kernel_rfl
theorem cellsK : Try.prog.cellsOf 30 = 2 := by kernel_rfl
theorem cellsStr : Try.prog.cellsOf 28 = 1 := by kernel_rfl
theorem cellsInt : Try.prog.cellsOf 3 = 1 := by kernel_rfl
theorem cellsBool : Try.prog.cellsOf 4 = 1 := by kernel_rfl
theorem rowK : (30 : TypeId) < Try.prog.types.size := of_decide_eq_true (by kernel_rfl)
theorem deepK : Try.prog.keyTypeAt (Try.prog.types.size + 1) 30 = true := by kernel_rfl
theorem wideK : (match Try.prog.underlying 30 with | some (.array _ _) | some (.struct _) => true | _ => false) = true := by kernel_rfl
theorem lawK : WideMaps.KeyLaw Try.prog 30 := deep_law_laid Try.laidOut (m := 3) (by omega) rowK (by kernel_rfl) wideK
theorem zero_int (w : World) : (zeroValue 3).run Try.prog w = .ok (.int .i64 0) w := by kernel_rfl

theorem sizeT : ∃ n, Try.prog.types.size = n + 3 := ⟨Try.prog.types.size - 3, by have h : 30 < Try.prog.types.size := rowK; omega⟩

theorem readsK (x : KK) (h : okK x) : ∃ kl, keyOf Try.prog 30 (encK x) = some kl := by
  obtain ⟨n, s⟩ := x
  obtain ⟨h1, h2⟩ := h
  simp only at h1 h2
  obtain ⟨m, hm⟩ := sizeT
  unfold keyOf encK
  simp only [Try.underlying30, keyTypeK, hm]
  have hf : (Value.agg #[.string n, .int .i64 s]).formed Try.prog 30 = true := by simp [Value.formed, Try.underlying30, cellsK]
  rw [hf]
  simp [Program.keyLits, Try.underlying30, Try.underlying28, Try.underlying3, cellsK, cellsStr, cellsInt, Value.cells, h1, h2]

theorem encK_inj (x y : KK) (h : encK x = encK y) : x = y := by
  obtain ⟨n, s⟩ := x
  obtain ⟨n', s'⟩ := y
  simp [encK] at h
  simp [h]

theorem KeyE : KeyEnc Try.prog 30 3 72 encK okK where
  keyed := Keyed.of_law lawK
  mapT := Try.underlying72
  elemT := Try.underlying3
  zero := zero_int
  reads := readsK
  inj := encK_inj

/-- a way: from, change, name, symbol, flags -/
abbrev WK := Int × Bool × ByteArray × Int × Int
def encW (x : WK) : Value := .agg #[.int .i64 x.1, .bool x.2.1, .string x.2.2.1, .int .i64 x.2.2.2.1, .int .i64 x.2.2.2.2]
def okW (x : WK) : Prop := (Lit.int .i64 x.1).wf = true ∧ x.2.2.1.size ≤ maxLen ∧ (Lit.int .i64 x.2.2.2.1).wf = true ∧ (Lit.int .i64 x.2.2.2.2).wf = true
theorem keyTypeW : Try.prog.keyType 81 = true := by kernel_rfl
theorem cellsW : Try.prog.cellsOf 81 = 5 := by kernel_rfl
theorem rowW : (81 : TypeId) < Try.prog.types.size := of_decide_eq_true (by kernel_rfl)
theorem wideW : (match Try.prog.underlying 81 with | some (.array _ _) | some (.struct _) => true | _ => false) = true := by kernel_rfl
theorem lawW : WideMaps.KeyLaw Try.prog 81 := deep_law_laid Try.laidOut (m := 4) (by omega) rowW (by kernel_rfl) wideW
theorem readsW (x : WK) (h : okW x) : ∃ kl, keyOf Try.prog 81 (encW x) = some kl := by
  obtain ⟨a, b, n, s, f⟩ := x
  obtain ⟨h1, h2, h3, h4⟩ := h
  simp only at h1 h2 h3 h4
  obtain ⟨m, hm⟩ := sizeT
  unfold keyOf encW
  simp only [Try.underlying81, keyTypeW, hm]
  have hf : (Value.agg #[.int .i64 a, .bool b, .string n, .int .i64 s, .int .i64 f]).formed Try.prog 81 = true := by simp [Value.formed, Try.underlying81, cellsW]
  rw [hf]
  simp [Program.keyLits, Try.underlying81, Try.underlying30, Try.underlying28, Try.underlying3, Try.underlying4, cellsW, cellsK, cellsStr, cellsInt, cellsBool, Value.cells, h1, h2, h3, h4]
  rw [if_pos (by intro i hi; match i, hi with | 0, _ => simp | 1, _ => simp)]
  simp
theorem encW_inj (x y : WK) (h : encW x = encW y) : x = y := by
  obtain ⟨a, b, n, s, f⟩ := x
  obtain ⟨a', b', n', s', f'⟩ := y
  simp [encW] at h
  simp [h]
theorem WayE : KeyEnc Try.prog 81 3 59 encW okW where
  keyed := Keyed.of_law lawW
  mapT := Try.underlying59
  elemT := Try.underlying3
  zero := zero_int
  reads := readsW
  inj := encW_inj
end Go.Proofs.Ytopepkcmpogdoaa
