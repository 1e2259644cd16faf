/- A module as data, and in memory. -/
import Derived.Test.YtoihoackmkapaaaDoorMem
namespace Go.Proofs.YtoihoackmkapaaaDoor
open Go.RowKit
set_option maxHeartbeats 4000000
set_option maxRecDepth 100000

theorem store_floatK {P : Program} {w : World} {a : Addr} {m : Mode} (k : FloatKind) (n : Nat) : (store a (.float k n) m).run P w = stored P w a (.float k n) m := run_store P w a _ m rfl
abbrev InsT := Int × Int × Int × Int × Int
abbrev TryT := Int × Int × Int × Int
abbrev CapT := Bool × Int
abbrev ValT := Int × Nat × ByteArray × Int
structure FnT where
  name : ByteArray
  params : Int
  rest : Bool
  arrow : Bool
  regs : Int
  consts : List ValT
  code : List InsT
  tries : List TryT
  caps : List CapT
  cA : Option Addr
  cC : Nat
  kA : Option Addr
  kC : Nat
  tA : Option Addr
  tC : Nat
  uA : Option Addr
  uC : Nat
def insC (i : InsT) : List Value := [.int .i64 i.1, .int .i64 i.2.1, .int .i64 i.2.2.1, .int .i64 i.2.2.2.1, .int .i64 i.2.2.2.2]
def tryC (i : TryT) : List Value := [.int .i64 i.1, .int .i64 i.2.1, .int .i64 i.2.2.1, .int .i64 i.2.2.2]
def capC (i : CapT) : List Value := [.bool i.1, .int .i64 i.2]
def valC (v : ValT) : List Value := [.int .i64 v.1, .float .f64 v.2.1, .string v.2.2.1, .int .i64 v.2.2.2]
def fnC (f : FnT) : List Value := [.string f.name, .int .i64 f.params, .bool f.rest, .bool f.arrow, .int .i64 f.regs, .slice f.cA f.consts.length f.cC, .slice f.kA f.code.length f.kC, .slice f.tA f.tries.length f.tC, .slice f.uA f.caps.length f.uC]
/-- rows of sz cells each, one behind the other -/
def Row (w : World) (B : Nat) (A : Option Addr) (sz : Nat) (rows : List (List Value)) : Prop := ∀ k r, rows[k]? = some r → ∃ b off, A = some ⟨b, off, none⟩ ∧ b < B ∧ ∀ j u, r[j]? = some u → w.cell? ⟨b, off + k * sz + j, none⟩ = some u
theorem Row.below {w w' : World} {B B' sz : Nat} {A : Option Addr} {rows : List (List Value)} (h : Row w B A sz rows) (hb : Below B w w') (hB : B ≤ B') : Row w' B' A sz rows := fun k r hr => by
  obtain ⟨b, off, hA, hlt, hc⟩ := h k r hr
  exact ⟨b, off, hA, by omega, fun j u hu => (hb.cell (p := ⟨b, off + k * sz + j, none⟩) hlt).trans (hc j u hu)⟩
structure FnIn (w : World) (B : Nat) (f : FnT) : Prop where
  cr : Row w B f.cA 4 (f.consts.map valC)
  kr : Row w B f.kA 5 (f.code.map insC)
  tr : Row w B f.tA 4 (f.tries.map tryC)
  ur : Row w B f.uA 2 (f.caps.map capC)
  tc : f.tries.length ≤ f.tC
  rg : f.regs ≤ 9223372036854775807
  pl : -9223372036854775808 ≤ f.params ∧ f.params ≤ 9223372036854775807
structure ModIn (w : World) (B : Nat) (A : Option Addr) (fns : List FnT) : Prop where
  rows : Row w B A 9 (fns.map fnC)
  each : ∀ f ∈ fns, FnIn w B f
theorem FnIn.below {w w' : World} {B B' : Nat} {f : FnT} (h : FnIn w B f) (hb : Below B w w') (hB : B ≤ B') : FnIn w' B' f :=
  ⟨h.cr.below hb hB, h.kr.below hb hB, h.tr.below hb hB, h.ur.below hb hB, h.tc, h.rg, h.pl⟩
theorem ModIn.below {w w' : World} {B B' : Nat} {A : Option Addr} {fns : List FnT} (h : ModIn w B A fns) (hb : Below B w w') (hB : B ≤ B') : ModIn w' B' A fns :=
  ⟨h.rows.below hb hB, fun f hf => (h.each f hf).below hb hB⟩
theorem ModIn.at_ {w : World} {B : Nat} {A : Option Addr} {fns : List FnT} (h : ModIn w B A fns) {k : Nat} {f : FnT} (hk : fns[k]? = some f) : ∃ b off, A = some ⟨b, off, none⟩ ∧ b < B ∧
    (w.cell? ⟨b, off + k * 9, none⟩ = some (.string f.name) ∧ w.cell? ⟨b, off + k * 9 + 1, none⟩ = some (.int .i64 f.params) ∧ w.cell? ⟨b, off + k * 9 + 2, none⟩ = some (.bool f.rest) ∧ w.cell? ⟨b, off + k * 9 + 3, none⟩ = some (.bool f.arrow) ∧
      w.cell? ⟨b, off + k * 9 + 4, none⟩ = some (.int .i64 f.regs) ∧ w.cell? ⟨b, off + k * 9 + 5, none⟩ = some (.slice f.cA f.consts.length f.cC) ∧ w.cell? ⟨b, off + k * 9 + 6, none⟩ = some (.slice f.kA f.code.length f.kC) ∧
      w.cell? ⟨b, off + k * 9 + 7, none⟩ = some (.slice f.tA f.tries.length f.tC) ∧ w.cell? ⟨b, off + k * 9 + 8, none⟩ = some (.slice f.uA f.caps.length f.uC)) := by
  obtain ⟨b, off, hA, hlt, hc⟩ := h.rows k (fnC f) (by rw [List.getElem?_map, hk]; rfl)
  exact ⟨b, off, hA, hlt, hc 0 _ rfl, hc 1 _ rfl, hc 2 _ rfl, hc 3 _ rfl, hc 4 _ rfl, hc 5 _ rfl, hc 6 _ rfl, hc 7 _ rfl, hc 8 _ rfl⟩
theorem Row.ins {w : World} {B : Nat} {A : Option Addr} {l : List InsT} (h : Row w B A 5 (l.map insC)) {k : Nat} {i : InsT} (hk : l[k]? = some i) : ∃ b off, A = some ⟨b, off, none⟩ ∧ b < B ∧
    (w.cell? ⟨b, off + k * 5, none⟩ = some (.int .i64 i.1) ∧ w.cell? ⟨b, off + k * 5 + 1, none⟩ = some (.int .i64 i.2.1) ∧ w.cell? ⟨b, off + k * 5 + 2, none⟩ = some (.int .i64 i.2.2.1) ∧ w.cell? ⟨b, off + k * 5 + 3, none⟩ = some (.int .i64 i.2.2.2.1) ∧ w.cell? ⟨b, off + k * 5 + 4, none⟩ = some (.int .i64 i.2.2.2.2)) := by
  obtain ⟨b, off, hA, hlt, hc⟩ := h k (insC i) (by rw [List.getElem?_map, hk]; rfl)
  exact ⟨b, off, hA, hlt, hc 0 _ rfl, hc 1 _ rfl, hc 2 _ rfl, hc 3 _ rfl, hc 4 _ rfl⟩
theorem Row.try_ {w : World} {B : Nat} {A : Option Addr} {l : List TryT} (h : Row w B A 4 (l.map tryC)) {k : Nat} {i : TryT} (hk : l[k]? = some i) : ∃ b off, A = some ⟨b, off, none⟩ ∧ b < B ∧
    (w.cell? ⟨b, off + k * 4, none⟩ = some (.int .i64 i.1) ∧ w.cell? ⟨b, off + k * 4 + 1, none⟩ = some (.int .i64 i.2.1) ∧ w.cell? ⟨b, off + k * 4 + 2, none⟩ = some (.int .i64 i.2.2.1) ∧ w.cell? ⟨b, off + k * 4 + 3, none⟩ = some (.int .i64 i.2.2.2)) := by
  obtain ⟨b, off, hA, hlt, hc⟩ := h k (tryC i) (by rw [List.getElem?_map, hk]; rfl)
  exact ⟨b, off, hA, hlt, hc 0 _ rfl, hc 1 _ rfl, hc 2 _ rfl, hc 3 _ rfl⟩
theorem Row.val {w : World} {B : Nat} {A : Option Addr} {l : List ValT} (h : Row w B A 4 (l.map valC)) {k : Nat} {i : ValT} (hk : l[k]? = some i) : ∃ b off, A = some ⟨b, off, none⟩ ∧ b < B ∧
    (w.cell? ⟨b, off + k * 4, none⟩ = some (.int .i64 i.1) ∧ w.cell? ⟨b, off + k * 4 + 1, none⟩ = some (.float .f64 i.2.1) ∧ w.cell? ⟨b, off + k * 4 + 2, none⟩ = some (.string i.2.2.1) ∧ w.cell? ⟨b, off + k * 4 + 3, none⟩ = some (.int .i64 i.2.2.2)) := by
  obtain ⟨b, off, hA, hlt, hc⟩ := h k (valC i) (by rw [List.getElem?_map, hk]; rfl)
  exact ⟨b, off, hA, hlt, hc 0 _ rfl, hc 1 _ rfl, hc 2 _ rfl, hc 3 _ rfl⟩
theorem Row.cap {w : World} {B : Nat} {A : Option Addr} {l : List CapT} (h : Row w B A 2 (l.map capC)) {k : Nat} {i : CapT} (hk : l[k]? = some i) : ∃ b off, A = some ⟨b, off, none⟩ ∧ b < B ∧
    (w.cell? ⟨b, off + k * 2, none⟩ = some (.bool i.1) ∧ w.cell? ⟨b, off + k * 2 + 1, none⟩ = some (.int .i64 i.2)) := by
  obtain ⟨b, off, hA, hlt, hc⟩ := h k (capC i) (by rw [List.getElem?_map, hk]; rfl)
  exact ⟨b, off, hA, hlt, hc 0 _ rfl, hc 1 _ rfl⟩

/-- what few counts -/
def fewF (f : FnT) : Nat := f.consts.length + f.code.length + 4 * f.tries.length + f.caps.length
def fewN (l : List FnT) : Nat := l.length + (l.map fewF).sum
theorem fewN_take {l : List FnT} {k : Nat} {f : FnT} (h : l[k]? = some f) : ((l.take (k + 1)).map fewF).sum = ((l.take k).map fewF).sum + fewF f := by
  rw [List.take_add_one, h]
  simp
theorem few_le (l : List FnT) (k : Nat) : ((l.take k).map fewF).sum ≤ (l.map fewF).sum := by
  conv => rhs; rw [← List.take_append_drop k l]
  rw [List.map_append, List.sum_append]
  omega
theorem few_mem {l : List FnT} {f : FnT} (h : f ∈ l) : fewF f ≤ (l.map fewF).sum := by
  induction l with
  | nil => cases h
  | cons x r ih =>
    rw [List.map_cons, List.sum_cons]
    rcases List.mem_cons.1 h with rfl | h
    · omega
    · have := ih h; omega
end Go.Proofs.YtoihoackmkapaaaDoor
