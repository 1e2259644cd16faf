/- A list of nodes as data, and in memory; whether a node's kids stand ahead of it. -/
import Derived.Test.YtgnpgdjjdhlhaaaDoorTOps
import Derived.WalkMore
namespace Go.Proofs.YtgnpgdjjdhlhaaaDoor
open Go.RowKit
set_option maxHeartbeats 2000000
set_option maxRecDepth 100000
theorem store_floatK {P : Program} {w : World} {a : Addr} {m : Mode} (k : FloatKind) (n : Nat) : (store a (.float k n) m).run P w = stored P w a (.float k n) m := run_store P w a _ m rfl

structure Nd where
  kind : Int
  text : ByteArray
  str : ByteArray
  num : Nat
  kids : List Int
  at_ : Int
  kA : Option Addr
  kC : Nat
def ndC (x : Nd) : List Value := [.int .i64 x.kind, .string x.text, .string x.str, .float .f64 x.num, .slice x.kA x.kids.length x.kC, .int .i64 x.at_]
/-- rows of sz cells each, one behind the other -/
def Row (w : World) (B : Nat) (A : Option Addr) (sz : Nat) (rows : List (List Value)) : Prop := ∀ k r, rows[k]? = some r → ∃ b off, A = some ⟨b, off, none⟩ ∧ b < B ∧ ∀ j u, r[j]? = some u → w.cell? ⟨b, off + k * sz + j, none⟩ = some u
theorem Row.below {w w' : World} {B B' sz : Nat} {A : Option Addr} {rows : List (List Value)} (h : Row w B A sz rows) (hb : Below B w w') (hB : B ≤ B') : Row w' B' A sz rows := fun k r hr => by
  obtain ⟨b, off, hA, hlt, hc⟩ := h k r hr
  exact ⟨b, off, hA, by omega, fun j u hu => (hb.cell (p := ⟨b, off + k * sz + j, none⟩) hlt).trans (hc j u hu)⟩
def kidC (k : Int) : List Value := [.int .i64 k]
structure Nds (w : World) (B : Nat) (A : Option Addr) (l : List Nd) : Prop where
  rows : Row w B A 6 (l.map ndC)
  each : ∀ x ∈ l, Row w B x.kA 1 (x.kids.map kidC)
  small : l.length ≤ 3000 ∧ ∀ x ∈ l, x.kids.length ≤ 3000
theorem Nds.below {w w' : World} {B B' : Nat} {A : Option Addr} {l : List Nd} (h : Nds w B A l) (hb : Below B w w') (hB : B ≤ B') : Nds w' B' A l :=
  ⟨h.rows.below hb hB, fun f hf => (h.each f hf).below hb hB, h.small⟩
theorem Row.nd {w : World} {B : Nat} {A : Option Addr} {l : List Nd} (h : Row w B A 6 (l.map ndC)) {k : Nat} {x : Nd} (hk : l[k]? = some x) : ∃ b off, A = some ⟨b, off, none⟩ ∧ b < B ∧
    (w.cell? ⟨b, off + k * 6, none⟩ = some (.int .i64 x.kind) ∧ w.cell? ⟨b, off + k * 6 + 1, none⟩ = some (.string x.text) ∧ w.cell? ⟨b, off + k * 6 + 2, none⟩ = some (.string x.str) ∧ w.cell? ⟨b, off + k * 6 + 3, none⟩ = some (.float .f64 x.num) ∧
      w.cell? ⟨b, off + k * 6 + 4, none⟩ = some (.slice x.kA x.kids.length x.kC) ∧ w.cell? ⟨b, off + k * 6 + 5, none⟩ = some (.int .i64 x.at_)) := by
  obtain ⟨b, off, hA, hlt, hc⟩ := h k (ndC x) (by rw [List.getElem?_map, hk]; rfl)
  exact ⟨b, off, hA, hlt, hc 0 _ rfl, hc 1 _ rfl, hc 2 _ rfl, hc 3 _ rfl, hc 4 _ rfl, hc 5 _ rfl⟩
theorem Row.kid {w : World} {B : Nat} {A : Option Addr} {l : List Int} (h : Row w B A 1 (l.map kidC)) {k : Nat} {x : Int} (hk : l[k]? = some x) : ∃ b off, A = some ⟨b, off, none⟩ ∧ b < B ∧ w.cell? ⟨b, off + k, none⟩ = some (.int .i64 x) := by
  obtain ⟨b, off, hA, hlt, hc⟩ := h k (kidC x) (by rw [List.getElem?_map, hk]; rfl)
  have := hc 0 _ rfl
  simp only [Nat.mul_one, Nat.add_zero] at this
  exact ⟨b, off, hA, hlt, this⟩

def badKid (n : Nat) (k : Int) : Bool := decide (k < 0) || decide (k ≥ (n : Nat))
theorem badkid_any {w : World} {b n : Nat} (k : Int) (h : w.cell? ⟨b, 0, none⟩ = some (.int .i64 (n : Nat))) : Calls Tryd.prog 22 #[.int .i64 k, .pointer (some ⟨b, 0, none⟩)] w fun e w' => e = .returned (.bool (badKid n k)) ∧ w = w' := by
  unfold badKid
  by_cases h1 : k < 0
  · have g1 : decide (k < 0) = true := decide_eq_true h1
    rw [g1]
    go_enter Tryd.func22, Tryd.ntmps22
    go_wp2_with fail
    go_ret
    exact ⟨rfl, rfl⟩
  · have g1 : decide (k < 0) = false := decide_eq_false h1
    rw [g1]
    go_enter Tryd.func22, Tryd.ntmps22
    go_wp2_with fail
    go_ret
    exact ⟨by simp, rfl⟩
/-- the first of a row that is so -/
def findI (f : Int → Bool) (k : Nat) : List Int → Int
  | [] => -1
  | x :: r => if f x then (k : Int) else findI f (k + 1) r
theorem findI_any (f : Int → Bool) : ∀ (l : List Int) (k : Nat), decide (findI f k l ≥ 0) = l.any f
  | [], k => rfl
  | x :: r, k => by
    unfold findI
    cases h : f x with
    | true => simp [h]
    | false => simp only [h, List.any_cons, Bool.false_or]; exact findI_any f r (k + 1)
theorem findI_at {f : Int → Bool} {l : List Int} {k : Nat} {x : Int} (h : l[k]? = some x) : findI f k (l.drop k) = if f x then (k : Int) else findI f (k + 1) (l.drop (k + 1)) := by
  rw [List.drop_eq_getElem_cons (List.getElem?_eq_some_iff.1 h).1, (List.getElem?_eq_some_iff.1 h).2]
  rfl
theorem indexfunc_any {w : World} {b m : Nat} {A : Option Addr} {n c : Nat} {l : List Int} (h : w.cell? ⟨b, 0, none⟩ = some (.int .i64 (m : Nat))) (hr : Row w w.heap.size A 1 (l.map kidC)) (hn : l.length = n) (hs : n ≤ 3000) :
    Calls Tryd.prog 35 #[.slice A n c, .func (.func 22) #[] #[.pointer (some ⟨b, 0, none⟩)]] w fun e w' => e = .returned (.int .i64 (findI (badKid m) 0 l)) ∧ w = w' := by
  have Hn := Lib.hid hn
  clear hn
  go_enter Tryd.func35, Tryd.ntmps35
  go_wp2_with fail
  go_loopw [8] (fun i wr => ∃ k : Nat, k ≤ n ∧ i = .int .i64 k ∧ wr = w ∧ findI (badKid m) 0 l = findI (badKid m) k (l.drop k)) (fun i _ => n - (intOf i).toNat)
  case atStart => exact ⟨0, Nat.zero_le _, rfl, rfl, rfl⟩
  case round =>
    obtain ⟨k, hk, rfl, rfl, hf⟩ := hrel
    have HF := Lib.hid hf
    clear hf
    by_cases hlt : k < n
    · obtain ⟨x, hx⟩ : ∃ x, l[k]? = some x := ⟨l[k]'(by have := Hn.out; omega), List.getElem?_eq_getElem _⟩
      obtain ⟨b2, off, rfl, _, hc⟩ := hr.kid hx
      have HAT := Lib.hid (findI_at (f := badKid m) hx)
      clear hx
      go_wp2_with fail
      refine (badkid_any x h).mono ?_
      rintro e w1 ⟨rfl, rfl⟩
      cases hg : badKid m x with
      | true =>
        have hfin : findI (badKid m) 0 l = (k : Int) := by rw [HF.out, HAT.out, hg]; rfl
        have HFIN := Lib.hid hfin
        simp only
        go_wp2_with fail
        go_ret
        exact ⟨by rw [HFIN.out]; rfl, rfl⟩
      | false =>
        have hfin : findI (badKid m) 0 l = findI (badKid m) (k + 1) (l.drop (k + 1)) := by rw [HF.out, HAT.out, hg]; rfl
        have HFIN := Lib.hid hfin
        simp only
        go_wp2_with fail
        go_roundw
        case rel => exact ⟨k + 1, by omega, by go_num, trivial, HFIN.out⟩
        case measure => simp [intOf]; omega
    · obtain rfl : k = n := by omega
      have hfin : findI (badKid m) 0 l = -1 := by rw [HF.out, List.drop_of_length_le (by have := Hn.out; omega)]; rfl
      have HFIN := Lib.hid hfin
      go_wp2_with fail
      go_ret
      exact ⟨by rw [HFIN.out]; rfl, rfl⟩
theorem containsfunc_any {w : World} {b m : Nat} {A : Option Addr} {n c : Nat} {l : List Int} (h : w.cell? ⟨b, 0, none⟩ = some (.int .i64 (m : Nat))) (hr : Row w w.heap.size A 1 (l.map kidC)) (hn : l.length = n) (hs : n ≤ 3000) :
    Calls Tryd.prog 21 #[.slice A n c, .func (.func 22) #[] #[.pointer (some ⟨b, 0, none⟩)]] w fun e w' => e = .returned (.bool (l.any (badKid m))) ∧ w = w' := by
  have HG := Lib.hid (findI_any (badKid m) l 0)
  go_enter Tryd.func21, Tryd.ntmps21
  go_wp2_with fail
  refine (indexfunc_any h hr hn hs).mono ?_
  rintro e w1 ⟨rfl, rfl⟩
  generalize findI (badKid m) 0 l = z at HG ⊢
  simp only
  go_wp2_with fail
  go_ret
  exact ⟨by rw [← HG.out]; rfl, rfl⟩
end Go.Proofs.YtgnpgdjjdhlhaaaDoor
