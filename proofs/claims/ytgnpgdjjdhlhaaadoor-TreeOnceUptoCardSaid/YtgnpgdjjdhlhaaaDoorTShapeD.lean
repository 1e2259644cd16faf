/- What the document says of a node's kids, kind by kind. -/
import Derived.Test.YtgnpgdjjdhlhaaaDoorTFits
namespace Go.Proofs.YtgnpgdjjdhlhaaaDoor
open Go.RowKit
set_option maxHeartbeats 4000000
set_option maxRecDepth 100000

def paramsB : List Int → Bool
  | [] => true
  | [k] => (k == 6) || (k == 31)
  | k :: r => (k == 6) && paramsB r
def propB (k : Int) : Bool := decide (k ≥ 10) && decide (k ≤ 12)
def kd (l : List Nd) (q : Int) : Int := kindAt l q
/-- a node's kids are right: lintelref06.shape -/
def sh1 (l : List Nd) (k : Int) (qs : List Int) : Bool :=
  match k.toNat, qs with
  | 1, [] | 2, [] | 3, [] | 4, [] | 5, [] | 6, [] | 7, [] | 31, [] | 36, [] | 44, [] | 45, [] | 54, [] => true
  | 8, qs => (qs.map (kindAt l)).all (okE true)
  | 9, qs => (qs.map (kindAt l)).all propB
  | 10, [a, b] => keyB (kindAt l a) && exprB (kindAt l b)
  | 11, [a, b] => keyB (kindAt l a) && (kindAt l b == 13) && (parK l b).isEmpty
  | 12, [a, b] => keyB (kindAt l a) && (kindAt l b == 13) && (parK l b == [6])
  | 13, [a, b] | 53, [a, b] => (kindAt l a == 30) && (kindAt l b == 32)
  | 14, [a, b] => (kindAt l a == 30) && ((kindAt l b == 32) || exprB (kindAt l b))
  | 15, a :: r | 16, a :: r => exprB (kindAt l a) && (r.map (kindAt l)).all (okE true)
  | 17, [a] | 19, [a] | 29, [a] | 37, [a] | 47, [a] | 56, [a] => exprB (kindAt l a)
  | 18, [a, b] | 22, [a, b] | 23, [a, b] | 24, [a, b] => exprB (kindAt l a) && exprB (kindAt l b)
  | 20, [a] | 21, [a] => targetB (kindAt l a)
  | 25, [a, b, c] => exprB (kindAt l a) && exprB (kindAt l b) && exprB (kindAt l c)
  | 26, [a, b] => targetB (kindAt l a) && exprB (kindAt l b)
  | 27, a :: b :: r => exprB (kindAt l a) && exprB (kindAt l b) && (r.map (kindAt l)).all exprB
  | _, _ => false
/-- lintelref06.more -/
def moreK (l : List Nd) (f : Nat) (k : Int) (qs : List Int) (t : ByteArray) : Bool :=
  match k.toNat, qs with
  | 28, qs => decide (qs.length % 2 = 1) && tmplB 0 (qs.map (kindAt l))
  | 30, qs => paramsB (qs.map (kindAt l))
  | 32, qs | 51, qs | 55, qs => (qs.map (kindAt l)).all stmtB
  | 33, a :: r | 34, a :: r => ((a :: r).map (kindAt l)).all (fun k => k == 35)
  | 35, [] | 46, [] => true
  | 35, [a] | 46, [a] => exprB (kindAt l a)
  | 38, [a, b] => exprB (kindAt l a) && bodyB l f b
  | 38, [a, b, c] => exprB (kindAt l a) && bodyB l f b && bodyB l f c
  | 39, [a, b, c, d] => ((kindAt l a == 33) || (kindAt l a == 34) || (kindAt l a == 54) || exprB (kindAt l a)) && ((kindAt l b == 54) || exprB (kindAt l b)) && ((kindAt l c == 54) || exprB (kindAt l c)) && bodyB l f d
  | 40, [a, b, c] | 41, [a, b, c] => headB l a && exprB (kindAt l b) && bodyB l f c
  | 42, [a, b] => exprB (kindAt l a) && bodyB l f b
  | 43, [a, b] => bodyB l f a && exprB (kindAt l b)
  | 48, [a, b, c] => (kindAt l a == 32) && ((kindAt l b == 32) || (kindAt l b == 54)) && ((kindAt l c == 32) || (kindAt l c == 54)) && ((kindAt l b == 32) == !decide (t.size = 0)) && ((kindAt l b == 32) || (kindAt l c == 32))
  | 49, qs => clausesB (qs.map (kindAt l))
  | 50, a :: r => exprB (kindAt l a) && (r.map (kindAt l)).all stmtB
  | 52, [a] => bodyB l f a
  | _, _ => false
def shQ (l : List Nd) (f : Nat) (k : Int) (qs : List Int) (t : ByteArray) : Prop := sh1 l k qs = true ∨ moreK l f k qs t = true
theorem shQ_of {l : List Nd} {f : Nat} {k : Int} {qs : List Int} {t : ByteArray} (h : sh1 l k qs = true) : shQ l f k qs t := .inl h
/-- what lintelref06.more says of a node -/
def MoreSays (w : World) (A : Option Addr) (n c : Nat) (l : List Nd) (f i : Nat) (x : Nd) : Prop := ∀ (w' : World) (A' : Option Addr) (c' : Nat), Below w.heap.size w w' → Rd w' w'.heap.size A' (ints (ksOf l x)) → (x.kids.length ≤ c' ∧ (x.kids.length ≠ 0 → ∃ g, A' = some ⟨g, 0, none⟩)) →
  Calls Tryd.prog 32 #[.slice A n c, .int .i64 (i : Nat), .slice A' x.kids.length c'] w' fun e w'' => ∃ v, e = .returned (.bool v) ∧ Below w'.heap.size w' w'' ∧ (v = true → moreK l f x.kind x.kids x.text = true)
/-- a Bool told, each way by itself -/
def Told2 (v : Bool) (e : Ending) : Prop := (e = .returned (.bool true) ∧ v = true) ∨ (e = .returned (.bool false) ∧ v = false)
theorem told2 {v : Bool} {e : Ending} (h : e = .returned (.bool v)) : Told2 v e := by
  cases v with
  | true => exact .inl ⟨h, rfl⟩
  | false => exact .inr ⟨h, rfl⟩
theorem key_ex (k : Int) (w : World) : Calls Tryd.prog 29 #[.int .i64 k] w fun e w' => Told2 (keyB k) e ∧ w' = w := (refkey_any k w).mono fun _ _ h => ⟨told2 h.1, h.2⟩
theorem expr_ex (k : Int) (w : World) : Calls Tryd.prog 30 #[.int .i64 k] w fun e w' => Told2 (exprB k) e ∧ w' = w := (refexpr_any k w).mono fun _ _ h => ⟨told2 h.1, h.2⟩
theorem target_ex (k : Int) (w : World) : Calls Tryd.prog 31 #[.int .i64 k] w fun e w' => Told2 (targetB k) e ∧ w' = w := (reftarget_any k w).mono fun _ _ h => ⟨told2 h.1, h.2⟩
section
variable {w : World} {A : Option Addr} {c m : Nat} {ks : List Int}
theorem from0_ex (hr : Rd w w.heap.size A (ints ks)) (hm : ks.length = m) (hm2 : m ≤ 3000) (sp : Bool) : Calls Tryd.prog 28 #[.slice A m c, .int .i64 0, .bool sp] w fun e w' => Told2 (ks.all (okE sp)) e ∧ w' = w :=
  Calls.mono (from_any (c := c) hr hm hm2 0 (by omega) sp) fun _ _ h => ⟨told2 h.1, h.2⟩
theorem from1_ex (hr : Rd w w.heap.size A (ints ks)) (hm : ks.length = m) (hm2 : m ≤ 3000) (sp : Bool) : Calls Tryd.prog 28 #[.slice A m c, .int .i64 1, .bool sp] w fun e w' => Told2 ((ks.drop 1).all (okE sp)) e ∧ w' = w :=
  Calls.mono (from_any (c := c) hr hm hm2 1 (by omega) sp) fun _ _ h => ⟨told2 h.1, h.2⟩
theorem stmts0_ex (hr : Rd w w.heap.size A (ints ks)) (hm : ks.length = m) (hm2 : m ≤ 3000) : Calls Tryd.prog 44 #[.slice A m c, .int .i64 0] w fun e w' => Told2 (ks.all stmtB) e ∧ w' = w :=
  Calls.mono (stmts_any (c := c) hr hm hm2 0 (by omega)) fun _ _ h => ⟨told2 h.1, h.2⟩
theorem stmts1_ex (hr : Rd w w.heap.size A (ints ks)) (hm : ks.length = m) (hm2 : m ≤ 3000) : Calls Tryd.prog 44 #[.slice A m c, .int .i64 1] w fun e w' => Told2 ((ks.drop 1).all stmtB) e ∧ w' = w :=
  Calls.mono (stmts_any (c := c) hr hm hm2 1 (by omega)) fun _ _ h => ⟨told2 h.1, h.2⟩
theorem tmpl_ex (hr : Rd w w.heap.size A (ints ks)) (hm : ks.length = m) (hm2 : m ≤ 3000) : Calls Tryd.prog 43 #[.slice A m c] w fun e w' => Told2 (decide (m % 2 = 1) && tmplB 0 ks) e ∧ w' = w :=
  Calls.mono (template_any (c := c) hr hm hm2) fun _ _ h => ⟨told2 h.1, h.2⟩
theorem clauses_ex (hr : Rd w w.heap.size A (ints ks)) (hm : ks.length = m) (hm2 : m ≤ 3000) (hA : m ≤ c ∧ (m ≠ 0 → ∃ g, A = some ⟨g, 0, none⟩)) : Calls Tryd.prog 48 #[.slice A m c] w fun e w' => Told2 (clausesB ks) e ∧ w' = w :=
  Calls.mono (clauses_any hr hm hm2 hA) fun _ _ h => ⟨told2 h.1, h.2⟩
end
theorem okE_false : okE false = exprB := by
  funext k
  unfold okE
  rw [Bool.false_and, Bool.or_false]
end Go.Proofs.YtgnpgdjjdhlhaaaDoor
