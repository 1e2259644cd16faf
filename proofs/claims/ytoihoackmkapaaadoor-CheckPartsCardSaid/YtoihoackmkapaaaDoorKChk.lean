/- The checker's kinds of operands; ends, args. -/
import Derived.Test.YtoihoackmkapaaaDoorKD
import Derived.Test.YtoihoackmkapaaaDoorKEntry
namespace Go.Proofs.YtoihoackmkapaaaDoor
open Go.RowKit
set_option maxHeartbeats 4000000
set_option maxRecDepth 100000

/-- the cells of a checker -/
def chkC (A : Option Addr) (m c : Nat) (at_ : Int) (f : FnT) : Array Value := #[.slice A m c, .int .i64 at_, .string f.name, .int .i64 f.params, .bool f.rest, .bool f.arrow, .int .i64 f.regs, .slice f.cA f.consts.length f.cC, .slice f.kA f.code.length f.kC, .slice f.tA f.tries.length f.tC, .slice f.uA f.caps.length f.uC]
def Chk (w : World) (cb : Nat) (A : Option Addr) (m c : Nat) (at_ : Int) (f : FnT) : Prop := w.heap[cb]? = some (.cells (chkC A m c at_ f) 57 (0, 0))
theorem Chk.lt {w : World} {cb : Nat} {A : Option Addr} {m c : Nat} {at_ : Int} {f : FnT} (h : Chk w cb A m c at_ f) : cb < w.heap.size := (Array.getElem?_eq_some_iff.1 h).1
theorem Chk.below {w w' : World} {B cb : Nat} {A : Option Addr} {m c : Nat} {at_ : Int} {f : FnT} (h : Chk w cb A m c at_ f) (hb : Below B w w') (hB : w.heap.size ≤ B) : Chk w' cb A m c at_ f := (hb.block cb (by have := h.lt; omega)).trans h
theorem Chk.cells {w : World} {cb : Nat} {A : Option Addr} {m c : Nat} {at_ : Int} {f : FnT} (h : Chk w cb A m c at_ f) :
    w.cell? ⟨cb, 0, none⟩ = some (.slice A m c) ∧ w.cell? ⟨cb, 1, none⟩ = some (.int .i64 at_) ∧ w.cell? ⟨cb, 2, none⟩ = some (.string f.name) ∧ w.cell? ⟨cb, 3, none⟩ = some (.int .i64 f.params) ∧ w.cell? ⟨cb, 4, none⟩ = some (.bool f.rest) ∧
      w.cell? ⟨cb, 5, none⟩ = some (.bool f.arrow) ∧ w.cell? ⟨cb, 6, none⟩ = some (.int .i64 f.regs) ∧ w.cell? ⟨cb, 7, none⟩ = some (.slice f.cA f.consts.length f.cC) ∧ w.cell? ⟨cb, 8, none⟩ = some (.slice f.kA f.code.length f.kC) ∧
      w.cell? ⟨cb, 9, none⟩ = some (.slice f.tA f.tries.length f.tC) ∧ w.cell? ⟨cb, 10, none⟩ = some (.slice f.uA f.caps.length f.uC) := by
  have key := fun i => cell_of_row w cb i _ _ _ h
  exact ⟨key 0, key 1, key 2, key 3, key 4, key 5, key 6, key 7, key 8, key 9, key 10⟩

def regB (r n : Int) : Bool := decide (0 ≤ n) && decide (n < r)
def fnB (m n : Int) : Bool := decide (0 < n) && decide (n < m)
def textB (f : FnT) (n : Int) : Bool := regB f.consts.length n && (match f.consts[n.toNat]? with | some v => v.1 == 4 | none => false)
def endsB (op : Int) : Bool := op == 16 || op == 34 || op == 35
theorem regB_neg {r n : Int} (h : n < 0) : regB r n = false := by unfold regB; simp; omega
theorem regB_pos {r n : Int} (h : 0 ≤ n) : regB r n = decide (n < r) := by unfold regB; simp [h]
theorem fnB_neg {r n : Int} (h : n ≤ 0) : fnB r n = false := by unfold fnB; simp; omega
theorem fnB_pos {r n : Int} (h : 0 < n) : fnB r n = decide (n < r) := by unfold fnB; simp [h]

section
variable {w : World} {cb : Nat} {A : Option Addr} {m c : Nat} {at_ : Int} {f : FnT}
theorem register_any (h : Chk w cb A m c at_ f) (n : Int) : Calls Tryd.prog 32 #[.pointer (some ⟨cb, 0, none⟩), .int .i64 n] w fun e w' => e = .returned (.bool (regB f.regs n)) ∧ w = w' := by
  obtain ⟨_, _, _, _, _, _, c6, c7, c8, c9, c10⟩ := h.cells
  by_cases h0 : n < 0
  · rw [regB_neg h0]
    have h0' : ¬ 0 ≤ n := by omega
    go_enter Tryd.func32, Tryd.ntmps32
    go_wp2_with fail
    go_ret
    exact ⟨rfl, rfl⟩
  · rw [regB_pos (by omega)]
    have h0' : 0 ≤ n := by omega
    go_enter Tryd.func32, Tryd.ntmps32
    go_wp2_with fail
    go_ret
    exact ⟨rfl, rfl⟩
theorem constant_any (h : Chk w cb A m c at_ f) (n : Int) : Calls Tryd.prog 33 #[.pointer (some ⟨cb, 0, none⟩), .int .i64 n] w fun e w' => e = .returned (.bool (regB f.consts.length n)) ∧ w = w' := by
  obtain ⟨_, _, _, _, _, _, c6, c7, c8, c9, c10⟩ := h.cells
  by_cases h0 : n < 0
  · rw [regB_neg h0]
    have h0' : ¬ 0 ≤ n := by omega
    go_enter Tryd.func33, Tryd.ntmps33
    go_wp2_with fail
    go_ret
    exact ⟨rfl, rfl⟩
  · rw [regB_pos (by omega)]
    have h0' : 0 ≤ n := by omega
    go_enter Tryd.func33, Tryd.ntmps33
    go_wp2_with fail
    go_ret
    exact ⟨rfl, rfl⟩
theorem target_any (h : Chk w cb A m c at_ f) (n : Int) : Calls Tryd.prog 35 #[.pointer (some ⟨cb, 0, none⟩), .int .i64 n] w fun e w' => e = .returned (.bool (regB f.code.length n)) ∧ w = w' := by
  obtain ⟨_, _, _, _, _, _, c6, c7, c8, c9, c10⟩ := h.cells
  by_cases h0 : n < 0
  · rw [regB_neg h0]
    have h0' : ¬ 0 ≤ n := by omega
    go_enter Tryd.func35, Tryd.ntmps35
    go_wp2_with fail
    go_ret
    exact ⟨rfl, rfl⟩
  · rw [regB_pos (by omega)]
    have h0' : 0 ≤ n := by omega
    go_enter Tryd.func35, Tryd.ntmps35
    go_wp2_with fail
    go_ret
    exact ⟨rfl, rfl⟩
theorem capture_any (h : Chk w cb A m c at_ f) (n : Int) : Calls Tryd.prog 37 #[.pointer (some ⟨cb, 0, none⟩), .int .i64 n] w fun e w' => e = .returned (.bool (regB f.caps.length n)) ∧ w = w' := by
  obtain ⟨_, _, _, _, _, _, c6, c7, c8, c9, c10⟩ := h.cells
  by_cases h0 : n < 0
  · rw [regB_neg h0]
    have h0' : ¬ 0 ≤ n := by omega
    go_enter Tryd.func37, Tryd.ntmps37
    go_wp2_with fail
    go_ret
    exact ⟨rfl, rfl⟩
  · rw [regB_pos (by omega)]
    have h0' : 0 ≤ n := by omega
    go_enter Tryd.func37, Tryd.ntmps37
    go_wp2_with fail
    go_ret
    exact ⟨rfl, rfl⟩
theorem number_any (h : Chk w cb A m c at_ f) (n : Int) : Calls Tryd.prog 38 #[.pointer (some ⟨cb, 0, none⟩), .int .i64 n] w fun e w' => e = .returned (.bool (regB 2147483648 n)) ∧ w = w' := by
  obtain ⟨_, _, _, _, _, _, c6, c7, c8, c9, c10⟩ := h.cells
  by_cases h0 : n < 0
  · rw [regB_neg h0]
    have h0' : ¬ 0 ≤ n := by omega
    go_enter Tryd.func38, Tryd.ntmps38
    go_wp2_with fail
    go_ret
    exact ⟨rfl, rfl⟩
  · rw [regB_pos (by omega)]
    have h0' : 0 ≤ n := by omega
    go_enter Tryd.func38, Tryd.ntmps38
    go_wp2_with fail
    go_ret
    exact ⟨rfl, rfl⟩
theorem function_any (h : Chk w cb A m c at_ f) (n : Int) : Calls Tryd.prog 36 #[.pointer (some ⟨cb, 0, none⟩), .int .i64 n] w fun e w' => e = .returned (.bool (fnB m n)) ∧ w = w' := by
  obtain ⟨c0, _, _, _, _, _, c6, c7, c8, c9, c10⟩ := h.cells
  by_cases h0 : n ≤ 0
  · rw [fnB_neg h0]
    have h0' : ¬ 0 < n := by omega
    go_enter Tryd.func36, Tryd.ntmps36
    go_wp2_with fail
    go_ret
    exact ⟨rfl, rfl⟩
  · rw [fnB_pos (by omega)]
    have h0' : 0 < n := by omega
    go_enter Tryd.func36, Tryd.ntmps36
    go_wp2_with fail
    go_ret
    exact ⟨rfl, rfl⟩
theorem text_any {B : Nat} (h : Chk w cb A m c at_ f) (hf : FnIn w B f) (n : Int) : Calls Tryd.prog 34 #[.pointer (some ⟨cb, 0, none⟩), .int .i64 n] w fun e w' => e = .returned (.bool (textB f n)) ∧ w = w' := by
  obtain ⟨_, _, _, _, _, _, c6, c7, c8, c9, c10⟩ := h.cells
  unfold textB
  by_cases h0 : 0 ≤ n ∧ n < f.consts.length
  · have hr : regB f.consts.length n = true := by rw [regB_pos h0.1]; simpa using h0.2
    obtain ⟨k, rfl⟩ : ∃ k : Nat, n = k := ⟨n.toNat, by omega⟩
    obtain ⟨v, hv⟩ : ∃ v, f.consts[k]? = some v := ⟨f.consts[k]'(by omega), List.getElem?_eq_getElem _⟩
    obtain ⟨b, off, hA, _, d0, _⟩ := hf.cr.val hv
    rw [Int.toNat_natCast, hv, hr]
    rw [hA] at c7
    have hk : (k : Int) < f.consts.length := h0.2
    go_enter Tryd.func34, Tryd.ntmps34
    go_wp2_with fail
    refine (constant_any h k).mono ?_
    rintro e w1 ⟨rfl, rfl⟩
    rw [hr]
    simp only
    go_wp2_with fail
    go_ret
    exact ⟨rfl, rfl⟩
  · have hr : regB f.consts.length n = false := by unfold regB; simp; omega
    rw [hr, Bool.false_and]
    go_enter Tryd.func34, Tryd.ntmps34
    go_wp2_with fail
    refine (constant_any h n).mono ?_
    rintro e w1 ⟨rfl, rfl⟩
    rw [hr]
    simp only
    go_wp2_with fail
    go_ret
    exact ⟨rfl, rfl⟩
end
theorem ends_any (op : Int) (w : World) : Calls Tryd.prog 26 #[.int .i64 op] w fun e w' => e = .returned (.bool (endsB op)) ∧ w = w' := by
  by_cases h1 : op = 16
  · subst h1
    rw [show endsB 16 = true from rfl]
    go_enter Tryd.func26, Tryd.ntmps26
    go_wp2_with fail
    go_ret
    exact ⟨rfl, rfl⟩
  by_cases h2 : op = 34
  · subst h2
    rw [show endsB 34 = true from rfl]
    go_enter Tryd.func26, Tryd.ntmps26
    go_wp2_with fail
    go_ret
    exact ⟨rfl, rfl⟩
  by_cases h3 : op = 35
  · subst h3
    rw [show endsB 35 = true from rfl]
    go_enter Tryd.func26, Tryd.ntmps26
    go_wp2_with fail
    go_ret
    exact ⟨rfl, rfl⟩
  · unfold endsB
    go_enter Tryd.func26, Tryd.ntmps26
    go_wp2_with fail
    go_ret
    exact ⟨rfl, rfl⟩
theorem refends_any (op : Int) (w : World) : Calls Tryd.prog 15 #[.int .i64 op] w fun e w' => e = .returned (.bool (endsB op)) ∧ w = w' := by
  by_cases h1 : op = 16
  · subst h1
    rw [show endsB 16 = true from rfl]
    go_enter Tryd.func15, Tryd.ntmps15
    go_wp2_with fail
    go_ret
    exact ⟨rfl, rfl⟩
  by_cases h2 : op = 34
  · subst h2
    rw [show endsB 34 = true from rfl]
    go_enter Tryd.func15, Tryd.ntmps15
    go_wp2_with fail
    go_ret
    exact ⟨rfl, rfl⟩
  by_cases h3 : op = 35
  · subst h3
    rw [show endsB 35 = true from rfl]
    go_enter Tryd.func15, Tryd.ntmps15
    go_wp2_with fail
    go_ret
    exact ⟨rfl, rfl⟩
  · unfold endsB
    go_enter Tryd.func15, Tryd.ntmps15
    go_wp2_with fail
    go_ret
    exact ⟨rfl, rfl⟩
theorem args_any (i : InsT) (w : World) : Calls Tryd.prog 41 #[.agg (insC i).toArray] w fun e w' => e = .returned (.agg #[.int .i64 i.2.1, .int .i64 i.2.2.1, .int .i64 i.2.2.2.1, .int .i64 i.2.2.2.2]) ∧ Below w.heap.size w w' := by
  obtain ⟨o, a, b, c, d⟩ := i
  simp only [insC]
  go_enter Tryd.func41, Tryd.ntmps41
  go_wp2_with fail
  have hl := run_loadVar_new (P := Tryd.prog) (w.alloc (.cells #[.int .i64 o, .int .i64 a, .int .i64 b, .int .i64 c, .int .i64 d] 50)) 76 #[.int .i64 a, .int .i64 b, .int .i64 c, .int .i64 d] 4 3 Tryd.underlying76 (by kernel_rfl)
  rw [show (w.alloc (.cells #[.int .i64 o, .int .i64 a, .int .i64 b, .int .i64 c, .int .i64 d] 50)).heap.size = w.heap.size + 1 by simp] at hl
  exact bodyPost_ret (results_cell Tryd.results41 _ _ rfl _ _ hl) rfl ⟨rfl, ((Below.refl _ _).alloc (Nat.le_refl _) _).alloc (by simp) _⟩
theorem refargs_any (i : InsT) (w : World) : Calls Tryd.prog 17 #[.agg (insC i).toArray] w fun e w' => e = .returned (.slice (some ⟨w.heap.size + 1, 0, none⟩) 4 4) ∧ (w.alloc (.cells (insC i).toArray 50)).alloc (.cells #[.int .i64 i.2.1, .int .i64 i.2.2.1, .int .i64 i.2.2.2.1, .int .i64 i.2.2.2.2] 3) = w' := by
  obtain ⟨o, a, b, c, d⟩ := i
  simp only [insC]
  go_enter Tryd.func17, Tryd.ntmps17
  go_wp2_with fail
  go_ret
  exact ⟨by simp, rfl⟩
end Go.Proofs.YtoihoackmkapaaaDoor
