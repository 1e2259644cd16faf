/- The map of check.kinds: its walk, and what a lookup finds. -/
import Derived.Test.YtoihoackmkapaaaDoorKChk
import Derived.RangeFuncKeeps
namespace Go.Proofs.YtoihoackmkapaaaDoor
open Go.RowKit
set_option maxHeartbeats 4000000
set_option maxRecDepth 100000

abbrev kT : TypeId := 53
/-- the entries of the map -/
def kindE : Array MapEntry := #[⟨.int .i32 114, .func (.func 32) #[] #[], 0⟩, ⟨.int .i32 107, .func (.func 33) #[] #[], 1⟩, ⟨.int .i32 115, .func (.func 34) #[] #[], 2⟩, ⟨.int .i32 116, .func (.func 35) #[] #[], 3⟩, ⟨.int .i32 102, .func (.func 36) #[] #[], 4⟩, ⟨.int .i32 117, .func (.func 37) #[] #[], 5⟩, ⟨.int .i32 110, .func (.func 38) #[] #[], 6⟩]
def Kinds (w : World) (b : Nat) : Prop := w.heap[b]? = some (.map kindE 7)
theorem Kinds.below {w w' : World} {B b : Nat} (h : Kinds w b) (hb : Below B w w') (hB : b < B) : Kinds w' b := (hb.block b hB).trans h
theorem Kinds.lt {w : World} {b : Nat} (h : Kinds w b) : b < w.heap.size := (Array.getElem?_eq_some_iff.1 h).1

theorem checkK (w : World) (e : Bool) (n : Nat) (c : Int) : (Instr.checkKey e (n + 1) 21 (.int .i32 c)).run Tryd.prog w = .ok () w := by
  have hr := run_underlying (w := w) Tryd.underlying21
  simp only [Instr.checkKey, Sem.run_bind, hr, Result.andThen_ok]
  rfl
theorem run_updateK {w : World} {r cl : Nat} {es : Array MapEntry} (c : Int) (v : Value) (h : w.heap[r]? = some (.map es cl)) (hf : Instr.findNow (.int .i32) (.int .i32 c) es.toList 0 = some none) :
    (Instr.mapUpdate kT (.map (some r)) (.int .i32 c) v).run Tryd.prog w = .ok () (w.putObj r (.map (es.push { key := .int .i32 c, val := v, born := cl }) (cl + 1))) := by
  have hu := run_underlying (w := w) Tryd.underlying53
  have hr := run_underlying (w := w) Tryd.underlying21
  have hg : (getObj r).run Tryd.prog w = .ok (.map es cl) w := by simp [getObj, Sem.run, h]
  have hc : (Instr.checkKey false 10000 21 (.int .i32 c)).run Tryd.prog w = .ok () w := checkK w false 9999 c
  have hf' : (Instr.findKey 21 (.int .i32 c) es.toList).run Tryd.prog w = .ok none w := by simp only [Instr.findKey, Sem.run_bind, hr, Result.andThen_ok, hf, Sem.run_pure]
  have hs : ∀ o', (setObj r o').run Tryd.prog w = .ok () (w.putObj r o') := fun o' => by simp [setObj, Sem.run, h, World.putObj]
  simp only [Instr.mapUpdate, Sem.run_bind, hu, Result.andThen_ok, hg, hc, hf', hs]
theorem wpList_insertK {ops : Array Oper} {rest : List Oper} {o : Oper} {a : Act} {w w0 : World} {Q : Exit → Act → World → Prop} (n : Nat) (hg : o.guard = none) (x k v : Operand) (hop : o.op = .insert kT x k v) (hd : o.dst = none)
    (r cl : Nat) (es : Array MapEntry) (c : Int) (val : Value) (hx : a.eval x = .map (some r)) (hk : a.eval k = .int .i32 c) (hv : a.eval v = val) (h : w.heap[r]? = some (.map es cl)) (hb : Below n w0 w) (hn : n ≤ r)
    (hf : Instr.findNow (.int .i32) (.int .i32 c) es.toList 0 = some none)
    (hK : ∀ w', w'.heap[r]? = some (.map (es.push { key := .int .i32 c, val := val, born := cl }) (cl + 1)) → Below n w0 w' → wpList Tryd.prog ops Q rest a w') : wpList Tryd.prog ops Q (o :: rest) a w := by
  refine wpList_plain hg fun K hK2 => ?_
  have hrun := run_updateK c val h hf
  have hlt := (Array.getElem?_eq_some_iff.1 h).1
  unfold Oper.wp
  simp only [execOp, hop, hx, hk, hv, Sem.run_bind, Sem.run_pure, hrun, Result.andThen]
  have e : a.put o.dst undef = a := by rw [hd]; rfl
  refine hK2 _ _ ?_
  rw [e]
  refine hK _ ?_ (hb.grown (grownBy_putObj' _ _ _) (by omega) (fun j hj => by cases hj; exact hn))
  exact World.putObj_heap_same hlt
theorem kinds_any (w : World) : Calls Tryd.prog 18 #[] w fun e w' => e = .returned (.map (some w.heap.size)) ∧ Kinds w' w.heap.size ∧ Below w.heap.size w w' := by
  have h0 : (w.alloc (.map #[] 0)).heap[w.heap.size]? = some (.map #[] 0) := heap_alloc_last w _
  have hb0 : Below w.heap.size w (w.alloc (.map #[] 0)) := (Below.refl _ _).alloc (Nat.le_refl _) _
  have hmk := run_makeMap (P := Tryd.prog) kT w
  obtain ⟨w0, hw0⟩ : ∃ w0, w.alloc (.map #[] 0) = w0 := ⟨_, rfl⟩
  rw [hw0] at h0 hb0 hmk
  go_enter Tryd.func18, Tryd.ntmps18
  go_wp2_with (refine wpList_insertK w.heap.size rfl _ _ _ rfl rfl _ _ _ _ _ rfl rfl rfl (by assumption) (by assumption) (Nat.le_refl _) (by kernel_rfl) ?_; intro w' h' hb')
  go_ret
  exact ⟨rfl, by assumption, by assumption⟩
/-- what a lookup finds -/
theorem run_lookupK {w : World} {b : Nat} (h : Kinds w b) (c : Int) (i : Nat) (v : Value) (hf : Instr.findNow (.int .i32) (.int .i32 c) kindE.toList 0 = some (some (i, v))) :
    (Instr.lookup kT (.map (some b)) (.int .i32 c) false).run Tryd.prog w = .ok v w := by
  have hu := run_underlying (w := w) Tryd.underlying53
  have hr := run_underlying (w := w) Tryd.underlying21
  have h' : w.heap[b]? = some (.map kindE 7) := h
  have hg : (getObj b).run Tryd.prog w = .ok (.map kindE 7) w := by simp [getObj, Sem.run, h']
  have hc : ∀ e, (Instr.checkKey e 10000 21 (.int .i32 c)).run Tryd.prog w = .ok () w := fun e => checkK w e 9999 c
  have hf' : (Instr.findKey 21 (.int .i32 c) kindE.toList).run Tryd.prog w = .ok (some (i, v)) w := by simp only [Instr.findKey, Sem.run_bind, hr, Result.andThen_ok, hf, Sem.run_pure]
  simp only [Instr.lookup, Sem.run_bind, hu, Result.andThen_ok, hg, hc, hf', Sem.run_pure]
  rfl
end Go.Proofs.YtoihoackmkapaaaDoor
