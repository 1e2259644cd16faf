/- lintellaw06.awake. -/
import Derived.Test.YtgnpgdjjdhlhaaaDoorTWalk
import Derived.RangeFuncNested
import Derived.RangeFuncBox
namespace Go.Proofs.YtgnpgdjjdhlhaaaDoor
open Go.RowKit
set_option maxHeartbeats 4000000
set_option maxRecDepth 100000
attribute [local go_sem] Oper.semAt_some

theorem eql_func_nilK (w : World) (fn : Fn) (x y : Array Value) : (binOp .eql 28 (.func fn x y) .nilFunc).run Tryd.prog w = .ok (.bool false) w := by
  have h : ∀ d : Nat, (Op.equalIn (d + 1) 28 (.func fn x y) .nilFunc).run Tryd.prog w = .ok false w := fun d => by
    simp [Op.equalIn, run_underlying Tryd.underlying28]
  simp only [binOp]
  simp [Op.equal, Op.maxDepth, h 9999]
theorem neq_func_nilK (w : World) (fn : Fn) (x y : Array Value) : (binOp .neq 28 (.func fn x y) .nilFunc).run Tryd.prog w = .ok (.bool true) w := by
  have h : ∀ d : Nat, (Op.equalIn (d + 1) 28 (.func fn x y) .nilFunc).run Tryd.prog w = .ok false w := fun d => by
    simp [Op.equalIn, run_underlying Tryd.underlying28]
  simp only [binOp]
  simp [Op.equal, Op.maxDepth, h 9999]

section
variable {P : Program} {n : Nat} {g : Operand} {ps : Array Tmp} {assign body : Code} {Q : Exit → Act → World → Prop} {a : Act} {w w0 : World} {α : Type} {gf : Nat} {lb : Array Value} {encs : α → Array Value} {Kp : World → World → Prop} {S Sp : List α → Prop} {N : Nat}
/-- a range over a function, the frame of a round told by the frame ahead of the loop -/
theorem range_frame (h1 : 1 ≤ n) (hg : a.eval g = .func (.func gf) #[] lb) (eg : ∀ args w, (callFunc gf args).run P w = .ok (.enter gf args) w) (hseq : SeqStopsK Fence.wide (n - 1) P gf lb encs Kp S Sp N w0)
    (hKt : ∀ {A B C : World}, Kp A B → Kp B C → Kp A C) (hKb : ∀ (W : World) (l : Nat) (o o' : Obj), w.heap.size ≤ l → W.heap[l]? = some o → o.isCells = false → o.isWalk = false → Kp W (W.putObj l o')) (hb0 : Below w0.heap.size w0 w) (hps : ∀ x, (encs x).size = ps.size)
    (I : List α → World → Prop) (Ix : Code → List α → World → Prop) (hI : OwnFrom w.heap.size I) (hIx : ∀ c, OwnFrom w.heap.size (Ix c)) (h0 : I [] w) (T' : Array Value → α → Array Value)
    (hassign : ∀ (l : Nat) (pre : List α) (x : α) (W : World) (K : Act → World → Prop), I pre W → (∀ a' W', KeepsFrom w.heap.size W W' → Kp W W' → I pre W' → a' = { tmps := T' a.tmps x, defers := [] } → K a' W') →
      assign.wpIn (Fence.wide.inRound l) (n - 1 - 1) P (Exit.then K (fun _ _ _ => False)) { tmps := (ps.zip (encs x)).foldl (fun t (p, v) => t.setIfInBounds p v) a.tmps, defers := [] } W)
    (hbody : ∀ (l : Nat) (pre : List α) (x : α) (W : World), w.heap.size ≤ l → (∃ r, W.heap[l]? = some (.loop r)) → I pre W → pre.length < N → body.wpIn (Fence.wide.inRound l) (n - 1 - 1) P (ownPostG w.heap.size Kp I Ix (pre ++ [x]) W) { tmps := T' a.tmps x, defers := [] } W)
    (hdone : ∀ (D : Nat) (xs : List α) (W : World), w.heap.size ≤ D → S xs → I xs W → W.heap[D]? = some (.deferred (some [])) → Q .normal { a with defers := { target := .collected D, args := #[] } :: a.defers } W)
    (hstop : ∀ (D : Nat) (c : Code) (pre : List α) (W : World), w.heap.size ≤ D → Sp pre → Ix c pre W → W.heap[D]? = some (.deferred (some [])) → c.wpIn Fence.wide n P Q { a with defers := { target := .collected D, args := #[] } :: a.defers } W) :
    (Code.rangeFunc g ps assign body).wpIn Fence.wide n P Q a w :=
  wpIn_rangeFunc_ownH rfl h1 hg trivial eg hseq hKt hKb hb0 hps I Ix hI hIx h0 (fun x a' _ => a' = { tmps := T' a.tmps x, defers := [] }) (fun _ _ _ _ _ _ hs _ _ => hs) hassign
    (fun l pre x a' W h1 h2 h3 h4 h5 => by subst h4; exact hbody l pre x W h1 h2 h3 h5) hdone hstop
end
theorem keepC_b {n0 B : Nat} {C : Nat → Prop} (hB : n0 ≤ B) (W : World) (l : Nat) (o o' : Obj) (hl : B ≤ l) (h : W.heap[l]? = some o) (ho : o.isCells = false) : KeepC n0 C W (W.putObj l o') :=
  ⟨(Below.refl _ _).grown (grownBy_putObj' _ _ _) (by have := (Array.getElem?_eq_some_iff.1 h).1; omega) (fun k hk => by cases hk; omega), fun k u hu huc _ => by
    by_cases e : k = l
    · subst e; rw [h] at hu; cases hu; rw [ho] at huc; cases huc
    · rw [World.putObj_heap_other e]; exact hu⟩
theorem keepC_set {n0 b : Nat} {C : Nat → Prop} (hb : n0 ≤ b) (hC : C b) (W : World) (k : Nat) (v : Value) : KeepC n0 C W (W.setCell ⟨b, k, none⟩ v) :=
  ⟨(Below.refl _ _).setCell (p := ⟨b, k, none⟩) hb _, fun j u hu _ hn => (Below.heap_setCell _ _ _ _ (fun e => hn (by rw [e]; exact hC))).trans hu⟩

abbrev exA : Nd := { kind := 1, text := ⟨#[]⟩, str := ⟨#[]⟩, num := 4607182418800017408, kids := [], at_ := 0, kA := none, kC := 0 }
abbrev exB (b : Nat) : Nd := { kind := 37, text := ⟨#[]⟩, str := ⟨#[]⟩, num := 0, kids := [0], at_ := 0, kA := some ⟨b, 0, none⟩, kC := 1 }
abbrev exC (b : Nat) : Nd := { kind := 55, text := ⟨#[]⟩, str := ⟨#[]⟩, num := 0, kids := [1], at_ := 0, kA := some ⟨b, 0, none⟩, kC := 1 }
abbrev exL (b c : Nat) : List Nd := [exA, exB b, exC c]
theorem ex_check (b c : Nat) : checkT (fun _ => true) (exL b c) = (0, 0) := by kernel_rfl
theorem ex_check2 (b : Nat) : checkT (fun _ => true) [exA, exB b] = (1, 60) := by kernel_rfl
theorem ex_pre (b c : Nat) : pre (exL b c) 3 2 0 = [(2, 0), (1, 1), (0, 2)] := by kernel_rfl
theorem ex_deep (b c : Nat) : deepB (exL b c) = 3 := by kernel_rfl
def exCells (b c : Nat) : Array Value := #[.int .i64 1, .string ⟨#[]⟩, .string ⟨#[]⟩, .float .f64 4607182418800017408, .slice none 0 0, .int .i64 0,
  .int .i64 37, .string ⟨#[]⟩, .string ⟨#[]⟩, .float .f64 0, .slice (some ⟨b, 0, none⟩) 1 1, .int .i64 0,
  .int .i64 55, .string ⟨#[]⟩, .string ⟨#[]⟩, .float .f64 0, .slice (some ⟨c, 0, none⟩) 1 1, .int .i64 0]
/-- the example, in memory -/
structure ExM (w : World) (b c d : Nat) : Prop where
  kb : w.heap[b]? = some (.cells #[.int .i64 0] 3 (0, 0))
  kc : w.heap[c]? = some (.cells #[.int .i64 1] 3 (0, 0))
  nd : w.heap[d]? = some (.cells (exCells b c) 39 (0, 0))
theorem Row.nil {w : World} {B sz : Nat} {A : Option Addr} : Row w B A sz [] := fun k r h => by simp at h
theorem ExM.lt {w : World} {b c d : Nat} (h : ExM w b c d) : b < w.heap.size ∧ c < w.heap.size ∧ d < w.heap.size :=
  ⟨(Array.getElem?_eq_some_iff.1 h.kb).1, (Array.getElem?_eq_some_iff.1 h.kc).1, (Array.getElem?_eq_some_iff.1 h.nd).1⟩
theorem ExM.below {w w' : World} {b c d : Nat} (h : ExM w b c d) (hb : Below w.heap.size w w') : ExM w' b c d :=
  ⟨(hb.block _ h.lt.1).trans h.kb, (hb.block _ h.lt.2.1).trans h.kc, (hb.block _ h.lt.2.2).trans h.nd⟩
theorem ExM.nds {w : World} {b c d : Nat} (h : ExM w b c d) : Nds w w.heap.size (some ⟨d, 0, none⟩) (exL b c) where
  rows := fun k r hr => by
    have hl := h.lt
    match k, hr with
    | 0, hr =>
      cases hr
      refine ⟨d, 0, rfl, hl.2.2, fun j u hu => ?_⟩
      rw [cell_blockK h.nd]
      match j, hu with
      | 0, hu | 1, hu | 2, hu | 3, hu | 4, hu | 5, hu => exact hu
      | j + 6, hu => simp [ndC] at hu
    | 1, hr =>
      cases hr
      refine ⟨d, 0, rfl, hl.2.2, fun j u hu => ?_⟩
      rw [cell_blockK h.nd]
      match j, hu with
      | 0, hu | 1, hu | 2, hu | 3, hu | 4, hu | 5, hu => exact hu
      | j + 6, hu => simp [ndC] at hu
    | 2, hr =>
      cases hr
      refine ⟨d, 0, rfl, hl.2.2, fun j u hu => ?_⟩
      rw [cell_blockK h.nd]
      match j, hu with
      | 0, hu | 1, hu | 2, hu | 3, hu | 4, hu | 5, hu => exact hu
      | j + 6, hu => simp [ndC] at hu
    | k + 3, hr => simp at hr
  each := fun x hx => by
    have hl := h.lt
    rcases List.mem_cons.1 hx with rfl | hx
    · exact Row.nil
    rcases List.mem_cons.1 hx with rfl | hx
    · intro k r hr
      match k, hr with
      | 0, hr =>
        cases hr
        refine ⟨b, 0, rfl, hl.1, fun j u hu => ?_⟩
        rw [cell_blockK h.kb]
        match j, hu with
        | 0, hu => exact hu
        | j + 1, hu => simp [kidC] at hu
      | k + 1, hr => simp at hr
    obtain rfl := List.mem_singleton.1 hx
    intro k r hr
    match k, hr with
    | 0, hr =>
      cases hr
      refine ⟨c, 0, rfl, hl.2.1, fun j u hu => ?_⟩
      rw [cell_blockK h.kc]
      match j, hu with
      | 0, hu => exact hu
      | j + 1, hu => simp [kidC] at hu
    | k + 1, hr => simp at hr
  small := ⟨by show 3 ≤ 3000; omega, fun x hx => by
    rcases List.mem_cons.1 hx with rfl | hx
    · show 0 ≤ 3000; omega
    rcases List.mem_cons.1 hx with rfl | hx
    · show 1 ≤ 3000; omega
    obtain rfl := List.mem_singleton.1 hx
    show 1 ≤ 3000; omega⟩
theorem Nds.take {w : World} {B k : Nat} {A : Option Addr} {l : List Nd} (h : Nds w B A l) : Nds w B A (l.take k) where
  rows := fun j r hr => h.rows j r (by
    rw [List.map_take, List.getElem?_take] at hr
    split at hr
    · exact hr
    · cases hr)
  each := fun x hx => h.each x (List.mem_of_mem_take hx)
  small := ⟨by have := h.small.1; rw [List.length_take]; omega, fun x hx => h.small.2 x (List.mem_of_mem_take hx)⟩
theorem ExM.node {w : World} {b c d : Nat} (h : ExM w b c d) (m cc : Nat) (hm : m ≤ 3) : ∀ (k : Nat) (x : Nd), ((exL b c).take m)[k]? = some x → ∀ w' cb, Below w.heap.size w w' → Ck w' cb (some ⟨d, 0, none⟩) m cc →
    Calls Tryd.prog 23 #[.pointer (some ⟨cb, 0, none⟩), .int .i64 (k : Nat)] w' fun e w'' => e = .returned (.bool true) ∧ Below w'.heap.size w' w'' := fun k x hx w' cb hb hc => by
  have h' := h.below hb
  have hkm : k < m := by
    have := (List.getElem?_eq_some_iff.1 hx).1
    rw [List.length_take] at this
    omega
  have hk3 : k = 0 ∨ k = 1 ∨ k = 2 := by omega
  rcases hk3 with rfl | rfl | rfl
  · exact node_0 hc (by omega) (cell_blockK h'.nd 0) (cell_blockK h'.nd 1) (cell_blockK h'.nd 2) (cell_blockK h'.nd 3) (cell_blockK h'.nd 4) (cell_blockK h'.nd 5)
  · exact node_1 hc (by omega) (cell_blockK h'.nd 6) (cell_blockK h'.nd 7) (cell_blockK h'.nd 8) (cell_blockK h'.nd 9) (cell_blockK h'.nd 10) (cell_blockK h'.nd 11) (cell_blockK h'.kb 0) (cell_blockK h'.nd 0)
  · exact node_2 hc (by omega) (cell_blockK h'.nd 12) (cell_blockK h'.nd 13) (cell_blockK h'.nd 14) (cell_blockK h'.nd 15) (cell_blockK h'.nd 16) (cell_blockK h'.nd 17) (cell_blockK h'.kc 0) (cell_blockK h'.nd 6)
theorem ExM.check3 {w : World} {b c d : Nat} (h : ExM w b c d) (cc : Nat) : Calls Tryd.prog 13 #[.slice (some ⟨d, 0, none⟩) 3 cc] w fun e w' => e = .returned (.tuple #[.int .i64 (checkT (fun _ => true) (exL b c)).1, .int .i64 (checkT (fun _ => true) (exL b c)).2]) ∧ Below w.heap.size w w' :=
  check_any (n := 3) (fun _ => true) h.nds rfl fun k x hx _ _ => h.node 3 cc (by omega) k x hx
theorem ExM.check2 {w : World} {b c d : Nat} (h : ExM w b c d) (cc : Nat) : Calls Tryd.prog 13 #[.slice (some ⟨d, 0, none⟩) 2 cc] w fun e w' => e = .returned (.tuple #[.int .i64 1, .int .i64 60]) ∧ Below w.heap.size w w' := by
  have := check_any (n := 2) (c := cc) (fun _ => true) (h.nds.take (k := 2)) rfl fun k x hx _ _ => h.node 2 cc (by omega) k x hx
  rw [show (exL b c).take 2 = [exA, exB b] from rfl, ex_check2] at this
  exact this

theorem ret_mark1 {f : Func} {tmps : Array Value} {D t : Nat} {v : Value} {w W' : World} (hf : f.results = #[.tmp t]) (ht : tmps.getD t undef = v) (hD : W'.heap[D]? = some (.deferred (some []))) (h1 : w.heap.size ≤ D) (hb : Below w.heap.size w W') :
    bodyPostM Fence.wide 3 Tryd.prog f (fun e w' => e = .returned v ∧ Below w.heap.size w w') .ret { tmps := tmps, defers := [{ target := .collected D, args := #[] }] } W' := by
  have hb2 : Below w.heap.size w (W'.putObj D (.deferred none)) := hb.grown (grownBy_putObj' _ _ _) hb.size (fun k hk => by cases hk; exact h1)
  refine ⟨by simp, .inl ⟨_, _, rfl, run_takeDeferred hD, ?_⟩⟩
  refine ⟨v, ?_, rfl, hb2⟩
  have ht' : tmps[t]?.getD undef = v := by simpa using ht
  simp [results, hf, ht', go_sem]

theorem awake_in (w : World) : CallsIn Fence.wide 3 Tryd.prog 5 #[] w fun e w' => e = .returned (.bool true) ∧ Below w.heap.size w w' := by
  have z1 := heap_alloc_new w (.cells #[.int .i64 0] 3)
  have b1 : Below w.heap.size w (w.alloc (.cells #[.int .i64 0] 3)) := (Below.refl _ _).alloc (Nat.le_refl _) _
  obtain ⟨w1, hw1⟩ : ∃ w1, w.alloc (.cells #[.int .i64 0] 3) = w1 := ⟨_, rfl⟩
  rw [hw1] at z1 b1
  have l1 : w.heap.size < w1.heap.size := (Array.getElem?_eq_some_iff.1 z1).1
  have z2 := heap_alloc_new w1 (.cells #[.int .i64 1] 3)
  have b2 : Below w1.heap.size w1 (w1.alloc (.cells #[.int .i64 1] 3)) := (Below.refl _ _).alloc (Nat.le_refl _) _
  obtain ⟨w2, hw2⟩ : ∃ w2, w1.alloc (.cells #[.int .i64 1] 3) = w2 := ⟨_, rfl⟩
  rw [hw2] at z2 b2
  have l2 : w1.heap.size < w2.heap.size := (Array.getElem?_eq_some_iff.1 z2).1
  have z3 := heap_alloc_new w2 (.cells (exCells w.heap.size w1.heap.size) 39)
  have b3 : Below w2.heap.size w2 (w2.alloc (.cells (exCells w.heap.size w1.heap.size) 39)) := (Below.refl _ _).alloc (Nat.le_refl _) _
  obtain ⟨w3, hw3⟩ : ∃ w3, w2.alloc (.cells (exCells w.heap.size w1.heap.size) 39) = w3 := ⟨_, rfl⟩
  rw [hw3] at z3 b3
  have hE : ExM w3 w.heap.size w1.heap.size w2.heap.size := ⟨(b3.block _ (by omega)).trans ((b2.block _ l1).trans z1), (b3.block _ l2).trans z2, z3⟩
  have b03 : Below w.heap.size w w3 := b1.trans ((b2.mono b1.size).trans (b3.mono (by omega)))
  unfold exCells at hw3
  refine callsIn_of_wp_marks Tryd.func5 rfl trivial ?_ rfl
  simp only [Tryd.ntmps5, List.size_toArray, List.length_cons, List.length_nil, Nat.reduceAdd, Nat.reduceSub, Array.replicate_succ, Array.replicate_zero, List.push_toArray, List.append_toArray, List.nil_append, List.cons_append]
  gi_wp2
  refine ⟨trivial, (callsIn_wide.2 (hE.check3 3)).mono ?_⟩
  rintro e w4 ⟨rfl, b4⟩
  rw [ex_check]
  have hE4 := hE.below b4
  have b04 := b03.trans (b4.mono b03.size)
  simp only
  gi_wp2
  refine ⟨trivial, (callsIn_wide.2 (hE4.check2 3)).mono ?_⟩
  rintro e w5 ⟨rfl, b5⟩
  have hE5 := hE4.below b5
  have b05 := b04.trans (b5.mono b04.size)
  have hwk := fun w' => walk_any (w := w') (A := some ⟨w2.heap.size, 0, none⟩) (n := 3) (c := 3)
  have hfn := fun w a b => neq_func_nilK w (.func 17) a b
  simp only
  gi_wp2
  have z6 : (w5.alloc (.cells #[.int .i64 0] 3)).heap[w5.heap.size]? = some (.cells #[.int .i64 0] 3 (0, 0)) := heap_alloc_new w5 _
  have b6 : Below w5.heap.size w5 (w5.alloc (.cells #[.int .i64 0] 3)) := (Below.refl _ _).alloc (Nat.le_refl _) _
  generalize w5.alloc (.cells #[.int .i64 0] 3) = w6 at z6 b6 ⊢
  have l6 : w5.heap.size < w6.heap.size := (Array.getElem?_eq_some_iff.1 z6).1
  refine ⟨trivial, (callsIn_wide.2 (hwk _)).mono ?_⟩
  rintro e w7' ⟨rfl, rfl⟩
  have z7 : (w6.alloc (.cells #[.slice (some ⟨w2.heap.size, 0, none⟩) 3 3] 22)).heap[w6.heap.size]? = some (.cells #[.slice (some ⟨w2.heap.size, 0, none⟩) 3 3] 22 (0, 0)) := heap_alloc_new w6 _
  have b7 : Below w6.heap.size w6 (w6.alloc (.cells #[.slice (some ⟨w2.heap.size, 0, none⟩) 3 3] 22)) := (Below.refl _ _).alloc (Nat.le_refl _) _
  generalize w6.alloc (.cells #[.slice (some ⟨w2.heap.size, 0, none⟩) 3 3] 22) = w7 at z7 b7 ⊢
  have l7 : w6.heap.size < w7.heap.size := (Array.getElem?_eq_some_iff.1 z7).1
  have hbx : Boxed w7 w5.heap.size 3 (.int .i64 0) := (b7.block _ l6).trans z6
  have b57 : Below w5.heap.size w5 w7 := b6.trans (b7.mono b6.size)
  have b07 := b05.trans (b57.mono b05.size)
  have s05 := b05.size
  simp only
  gi_wp2
  obtain ⟨xs, hxs⟩ : ∃ xs : List (TgP fun _ => True), xs.map (·.1) = pre (exL w.heap.size w1.heap.size) 3 (3 - 1) 0 := ⟨(pre (exL w.heap.size w1.heap.size) 3 (3 - 1) 0).map fun x => ⟨x, trivial⟩, by rw [List.map_map]; exact List.map_id _⟩
  have hxl : xs.length = 3 := by
    have h := congrArg List.length hxs
    rw [List.length_map] at h
    rw [h, ex_pre]; rfl
  have hst := walk_stops (C := fun k => k = w5.heap.size) (ok := fun _ => true) 1 hE5.nds rfl (ex_check _ _) (fun W hW => (hE5.below hW).check3 3) xs hxs b57 z7 (fun k hk => by subst hk; omega) (by show ¬ w6.heap.size = w5.heap.size; omega)
  refine range_frame (by omega) (gf := 17) (lb := #[.pointer (some ⟨w6.heap.size, 0, none⟩)]) rfl (enters_of Tryd.func17 (by kernel_rfl) rfl)
    hst (fun {A B C} h k => h.trans k) (fun W l o o' hl h ho _ => keepC_b (by omega) W l o o' hl h ho) (Below.refl _ _) (fun _ => rfl)
    (fun (pr : List (TgP fun _ => True)) W' => Boxed W' w5.heap.size 3 (.int .i64 pr.length) ∧ Below w5.heap.size w5 W')
    (fun c pr W' => False)
    (OwnFrom.and (Own.from (boxed_own w5.heap.size 3 (fun (pr : List (TgP fun _ => True)) => .int .i64 pr.length)) _) (ownFrom_below (Nat.le_refl _) (by omega)))
    (fun c s X Y row hs _ _ => hs)
    ⟨hbx, b57⟩
    (fun T x => (T.setIfInBounds 30 (.int .i64 (x.1.1 : Nat))).setIfInBounds 31 (.int .i64 (x.1.2 : Nat)))
    ?assign ?body ?done ?stop
  case assign =>
    rintro l pr ⟨⟨x1, x2⟩, hx⟩ W' K ⟨hI1, hB⟩ hK
    simp only [encTg]
    gi_wp2
    refine hK _ _ (KeepsFrom.refl _ _) ⟨Below.refl _ _, fun _ _ h _ _ => h⟩ ⟨hI1, hB⟩ ?_
    rfl
  case body =>
    rintro l pr ⟨⟨x1, x2⟩, hx⟩ W' hl ⟨rr, hrr⟩ ⟨hk, hB⟩ hlt
    simp only [List.setIfInBounds_toArray, List.set_cons_zero, List.set_cons_succ]
    obtain ⟨i, hi⟩ : ∃ i, pr.length = i := ⟨_, rfl⟩
    simp only [hi] at hk hlt
    have hlen : ((pr ++ [(⟨(x1, x2), hx⟩ : TgP fun _ => True)]).length : Int) = (i : Int) + 1 := by rw [List.length_append, hi]; simp
    have ck := hk.cell
    have fk := hk.frozen
    gi_wp2
    refine ⟨(KeepsOthers.setCell _ _ _).from _, keepC_set (C := fun k => k = w5.heap.size) (b := w5.heap.size) (Nat.le_refl _) rfl _ _ _, ?_, hB.setCell (p := ⟨w5.heap.size, 0, none⟩) (Nat.le_refl _) _⟩
    rw [hlen]
    exact hk.set _
  case done =>
    rintro D2 ys W' hD2 rfl ⟨hk, hB⟩ hK3
    rw [hxl] at hk
    have ck := hk.cell
    have hE' := hE5.below hB
    have bW := b05.trans (hB.mono b05.size)
    dsimp only
    gi_wp2
    refine ⟨trivial, ?_⟩
    refine (callsIn_wide.2 (deep_any (n := 3) (c := 3) hE'.nds rfl)).mono ?_
    rintro e w8 ⟨rfl, b8⟩
    rw [ex_deep]
    have ck8 := (b8.cell (p := ⟨w5.heap.size, 0, none⟩) hk.lt).trans ck
    have hK8 := (b8.block _ (Array.getElem?_eq_some_iff.1 hK3).1).trans hK3
    simp only
    gi_wp2
    exact ret_mark1 rfl rfl hK8 (by omega) (bW.trans (b8.mono bW.size))
  case stop =>
    rintro D2 c pr W' hD2 hpre hn hK3
    exact hn.elim

theorem awake_any (w : World) : Calls Tryd.prog 5 #[] w fun e w' => e = .returned (.bool true) ∧ Below w.heap.size w w' := callsIn_wide.1 (awake_in w)
end Go.Proofs.YtgnpgdjjdhlhaaaDoor
