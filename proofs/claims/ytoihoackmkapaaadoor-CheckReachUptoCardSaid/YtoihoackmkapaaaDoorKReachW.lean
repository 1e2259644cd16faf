/- The walk of CheckReach. -/
import Derived.Test.YtoihoackmkapaaaDoorKModules
import Derived.Test.YtoihoackmkapaaaDoorKRefTargets
import Derived.RangeFuncNested
import Derived.RangeFuncBox
namespace Go.Proofs.YtoihoackmkapaaaDoor
open Go.RowKit
set_option maxHeartbeats 4000000
set_option maxRecDepth 100000
attribute [local go_sem] Oper.semAt_some

theorem eql_func_nilK (w : World) (fn : Fn) (x y : Array Value) : (binOp .eql 45 (.func fn x y) .nilFunc).run Tryd.prog w = .ok (.bool false) w := by
  have h : ∀ d : Nat, (Op.equalIn (d + 1) 45 (.func fn x y) .nilFunc).run Tryd.prog w = .ok false w := fun d => by
    simp [Op.equalIn, run_underlying Tryd.underlying45]
  simp only [binOp]
  simp [Op.equal, Op.maxDepth, h 9999]
section
variable {P : Program} {n n0 : Nat} {g : Operand} {ps : Array Tmp} {Q : Exit → Act → World → Prop} {a : Act} {w : World} {α : Type} {gf : Nat} {lb : Array Value} {encs : α → Array Value} {S Sp : List α → Prop} {N : Nat}
theorem range_breakK (h1 : 1 ≤ n) (hn0 : n0 ≤ w.heap.size) (hg : a.eval g = .func (.func gf) #[] lb) (eg : ∀ args w, (callFunc gf args).run P w = .ok (.enter gf args) w) (hseq : SeqStopsK Fence.wide (n - 1) P gf lb encs (Below n0) S Sp N w) (hps : ∀ x, (encs x).size = ps.size)
    (hcont : ∀ (D : Nat) (W : World), w.heap.size ≤ D → Below w.heap.size w W → W.heap[D]? = some (.deferred (some [])) → Q .normal { a with defers := { target := .collected D, args := #[] } :: a.defers } W) :
    (Code.rangeFunc g ps .skip (.block 3 (.exit 2))).wpIn Fence.wide n P (Exit.inBlock 2 Q) a w := by
  refine wpIn_rangeFunc_ownH rfl h1 hg trivial eg hseq belowK_t (belowK_b hn0) (Below.refl _ _) hps
    (fun _ W => Below w.heap.size w W) (fun c _ W => c = .exit 2 ∧ Below w.heap.size w W) (ownFrom_below (Nat.le_refl _) (Nat.le_refl _))
    (fun c s X Y row hs hg' hr => ⟨hs.1, ownFrom_below (β := List α) (Nat.le_refl _) (Nat.le_refl _) s X Y row hs.2 hg' hr⟩) (Below.refl _ _)
    (fun _ _ _ => True) (fun _ _ _ _ _ _ _ _ _ => trivial) ?assign ?body ?done ?stop
  case assign =>
    intro l pre x W K hI hK
    gi_wp2
    exact hK _ _ (KeepsFrom.refl _ _) (Below.refl _ _) hI trivial
  case body =>
    intro l pre x a' W hl hr hI hA hN
    gi_wp2
    exact ⟨KeepsFrom.refl _ _, rfl, hI⟩
  case done =>
    intro D xs W hD _ hI hK
    exact hcont D W hD hI hK
  case stop =>
    rintro D c pre W hD _ ⟨rfl, hI⟩ hK
    gi_wp2
    exact hcont D W hD hI hK
end

section
variable {P : Program} {n : Nat} {g : Operand} {ps : Array Tmp} {assign body : Code} {Q : Exit → Act → World → Prop} {a : Act} {w w0 : World} {α : Type} {gf : Nat} {lb : Array Value} {encs : α → Array Value} {Kp : World → World → Prop} {S Sp : List α → Prop} {N : Nat}
/-- a range over a function, the frame of a round told by the frame ahead of the loop -/
theorem range_frame (h1 : 1 ≤ n) (hg : a.eval g = .func (.func gf) #[] lb) (eg : ∀ args w, (callFunc gf args).run P w = .ok (.enter gf args) w) (hseq : SeqStopsK Fence.wide (n - 1) P gf lb encs Kp S Sp N w0)
    (hKt : ∀ {A B C : World}, Kp A B → Kp B C → Kp A C) (hKb : ∀ (W : World) (l : Nat) (o o' : Obj), w.heap.size ≤ l → W.heap[l]? = some o → o.isCells = false → o.isWalk = false → Kp W (W.putObj l o')) (hb0 : Below w0.heap.size w0 w) (hps : ∀ x, (encs x).size = ps.size)
    (I : List α → World → Prop) (Ix : Code → List α → World → Prop) (hI : OwnFrom w.heap.size I) (hIx : ∀ c, OwnFrom w.heap.size (Ix c)) (h0 : I [] w) (T' : Array Value → α → Array Value)
    (hassign : ∀ (l : Nat) (pre : List α) (x : α) (W : World) (K : Act → World → Prop), I pre W → (∀ a' W', KeepsFrom w.heap.size W W' → Kp W W' → I pre W' → a' = { tmps := T' a.tmps x, defers := [] } → K a' W') →
      assign.wpIn (Fence.wide.inRound l) (n - 1 - 1) P (Exit.then K (fun _ _ _ => False)) { tmps := (ps.zip (encs x)).foldl (fun t (p, v) => t.setIfInBounds p v) a.tmps, defers := [] } W)
    (hbody : ∀ (l : Nat) (pre : List α) (x : α) (W : World), w.heap.size ≤ l → (∃ r, W.heap[l]? = some (.loop r)) → I pre W → pre.length < N → body.wpIn (Fence.wide.inRound l) (n - 1 - 1) P (ownPostG w.heap.size Kp I Ix (pre ++ [x]) W) { tmps := T' a.tmps x, defers := [] } W)
    (hdone : ∀ (D : Nat) (xs : List α) (W : World), w.heap.size ≤ D → S xs → I xs W → W.heap[D]? = some (.deferred (some [])) → Q .normal { a with defers := { target := .collected D, args := #[] } :: a.defers } W)
    (hstop : ∀ (D : Nat) (c : Code) (pre : List α) (W : World), w.heap.size ≤ D → Sp pre → Ix c pre W → W.heap[D]? = some (.deferred (some [])) → c.wpIn Fence.wide n P Q { a with defers := { target := .collected D, args := #[] } :: a.defers } W) :
    (Code.rangeFunc g ps assign body).wpIn Fence.wide n P Q a w :=
  wpIn_rangeFunc_ownH rfl h1 hg trivial eg hseq hKt hKb hb0 hps I Ix hI hIx h0 (fun x a' _ => a' = { tmps := T' a.tmps x, defers := [] }) (fun _ _ _ _ _ _ hs _ _ => hs) hassign
    (fun l pre x a' W h1 h2 h3 h4 h5 => by subst h4; exact hbody l pre x W h1 h2 h3 h5) hdone hstop
end
theorem reach_end {tmps : Array Value} {B D D2 : Nat} {w W' : World} (ht : tmps.getD 2 undef = .pointer (some ⟨B, 0, none⟩)) (hv : W'.heap[B]? = some (.cells #[.bool false] 4 (0, 0))) (hD : W'.heap[D]? = some (.deferred (some []))) (hD2 : W'.heap[D2]? = some (.deferred (some [])))
    (hne : D ≠ D2) (hb : Below w.heap.size w W') (hB : w.heap.size ≤ B) (h1 : w.heap.size ≤ D) (h2 : w.heap.size ≤ D2) :
    bodyPostM Fence.wide 3 Tryd.prog Tryd.f4 (fun e w' => e = .returned (.bool true) ∧ Below w.heap.size w w') .ret { tmps := tmps, defers := [{ target := .collected D2, args := #[] }, { target := .collected D, args := #[] }] } (W'.setCell ⟨B, 0, none⟩ (.bool true)) := by
  have n1 : D ≠ B := fun e => by rw [e, hv] at hD; cases hD
  have n2 : D2 ≠ B := fun e => by rw [e, hv] at hD2; cases hD2
  have k1 : (W'.setCell ⟨B, 0, none⟩ (.bool true)).heap[D2]? = some (.deferred (some [])) := by rw [Below.heap_setCell _ _ _ _ n2]; exact hD2
  have k2 : ((W'.setCell ⟨B, 0, none⟩ (.bool true)).putObj D2 (.deferred none)).heap[D]? = some (.deferred (some [])) := by
    rw [World.putObj_heap_other hne, Below.heap_setCell _ _ _ _ n1]; exact hD
  have k3 : (((W'.setCell ⟨B, 0, none⟩ (.bool true)).putObj D2 (.deferred none)).putObj D (.deferred none)).heap[B]? = some (.cells #[.bool true] 4 (0, 0)) := by
    rw [World.putObj_heap_other (Ne.symm n1), World.putObj_heap_other (Ne.symm n2)]
    exact Boxed.set (.bool true) hv
  have k4 := cell_blockK k3 0
  have s1 := hb.size
  have hb1 : Below w.heap.size w (W'.setCell ⟨B, 0, none⟩ (.bool true)) := hb.setCell (p := ⟨B, 0, none⟩) hB _
  have hb2 : Below w.heap.size w ((W'.setCell ⟨B, 0, none⟩ (.bool true)).putObj D2 (.deferred none)) := hb1.grown (grownBy_putObj' _ _ _) hb1.size (fun k hk => by cases hk; exact h2)
  have hb3 : Below w.heap.size w (((W'.setCell ⟨B, 0, none⟩ (.bool true)).putObj D2 (.deferred none)).putObj D (.deferred none)) := hb2.grown (grownBy_putObj' _ _ _) hb2.size (fun k hk => by cases hk; exact h1)
  simp at k4
  refine ⟨by simp, .inl ⟨_, _, rfl, run_takeDeferred k1, ?_⟩⟩
  refine ⟨by simp, .inl ⟨_, _, rfl, run_takeDeferred k2, ?_⟩⟩
  refine ⟨.bool true, ?_, rfl, hb3⟩
  have ht' : tmps[2]?.getD undef = .pointer (some ⟨B, 0, none⟩) := by simpa using ht
  simp [results, Tryd.results4, ht', go_sem, k4]

theorem reachW_in (f : FnT) {W : World} (hF : FnIn W W.heap.size f) (hok : ∀ i ∈ f.code, okIns i) (hT : Tb W) (hs : fewF f + 1 ≤ 1048576) :
    CallsIn Fence.wide 3 Tryd.prog 4 #[.agg (fnC f).toArray] W fun e W' => e = .returned (.bool true) ∧ Below W.heap.size W W' := by
  obtain ⟨N, hN⟩ : ∃ n, f.code.length = n := ⟨_, rfl⟩
  have hfn : fewN [f] = fewF f + 1 := by simp [fewN]; omega
  have htg0 := fun w' => targets_any f w'
  have hrc0 := fun w' (hF : FnIn w' w'.heap.size f) => refreach_any (w := w') f hF
  have hrt0 := fun w' (hF : FnIn w' w'.heap.size f) => refTargets_any (w := w') f hF
  have hre0 := fun w' (hF : FnIn w' w'.heap.size f) (hT : Tb w') (hs : Small f) => reach_any (w := w') f hF hT hs hok
  have hmo0 := fun (w' : World) (b : Nat) (hF : FnIn w' w'.heap.size f) (hb : b < w'.heap.size) => mod_one (w := w') (f := f) hF hb
  simp only [fnC] at htg0 hrc0 hrt0 hre0 hmo0 ⊢
  rw [hN] at htg0 hrc0 hrt0 hre0 hmo0 ⊢
  have HN := Lib.hid hN
  have HFN := Lib.hid hfn
  clear hN hfn
  have z1 : (W.alloc (.cells #[.string f.name, .int .i64 f.params, .bool f.rest, .bool f.arrow, .int .i64 f.regs, .slice f.cA f.consts.length f.cC, .slice f.kA N f.kC, .slice f.tA f.tries.length f.tC, .slice f.uA f.caps.length f.uC] 38)).heap[W.heap.size]? = some (.cells #[.string f.name, .int .i64 f.params, .bool f.rest, .bool f.arrow, .int .i64 f.regs, .slice f.cA f.consts.length f.cC, .slice f.kA N f.kC, .slice f.tA f.tries.length f.tC, .slice f.uA f.caps.length f.uC] 38 (0, 0)) := heap_alloc_new W _
  have b1 : Below W.heap.size W (W.alloc (.cells #[.string f.name, .int .i64 f.params, .bool f.rest, .bool f.arrow, .int .i64 f.regs, .slice f.cA f.consts.length f.cC, .slice f.kA N f.kC, .slice f.tA f.tries.length f.tC, .slice f.uA f.caps.length f.uC] 38)) := (Below.refl _ _).alloc (Nat.le_refl _) _
  obtain ⟨w1, hw1⟩ : ∃ w1, W.alloc (.cells #[.string f.name, .int .i64 f.params, .bool f.rest, .bool f.arrow, .int .i64 f.regs, .slice f.cA f.consts.length f.cC, .slice f.kA N f.kC, .slice f.tA f.tries.length f.tC, .slice f.uA f.caps.length f.uC] 38) = w1 := ⟨_, rfl⟩
  rw [hw1] at z1 b1
  have l1 : W.heap.size < w1.heap.size := (Array.getElem?_eq_some_iff.1 z1).1
  have z2 : (w1.alloc (.cells #[.bool false] 4)).heap[w1.heap.size]? = some (.cells #[.bool false] 4 (0, 0)) := heap_alloc_new w1 _
  have b2 : Below w1.heap.size w1 (w1.alloc (.cells #[.bool false] 4)) := (Below.refl _ _).alloc (Nat.le_refl _) _
  obtain ⟨w2, hw2⟩ : ∃ w2, w1.alloc (.cells #[.bool false] 4) = w2 := ⟨_, rfl⟩
  rw [hw2] at z2 b2
  have l2 : w1.heap.size < w2.heap.size := (Array.getElem?_eq_some_iff.1 z2).1
  have y1 := (b2.block W.heap.size l1).trans z1
  have b02 : Below W.heap.size W w2 := b1.trans (b2.mono (by omega))
  refine callsIn_of_wp_marks Tryd.func4 rfl trivial ?_ rfl
  simp only [Tryd.ntmps4, List.size_toArray, List.length_cons, List.length_nil, Nat.reduceAdd, Nat.reduceSub, Array.replicate_succ, Array.replicate_zero, List.push_toArray, List.append_toArray, List.nil_append, List.cons_append]
  gi_wp2
  refine ⟨trivial, ?_⟩
  refine (callsIn_wide.2 (awake_any _ (hT.below b02 (Nat.le_refl _)))).mono ?_
  rintro e w3 ⟨rfl, b3⟩
  clear hw1 hw2 z1 b1 b2
  have y1 := (b3.block _ (by omega)).trans y1
  have y2 := (b3.block _ l2).trans z2
  have b03 := b02.trans (b3.mono b02.size)
  have s3 := b3.size
  have c0 := cell_blockK y1 0
  have c1 := cell_blockK y1 1
  have c2 := cell_blockK y1 2
  have c3 := cell_blockK y1 3
  have c4 := cell_blockK y1 4
  have c5 := cell_blockK y1 5
  have c6 := cell_blockK y1 6
  have c7 := cell_blockK y1 7
  have c8 := cell_blockK y1 8
  simp at c0 c1 c2 c3 c4 c5 c6 c7 c8
  clear b3 b02 z2
  simp only
  gi_wp2
  have zm : (w3.alloc (.cells #[.string f.name, .int .i64 f.params, .bool f.rest, .bool f.arrow, .int .i64 f.regs, .slice f.cA f.consts.length f.cC, .slice f.kA N f.kC, .slice f.tA f.tries.length f.tC, .slice f.uA f.caps.length f.uC] 38)).heap[w3.heap.size]? = some (.cells #[.string f.name, .int .i64 f.params, .bool f.rest, .bool f.arrow, .int .i64 f.regs, .slice f.cA f.consts.length f.cC, .slice f.kA N f.kC, .slice f.tA f.tries.length f.tC, .slice f.uA f.caps.length f.uC] 38 (0, 0)) := heap_alloc_new w3 _
  have bm : Below w3.heap.size w3 (w3.alloc (.cells #[.string f.name, .int .i64 f.params, .bool f.rest, .bool f.arrow, .int .i64 f.regs, .slice f.cA f.consts.length f.cC, .slice f.kA N f.kC, .slice f.tA f.tries.length f.tC, .slice f.uA f.caps.length f.uC] 38)) := (Below.refl _ _).alloc (Nat.le_refl _) _
  generalize w3.alloc (.cells #[.string f.name, .int .i64 f.params, .bool f.rest, .bool f.arrow, .int .i64 f.regs, .slice f.cA f.consts.length f.cC, .slice f.kA N f.kC, .slice f.tA f.tries.length f.tC, .slice f.uA f.caps.length f.uC] 38) = w4 at zm bm ⊢
  have lm := (Array.getElem?_eq_some_iff.1 zm).1
  have b04 := b03.trans (bm.mono b03.size)
  refine ⟨trivial, ?_⟩
  refine (callsIn_wide.2 (few_any (A := some ⟨w3.heap.size, 0, none⟩) (n := 1) (fns := [f]) (hmo0 _ _ (hF.below b04 b04.size) lm zm) rfl (by rw [HFN.out]; exact hs))).mono ?_
  rintro e w5 ⟨rfl, b5⟩
  replace y1 := (b5.block _ (by omega)).trans ((bm.block _ (by omega)).trans y1)
  replace y2 := (b5.block _ (by omega)).trans ((bm.block _ (by omega)).trans y2)
  have b05 := b04.trans (b5.mono b04.size)
  have s5 := b5.size
  clear c0 c1 c2 c3 c4 c5 c6 c7 c8 b5 bm zm b03 b04
  have c0 := cell_blockK y1 0
  have c1 := cell_blockK y1 1
  have c2 := cell_blockK y1 2
  have c3 := cell_blockK y1 3
  have c4 := cell_blockK y1 4
  have c5 := cell_blockK y1 5
  have c6 := cell_blockK y1 6
  have c7 := cell_blockK y1 7
  have c8 := cell_blockK y1 8
  simp at c0 c1 c2 c3 c4 c5 c6 c7 c8
  have d2 := cell_blockK y2 0
  have f2 := frozen_blockK y2 0
  simp at d2
  by_cases hfew : fewN [f] ≤ 1000
  · have hsm : Small f := (few_len hfew).2 f (by simp)
    rw [decide_eq_true hfew]
    clear hfew hs
    obtain ⟨xs, hxs⟩ := tg_list f hsm.k hok
    have hlf := hsm.k
    rw [HN.out] at hlf
    have hfn := fun w a b => eql_func_nilK w (.func 29) a b
    have HXS := Lib.hid hxs
    clear hxs
    try simp only
    gi_wp2
    refine wpIn_wide.2 ?_
    refine wp_region_lin (fun w' => w'.cell? ⟨W.heap.size, 0, none⟩ = some (.string f.name) ∧ w'.cell? ⟨W.heap.size, 1, none⟩ = some (.int .i64 f.params) ∧ w'.cell? ⟨W.heap.size, 2, none⟩ = some (.bool f.rest) ∧ w'.cell? ⟨W.heap.size, 3, none⟩ = some (.bool f.arrow) ∧ w'.cell? ⟨W.heap.size, 4, none⟩ = some (.int .i64 f.regs) ∧ w'.cell? ⟨W.heap.size, 5, none⟩ = some (.slice f.cA f.consts.length f.cC) ∧ w'.cell? ⟨W.heap.size, 6, none⟩ = some (.slice f.kA N f.kC) ∧ w'.cell? ⟨W.heap.size, 7, none⟩ = some (.slice f.tA f.tries.length f.tC) ∧ w'.cell? ⟨W.heap.size, 8, none⟩ = some (.slice f.uA f.caps.length f.uC)) [5] (.block 0 (.block 2 (.scope (.seq (.label 1) (.scope (.seq (.label 3) (.block 4 (.loop (.block 5 (.skip)))))))))) (by kernel_rfl) (by kernel_rfl) (by kernel_rfl) (by kernel_rfl) (by kernel_rfl) ⟨c0, c1, c2, c3, c4, c5, c6, c7, c8⟩ ?_
    repeat
      (refine lin_light (A1 := ?_) rfl rfl rfl rfl rfl (fun w' hS K hK => ?_) ?_ ?_
       rotate_left
       · obtain ⟨s0, s1, s2, s3, s4, s5, s6, s7, s8⟩ := hS; go_step; exact hK
       · rfl)
    refine lin_group ?_
    refine lin_heavy rfl rfl (fun K hK => ?_)
    go_step
    refine (hre0 _ (hF.below b05.drew b05.size) (hT.below b05.drew (Nat.le_refl _)) hsm).mono ?_
    rintro e w6 ⟨bb, bs1, rfl, hrc1, hh1, hlo1, b6⟩
    have b6' : Below w5.heap.size w5 w6 := (Below.refl _ _).drew.trans b6
    have y6 := (b6'.block W.heap.size (by omega)).trans y1
    have b06 := b05.trans (b6'.mono b05.size)
    have p0 := cell_blockK y6 0
    have p1 := cell_blockK y6 1
    have p2 := cell_blockK y6 2
    have p3 := cell_blockK y6 3
    have p4 := cell_blockK y6 4
    have p5 := cell_blockK y6 5
    have p6 := cell_blockK y6 6
    have p7 := cell_blockK y6 7
    have p8 := cell_blockK y6 8
    simp at p0 p1 p2 p3 p4 p5 p6 p7 p8
    try simp only
    refine hK.out _ _ ⟨p0, p1, p2, p3, p4, p5, p6, p7, p8⟩ ?_
    clear hK K
    try refine lin_late ?_
    repeat
      (refine lin_light (A1 := ?_) rfl rfl rfl rfl rfl (fun w' hS K hK => ?_) ?_ ?_
       rotate_left
       · obtain ⟨s0, s1, s2, s3, s4, s5, s6, s7, s8⟩ := hS; go_step; exact hK
       · rfl)
    refine lin_group ?_
    refine lin_heavy rfl rfl (fun K hK => ?_)
    go_step
    refine (hrc0 _ (hF.below b06 b06.size) hsm).mono ?_
    rintro e w7 ⟨bb2, bs2, rfl, hrc2, hh2, hlo2, b7⟩
    obtain rfl := hrc1.eq hrc2
    have y7 := (b7.block W.heap.size (by have := b6'.size; omega)).trans y6
    have b07 := b06.trans (b7.mono b06.size)
    have hh1' := (b7.block bs1 (Array.getElem?_eq_some_iff.1 hh1).1).trans hh1
    have q0 := cell_blockK y7 0
    have q1 := cell_blockK y7 1
    have q2 := cell_blockK y7 2
    have q3 := cell_blockK y7 3
    have q4 := cell_blockK y7 4
    have q5 := cell_blockK y7 5
    have q6 := cell_blockK y7 6
    have q7 := cell_blockK y7 7
    have q8 := cell_blockK y7 8
    simp at q0 q1 q2 q3 q4 q5 q6 q7 q8
    try simp only
    refine hK.out _ _ ⟨q0, q1, q2, q3, q4, q5, q6, q7, q8⟩ ?_
    clear hK K
    try refine lin_late ?_
    repeat
      (refine lin_light (A1 := ?_) rfl rfl rfl rfl rfl (fun w' hS K hK => ?_) ?_ ?_
       rotate_left
       · obtain ⟨s0, s1, s2, s3, s4, s5, s6, s7, s8⟩ := hS; go_step; exact hK
       · rfl)
    refine lin_end ?_
    have hbl := hrc1.1
    have z7 := (b7.block w1.heap.size (by have := b6'.size; omega)).trans ((b6'.block w1.heap.size (by omega)).trans y2)
    have s7' := b07.size
    clear hrc1 hrc2 hh1 b7 b6 b6' y6 y1 y2
    gi_wp2
    refine wpIn_wide.2 ?_
    go_loopw [30] (fun i wr => ∃ k : Nat, k ≤ N ∧ i = .int .i64 k ∧ Below w7.heap.size w7 wr) (fun i _ => N - (intOf i).toNat)
    case atStart => exact ⟨0, Nat.zero_le _, rfl, Below.refl _ _⟩
    case round =>
      obtain ⟨k, hk, rfl, hb8⟩ := hrel
      obtain ⟨w8, rfl⟩ : ∃ w8, w8 = wr := ⟨_, rfl⟩
      by_cases hlt : k < N
      · obtain ⟨x, hx⟩ : ∃ x, bb[k]? = some x := ⟨bb[k]'(by omega), List.getElem?_eq_getElem _⟩
        have ca := cell_blockK ((hb8.block bs1 (Array.getElem?_eq_some_iff.1 hh1').1).trans hh1') k
        have cb := cell_blockK ((hb8.block bs2 (Array.getElem?_eq_some_iff.1 hh2).1).trans hh2) k
        rw [List.getElem?_toArray, List.getElem?_map, hx] at ca cb
        simp only [Option.map_some] at ca cb
        clear hx
        go_wp2_with fail
        refine wp_region_lin (fun w' => w'.cell? ⟨bs1, k, none⟩ = some (.bool x) ∧ w'.cell? ⟨bs2, k, none⟩ = some (.bool x)) [] (.block 0 (.block 1 (.block 2 (.block 3 (.block 4 (.block 5 (.block 6 (.block 7 (.block 8 (.skip)))))))))) (by kernel_rfl) (by kernel_rfl) (by kernel_rfl) (by kernel_rfl) (by kernel_rfl) ⟨ca, cb⟩ ?_
        repeat
          (refine lin_light (A1 := ?_) rfl rfl rfl rfl rfl (fun w' hS K hK => ?_) ?_ ?_
           rotate_left
           · obtain ⟨s0, s1⟩ := hS; go_step; exact hK
           · rfl)
        refine lin_end ?_
        cases x
        all_goals
          go_wp2_with fail
          go_roundw
          case rel => exact ⟨k + 1, by omega, by go_num, hb8.drew⟩
          case measure => simp [intOf]; omega
      · obtain rfl : N = k := by omega
        have y8 := (hb8.block W.heap.size (Array.getElem?_eq_some_iff.1 y7).1).trans y7
        have z8 := (hb8.block w1.heap.size (Array.getElem?_eq_some_iff.1 z7).1).trans z7
        have b08 := b07.trans (hb8.mono b07.size)
        clear hh1' hh2 z7 y7
        have r0 := cell_blockK y8 0
        have r1 := cell_blockK y8 1
        have r2 := cell_blockK y8 2
        have r3 := cell_blockK y8 3
        have r4 := cell_blockK y8 4
        have r5 := cell_blockK y8 5
        have r6 := cell_blockK y8 6
        have r7 := cell_blockK y8 7
        have r8 := cell_blockK y8 8
        simp at r0 r1 r2 r3 r4 r5 r6 r7 r8
        have s8' := hb8.size
        clear hb8
        go_wp2_with fail
        gi_wp2
        refine ⟨trivial, ?_⟩
        refine (callsIn_wide.2 (hrt0 _ (hF.below b08 b08.size) hsm)).mono ?_
        rintro e w9 ⟨v1, v2, rfl, hat, hto, b9⟩
        obtain ⟨Aa, ca, rfl⟩ := own_formK hat
        obtain ⟨Ao, co, rfl⟩ := own_formK hto
        have hrda := Rd.of_own hat
        have hrdo := Rd.of_own hto
        have y9 := (b9.block W.heap.size (Array.getElem?_eq_some_iff.1 y8).1).trans y8
        have z9 := (b9.block w1.heap.size (Array.getElem?_eq_some_iff.1 z8).1).trans z8
        have b09 := b08.trans (b9.mono b08.size)
        have s9' := b9.size
        obtain ⟨L, hL⟩ : ∃ L, (TG 0 f.code).length = L := ⟨_, rfl⟩
        rw [hL] at hat hto ⊢
        have HL := Lib.hid hL
        clear hL hat hto b9 y8 z8 r0 r1 r2 r3 r4 r5 r6 r7 r8 q0 q1 q2 q3 q4 q5 q6 q7 q8 p0 p1 p2 p3 p4 p5 p6 p7 p8 c0 c1 c2 c3 c4 c5 c6 c7 c8
        have e9 : (w9.alloc (.cells #[.slice Aa L ca] 41)).heap.size = w9.heap.size + 1 := by simp
        have k0 : ((w9.alloc (.cells #[.slice Aa L ca] 41)).alloc (.cells #[.slice Ao L co] 41)).heap[w9.heap.size]? = some (.cells #[.slice Aa L ca] 41 (0, 0)) := by rw [Lib.alloc_old _ _ _ (by rw [e9]; omega)]; exact heap_alloc_new w9 _
        have k1 : ((w9.alloc (.cells #[.slice Aa L ca] 41)).alloc (.cells #[.slice Ao L co] 41)).heap[w9.heap.size + 1]? = some (.cells #[.slice Ao L co] 41 (0, 0)) := by rw [← e9]; exact heap_alloc_new _ _
        have b10 : Below w9.heap.size w9 ((w9.alloc (.cells #[.slice Aa L ca] 41)).alloc (.cells #[.slice Ao L co] 41)) := ((Below.refl _ _).alloc (Nat.le_refl _) _).alloc (by rw [e9]; omega) _
        clear e9
        obtain ⟨w10, hw10⟩ : ∃ w10, ((w9.alloc (.cells #[.slice Aa L ca] 41)).alloc (.cells #[.slice Ao L co] 41)) = w10 := ⟨_, rfl⟩
        rw [hw10] at k0 k1 b10
        have y10 := (b10.block W.heap.size (Array.getElem?_eq_some_iff.1 y9).1).trans y9
        have z10 := (b10.block w1.heap.size (Array.getElem?_eq_some_iff.1 z9).1).trans z9
        have b010 := b09.trans (b10.mono b09.size)
        clear y9 z9
        have c0 := cell_blockK y10 0
        have c1 := cell_blockK y10 1
        have c2 := cell_blockK y10 2
        have c3 := cell_blockK y10 3
        have c4 := cell_blockK y10 4
        have c5 := cell_blockK y10 5
        have c6 := cell_blockK y10 6
        have c7 := cell_blockK y10 7
        have c8 := cell_blockK y10 8
        simp at c0 c1 c2 c3 c4 c5 c6 c7 c8
        simp only
        gi_wp2
        refine ⟨trivial, ?_⟩
        refine (callsIn_wide.2 (htg0 _)).mono ?_
        rintro e w11' ⟨rfl, rfl⟩
        clear hw10 c0 c1 c2 c3 c4 c5 c6 c7 c8 htg0 hrc0 hrt0 hre0 hmo0
        have zt : (w10.alloc (.cells #[.string f.name, .int .i64 f.params, .bool f.rest, .bool f.arrow, .int .i64 f.regs, .slice f.cA f.consts.length f.cC, .slice f.kA N f.kC, .slice f.tA f.tries.length f.tC, .slice f.uA f.caps.length f.uC] 38)).heap[w10.heap.size]? = some (.cells #[.string f.name, .int .i64 f.params, .bool f.rest, .bool f.arrow, .int .i64 f.regs, .slice f.cA f.consts.length f.cC, .slice f.kA N f.kC, .slice f.tA f.tries.length f.tC, .slice f.uA f.caps.length f.uC] 38 (0, 0)) := heap_alloc_new w10 _
        have b11 : Below w10.heap.size w10 (w10.alloc (.cells #[.string f.name, .int .i64 f.params, .bool f.rest, .bool f.arrow, .int .i64 f.regs, .slice f.cA f.consts.length f.cC, .slice f.kA N f.kC, .slice f.tA f.tries.length f.tC, .slice f.uA f.caps.length f.uC] 38)) := (Below.refl _ _).alloc (Nat.le_refl _) _
        generalize w10.alloc (.cells #[.string f.name, .int .i64 f.params, .bool f.rest, .bool f.arrow, .int .i64 f.regs, .slice f.cA f.consts.length f.cC, .slice f.kA N f.kC, .slice f.tA f.tries.length f.tC, .slice f.uA f.caps.length f.uC] 38) = w11 at zt b11 ⊢
        have l11 := (Array.getElem?_eq_some_iff.1 zt).1
        have ct := cell_blockK zt 6
        have m0 := (b11.block _ (Array.getElem?_eq_some_iff.1 k0).1).trans k0
        have m1 := (b11.block _ (Array.getElem?_eq_some_iff.1 k1).1).trans k1
        have mz := (b11.block _ (Array.getElem?_eq_some_iff.1 z10).1).trans z10
        have b911 := b10.trans (b11.mono b10.size)
        have hrda := (hrda.below b911).more b911.size
        have hrdo := (hrdo.below b911).more b911.size
        have b011 := b010.trans (b11.mono b010.size)
        have s011 := b011.size
        simp at ct
        clear y10 k0 k1 z10
        simp only
        gi_wp2
        refine range_breakK (n0 := W.heap.size) (by omega) b011.size (gf := 29) (lb := #[.pointer (some ⟨w10.heap.size, 0, none⟩)]) rfl (enters_of Tryd.func29 (by kernel_rfl) rfl)
          (targets_stops 2 f hF hT (by rw [HN.out]; exact hlf) xs HXS.out b011 (by rw [HN.out]; exact ct)) (fun _ => rfl) ?_
        intro D W2 hD hb2 hK2
        have n0 := (hb2.block _ (Array.getElem?_eq_some_iff.1 m0).1).trans m0
        have n1 := (hb2.block _ (Array.getElem?_eq_some_iff.1 m1).1).trans m1
        have nz := (hb2.block _ (Array.getElem?_eq_some_iff.1 mz).1).trans mz
        have nt := (hb2.block _ (Array.getElem?_eq_some_iff.1 zt).1).trans zt
        have hrda := (hrda.below hb2).more hb2.size
        have hrdo := (hrdo.below hb2).more hb2.size
        have bw2 := b011.trans (hb2.mono b011.size)
        have ltD : D < W2.heap.size := (Array.getElem?_eq_some_iff.1 hK2).1
        clear m0 m1 mz zt ct
        gi_wp2
        have hbx : Boxed (W2.alloc (.cells #[.int .i64 0] 3)) W2.heap.size 3 (.int .i64 0) := heap_alloc_new W2 _
        have b3 : Below W2.heap.size W2 (W2.alloc (.cells #[.int .i64 0] 3)) := (Below.refl _ _).alloc (Nat.le_refl _) _
        generalize W2.alloc (.cells #[.int .i64 0] 3) = W3 at hbx b3 ⊢
        have l3 := hbx.lt
        have sw2 := bw2.size
        have nt3 := (b3.block _ (Array.getElem?_eq_some_iff.1 nt).1).trans nt
        have ct3 := cell_blockK nt3 6
        simp at ct3
        have hxl : xs.length = L := by
          have h1 := congrArg List.length HXS.out
          rw [List.length_map] at h1
          rw [h1, HL.out]
        refine range_frame (by omega) (gf := 29) (lb := #[.pointer (some ⟨w10.heap.size, 0, none⟩)]) rfl (enters_of Tryd.func29 (by kernel_rfl) rfl)
          (targets_stops 2 f hF hT (by rw [HN.out]; exact hlf) xs HXS.out (bw2.trans (b3.mono bw2.size)) (by rw [HN.out]; exact ct3)) belowK_t (belowK_b (by omega)) (Below.refl _ _) (fun _ => rfl)
          (fun (pre : List TgO) W' => Boxed W' W2.heap.size 3 (.int .i64 pre.length) ∧ Below W2.heap.size W2 W')
          (fun c pre W' => c = .ret ∧ ¬ pre <+: xs)
          (OwnFrom.and (Own.from (boxed_own W2.heap.size 3 (fun (pre : List TgO) => .int .i64 pre.length)) _) (ownFrom_below (Nat.le_refl _) (by omega)))
          (fun c s X Y row hs _ _ => hs)
          ⟨hbx, b3⟩
          (fun T x => (((T.setIfInBounds 56 (.int .i64 (x.1.1 : Nat))).setIfInBounds 57 (.int .i64 x.1.2)).setIfInBounds 10 (.int .i64 (x.1.1 : Nat))).setIfInBounds 11 (.int .i64 x.1.2))
          ?assign ?body ?done ?stop
        case assign =>
          rintro l pre ⟨⟨x1, x2⟩, hx⟩ W' K ⟨hI1, hB⟩ hK
          simp only [encTg]
          gi_wp2
          refine hK _ _ (KeepsFrom.refl _ _) (Below.refl _ _) ⟨hI1, hB⟩ ?_
          simp only [List.setIfInBounds_toArray, List.set_cons_zero, List.set_cons_succ]
        case body =>
          rintro l pre ⟨⟨x1, x2⟩, hx⟩ W' hl ⟨rr, hrr⟩ ⟨hk, hB⟩ hlt
          simp only [List.setIfInBounds_toArray, List.set_cons_zero, List.set_cons_succ]
          obtain ⟨i, hi⟩ : ∃ i, pre.length = i := ⟨_, rfl⟩
          simp only [hi] at hk hlt
          obtain ⟨⟨y1, y2⟩, hy⟩ : ∃ y, (TG 0 f.code)[i]? = some y := ⟨(TG 0 f.code)[i]'(by have := HL.out; omega), List.getElem?_eq_getElem _⟩
          have hiL : i < L := by omega
          have hi1 : i ≤ 1000 := by have h1 := TG_length f.code 0; have h2 := HL.out; have h3 := HN.out; omega
          have q3 : decide (L ≤ i) = false := by simp; omega
          have q4 : (L ≤ i) = False := by simp; omega
          have hh : ∀ {a : Addr} {u : Value}, W2.cell? a = some u → W'.cell? a = some u := fun {a u} h => (hB.cell (World.block_lt_of_cell? _ _ h)).trans h
          obtain ⟨ada, rfl, _, ca'⟩ := hrda.at_ (k := i) (u := .int .i64 (y1 : Nat)) (by unfold atV; rw [List.getElem?_map, hy]; rfl)
          obtain ⟨ado, rfl, _, co'⟩ := hrdo.at_ (k := i) (u := .int .i64 y2) (by unfold toV; rw [List.getElem?_map, hy]; rfl)
          have ca1 := hh ca'
          have co1 := hh co'
          have cz0 : W'.cell? ⟨w9.heap.size, 0, none⟩ = some (.slice (some ada) L ca) := hh (by rw [cell_blockK n0]; rfl)
          have cz1 : W'.cell? ⟨w9.heap.size + 1, 0, none⟩ = some (.slice (some ado) L co) := hh (by rw [cell_blockK n1]; rfl)
          have czt := (hB.block _ (Array.getElem?_eq_some_iff.1 nz).1).trans nz
          have ct0 : W'.cell? ⟨w1.heap.size, 0, none⟩ = some (.bool false) := by rw [cell_blockK czt]; rfl
          have ft0 := frozen_blockK czt 0
          have ck := hk.cell
          have fk := hk.frozen
          have HY := Lib.hid hy
          have sB := hB.size
          have hno : (x1 ≠ y1 ∨ x2 ≠ y2) → ¬ (pre ++ [(⟨(x1, x2), hx⟩ : TgO)]) <+: xs := fun hor hp => by
            obtain ⟨tl, htl⟩ := hp
            have hxi : xs[i]? = some (⟨(x1, x2), hx⟩ : TgO) := by rw [← htl, ← hi]; simp
            have h1 : (xs.map (·.1))[i]? = some (x1, x2) := by rw [List.getElem?_map, hxi]; rfl
            rw [HXS.out, HY.out] at h1
            injection h1 with h1
            injection h1 with h1 h2
            rcases hor with h | h
            · exact h h1.symm
            · exact h h2.symm
          have HNO := Lib.hid hno
          have hkp1 : ∀ u, KeepsFrom W3.heap.size W' (W'.setCell ⟨W2.heap.size, 0, none⟩ u) := fun u => (KeepsOthers.setCell _ _ _).from _
          clear hno hy hh ca' co' czt hrda hrdo n0 n1 nz nt nt3
          by_cases e1 : x1 = y1
          · subst e1
            by_cases e2 : x2 = y2
            · subst e2
              gi_wp2
              have hlen : ((pre ++ [(⟨(x1, x2), hx⟩ : TgO)]).length : Int) = (i : Int) + 1 := by rw [List.length_append, hi]; simp
              refine ⟨hkp1 _, ?_, ?_, hB.setCell (p := ⟨W2.heap.size, 0, none⟩) (Nat.le_refl _) _⟩
              · exact (Below.refl _ _).setCell (p := ⟨W2.heap.size, 0, none⟩) (by show W.heap.size ≤ W2.heap.size; omega) _
              · rw [hlen]
                exact hk.set _
            · gi_wp2
              exact ⟨(KeepsOthers.setCell _ _ _).from _, rfl, HNO.out (.inr e2)⟩
          · have e1' : ¬ (x1 : Int) = (y1 : Int) := by omega
            gi_wp2
            exact ⟨(KeepsOthers.setCell _ _ _).from _, rfl, HNO.out (.inl e1)⟩
        case done =>
          rintro D2 ys W' hD2 rfl ⟨hk, hB⟩ hK3
          rw [hxl] at hk
          have y0 := (hB.block _ (Array.getElem?_eq_some_iff.1 n0).1).trans n0
          have yz := (hB.block _ (Array.getElem?_eq_some_iff.1 nz).1).trans nz
          have hK2' := (hB.block D ltD).trans hK2
          have ck := hk.cell
          have cz0 := cell_blockK y0 0
          have ct0 := cell_blockK yz 0
          have ft0 := frozen_blockK yz 0
          have bwz := bw2.trans (hB.mono bw2.size)
          have sB := hB.size
          simp at cz0 ct0
          dsimp only
          gi_wp2
          exact reach_end rfl yz hK2' hK3 (by omega) bwz (by omega) (by omega) (by omega)
        case stop =>
          rintro D2 c pre W' hD2 hpre ⟨rfl, hn⟩ hK3
          exact absurd hpre hn
  · rw [decide_eq_false hfew]
    try simp only
    gi_wp2
    have k4 := cell_blockK (setCell_blockK (i := 0) y2 (.bool true)) 0
    simp at k4
    refine ⟨.bool true, ?_, rfl, b05.setCell (p := ⟨w1.heap.size, 0, none⟩) (by show W.heap.size ≤ w1.heap.size; omega) _⟩
    simp [results, Tryd.results4, go_sem, k4]

/-- CheckReach -/
theorem reachW_any (f : FnT) {W : World} (hF : FnIn W W.heap.size f) (hok : ∀ i ∈ f.code, okIns i) (hT : Tb W) (hs : fewF f + 1 ≤ 1048576) :
    Calls Tryd.prog 4 #[.agg (fnC f).toArray] W fun e W' => e = .returned (.bool true) ∧ Below W.heap.size W W' := callsIn_wide.1 (reachW_in f hF hok hT hs)
end Go.Proofs.YtoihoackmkapaaaDoor
