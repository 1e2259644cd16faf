/- The walk of check.Reach. -/
import Derived.Test.YtoihoackmkapaaaDoorKVisit
import Derived.Test.YtoihoackmkapaaaDoorKTargets
import Derived.Test.YtoihoackmkapaaaDoorKIntMap
import Derived.Test.YtoihoackmkapaaaDoorKChkD
import Derived.Deep.LoopGhost
namespace Go.Proofs.YtoihoackmkapaaaDoor
open Go.RowKit
set_option maxHeartbeats 1000000
set_option maxRecDepth 100000
attribute [local go_sem] Oper.semAt_some

def okIns (i : InsT) : Prop := ∀ k, okI (argAt i k)
theorem tgt_ok {i : InsT} {t : Int} (h : okIns i) (ht : tgtOf i = some t) : okI t := by
  unfold tgtOf at ht
  obtain ⟨k, _, rfl⟩ := Option.map_eq_some_iff.1 ht
  exact h k
theorem TG_mem : ∀ (l : List InsT) (k : Nat), ∀ x ∈ TG k l, x.1 < k + l.length ∧ ∃ i ∈ l, tgtOf i = some x.2
  | [], k, x, h => by simp [TG] at h
  | i :: r, k, x, h => by
    unfold TG at h
    have ih := TG_mem r (k + 1) x
    cases ht : tgtOf i with
    | none =>
      rw [ht] at h
      obtain ⟨h1, j, h2, h3⟩ := ih h
      exact ⟨by simp; omega, j, by simp [h2], h3⟩
    | some t =>
      rw [ht] at h
      rcases List.mem_cons.1 h with rfl | h
      · exact ⟨by simp, i, by simp, ht⟩
      · obtain ⟨h1, j, h2, h3⟩ := ih h
        exact ⟨by simp; omega, j, by simp [h2], h3⟩
theorem okI_nat {n : Nat} (h : n ≤ 1000) : okI (n : Int) := by
  unfold okI
  unfold Lit.wf
  rw [Bool.and_eq_true, decide_eq_true_eq, decide_eq_true_eq]
  exact ⟨by show (-9223372036854775808 : Int) ≤ n; omega, by show (n : Int) ≤ 9223372036854775807; omega⟩
theorem below_row {n0 : Nat} {w1 w2 : World} {row : Nat} (hg : w1.grownBy w2 (some row)) (hr : n0 ≤ row) (hs : n0 ≤ w1.heap.size) : Below n0 w1 w2 :=
  (Below.refl n0 w1).grown hg hs (fun k hk => by cases hk; exact hr)
theorem own_top {w : World} {base : Nat} {e : TypeId} {v x : Value} {n : Nat} {xs : List Value} (h : w.ownsRow base e 1 v (n + 1) (xs ++ [x])) : ∃ g cap, v = .slice (some ⟨g, 0, none⟩) (n + 1) cap ∧ n + 1 ≤ cap ∧ w.cell? ⟨g, n, none⟩ = some x := by
  have hl := h.1
  simp only [List.length_append, List.length_singleton] at hl
  obtain ⟨g, cap, rfl⟩ := ownsRow_succ h
  rcases h.2 with ⟨h', _⟩ | ⟨g', cap', cur, h', hb, hg, hnc, hcm, hcs, htake⟩
  · simp at h'
  · simp only [Value.slice.injEq, Option.some.injEq, Addr.mk.injEq, and_true, true_and] at h'
    obtain ⟨rfl, rfl⟩ := h'
    refine ⟨g, cap, rfl, hnc, ?_⟩
    obtain ⟨ad, h1, h2, h3⟩ := Rd.of_own h n x (by rw [List.getElem?_append_right (by omega), show n - xs.length = 0 by omega]; rfl)
    cases h1
    simpa [Addr.add_lit] using h3
theorem own_formK {w : World} {base : Nat} {e : TypeId} {v : Value} {n : Nat} {xs : List Value} (h : w.ownsRow base e 1 v n xs) : ∃ A c, v = .slice A n c := by
  rcases h.2 with ⟨rfl, rfl⟩ | ⟨g, cap, cur, rfl, _⟩
  · exact ⟨_, _, rfl⟩
  · exact ⟨_, _, rfl⟩
theorem Rc.lt {N : Nat} {S : Nat → List Int} {n : Nat} (h : Rc N S n) : n < N := by cases h <;> assumption
def tryQ (l : List TryT) (n : Nat) : List Int := (l.filter fun t => decide (t.1 ≤ (n : Int)) && decide ((n : Int) < t.2.1)).map fun t => t.2.2.1
theorem tryQ_snoc (l : List TryT) (t : TryT) (n : Nat) : tryQ (l ++ [t]) n = tryQ l n ++ (if t.1 ≤ (n : Int) ∧ (n : Int) < t.2.1 then [t.2.2.1] else []) := by
  unfold tryQ
  rw [List.filter_append, List.map_append]
  congr 1
  by_cases h : t.1 ≤ (n : Int) ∧ (n : Int) < t.2.1
  · rw [if_pos h, List.filter_cons, if_pos (by simp [h])]; rfl
  · rw [if_neg h, List.filter_cons, if_neg (by simpa using h)]; rfl
theorem tryQ_drop {l : List TryT} {q : Nat} {t : TryT} (n : Nat) (h : l[q]? = some t) : tryQ (l.drop q) n = (if t.1 ≤ (n : Int) ∧ (n : Int) < t.2.1 then [t.2.2.1] else []) ++ tryQ (l.drop (q + 1)) n := by
  obtain ⟨hlt, e⟩ := List.getElem?_eq_some_iff.1 h
  rw [List.drop_eq_getElem_cons hlt, e]
  unfold tryQ
  rw [List.filter_cons]
  by_cases hc : t.1 ≤ (n : Int) ∧ (n : Int) < t.2.1
  · rw [if_pos hc, if_pos (by simp [hc])]; rfl
  · rw [if_neg hc, if_neg (by simpa using hc)]; rfl
abbrev TgO := TgP fun x => x.1 ≤ 1000 ∧ okI x.2
theorem tg_list (f : FnT) (hlen : f.code.length ≤ 1000) (hok : ∀ i ∈ f.code, okIns i) : ∃ xs : List TgO, xs.map (·.1) = TG 0 f.code := by
  have h : ∀ x ∈ TG 0 f.code, x.1 ≤ 1000 ∧ okI x.2 := fun x hx => by
    obtain ⟨h1, i, h2, h3⟩ := TG_mem _ _ x hx
    exact ⟨by omega, tgt_ok (hok i h2) h3⟩
  exact ⟨List.pmap Subtype.mk (TG 0 f.code) h, by rw [List.map_pmap]; simp⟩
theorem Tryd.info_bool : (Tryd.prog.info? 4).map (fun i => (i.zero, i.size, i.bytes)) = some (some (.bool false), 1, 1) := by kernel_rfl
theorem make_boolsK (w : World) (n : Nat) (hn : n ≤ 1000) : (Instr.makeSlice 39 (.int .i64 n) (.int .i64 n)).run Tryd.prog w = .ok (.slice (some ⟨w.heap.size, 0, none⟩) n n) (w.alloc (.cells (List.replicate n (Value.bool false)).toArray 4)) := by
  obtain ⟨i0, hi, hz0, hz1, hz2⟩ := info_parts Tryd.info_bool
  have h := run_make (P := Tryd.prog) w 39 4 i0 (.bool false) Tryd.underlying39 hi hz0 .i64 .i64 n n (by omega) (Int.le_refl _) (by rw [hz2]; omega) (by omega)
  rw [h, hz1]
  simp only [Int.toNat_natCast, Nat.mul_one]
  congr 3
  apply Array.toList_inj.1
  rw [show (Value.bool false).cells = #[.bool false] from rfl, toList_madeCells_one]
theorem replicate_no (n : Nat) : ∀ k : Nat, (List.replicate n false)[k]? ≠ some true := fun k h => by
  have := List.mem_of_getElem? h
  simp at this

theorem reach_in {w : World} (f : FnT) (hF : FnIn w w.heap.size f) (hT : Tb w) (hs : Small f) (hok : ∀ i ∈ f.code, okIns i) :
    CallsIn Fence.wide 3 Tryd.prog 11 #[.agg (fnC f).toArray] w fun e w' => ∃ b bs, e = .returned (.slice (some ⟨bs, 0, none⟩) f.code.length f.code.length) ∧ IsRc f.code.length (succs f) b ∧
      w'.heap[bs]? = some (.cells (b.map Value.bool).toArray 4 (0, 0)) ∧ w.heap.size ≤ bs ∧ Below w.heap.size w w' := by
  obtain ⟨xs, hxs⟩ := tg_list f hs.k hok
  have htg0 := fun w' => targets_any f w'
  obtain ⟨N, hN⟩ : ∃ n, f.code.length = n := ⟨_, rfl⟩
  have hsk := hs.k
  have htl := hs.t
  rw [hN] at hsk ⊢
  simp only [fnC] at htg0 ⊢
  rw [hN] at htg0 ⊢
  have HN := Lib.hid hN
  have HXS := Lib.hid hxs
  clear hN hxs
  -- the blocks that are laid
  have z1 : (w.alloc (.cells #[.string f.name, .int .i64 f.params, .bool f.rest, .bool f.arrow, .int .i64 f.regs, .slice f.cA f.consts.length f.cC, .slice f.kA N f.kC, .slice f.tA f.tries.length f.tC, .slice f.uA f.caps.length f.uC] 38)).heap[w.heap.size]? = some (.cells #[.string f.name, .int .i64 f.params, .bool f.rest, .bool f.arrow, .int .i64 f.regs, .slice f.cA f.consts.length f.cC, .slice f.kA N f.kC, .slice f.tA f.tries.length f.tC, .slice f.uA f.caps.length f.uC] 38 (0, 0)) := heap_alloc_new w _
  have b1 : Below w.heap.size w (w.alloc (.cells #[.string f.name, .int .i64 f.params, .bool f.rest, .bool f.arrow, .int .i64 f.regs, .slice f.cA f.consts.length f.cC, .slice f.kA N f.kC, .slice f.tA f.tries.length f.tC, .slice f.uA f.caps.length f.uC] 38)) := (Below.refl _ _).alloc (Nat.le_refl _) _
  obtain ⟨w1, hw1⟩ : ∃ w1, w.alloc (.cells #[.string f.name, .int .i64 f.params, .bool f.rest, .bool f.arrow, .int .i64 f.regs, .slice f.cA f.consts.length f.cC, .slice f.kA N f.kC, .slice f.tA f.tries.length f.tC, .slice f.uA f.caps.length f.uC] 38) = w1 := ⟨_, rfl⟩
  rw [hw1] at z1 b1
  have l1 : w.heap.size < w1.heap.size := (Array.getElem?_eq_some_iff.1 z1).1
  have hmk := make_boolsK w1 N hsk
  have z2 : (w1.alloc (.cells (List.replicate N (Value.bool false)).toArray 4)).heap[w1.heap.size]? = some (.cells (List.replicate N (Value.bool false)).toArray 4 (0, 0)) := heap_alloc_new w1 _
  have b2 : Below w1.heap.size w1 (w1.alloc (.cells (List.replicate N (Value.bool false)).toArray 4)) := (Below.refl _ _).alloc (Nat.le_refl _) _
  obtain ⟨w2, hw2⟩ : ∃ w2, w1.alloc (.cells (List.replicate N (Value.bool false)).toArray 4) = w2 := ⟨_, rfl⟩
  rw [hw2] at z2 b2 hmk
  have l2 : w1.heap.size < w2.heap.size := (Array.getElem?_eq_some_iff.1 z2).1
  have z3 : (w2.alloc (.cells #[.slice (some ⟨w1.heap.size, 0, none⟩) N N] 39)).heap[w2.heap.size]? = some (.cells #[.slice (some ⟨w1.heap.size, 0, none⟩) N N] 39 (0, 0)) := heap_alloc_new w2 _
  have b3 : Below w2.heap.size w2 (w2.alloc (.cells #[.slice (some ⟨w1.heap.size, 0, none⟩) N N] 39)) := (Below.refl _ _).alloc (Nat.le_refl _) _
  obtain ⟨w3, hw3⟩ : ∃ w3, w2.alloc (.cells #[.slice (some ⟨w1.heap.size, 0, none⟩) N N] 39) = w3 := ⟨_, rfl⟩
  rw [hw3] at z3 b3
  have l3 : w2.heap.size < w3.heap.size := (Array.getElem?_eq_some_iff.1 z3).1
  have hmm := run_makeMap (P := Tryd.prog) 61 w3
  have z4 : IMap (w3.alloc (.map #[] 0)) w3.heap.size 0 (fun _ => none) := MapV.made w3 encI okI
  have b4 : Below w3.heap.size w3 (w3.alloc (.map #[] 0)) := (Below.refl _ _).alloc (Nat.le_refl _) _
  obtain ⟨w4, hw4⟩ : ∃ w4, w3.alloc (.map #[] 0) = w4 := ⟨_, rfl⟩
  rw [hw4] at z4 b4 hmm
  have l4 : w3.heap.size < w4.heap.size := z4.lt
  have z5 : (w4.alloc (.cells #[.map (some w3.heap.size)] 61)).heap[w4.heap.size]? = some (.cells #[.map (some w3.heap.size)] 61 (0, 0)) := heap_alloc_new w4 _
  have b5 : Below w4.heap.size w4 (w4.alloc (.cells #[.map (some w3.heap.size)] 61)) := (Below.refl _ _).alloc (Nat.le_refl _) _
  obtain ⟨w5, hw5⟩ : ∃ w5, w4.alloc (.cells #[.map (some w3.heap.size)] 61) = w5 := ⟨_, rfl⟩
  rw [hw5] at z5 b5
  have l5 : w4.heap.size < w5.heap.size := (Array.getElem?_eq_some_iff.1 z5).1
  -- what stands in w5
  have y1 := ((((b2.trans (b3.mono (by omega))).trans (b4.mono (by omega))).trans (b5.mono (by omega))).block w.heap.size l1).trans z1
  have c1 := cell_blockK y1 0
  have c2 := cell_blockK y1 1
  have c3 := cell_blockK y1 2
  have c4 := cell_blockK y1 3
  have c5 := cell_blockK y1 4
  have c6 := cell_blockK y1 5
  have c7 := cell_blockK y1 6
  have c8 := cell_blockK y1 7
  have c9 := cell_blockK y1 8
  have d7 := cell_blockK z1 6
  simp at c1 c2 c3 c4 c5 c6 c7 c8 c9 d7
  refine callsIn_of_wp_marks Tryd.func11 rfl trivial ?_ rfl
  simp only [Tryd.ntmps11, List.size_toArray, List.length_cons, List.length_nil, Nat.reduceAdd, Nat.reduceSub, Array.replicate_succ, Array.replicate_zero, List.push_toArray, List.append_toArray, List.nil_append, List.cons_append]
  gi_wp2
  refine ⟨trivial, ?_⟩
  refine (callsIn_wide.2 (htg0 _)).mono ?_
  rintro e w6 ⟨rfl, rfl⟩
  simp only
  gi_wp2
  have b6 : Below w5.heap.size w5 (w5.alloc (.cells #[.string f.name, .int .i64 f.params, .bool f.rest, .bool f.arrow, .int .i64 f.regs, .slice f.cA f.consts.length f.cC, .slice f.kA N f.kC, .slice f.tA f.tries.length f.tC, .slice f.uA f.caps.length f.uC] 38)) := (Below.refl _ _).alloc (Nat.le_refl _) _
  have z6 : (w5.alloc (.cells #[.string f.name, .int .i64 f.params, .bool f.rest, .bool f.arrow, .int .i64 f.regs, .slice f.cA f.consts.length f.cC, .slice f.kA N f.kC, .slice f.tA f.tries.length f.tC, .slice f.uA f.caps.length f.uC] 38)).heap[w5.heap.size]? = some (.cells #[.string f.name, .int .i64 f.params, .bool f.rest, .bool f.arrow, .int .i64 f.regs, .slice f.cA f.consts.length f.cC, .slice f.kA N f.kC, .slice f.tA f.tries.length f.tC, .slice f.uA f.caps.length f.uC] 38 (0, 0)) := heap_alloc_new w5 _
  generalize w5.alloc (.cells #[.string f.name, .int .i64 f.params, .bool f.rest, .bool f.arrow, .int .i64 f.regs, .slice f.cA f.consts.length f.cC, .slice f.kA N f.kC, .slice f.tA f.tries.length f.tC, .slice f.uA f.caps.length f.uC] 38) = w6 at b6 z6 ⊢
  have l6 : w5.heap.size < w6.heap.size := (Array.getElem?_eq_some_iff.1 z6).1
  have ct := cell_blockK z6 6
  simp at ct
  have b16 : Below w.heap.size w w6 := ((((b1.trans (b2.mono (by omega))).trans (b3.mono (by omega))).trans (b4.mono (by omega))).trans (b5.mono (by omega))).trans (b6.mono (by omega))
  have i0 : IMap w6 w3.heap.size 0 (jmpF []) := (z4.below b5 l4).below b6 (by omega)
  have hlx : xs.length ≤ 1000 := by
    have h1 := congrArg List.length HXS.out
    rw [List.length_map] at h1
    have := TG_length f.code 0
    rw [HN.out] at this
    omega
  refine wpIn_rangeFunc_ownH rfl (by omega) (gf := 29) (lb := #[.pointer (some ⟨w5.heap.size, 0, none⟩)]) rfl trivial (enters_of Tryd.func29 (by kernel_rfl) rfl)
    (targets_stops 2 f hF hT (by rw [HN.out]; exact hsk) xs HXS.out b16 (by rw [HN.out]; exact ct)) belowK_t (belowK_b (by omega)) (Below.refl _ _) (fun _ => rfl)
    (fun (pre : List TgO) W' => IMap W' w3.heap.size pre.length (jmpF (pre.map (·.1))) ∧ Below w.heap.size w W' ∧ w6.heap.size ≤ W'.heap.size ∧ ∀ k < w6.heap.size, k ≠ w3.heap.size → W'.heap[k]? = w6.heap[k]?)
    (fun _ _ _ => False)
    (fun s X Y row h hg hr => ?own)
    (fun _ _ _ _ _ hs _ _ => hs)
    ⟨i0, b16, Nat.le_refl _, fun _ _ _ => rfl⟩
    (fun (x : TgO) a' W => a' = { tmps := #[.agg #[.string f.name, .int .i64 f.params, .bool f.rest, .bool f.arrow, .int .i64 f.regs, .slice f.cA f.consts.length f.cC, .slice f.kA N f.kC, .slice f.tA f.tries.length f.tC, .slice f.uA f.caps.length f.uC], .pointer (some ⟨w.heap.size, 0, none⟩), .slice none 0 0, .pointer (some ⟨w2.heap.size, 0, none⟩), .pointer (some ⟨w4.heap.size, 0, none⟩), .int .i64 (x.1.1 : Nat), .int .i64 x.1.2, undef, undef, undef, undef, undef, undef, undef, undef, .pointer (some ⟨w.heap.size, 6, none⟩), .slice f.kA N f.kC, .int .i64 (N : Nat), .slice (some ⟨w1.heap.size, 0, none⟩) N N, .map (some w3.heap.size), .agg #[.string f.name, .int .i64 f.params, .bool f.rest, .bool f.arrow, .int .i64 f.regs, .slice f.cA f.consts.length f.cC, .slice f.kA N f.kC, .slice f.tA f.tries.length f.tC, .slice f.uA f.caps.length f.uC], .func (.func 29) #[] #[.pointer (some ⟨w5.heap.size, 0, none⟩)], .int .i64 (x.1.1 : Nat), .int .i64 x.1.2, undef, undef, undef, undef, undef, undef, undef, undef, undef, undef, undef, undef, undef, undef, undef, undef, undef, undef, undef, undef, undef, undef, undef, undef, undef, undef, undef, undef, undef, undef, undef, undef, undef, undef, undef, undef, undef, undef, undef, undef, undef, undef, undef, undef, undef, undef, undef, undef, undef, undef, undef, undef, undef, undef, undef, undef, undef, undef, undef, undef, undef, undef, undef, undef, undef, undef], defers := [] })
    (fun x a' _ X Y row hs hg hr => hs)
    ?assign ?body ?done ?stop
  case own =>
    obtain ⟨h1, h2, h3, h4⟩ := h
    have hs2 := hg.size
    exact ⟨h1.kept hg (fun e => by have := (hr _ e.symm).1; omega), h2.grown hg h2.size (fun q hq => by have := (hr q hq).1; have := b16.size; omega), by omega, fun k hk hne => (hg.block k (by omega) (fun e => by have := (hr _ e.symm).1; omega)).trans (h4 k hk hne)⟩
  case assign =>
    rintro l pre ⟨⟨t1, t2⟩, tok⟩ W K ⟨hm, hB, hz, hk⟩ hK
    simp only [encTg]
    gi_wp2
    exact hK _ _ (KeepsFrom.refl _ _) (Below.refl _ _) ⟨hm, hB, hz, hk⟩ rfl
  case body =>
    rintro l pre ⟨⟨t1, t2⟩, tok1, tok2⟩ a' W hl hr ⟨hm, hB, hz, hk⟩ rfl hlt
    have hbox := (hk w4.heap.size (by omega) (by omega)).trans (((b6.block w4.heap.size (by omega))).trans z5)
    have hc := cell_blockK hbox 0
    simp at hc
    have tokn : okI (t1 : Int) := okI_nat tok1
    obtain ⟨W2, hrun, hm2, hg2⟩ := hm.store KeyI (x := (t1 : Int)) tokn (c := t2) tok2 (by unfold maxLen; omega)
    have hz2 := hg2.size
    simp only [encI] at hrun
    gi_wp2
    refine ⟨.of_grownBy hg2 (fun j hj => by cases hj; omega), below_row hg2 (by omega) (by omega), ⟨?_, hB.trans (below_row hg2 (by omega) (by omega)), by omega, fun k hk1 hk2 => (hg2.block k (by omega) (fun e => by cases e; exact hk2 rfl)).trans (hk k hk1 hk2)⟩⟩
    rw [List.map_append, List.length_append]
    simp only [List.map_cons, List.map_nil, List.length_cons, List.length_nil]
    rw [jmpF_snoc]
    exact hm2
  case done =>
    rintro D ys W hD rfl ⟨hm, hB, hz, hk⟩ hK
    dsimp only
    have hDl : D < W.heap.size := (Array.getElem?_eq_some_iff.1 hK).1
    have q1 := (hk w.heap.size (by omega) (by omega)).trans ((b6.block w.heap.size (by omega)).trans y1)
    have q3 := (hk w2.heap.size (by omega) (by omega)).trans ((b6.block w2.heap.size (by omega)).trans ((b5.block w2.heap.size (by omega)).trans ((b4.block w2.heap.size (by omega)).trans z3)))
    have q5 := (hk w4.heap.size (by omega) (by omega)).trans ((b6.block w4.heap.size (by omega)).trans z5)
    have qs := (hk w1.heap.size (by omega) (by omega)).trans ((b6.block w1.heap.size (by omega)).trans ((b5.block w1.heap.size (by omega)).trans ((b4.block w1.heap.size (by omega)).trans ((b3.block w1.heap.size (by omega)).trans z2))))
    rw [HXS.out] at hm
    have hbA : Below W.heap.size W (W.alloc (.cells #[.slice none 0 0] 41)) := (Below.refl _ _).alloc (Nat.le_refl _) _
    have qt : (W.alloc (.cells #[.slice none 0 0] 41)).heap[W.heap.size]? = some (.cells #[.slice none 0 0] 41 (0, 0)) := heap_alloc_new W _
    obtain ⟨W0, hW0⟩ : ∃ W0, W.alloc (.cells #[.slice none 0 0] 41) = W0 := ⟨_, rfl⟩
    rw [hW0] at hbA qt
    have l7 : W.heap.size < W0.heap.size := (Array.getElem?_eq_some_iff.1 qt).1
    replace q1 := (hbA.block w.heap.size (by omega)).trans q1
    replace q3 := (hbA.block w2.heap.size (by omega)).trans q3
    replace q5 := (hbA.block w4.heap.size (by omega)).trans q5
    replace qs := (hbA.block w1.heap.size (by omega)).trans qs
    have qD := (hbA.block D hDl).trans hK
    replace hm := hm.below hbA (by omega)
    have hL : Lay12 w W0.heap.size w1.heap.size W.heap.size := ⟨by omega, by omega, by omega, by omega, by omega⟩
    have hS0 : Srch w W0 W0.heap.size w1.heap.size W.heap.size (List.replicate N false) [] W0 := ⟨hB.trans (hbA.mono hB.size), fun _ _ _ _ => rfl, by rw [List.map_replicate]; exact qs, ⟨_, qt, World.ownsRow_nil _ _ _ _⟩, Nat.le_refl _⟩
    have hv0 := visit_any hL hS0 (List.length_replicate ..) q3 (by omega) (by omega) (by omega) hsk (by simp) 0
    -- what the first visit comes to
    obtain ⟨b0, st0, hb0, hst0, hdfs0⟩ : ∃ b0 st0, (visB N (List.replicate N false) [] 0).1 = b0 ∧ (visB N (List.replicate N false) [] 0).2 = st0 ∧ Dfs N (succs f) b0 st0 none := by
      refine ⟨_, _, rfl, rfl, ?_⟩
      by_cases h0 : 0 < N
      · have := visB_yes (b := List.replicate N false) (st := []) h0 (by rw [List.getElem?_replicate, if_pos h0])
        rw [show ((0 : Nat) : Int) = 0 from rfl] at this
        rw [this]
        exact Dfs.start (List.length_replicate ..) (replicate_no N) h0
      · rw [visB_no (by omega)]
        exact Dfs.none (List.length_replicate ..) (by omega)
    rw [hb0, hst0] at hv0
    have hst1 : 2 * cntF b0 + st0.length ≤ 2001 := by
      have h1 := cnt_le b0
      rw [hdfs0.len] at h1
      have h2 : st0.length ≤ 1 := by
        rw [← hst0]
        unfold visB
        split <;> simp
      omega
    clear hb0 hst0 hS0
    gi_wp2
    refine ⟨trivial, ?_⟩
    refine (callsIn_wide.2 hv0).mono ?_
    rintro e W8 ⟨⟨v8, rfl⟩, hS8⟩
    simp only
    gi_wp2
    refine wpIn_wide.2 ?_
    clear hv0
    go_loopg [] (2 * cntF b0 + st0.length) (fun k wr => ∃ b st, Srch w W0 W0.heap.size w1.heap.size W.heap.size b st wr ∧ Dfs N (succs f) b st none ∧ 2 * cntF b + st.length = k ∧ k ≤ 2001)
    case atStart => exact ⟨b0, st0, hS8, hdfs0, rfl, hst1⟩
    case round =>
      obtain ⟨b, st, hS, hdfs, hk1, hk2⟩ := hrel
      have n1 := (hS.oth w.heap.size (by omega) (by omega) (by omega)).trans q1
      have n3 := (hS.oth w2.heap.size (by omega) (by omega) (by omega)).trans q3
      have n5 := (hS.oth w4.heap.size (by omega) (by omega) (by omega)).trans q5
      have c6 := cell_blockK n1 6
      have c7 := cell_blockK n1 7
      have e5 := cell_blockK n5 0
      have e3 := cell_blockK n3 0
      simp at c6 c7 e5 e3
      obtain ⟨v, hv, hown⟩ := hS.todo
      have ev := cell_blockK hv 0
      have fv := frozen_blockK hv 0
      simp at ev
      rcases List.eq_nil_or_concat st with rfl | ⟨st', n, rfl⟩
      · obtain ⟨A, c, rfl⟩ := own_formK hown
        have hDD := (hS.oth D (by omega) (by omega) (by omega)).trans qD
        have hrc := hdfs.done
        have hsn := hS.seen
        have hbl := hS.below
        clear hS hdfs hown
        simp only [List.length_nil] at ev ⊢
        go_wp2
        gi_wp2
        refine ⟨by simp, .inl ⟨_, _, rfl, run_takeDeferred hDD, ?_⟩⟩
        refine ⟨_, results_tmp rfl _ _ _, b, w1.heap.size, rfl, hrc, ?_, by omega, hbl.grown (grownBy_putObj' _ _ _) hbl.size (fun k hk => by cases hk; omega)⟩
        rw [World.putObj_heap_other (by omega)]
        exact hsn
      · rw [List.concat_eq_append] at hS hdfs hk1 hown
        rw [List.length_append, List.length_singleton] at hown hk1
        rw [intsN_snoc] at hown
        have hvis := Vis.start hdfs
        obtain ⟨M, hM⟩ : ∃ M, 2 * cntF b + st'.length = M := ⟨_, rfl⟩
        rw [hM] at hvis
        have hMk : M < gk ∧ M ≤ 2001 := by omega
        obtain ⟨g, cap, rfl, hcap, htop⟩ := own_top (xs := intsN st') (x := .int .i64 (n : Nat)) hown
        have hpop := hS.pop hL hv hown
        have hnN : n < N := hvis.rc.lt
        obtain ⟨i, hi⟩ : ∃ i, f.code[n]? = some i := ⟨f.code[n]'(by have := HN.out; omega), List.getElem?_eq_getElem _⟩
        have LK : ∀ wr b st, Srch w W0 W0.heap.size w1.heap.size W.heap.size b st wr → (Instr.lookup 61 (.map (some w3.heap.size)) (.int .i64 (n : Int)) true).run Tryd.prog wr = .ok (.tuple #[.int .i64 ((tgtOf i).getD 0), .bool (tgtOf i).isSome]) wr := fun wr b st hS => by
          have h1 := (hm.of_block (hS.oth w3.heap.size (by omega) (by omega) (by omega))).look KeyI (x := (n : Int)) (okI_nat (by omega))
          rw [jmpF_TG, hi] at h1
          exact h1
        have hsu : succs f n = (if endsB i.1 = true then [] else [(n : Int) + 1]) ++ ((tgtOf i).toList ++ tryQ f.tries n) := by
          unfold succs
          rw [hi]
          rfl
        obtain ⟨wP, hwP⟩ : ∃ wP, wr.setCell ⟨W.heap.size, 0, none⟩ (.slice (some ⟨g, 0, none⟩) st'.length cap) = wP := ⟨_, rfl⟩
        rw [hwP] at hpop
        obtain ⟨ib, ioff, hA, hbl, d0, d1, d2, d3, d4⟩ := (hF.kr.below hpop.below hpop.below.size).ins hi
        have p1 := (hpop.oth w.heap.size (by omega) (by omega) (by omega)).trans q1
        have pc6 := cell_blockK p1 6
        simp at pc6
        rw [hA] at pc6
        obtain ⟨o, a1, a2, a3, a4⟩ := i
        simp only at d0 d1 d2 d3 d4 hsu
        have hpa := hpop.alloc hL (.cells #[.int .i64 o, .int .i64 a1, .int .i64 a2, .int .i64 a3, .int .i64 a4] 50)
        have hnI : (n : Int) < (N : Int) := by omega
        have hn0 : (0 : Int) ≤ (n : Int) := by omega
        have hlb : st'.length ≤ 2001 := by have := hvis.most; omega
        have HSU := Lib.hid hsu
        have HI := Lib.hid hi
        clear hsu hi hS hdfs hown n1 c6 c7 p1 hv hk1 hM hmk hmm z1 z2 z3 z4 z5 z6 hw1 hw2 hw3 hw4 hw5 y1 c1 c2 c3 c4 c5 c8 c9 d7 b1 b2 b3 b4 b5 b6 htg0
        go_wp2_with fail
        obtain ⟨wq, hwq⟩ : ∃ wq, wP.alloc (.cells #[.int .i64 o, .int .i64 a1, .int .i64 a2, .int .i64 a3, .int .i64 a4] 50) = wq := ⟨_, rfl⟩
        rw [hwq] at hpa ⊢
        clear hwq
        refine (ends_any o _).mono ?_
        rintro e w' ⟨rfl, rfl⟩
        cases he : endsB o with
        | true =>
          have HSU := Lib.hid (show succs f n = [] ++ ((tgtOf (o, a1, a2, a3, a4)).toList ++ tryQ f.tries n) by rw [HSU.out, if_pos he])
          have hLK := LK _ _ _ hpa
          clear he LK pc6 d0 d1 d2 d3 d4 hpop hwP htop
          simp only
          have n5 := (hpa.oth w4.heap.size (by omega) (by omega) (by omega)).trans q5
          have e5 := cell_blockK n5 0
          simp at e5
          clear n5
          cases ht : tgtOf (o, a1, a2, a3, a4) with
          | none =>
            rw [ht] at hLK HSU
            simp only [Option.getD_none, Option.isSome_none, Option.toList_none] at hLK HSU
            clear ht
            simp only [List.nil_append] at HSU
            have n7 := (hpa.oth w.heap.size (by omega) (by omega) (by omega)).trans q1
            have c7 := cell_blockK n7 7
            simp at c7
            clear n7
            have HC := Lib.hid hMk
            clear hMk
            go_wp2_with fail
            go_loopw [70] (fun i wr => ∃ (q : Nat) (b : List Bool) (st : List Nat) (l : List Int), q ≤ f.tries.length ∧ i = .int .i64 q ∧ Srch w W0 W0.heap.size w1.heap.size W.heap.size b st wr ∧ Vis N (succs f) n l b st M ∧ l ++ tryQ (f.tries.drop q) n = succs f n)
              (fun i _ => f.tries.length - (intOf i).toNat)
            case atStart => exact ⟨0, _, _, _, Nat.zero_le _, rfl, hpa, hvis, by rw [HSU.out]; simp⟩
            case round =>
              clear hpa hvis HSU
              obtain ⟨q, b, st, l, hq, rfl, hpa, hvis, hsu⟩ := hrel
              have HSU := Lib.hid hsu
              clear hsu
              by_cases hlt : q < f.tries.length
              · obtain ⟨x, hx⟩ : ∃ x, f.tries[q]? = some x := ⟨f.tries[q]'hlt, List.getElem?_eq_getElem _⟩
                obtain ⟨tb, toff, hA, hbl, d0, d1, d2, d3⟩ := (hF.tr.below hpa.below hpa.below.size).try_ hx
                obtain ⟨t1, t2, t3, t4⟩ := x
                simp only at d0 d1 d2 d3
                have hdr := tryQ_drop n hx
                simp only at hdr
                have HD := Lib.hid hdr
                have hpb := hpa.alloc hL (.cells #[.int .i64 t1, .int .i64 t2, .int .i64 t3, .int .i64 t4] 65)
                clear hdr hx
                rw [hA]
                by_cases hc1 : t1 ≤ (n : Int)
                · by_cases hc2 : (n : Int) < t2
                  · have hsu2 := HSU.out
                    rw [HD.out, if_pos ⟨hc1, hc2⟩, ← List.append_assoc] at hsu2
                    have hv3 := visit_any hL hpb hvis.dfs.len q3 (by omega) (by omega) (by omega) hsk (by have := hvis.most; have := HC.out; omega) t3
                    have hvis3 := hvis.step (k := t3) (by rw [← hsu2]; simp)
                    have HSU2 := Lib.hid hsu2
                    clear hsu2
                    go_wp2_with fail
                    refine hv3.mono ?_
                    rintro e wr3 ⟨⟨v11, rfl⟩, hpc⟩
                    simp only
                    go_wp2_with fail
                    go_roundw
                    case rel => exact ⟨q + 1, _, _, _, by omega, by go_num, hpc, hvis3, HSU2.out⟩
                    case measure => simp [intOf]; omega
                  · have hsu2 := HSU.out
                    rw [HD.out, if_neg (fun h => hc2 h.2), List.nil_append] at hsu2
                    have HSU2 := Lib.hid hsu2
                    clear hsu2
                    go_wp2_with fail
                    go_roundw
                    case rel => exact ⟨q + 1, _, _, _, by omega, by go_num, hpb, hvis, HSU2.out⟩
                    case measure => simp [intOf]; omega
                · have hsu2 := HSU.out
                  rw [HD.out, if_neg (fun h => hc1 h.1), List.nil_append] at hsu2
                  have HSU2 := Lib.hid hsu2
                  clear hsu2
                  go_wp2_with fail
                  go_roundw
                  case rel => exact ⟨q + 1, _, _, _, by omega, by go_num, hpb, hvis, HSU2.out⟩
                  case measure => simp [intOf]; omega
              · obtain rfl : q = f.tries.length := by omega
                have hsu2 := HSU.out
                rw [List.drop_length, show tryQ [] n = [] from rfl, List.append_nil] at hsu2
                subst hsu2
                have hdf := hvis.done
                have hms := hvis.most
                clear hvis HSU
                go_wp2_with fail
                go_roundg (2 * cntF b + st.length)
                case measure => have := HC.out; omega
                case rel => exact ⟨b, st, hpa, hdf, rfl, by have := HC.out; omega⟩
          | some t =>
            rw [ht] at hLK HSU
            simp only [Option.getD_some, Option.isSome_some, Option.toList_some] at hLK HSU
            have hv2 := visit_any hL hpa hvis.dfs.len q3 (by omega) (by omega) (by omega) hsk (by have := hvis.most; omega) t
            have hvis := hvis.step (k := t) (by rw [HSU.out]; simp)
            clear ht
            go_wp2_with fail
            refine hv2.mono ?_
            rintro e wr2 ⟨⟨v10, rfl⟩, hpa⟩
            clear hv2 hLK
            simp only
            simp only [← List.append_assoc] at HSU
            have n7 := (hpa.oth w.heap.size (by omega) (by omega) (by omega)).trans q1
            have c7 := cell_blockK n7 7
            simp at c7
            clear n7
            have HC := Lib.hid hMk
            clear hMk
            go_wp2_with fail
            go_loopw [70] (fun i wr => ∃ (q : Nat) (b : List Bool) (st : List Nat) (l : List Int), q ≤ f.tries.length ∧ i = .int .i64 q ∧ Srch w W0 W0.heap.size w1.heap.size W.heap.size b st wr ∧ Vis N (succs f) n l b st M ∧ l ++ tryQ (f.tries.drop q) n = succs f n)
              (fun i _ => f.tries.length - (intOf i).toNat)
            case atStart => exact ⟨0, _, _, _, Nat.zero_le _, rfl, hpa, hvis, by rw [HSU.out]; simp⟩
            case round =>
              clear hpa hvis HSU
              obtain ⟨q, b, st, l, hq, rfl, hpa, hvis, hsu⟩ := hrel
              have HSU := Lib.hid hsu
              clear hsu
              by_cases hlt : q < f.tries.length
              · obtain ⟨x, hx⟩ : ∃ x, f.tries[q]? = some x := ⟨f.tries[q]'hlt, List.getElem?_eq_getElem _⟩
                obtain ⟨tb, toff, hA, hbl, d0, d1, d2, d3⟩ := (hF.tr.below hpa.below hpa.below.size).try_ hx
                obtain ⟨t1, t2, t3, t4⟩ := x
                simp only at d0 d1 d2 d3
                have hdr := tryQ_drop n hx
                simp only at hdr
                have HD := Lib.hid hdr
                have hpb := hpa.alloc hL (.cells #[.int .i64 t1, .int .i64 t2, .int .i64 t3, .int .i64 t4] 65)
                clear hdr hx
                rw [hA]
                by_cases hc1 : t1 ≤ (n : Int)
                · by_cases hc2 : (n : Int) < t2
                  · have hsu2 := HSU.out
                    rw [HD.out, if_pos ⟨hc1, hc2⟩, ← List.append_assoc] at hsu2
                    have hv3 := visit_any hL hpb hvis.dfs.len q3 (by omega) (by omega) (by omega) hsk (by have := hvis.most; have := HC.out; omega) t3
                    have hvis3 := hvis.step (k := t3) (by rw [← hsu2]; simp)
                    have HSU2 := Lib.hid hsu2
                    clear hsu2
                    go_wp2_with fail
                    refine hv3.mono ?_
                    rintro e wr3 ⟨⟨v11, rfl⟩, hpc⟩
                    simp only
                    go_wp2_with fail
                    go_roundw
                    case rel => exact ⟨q + 1, _, _, _, by omega, by go_num, hpc, hvis3, HSU2.out⟩
                    case measure => simp [intOf]; omega
                  · have hsu2 := HSU.out
                    rw [HD.out, if_neg (fun h => hc2 h.2), List.nil_append] at hsu2
                    have HSU2 := Lib.hid hsu2
                    clear hsu2
                    go_wp2_with fail
                    go_roundw
                    case rel => exact ⟨q + 1, _, _, _, by omega, by go_num, hpb, hvis, HSU2.out⟩
                    case measure => simp [intOf]; omega
                · have hsu2 := HSU.out
                  rw [HD.out, if_neg (fun h => hc1 h.1), List.nil_append] at hsu2
                  have HSU2 := Lib.hid hsu2
                  clear hsu2
                  go_wp2_with fail
                  go_roundw
                  case rel => exact ⟨q + 1, _, _, _, by omega, by go_num, hpb, hvis, HSU2.out⟩
                  case measure => simp [intOf]; omega
              · obtain rfl : q = f.tries.length := by omega
                have hsu2 := HSU.out
                rw [List.drop_length, show tryQ [] n = [] from rfl, List.append_nil] at hsu2
                subst hsu2
                have hdf := hvis.done
                have hms := hvis.most
                clear hvis HSU
                go_wp2_with fail
                go_roundg (2 * cntF b + st.length)
                case measure => have := HC.out; omega
                case rel => exact ⟨b, st, hpa, hdf, rfl, by have := HC.out; omega⟩
        | false =>
          have HSU := Lib.hid (show succs f n = [(n : Int) + 1] ++ ((tgtOf (o, a1, a2, a3, a4)).toList ++ tryQ f.tries n) by rw [HSU.out, if_neg (by rw [he]; simp)])
          have u3 := (hpa.oth w2.heap.size (by omega) (by omega) (by omega)).trans q3
          have hv1 := visit_any hL hpa hvis.dfs.len q3 (by omega) (by omega) (by omega) hsk (by omega) ((n : Int) + 1)
          have hvis := hvis.step (k := (n : Int) + 1) (by rw [HSU.out]; simp)
          clear he pc6 d0 d1 d2 d3 d4 hpop hwP htop
          simp only
          go_wp2_with fail
          refine hv1.mono ?_
          rintro e wr' ⟨⟨v9, rfl⟩, hpa⟩
          have hLK := LK _ _ _ hpa
          clear LK hv1
          simp only
          have n5 := (hpa.oth w4.heap.size (by omega) (by omega) (by omega)).trans q5
          have e5 := cell_blockK n5 0
          simp at e5
          clear n5
          cases ht : tgtOf (o, a1, a2, a3, a4) with
          | none =>
            rw [ht] at hLK HSU
            simp only [Option.getD_none, Option.isSome_none, Option.toList_none] at hLK HSU
            clear ht
            simp only [List.nil_append] at HSU
            have n7 := (hpa.oth w.heap.size (by omega) (by omega) (by omega)).trans q1
            have c7 := cell_blockK n7 7
            simp at c7
            clear n7
            have HC := Lib.hid hMk
            clear hMk
            go_wp2_with fail
            go_loopw [70] (fun i wr => ∃ (q : Nat) (b : List Bool) (st : List Nat) (l : List Int), q ≤ f.tries.length ∧ i = .int .i64 q ∧ Srch w W0 W0.heap.size w1.heap.size W.heap.size b st wr ∧ Vis N (succs f) n l b st M ∧ l ++ tryQ (f.tries.drop q) n = succs f n)
              (fun i _ => f.tries.length - (intOf i).toNat)
            case atStart => exact ⟨0, _, _, _, Nat.zero_le _, rfl, hpa, hvis, by rw [HSU.out]; simp⟩
            case round =>
              clear hpa hvis HSU
              obtain ⟨q, b, st, l, hq, rfl, hpa, hvis, hsu⟩ := hrel
              have HSU := Lib.hid hsu
              clear hsu
              by_cases hlt : q < f.tries.length
              · obtain ⟨x, hx⟩ : ∃ x, f.tries[q]? = some x := ⟨f.tries[q]'hlt, List.getElem?_eq_getElem _⟩
                obtain ⟨tb, toff, hA, hbl, d0, d1, d2, d3⟩ := (hF.tr.below hpa.below hpa.below.size).try_ hx
                obtain ⟨t1, t2, t3, t4⟩ := x
                simp only at d0 d1 d2 d3
                have hdr := tryQ_drop n hx
                simp only at hdr
                have HD := Lib.hid hdr
                have hpb := hpa.alloc hL (.cells #[.int .i64 t1, .int .i64 t2, .int .i64 t3, .int .i64 t4] 65)
                clear hdr hx
                rw [hA]
                by_cases hc1 : t1 ≤ (n : Int)
                · by_cases hc2 : (n : Int) < t2
                  · have hsu2 := HSU.out
                    rw [HD.out, if_pos ⟨hc1, hc2⟩, ← List.append_assoc] at hsu2
                    have hv3 := visit_any hL hpb hvis.dfs.len q3 (by omega) (by omega) (by omega) hsk (by have := hvis.most; have := HC.out; omega) t3
                    have hvis3 := hvis.step (k := t3) (by rw [← hsu2]; simp)
                    have HSU2 := Lib.hid hsu2
                    clear hsu2
                    go_wp2_with fail
                    refine hv3.mono ?_
                    rintro e wr3 ⟨⟨v11, rfl⟩, hpc⟩
                    simp only
                    go_wp2_with fail
                    go_roundw
                    case rel => exact ⟨q + 1, _, _, _, by omega, by go_num, hpc, hvis3, HSU2.out⟩
                    case measure => simp [intOf]; omega
                  · have hsu2 := HSU.out
                    rw [HD.out, if_neg (fun h => hc2 h.2), List.nil_append] at hsu2
                    have HSU2 := Lib.hid hsu2
                    clear hsu2
                    go_wp2_with fail
                    go_roundw
                    case rel => exact ⟨q + 1, _, _, _, by omega, by go_num, hpb, hvis, HSU2.out⟩
                    case measure => simp [intOf]; omega
                · have hsu2 := HSU.out
                  rw [HD.out, if_neg (fun h => hc1 h.1), List.nil_append] at hsu2
                  have HSU2 := Lib.hid hsu2
                  clear hsu2
                  go_wp2_with fail
                  go_roundw
                  case rel => exact ⟨q + 1, _, _, _, by omega, by go_num, hpb, hvis, HSU2.out⟩
                  case measure => simp [intOf]; omega
              · obtain rfl : q = f.tries.length := by omega
                have hsu2 := HSU.out
                rw [List.drop_length, show tryQ [] n = [] from rfl, List.append_nil] at hsu2
                subst hsu2
                have hdf := hvis.done
                have hms := hvis.most
                clear hvis HSU
                go_wp2_with fail
                go_roundg (2 * cntF b + st.length)
                case measure => have := HC.out; omega
                case rel => exact ⟨b, st, hpa, hdf, rfl, by have := HC.out; omega⟩
          | some t =>
            rw [ht] at hLK HSU
            simp only [Option.getD_some, Option.isSome_some, Option.toList_some] at hLK HSU
            have hv2 := visit_any hL hpa hvis.dfs.len q3 (by omega) (by omega) (by omega) hsk (by have := hvis.most; omega) t
            have hvis := hvis.step (k := t) (by rw [HSU.out]; simp)
            clear ht
            go_wp2_with fail
            refine hv2.mono ?_
            rintro e wr2 ⟨⟨v10, rfl⟩, hpa⟩
            clear hv2 hLK
            simp only
            simp only [← List.append_assoc] at HSU
            have n7 := (hpa.oth w.heap.size (by omega) (by omega) (by omega)).trans q1
            have c7 := cell_blockK n7 7
            simp at c7
            clear n7
            have HC := Lib.hid hMk
            clear hMk
            go_wp2_with fail
            go_loopw [70] (fun i wr => ∃ (q : Nat) (b : List Bool) (st : List Nat) (l : List Int), q ≤ f.tries.length ∧ i = .int .i64 q ∧ Srch w W0 W0.heap.size w1.heap.size W.heap.size b st wr ∧ Vis N (succs f) n l b st M ∧ l ++ tryQ (f.tries.drop q) n = succs f n)
              (fun i _ => f.tries.length - (intOf i).toNat)
            case atStart => exact ⟨0, _, _, _, Nat.zero_le _, rfl, hpa, hvis, by rw [HSU.out]; simp⟩
            case round =>
              clear hpa hvis HSU
              obtain ⟨q, b, st, l, hq, rfl, hpa, hvis, hsu⟩ := hrel
              have HSU := Lib.hid hsu
              clear hsu
              by_cases hlt : q < f.tries.length
              · obtain ⟨x, hx⟩ : ∃ x, f.tries[q]? = some x := ⟨f.tries[q]'hlt, List.getElem?_eq_getElem _⟩
                obtain ⟨tb, toff, hA, hbl, d0, d1, d2, d3⟩ := (hF.tr.below hpa.below hpa.below.size).try_ hx
                obtain ⟨t1, t2, t3, t4⟩ := x
                simp only at d0 d1 d2 d3
                have hdr := tryQ_drop n hx
                simp only at hdr
                have HD := Lib.hid hdr
                have hpb := hpa.alloc hL (.cells #[.int .i64 t1, .int .i64 t2, .int .i64 t3, .int .i64 t4] 65)
                clear hdr hx
                rw [hA]
                by_cases hc1 : t1 ≤ (n : Int)
                · by_cases hc2 : (n : Int) < t2
                  · have hsu2 := HSU.out
                    rw [HD.out, if_pos ⟨hc1, hc2⟩, ← List.append_assoc] at hsu2
                    have hv3 := visit_any hL hpb hvis.dfs.len q3 (by omega) (by omega) (by omega) hsk (by have := hvis.most; have := HC.out; omega) t3
                    have hvis3 := hvis.step (k := t3) (by rw [← hsu2]; simp)
                    have HSU2 := Lib.hid hsu2
                    clear hsu2
                    go_wp2_with fail
                    refine hv3.mono ?_
                    rintro e wr3 ⟨⟨v11, rfl⟩, hpc⟩
                    simp only
                    go_wp2_with fail
                    go_roundw
                    case rel => exact ⟨q + 1, _, _, _, by omega, by go_num, hpc, hvis3, HSU2.out⟩
                    case measure => simp [intOf]; omega
                  · have hsu2 := HSU.out
                    rw [HD.out, if_neg (fun h => hc2 h.2), List.nil_append] at hsu2
                    have HSU2 := Lib.hid hsu2
                    clear hsu2
                    go_wp2_with fail
                    go_roundw
                    case rel => exact ⟨q + 1, _, _, _, by omega, by go_num, hpb, hvis, HSU2.out⟩
                    case measure => simp [intOf]; omega
                · have hsu2 := HSU.out
                  rw [HD.out, if_neg (fun h => hc1 h.1), List.nil_append] at hsu2
                  have HSU2 := Lib.hid hsu2
                  clear hsu2
                  go_wp2_with fail
                  go_roundw
                  case rel => exact ⟨q + 1, _, _, _, by omega, by go_num, hpb, hvis, HSU2.out⟩
                  case measure => simp [intOf]; omega
              · obtain rfl : q = f.tries.length := by omega
                have hsu2 := HSU.out
                rw [List.drop_length, show tryQ [] n = [] from rfl, List.append_nil] at hsu2
                subst hsu2
                have hdf := hvis.done
                have hms := hvis.most
                clear hvis HSU
                go_wp2_with fail
                go_roundg (2 * cntF b + st.length)
                case measure => have := HC.out; omega
                case rel => exact ⟨b, st, hpa, hdf, rfl, by have := HC.out; omega⟩
  case stop =>
    rintro D c pre W _ _ h _
    exact h.elim

/-- check.Reach -/
theorem reach_any {w : World} (f : FnT) (hF : FnIn w w.heap.size f) (hT : Tb w) (hs : Small f) (hok : ∀ i ∈ f.code, okIns i) :
    Calls Tryd.prog 11 #[.agg (fnC f).toArray] w fun e w' => ∃ b bs, e = .returned (.slice (some ⟨bs, 0, none⟩) f.code.length f.code.length) ∧ IsRc f.code.length (succs f) b ∧
      w'.heap[bs]? = some (.cells (b.map Value.bool).toArray 4 (0, 0)) ∧ w.heap.size ≤ bs ∧ Below w.heap.size w w' := callsIn_wide.1 (reach_in f hF hT hs hok)
end Go.Proofs.YtoihoackmkapaaaDoor
