/- The document's Targets. -/
import Derived.Test.YtoihoackmkapaaaDoorKRefReach
namespace Go.Proofs.YtoihoackmkapaaaDoor
open Go.RowKit
set_option maxHeartbeats 2000000
set_option maxRecDepth 100000
attribute [local go_sem] Oper.semAt_some

def Apart (v v' : Value) : Prop := ∀ q, v.ownBlock = some q → v'.ownBlock = some q → False
theorem Apart.swap {v v' : Value} (h : Apart v v') : Apart v' v := fun q h1 h2 => h q h2 h1
theorem Apart.kept {v v' : Value} (h : Apart v v') : v.ownBlock = none ∨ v.ownBlock ≠ v'.ownBlock := by
  cases hv : v.ownBlock with
  | none => exact .inl rfl
  | some q => exact .inr fun e => h q hv e.symm
theorem Apart.next {w : World} {v v' : Value} {base n : Nat} {e : TypeId} {xs : List Value} {g H len cap : Nat} (h : Apart v v') (ho : w.ownsRow base e 1 v' n xs) (hH : w.heap.size ≤ H) (hg : v.ownBlock = some g ∨ g = H) : Apart (.slice (some ⟨g, 0, none⟩) len cap) v' := fun q h1 h2 => by
  have e : g = q := by simpa [Value.ownBlock] using h1
  subst e
  rcases hg with hg | rfl
  · exact h g hg h2
  · have := (ho.lt g h2).2
    omega
theorem cell_allocK {w : World} {p : Addr} {u : Value} (h : w.cell? p = some u) (o : Obj) : (w.alloc o).cell? p = some u := (((Below.refl _ w).alloc (Nat.le_refl _) o).cell (World.block_lt_of_cell? _ _ h)).trans h
def atV (l : List (Nat × Int)) : List Value := l.map fun x => Value.int .i64 (x.1 : Nat)
def toV (l : List (Nat × Int)) : List Value := l.map fun x => Value.int .i64 x.2
theorem refTargets_any {w : World} (f : FnT) (hF : FnIn w w.heap.size f) (hs : Small f) :
    Calls Tryd.prog 13 #[.agg (fnC f).toArray] w fun e w' => ∃ v1 v2, e = .returned (.tuple #[v1, v2]) ∧ w'.ownsRow w.heap.size 3 1 v1 (TG 0 f.code).length (atV (TG 0 f.code)) ∧ w'.ownsRow w.heap.size 3 1 v2 (TG 0 f.code).length (toV (TG 0 f.code)) ∧ Below w.heap.size w w' := by
  obtain ⟨N, hN⟩ : ∃ n, f.code.length = n := ⟨_, rfl⟩
  have hsk := hs.k
  rw [hN] at hsk
  simp only [fnC]
  rw [hN]
  have HN := Lib.hid hN
  clear hN
  obtain ⟨i0, hi0, hz0, hz1, hz2⟩ := info_parts Tryd.info_int
  have y1 : (w.alloc (.cells #[.string f.name, .int .i64 f.params, .bool f.rest, .bool f.arrow, .int .i64 f.regs, .slice f.cA f.consts.length f.cC, .slice f.kA N f.kC, .slice f.tA f.tries.length f.tC, .slice f.uA f.caps.length f.uC] 38)).heap[w.heap.size]? = some (.cells #[.string f.name, .int .i64 f.params, .bool f.rest, .bool f.arrow, .int .i64 f.regs, .slice f.cA f.consts.length f.cC, .slice f.kA N f.kC, .slice f.tA f.tries.length f.tC, .slice f.uA f.caps.length f.uC] 38 (0, 0)) := heap_alloc_new w _
  have b1 : Below w.heap.size w (w.alloc (.cells #[.string f.name, .int .i64 f.params, .bool f.rest, .bool f.arrow, .int .i64 f.regs, .slice f.cA f.consts.length f.cC, .slice f.kA N f.kC, .slice f.tA f.tries.length f.tC, .slice f.uA f.caps.length f.uC] 38)) := (Below.refl _ _).alloc (Nat.le_refl _) _
  obtain ⟨w1, hw1⟩ : ∃ w1, w.alloc (.cells #[.string f.name, .int .i64 f.params, .bool f.rest, .bool f.arrow, .int .i64 f.regs, .slice f.cA f.consts.length f.cC, .slice f.kA N f.kC, .slice f.tA f.tries.length f.tC, .slice f.uA f.caps.length f.uC] 38) = w1 := ⟨_, rfl⟩
  rw [hw1] at y1 b1
  have d6 := cell_blockK y1 6
  simp at d6
  go_enter Tryd.func13, Tryd.ntmps13
  go_wp2_with fail
  go_loopw [4, 5, 11] (fun va vb i wr => ∃ (k : Nat) (l : List (Nat × Int)), k ≤ N ∧ i = .int .i64 k ∧ Below w.heap.size w wr ∧ wr.ownsRow w.heap.size 3 1 va l.length (atV l) ∧ wr.ownsRow w.heap.size 3 1 vb l.length (toV l) ∧ Apart va vb ∧ l ++ TG k (f.code.drop k) = TG 0 f.code)
    (fun _ _ i _ => N - (intOf i).toNat)
  case atStart => exact ⟨0, [], Nat.zero_le _, rfl, b1, World.ownsRow_nil _ _ _ _, World.ownsRow_nil _ _ _ _, fun q h => (by cases h), by simp⟩
  case round =>
    clear hw1
    obtain ⟨k, l, hk, rfl, hb, hat, hto, hap, hl⟩ := hrel
    have hbs := hb.size
    have hll : l.length ≤ 1000 := by
      have h1 := congrArg List.length hl
      rw [List.length_append] at h1
      have := TG_length f.code 0
      have := HN.out
      omega
    have HL := Lib.hid hl
    clear hl
    by_cases hlt : k < N
    · obtain ⟨i, hi⟩ : ∃ i, f.code[k]? = some i := ⟨f.code[k]'(by have := HN.out; omega), List.getElem?_eq_getElem _⟩
      obtain ⟨ib, ioff, hA, hbl, e0, e1, e2, e3, e4⟩ := (hF.kr.below hb hb.size).ins hi
      have HTG := Lib.hid (TG_at hi)
      obtain ⟨o, a1, a2, a3, a4⟩ := i
      simp only at e0 e1 e2 e3 e4
      have hza := heap_alloc_new wr (.cells #[.int .i64 o, .int .i64 a1, .int .i64 a2, .int .i64 a3, .int .i64 a4] 50)
      have hba := hb.alloc hb.size (.cells #[.int .i64 o, .int .i64 a1, .int .i64 a2, .int .i64 a3, .int .i64 a4] 50)
      have hlt0 := fun q h => (hat.lt q h).2
      have hlt1 := fun q h => (hto.lt q h).2
      have hat := hat.alloc (.cells #[.int .i64 o, .int .i64 a1, .int .i64 a2, .int .i64 a3, .int .i64 a4] 50)
      have hto := hto.alloc (.cells #[.int .i64 o, .int .i64 a1, .int .i64 a2, .int .i64 a3, .int .i64 a4] 50)
      clear hi
      rw [hA]
      go_wp2_with fail
      obtain ⟨wa, hwa⟩ : ∃ wa, wr.alloc (.cells #[.int .i64 o, .int .i64 a1, .int .i64 a2, .int .i64 a3, .int .i64 a4] 50) = wa := ⟨_, rfl⟩
      rw [hwa] at hza hba hat hto ⊢
      have la := (Array.getElem?_eq_some_iff.1 hza).1
      refine (has_any (o, a1, a2, a3, a4)).mono ?_
      rintro e w3 ⟨rfl, b3⟩
      have hb3 := hba.trans (b3.mono hba.size)
      have hat := hown_kept hat b3
      have hto := hown_kept hto b3
      have n3 := (b3.block wr.heap.size la).trans hza
      have s0 := cell_blockK n3 0
      have s1 := cell_blockK n3 1
      have s2 := cell_blockK n3 2
      have s3 := cell_blockK n3 3
      have s4 := cell_blockK n3 4
      have hs3 := b3.size
      simp at s0 s1 s2 s3 s4
      clear hwa hza hba e0 e1 e2 e3 e4 b3
      cases ht : tgtOf (o, a1, a2, a3, a4) with
      | none =>
        have HST : l ++ TG (k + 1) (f.code.drop (k + 1)) = TG 0 f.code := by rw [← HL.out, HTG.out, ht]
        have HST := Lib.hid HST
        clear ht
        simp only [Option.isSome_none]
        go_wp2_with fail
        go_roundw
        case rel => exact ⟨k + 1, l, by omega, by go_num, hb3, hat, hto, hap, HST.out⟩
        case measure => simp [intOf]; omega
      | some t =>
        have HST : (l ++ [(k, t)]) ++ TG (k + 1) (f.code.drop (k + 1)) = TG 0 f.code := by rw [← HL.out, HTG.out, ht, List.append_assoc]; rfl
        have HST := Lib.hid HST
        have HT := Lib.hid ht
        clear ht
        simp only [Option.isSome_some]
        go_wp2_with fail
        refine wp_region_lin (fun w' => w'.cell? ⟨wr.heap.size, 0, none⟩ = some (.int .i64 o) ∧ w'.cell? ⟨wr.heap.size, 1, none⟩ = some (.int .i64 a1) ∧ w'.cell? ⟨wr.heap.size, 2, none⟩ = some (.int .i64 a2) ∧ w'.cell? ⟨wr.heap.size, 3, none⟩ = some (.int .i64 a3) ∧ w'.cell? ⟨wr.heap.size, 4, none⟩ = some (.int .i64 a4)) [10] (.block 0 (.block 1 (.block 4 (.block 5 (.scope (.seq (.label 2) (.scope (.seq (.label 3) (.scope (.seq (.label 6) (.scope (.seq (.label 7) (.scope (.seq (.label 8) (.block 9 (.loop (.block 10 (.skip)))))))))))))))))) (by kernel_rfl) (by kernel_rfl) (by kernel_rfl) (by kernel_rfl) (by kernel_rfl) ⟨s0, s1, s2, s3, s4⟩ ?_
        repeat
          (refine lin_light (A1 := ?_) rfl rfl rfl rfl rfl (fun w' hS K hK => ?_) ?_ ?_
           rotate_left
           · obtain ⟨s0, s1, s2, s3, s4⟩ := hS; go_step; exact hK
           · rfl)
        refine lin_group ?_
        refine lin_heavy rfl rfl (fun K hK => ?_)
        go_step
        refine hK.out _ _ ⟨cell_allocK (w := w3.drew) s0 _, cell_allocK (w := w3.drew) s1 _, cell_allocK (w := w3.drew) s2 _, cell_allocK (w := w3.drew) s3 _, cell_allocK (w := w3.drew) s4 _⟩ ?_
        clear hK K
        try refine lin_late ?_
        repeat
          (refine lin_light (A1 := ?_) rfl rfl rfl rfl rfl (fun w' hS K hK => ?_) ?_ ?_
           rotate_left
           · obtain ⟨s0, s1, s2, s3, s4⟩ := hS; go_step; exact hK
           · rfl)
        refine lin_group ?_
        refine lin_heavy rfl rfl (fun K hK => ?_)
        refine wp_append_lies _ _ _ _ rfl w.heap.size 3 i0 _ 1 8 Tryd.underlying41 hi0 hz0 hz1 hz2 rfl (by decide) _ l.length _ rfl (hat.drew.alloc _) ⟨w3.heap.size, 0, none⟩ 1 1 [.int .i64 (k : Nat)] rfl rfl
          (World.news_of_block (cs := #[.int .i64 (k : Nat)]) (t := 3) (fr := (0, 0)) (heap_alloc_new w3.drew _)) (by simp [Value.oneCell']) (by omega) (by unfold maxLen; omega) (by omega) (by have := hb3.size; simp; omega) (w3.heap.size + 1) (by simp) ?_
        intro g5 cap5 w5 hown5 hgrow5 hat5 hlt5
        have hz5 := hgrow5.size
        have hto5 := (hto.drew.alloc (.cells #[.int .i64 (k : Nat)] 3)).kept hgrow5 hap.swap.kept
        have hap5 : Apart (.slice (some ⟨g5, 0, none⟩) (l.length + 1) cap5) _ := hap.next hto (Nat.le_succ _) hat5
        have hb5 := (hb3.drew.alloc hb3.size (.cells #[.int .i64 (k : Nat)] 3)).grown hgrow5 (by have := hb3.size; simp; omega) (fun j hj => (hat.lt j hj).1)
        have n5 := (hgrow5.block wr.heap.size (by simp; omega) (fun e => by have := hlt0 _ e.symm; omega)).trans ((Lib.alloc_old w3.drew _ _ (by show wr.heap.size < w3.heap.size; omega)).trans n3)
        have t0 := cell_blockK n5 0
        have t1 := cell_blockK n5 1
        have t2 := cell_blockK n5 2
        have t3 := cell_blockK n5 3
        have t4 := cell_blockK n5 4
        simp at t0 t1 t2 t3 t4
        refine hK.out _ _ ⟨t0, t1, t2, t3, t4⟩ ?_
        clear hK K
        try refine lin_late ?_
        repeat
          (refine lin_light (A1 := ?_) rfl rfl rfl rfl rfl (fun w' hS K hK => ?_) ?_ ?_
           rotate_left
           · obtain ⟨s0, s1, s2, s3, s4⟩ := hS; go_step; exact hK
           · rfl)
        refine lin_group ?_
        refine lin_heavy rfl rfl (fun K hK => ?_)
        go_step
        refine (Target_any (o, a1, a2, a3, a4)).mono ?_
        rintro e w6 ⟨rfl, b6⟩
        rw [HT.out, Option.getD_some]
        have hz6 := b6.size
        have n6 := (b6.block wr.heap.size (Array.getElem?_eq_some_iff.1 n5).1).trans n5
        have hown6 := hown_kept hown5 b6
        have hto6 := hown_kept hto5 b6
        have hb6 := hb5.trans (b6.mono (by have := hb5.size; omega))
        have p0 := cell_blockK n6 0
        have p1 := cell_blockK n6 1
        have p2 := cell_blockK n6 2
        have p3 := cell_blockK n6 3
        have p4 := cell_blockK n6 4
        simp at p0 p1 p2 p3 p4
        simp only
        refine hK.out _ _ ⟨p0, p1, p2, p3, p4⟩ ?_
        clear hK K
        try refine lin_late ?_
        repeat
          (refine lin_light (A1 := ?_) rfl rfl rfl rfl rfl (fun w' hS K hK => ?_) ?_ ?_
           rotate_left
           · obtain ⟨s0, s1, s2, s3, s4⟩ := hS; go_step; exact hK
           · rfl)
        refine lin_group ?_
        refine lin_heavy rfl rfl (fun K hK => ?_)
        go_step
        have n7 := (Lib.alloc_old w6 (.cells #[.int .i64 t] 3) wr.heap.size (Array.getElem?_eq_some_iff.1 n6).1).trans n6
        have q0 := cell_blockK n7 0
        have q1 := cell_blockK n7 1
        have q2 := cell_blockK n7 2
        have q3 := cell_blockK n7 3
        have q4 := cell_blockK n7 4
        simp at q0 q1 q2 q3 q4
        refine hK.out _ _ ⟨q0, q1, q2, q3, q4⟩ ?_
        clear hK K
        try refine lin_late ?_
        repeat
          (refine lin_light (A1 := ?_) rfl rfl rfl rfl rfl (fun w' hS K hK => ?_) ?_ ?_
           rotate_left
           · obtain ⟨s0, s1, s2, s3, s4⟩ := hS; go_step; exact hK
           · rfl)
        refine lin_group ?_
        refine lin_heavy rfl rfl (fun K hK => ?_)
        refine wp_append_lies _ _ _ _ rfl w.heap.size 3 i0 _ 1 8 Tryd.underlying41 hi0 hz0 hz1 hz2 rfl (by decide) _ l.length _ rfl (hto6.alloc _) ⟨w6.heap.size, 0, none⟩ 1 1 [.int .i64 t] rfl rfl
          (World.news_of_block (cs := #[.int .i64 t]) (t := 3) (fr := (0, 0)) (heap_alloc_new w6 _)) (by simp [Value.oneCell']) (by omega) (by unfold maxLen; omega) (by omega) (by have := hb6.size; simp; omega) (w6.heap.size + 1) (by simp) ?_
        intro g8 cap8 w8 hown8 hgrow8 hat8 hlt8
        have hown9 := (hown6.alloc (.cells #[.int .i64 t] 3)).kept hgrow8 hap5.kept
        have hap8 := hap5.swap.next (len := l.length + 1) (cap := cap8) hown6 (Nat.le_succ _) hat8
        have hb8 := (hb6.alloc hb6.size (.cells #[.int .i64 t] 3)).grown hgrow8 (by have := hb6.size; simp; omega) (fun j hj => (hto6.lt j hj).1)
        have n8 := (hgrow8.block wr.heap.size (Array.getElem?_eq_some_iff.1 n7).1 (fun e => by have := hlt1 _ e.symm; omega)).trans n7
        have r0 := cell_blockK n8 0
        have r1 := cell_blockK n8 1
        have r2 := cell_blockK n8 2
        have r3 := cell_blockK n8 3
        have r4 := cell_blockK n8 4
        simp at r0 r1 r2 r3 r4
        refine hK.out _ _ ⟨r0, r1, r2, r3, r4⟩ ?_
        clear hK K
        simp only [Act.put, List.setIfInBounds_toArray, List.set_cons_zero, List.set_cons_succ]
        try refine lin_late ?_
        repeat
          (refine lin_light (A1 := ?_) rfl rfl rfl rfl rfl (fun w' hS K hK => ?_) ?_ ?_
           rotate_left
           · obtain ⟨s0, s1, s2, s3, s4⟩ := hS; go_step; exact hK
           · rfl)
        refine lin_end ?_
        go_wp2_with fail
        go_roundw
        case rel => exact ⟨k + 1, l ++ [(k, t)], by omega, by go_num, hb8, by rw [List.length_append]; unfold atV; rw [List.map_append]; exact hown9, by rw [List.length_append]; unfold toV; rw [List.map_append]; exact hown8, hap8.swap, HST.out⟩
        case measure => simp [intOf]; omega
    · obtain rfl : k = N := by omega
      have hfin : l = TG 0 f.code := by
        have := HL.out
        rwa [TG_end (by have := HN.out; omega), List.append_nil] at this
      subst hfin
      go_wp2_with fail
      go_ret2
      exact ⟨_, _, rfl, hat, hto, hb⟩
end Go.Proofs.YtoihoackmkapaaaDoor
