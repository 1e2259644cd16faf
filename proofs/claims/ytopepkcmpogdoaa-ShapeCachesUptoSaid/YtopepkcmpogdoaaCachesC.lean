/- The walk of lintellaw14.ShapeCaches. -/
import Derived.Test.YtopepkcmpogdoaaCachesB
namespace Go.Proofs.Ytopepkcmpogdoaa
open Go.RowKit
set_option maxHeartbeats 400000
set_option maxRecDepth 100000

set_option maxHeartbeats 8000000 in
theorem caches_any {w : World} {A : Option Addr} {c : Nat} {l : List OpT} (h : Ops w A l) (hok : ∀ o ∈ l, okOp o) (hl : l.length + fewS l ≤ 1099511627776) :
    Calls Try.prog 5 #[.slice A l.length c] w fun e w' => e = .returned (.bool true) ∧ Below w.heap.size w w' := by
  go_enter Try.func5, Try.ntmps5
  go_wp2_with fail
  refine (awake_any _).mono ?_
  rintro e w1 ⟨rfl, hb1⟩
  simp only
  go_wp2_with fail
  have s1 := hb1.size
  refine (few_any (h.below hb1) hl).mono ?_
  rintro e w2 ⟨rfl, hb2⟩
  have s2 := hb2.size
  simp only
  by_cases hfew : l.length + fewS l ≤ 300
  · simp only [hfew, decide_true]
    have HL := Lib.hid hl
    clear hl
    go_wp2_with fail
    refine (new_any _).mono ?_
    rintro e w3 ⟨rfl, hT, hb3⟩
    have s3 := hb3.size
    simp only
    go_wp2_with fail
    refine (new_ref _).mono ?_
    rintro e w4 ⟨rfl, hR, hb4⟩
    have s4 := hb4.size
    have hl300 : l.length ≤ 300 := by omega
    have hF300 : fewS l ≤ 300 := by omega
    have HF := Lib.hid hfew
    clear hfew
    simp only
    have hOps := (h.below hb1).below hb2
    have hT4 := hT.below hb4
    have hb24 : Below w2.heap.size w2 w4 := hb3.trans (hb4.mono s3)
    clear hT
    go_wp2_with fail
    refine (new_cache _).mono ?_
    rintro e w5 ⟨rfl, hC0, hb5⟩
    have s5 := hb5.size
    simp only
    go_wp2_with fail
    refine (new_cache _).mono ?_
    rintro e w6 ⟨rfl, hC1, hb6⟩
    have s6 := hb6.size
    simp only
    go_wp2_with fail
    generalize hW7 : w6.alloc _ = w7
    have hm1 := make_ints
    have hm2 := make_ops
    have hm3 := make_bools
    apply by_key (Facts := fun bh bm W8 => Below w7.heap.size w7 W8 ∧ W8.heap[bh]? = some (.cells #[.int .i64 0, .int .i64 0, .int .i64 0] 3 (0, 0)) ∧ W8.heap[bm]? = some (.cells #[.int .i64 0, .int .i64 0, .int .i64 0] 3 (0, 0)) ∧ bh ≠ bm ∧ w7.heap.size ≤ bh ∧ w7.heap.size ≤ bm)
    case main =>
      intro key
      have hb78 : Below w7.heap.size w7 ((w7.alloc (.cells #[.int .i64 0, .int .i64 0, .int .i64 0] 3)).alloc (.cells #[.int .i64 0, .int .i64 0, .int .i64 0] 3)).drew := (((Below.refl _ _).alloc (Nat.le_refl _) _).alloc (by simp) _).drew
      have a0 : ((w7.alloc (.cells #[.int .i64 0, .int .i64 0, .int .i64 0] 3)).alloc (.cells #[.int .i64 0, .int .i64 0, .int .i64 0] 3)).drew.heap[w7.heap.size]? = some (.cells #[.int .i64 0, .int .i64 0, .int .i64 0] 3 (0, 0)) := heap_old' (heap_new' rfl)
      have a1 : ((w7.alloc (.cells #[.int .i64 0, .int .i64 0, .int .i64 0] 3)).alloc (.cells #[.int .i64 0, .int .i64 0, .int .i64 0] 3)).drew.heap[w7.heap.size + 1]? = some (.cells #[.int .i64 0, .int .i64 0, .int .i64 0] 3 (0, 0)) := heap_new' (w := w7.alloc (.cells #[.int .i64 0, .int .i64 0, .int .i64 0] 3)) (by simp)
      refine wp_region_lin (fun _ => True) [3] (.scope (.cond (.func 0) (.seq (.label 0) (.block 2 (.scope (.seq (.label 1) (.loop (.block 3 (.skip))))))) (.seq (.label 1) (.scope (.seq (.label 0) (.block 2 (.loop (.block 3 (.skip))))))))) (by kernel_rfl) (by kernel_rfl) (by kernel_rfl) (by kernel_rfl) (by kernel_rfl) trivial ?_
      refine lin_group ?_
      refine lin_both ?_ ?_
      · refine lin_heavy rfl rfl (fun K hK => ?_)
        go_step
        refine hK.out _ _ trivial ?_
        clear hK K
        repeat
          (refine lin_light (A1 := ?_) rfl rfl rfl rfl rfl (fun w' hS K hK => ?_) ?_ ?_
           rotate_left
           · clear hS; go_step; exact hK
           · rfl)
        refine lin_group ?_
        refine lin_heavy rfl rfl (fun K hK => ?_)
        go_step
        refine hK.out _ _ trivial ?_
        clear hK K
        try refine lin_late ?_
        repeat
          (refine lin_light (A1 := ?_) rfl rfl rfl rfl rfl (fun w' hS K hK => ?_) ?_ ?_
           rotate_left
           · clear hS; go_step; exact hK
           · rfl)
        refine lin_end ?_
        generalize hW8 : World.drew _ = W8 at *
        generalize hbm0 : w7.heap.size + 1 = bm at a1 ⊢
        generalize hbh0 : w7.heap.size = bh at a0 ⊢
        exact key bh bm W8 ⟨hb78, a0, a1, by omega, by omega, by omega⟩
      · refine lin_heavy rfl rfl (fun K hK => ?_)
        go_step
        refine hK.out _ _ trivial ?_
        clear hK K
        refine lin_group ?_
        refine lin_heavy rfl rfl (fun K hK => ?_)
        go_step
        refine hK.out _ _ trivial ?_
        clear hK K
        repeat
          (refine lin_light (A1 := ?_) rfl rfl rfl rfl rfl (fun w' hS K hK => ?_) ?_ ?_
           rotate_left
           · clear hS; go_step; exact hK
           · rfl)
        try refine lin_late ?_
        repeat
          (refine lin_light (A1 := ?_) rfl rfl rfl rfl rfl (fun w' hS K hK => ?_) ?_ ?_
           rotate_left
           · clear hS; go_step; exact hK
           · rfl)
        refine lin_end ?_
        generalize hW8 : World.drew _ = W8 at *
        generalize hbm0 : w7.heap.size + 1 = bh at a1 ⊢
        generalize hbh0 : w7.heap.size = bm at a0 ⊢
        exact key bh bm W8 ⟨hb78, a1, a0, by omega, by omega, by omega⟩
    case key =>
      rintro bh bm W8 ⟨hb78, ah, am, hne, hg1, hg2⟩
      have s7 : w7.heap.size = w6.heap.size + 1 := by rw [← hW7]; simp
      have hb67 : Below w6.heap.size w6 w7 := by rw [← hW7]; exact (Below.refl _ _).alloc (Nat.le_refl _) _
      have hb68 : Below w6.heap.size w6 W8 := hb67.trans (hb78.mono (by omega))
      have s8 := hb78.size
      have a7 : w7.heap[w6.heap.size]? = some (.cells #[.pointer (some ⟨w4.heap.size, 0, none⟩), .pointer (some ⟨w5.heap.size, 0, none⟩), .pointer none] 49 (0, 0)) := by rw [← hW7]; exact heap_new' rfl
      have S7 := Lib.hid s7
      clear s7
      go_wp2_with fail
      have hb89 : Below W8.heap.size W8 ((W8.alloc (.cells #[.int .i64 0, .int .i64 0, .string ⟨#[]⟩, .int .i64 0, .int .i64 0, .int .i64 0, .int .i64 0, .int .i64 0, .string ⟨#[]⟩, .int .i64 0, .int .i64 0, .int .i64 0, .int .i64 0, .int .i64 0, .string ⟨#[]⟩, .int .i64 0, .int .i64 0, .int .i64 0] 32)).alloc (.cells #[.bool false, .bool false, .bool false] 4)) := ((Below.refl _ _).alloc (Nat.le_refl _) _).alloc (by simp) _
      have al := heap_old' (o := .cells #[.bool false, .bool false, .bool false] 4) (heap_new' (w := W8) (o := .cells #[.int .i64 0, .int .i64 0, .string ⟨#[]⟩, .int .i64 0, .int .i64 0, .int .i64 0, .int .i64 0, .int .i64 0, .string ⟨#[]⟩, .int .i64 0, .int .i64 0, .int .i64 0, .int .i64 0, .int .i64 0, .string ⟨#[]⟩, .int .i64 0, .int .i64 0, .int .i64 0] 32) rfl)
      have av := heap_new' (w := W8.alloc (.cells #[.int .i64 0, .int .i64 0, .string ⟨#[]⟩, .int .i64 0, .int .i64 0, .int .i64 0, .int .i64 0, .int .i64 0, .string ⟨#[]⟩, .int .i64 0, .int .i64 0, .int .i64 0, .int .i64 0, .int .i64 0, .string ⟨#[]⟩, .int .i64 0, .int .i64 0, .int .i64 0] 32)) (o := .cells #[.bool false, .bool false, .bool false] 4) (k := W8.heap.size + 1) (by simp)
      generalize hW9 : World.alloc (World.alloc W8 _) _ = W9 at *
      clear hW9
      generalize hbl : W8.heap.size = bl at al hb89 ⊢
      have hg3 : W8.heap.size = bl := hbl
      have hSt0 : St w2.heap.size w3.heap.size (w2.heap.size + 3) (w3.heap.size + 1) w4.heap.size w5.heap.size w6.heap.size bh bm bl (bl + 1) 0 W9 ([[]], fun _ => none) ([[]], []) (fun _ => ⟨none, 0, (⟨#[]⟩, 0), 0, 0, false, 0, 0⟩) (fun _ => (0, 0, (⟨#[]⟩, 0), 0, 0)) (fun _ => false) := by
        have s7 := S7.out
        have hb69 : Below w6.heap.size w6 W9 := hb68.trans (hb89.mono (by have := hb68.size; omega))
        have hb59 : Below w5.heap.size w5 W9 := hb6.trans (hb69.mono s6)
        have hb49 : Below w4.heap.size w4 W9 := hb5.trans (hb59.mono s5)
        have ltw6 : w6.heap.size < w7.heap.size := by omega
        refine ⟨hT4.below hb49, hR.below hb49, Sim.new, by simp, by simp, fun i hi => ?_, fun i hi => ⟨⟨.inl rfl, fun h => by cases h⟩, .inl ⟨rfl, rfl⟩, by simp, by simp, by simp [ByteArray.size]⟩, ?_, ?_, ?_, ?_, ?_, ?_, hne⟩
        · rcases (show i = 0 ∨ i = 1 from by omega) with rfl | rfl
          · exact ((hb59.block _ (Array.getElem?_eq_some_iff.1 hC0).1).trans hC0)
          · exact ((hb69.block _ (Array.getElem?_eq_some_iff.1 hC1).1).trans hC1)
        · refine ⟨_, (hb89.block _ (by omega)).trans ((hb78.block _ ltw6).trans a7), fun i hi => ?_⟩
          rcases (show i = 0 ∨ i = 1 ∨ i = 2 from by omega) with rfl | rfl | rfl <;> rfl
        · refine ⟨_, (hb89.block _ (by have := (Array.getElem?_eq_some_iff.1 ah).1; omega)).trans ah, fun i hi => ?_⟩
          rcases (show i = 0 ∨ i = 1 ∨ i = 2 from by omega) with rfl | rfl | rfl <;> rfl
        · refine ⟨_, (hb89.block _ (by have := (Array.getElem?_eq_some_iff.1 am).1; omega)).trans am, fun i hi => ?_⟩
          rcases (show i = 0 ∨ i = 1 ∨ i = 2 from by omega) with rfl | rfl | rfl <;> rfl
        · refine ⟨_, al, fun i hi => ?_⟩
          rcases (show i = 0 ∨ i = 1 ∨ i = 2 ∨ i = 3 ∨ i = 4 ∨ i = 5 ∨ i = 6 ∨ i = 7 ∨ i = 8 ∨ i = 9 ∨ i = 10 ∨ i = 11 ∨ i = 12 ∨ i = 13 ∨ i = 14 ∨ i = 15 ∨ i = 16 ∨ i = 17 from by omega) with h | h | h | h | h | h | h | h | h | h | h | h | h | h | h | h | h | h <;> subst h <;> rfl
        · rw [hg3] at av
          refine ⟨_, av, fun i hi => ?_⟩
          rcases (show i = 0 ∨ i = 1 ∨ i = 2 from by omega) with rfl | rfl | rfl <;> rfl
        · have := (Array.getElem?_eq_some_iff.1 hC0).1
          omega
      have hb29 : Below w2.heap.size w2 W9 := by
        have s7 := S7.out
        exact hb24.trans ((hb5.trans ((hb6.trans ((hb68.trans (hb89.mono (by have := hb68.size; omega))).mono s6)).mono s5)).mono hb24.size)
      have h39 : w3.heap.size ≤ W9.heap.size := by have := (Array.getElem?_eq_some_iff.1 (hSt0.cache 0 (by omega))).1; simp at this; omega
      have hgbl : w2.heap.size ≤ bl := by have := S7.out; omega
      have hgbh : w2.heap.size ≤ bh := by have := S7.out; omega
      have hgbm : w2.heap.size ≤ bm := by have := S7.out; omega
      clear hT4 hR hC0 hC1 hg3 hbl hb3 hb4 hb5 hb6 hb24 hb67 hb68 hb78 hb89 a7 al av ah am hW7 S7 hg1 hg2 hne s8
      go_loopw [51] (fun i wr => ∃ (k : Nat) (m : TM) (r : RM) (C : Nat → CM) (L : Nat → OpT) (H : Nat → Bool), k ≤ l.length ∧ i = .int .i64 k ∧ St w2.heap.size w3.heap.size (w2.heap.size + 3) (w3.heap.size + 1) w4.heap.size w5.heap.size w6.heap.size bh bm bl (bl + 1) k wr m r C L H ∧ Below w2.heap.size w2 wr ∧ w3.heap.size ≤ wr.heap.size)
        (fun i _ => l.length - (intOf i).toNat)
      case atStart => exact ⟨0, _, _, _, _, _, Nat.zero_le _, rfl, hSt0, hb29, h39⟩
      case round =>
        obtain ⟨k, m, r, C, L, H, hk, rfl, hSt, hbk, hsk⟩ := hrel
        by_cases hlt : k < l.length
        · obtain ⟨o, ho⟩ : ∃ o, l[k]? = some o := ⟨l[k], List.getElem?_eq_getElem hlt⟩
          obtain ⟨b, off, hAe, c0, c1, c2, c3, c4, c5⟩ := hOps.below hbk k o ho
          have hmem := List.mem_of_getElem? ho
          have hoo := hok o hmem
          have hsize := few_size hmem hF300
          have hbn := hbk.size
          obtain ⟨o1, o2, ⟨o3, o4⟩, o5, o6⟩ := o
          simp only at c0 c1 c2 c3 c4 c5 hsize
          subst hAe
          have HSAME := Lib.hid hSt.sim.same
          obtain ⟨ci, hci, hcv⟩ := idx3 o6
          have hl1 := hSt.len1
          have hl2 := hSt.len2
          by_cases hkind : o1 = 0
          · have HU := Lib.hid hci
            obtain ⟨q1, hS3⟩ := hSt.sim.add o2 (o3, o4) o5
            have hk1 : (o1 == 0) = true := by simpa using hkind
            have HK0 := Lib.hid hkind
            clear hkind
            go_wp2_with fail
            clear c0 c1 c2 c3 c4 c5
            refine (add_any (hSt.tree.below ((Below.refl _ _).alloc (Nat.le_refl _) _)) o2 (o3, o4) o5 hoo.2.2.1 hoo.2.1 hoo.2.2.2.1 (by omega) (by simp; omega)).mono ?_
            rintro e W2 ⟨rfl, hT2, hF2⟩
            have hx2 := hF2.op (heap_new' (w := wr) rfl)
            have r1 := cell_block hx2 1
            have r2 := cell_block hx2 2
            have r3 := cell_block hx2 3
            have r4 := cell_block hx2 4
            simp at r1 r2 r3 r4
            have hb1r : Below wr.heap.size wr (wr.alloc _) := (Below.refl _ _).alloc (Nat.le_refl _) (.cells #[.int .i64 o1, .int .i64 o2, .string o3, .int .i64 o4, .int .i64 o5, .int .i64 o6] 32)
            have hR2 := (hSt.ref.below hb1r).fr hF2
            have hb2W : Below w2.heap.size w2 W2 := (hbk.alloc hbn _).trans hF2.below
            have sW2 : wr.heap.size ≤ W2.heap.size := by have := hF2.size; simp at this; omega
            have HR2 := Lib.hid hR2
            have HT2 := Lib.hid hT2
            have HF2 := Lib.hid hF2
            clear hx2 hT2 hR2 hF2
            simp only [show addM (m.1, m.2) o2 (o3, o4) o5 = addM m o2 (o3, o4) o5 from rfl]
            go_wp2_with fail
            refine (add_doc HR2.out o2 (o3, o4) o5 (by simp only; omega) (by rw [← HSAME.out]; omega) (by omega) (by omega)).mono ?_
            rintro e W3 ⟨rfl, hR3, hF3⟩
            have hT3 := HT2.out.fr hF3
            change IsTree _ W3 _ (addM m o2 (o3, o4) o5).1.1 (addM m o2 (o3, o4) o5).1.2 at hT3
            change IsRef _ W3 _ (addD r o2 (o3, o4) o5).1.1 (addD r o2 (o3, o4) o5).1.2 at hR3
            have hSt3 := hSt.move hT3 hR3 hS3 (add_length _ _ _ _) (addD_ways _ _ _ _) (add_ext _ _ _ _) (fun i o ho hp => hF3.cachesR (HF2.out.caches ((hb1r.block i (Array.getElem?_eq_some_iff.1 ho).1).trans ho) hp) hp)
            have hbW3 : Below w2.heap.size w2 W3 := hb2W.trans (hF3.below.mono (by omega))
            have hsW3 : w3.heap.size ≤ W3.heap.size := by have := hF3.size; omega
            clear hT3 hR3 hF3 HR2 HT2 HF2 r1 r2 r3 r4 q1 hS3
            generalize hCX : C = CX at *
            simp only
            by_cases h2 : ci < 2
            · have pc := hSt3.ptrs.cell (i := ci) hci
              have hcache := hSt3.cache ci h2
              rw [ptr3 _ _ _ h2] at pc
              have hh := hSt3.hits.cell (i := ci) hci
              have hm := hSt3.miss.cell (i := ci) hci
              simp only [h2, if_true] at hh hm
              generalize (if ci = 0 then w4.heap.size else w5.heap.size) = cb at pc hcache
              have HSt3 := Lib.hid hSt3
              clear hSt3 hSt
              go_wp2_with fail
              refine (asked_any hcache).mono ?_
              rintro e w' ⟨rfl, rfl⟩
              simp only
              have hh' := cell_drew hh
              have hm' := cell_drew hm
              clear hh hm pc hcache
              go_wp2_with fail
              go_roundw
              case rel => first | exact ⟨k + 1, _, _, _, _, _, by omega, by go_num, HSt3.out.below (Below.refl _ _).drew, hbW3.drew, hsW3⟩ | ((repeat apply Exists.intro); exact ⟨⟨k + 1, _, _, _, _, _, by omega, by go_num, HSt3.out.below (Below.refl _ _).drew, hbW3.drew, hsW3⟩, rfl⟩)
              case measure => simp [intOf]; omega
            · obtain rfl : ci = 2 := by omega
              have pc := hSt3.ptrs.cell (i := 2) (by omega)
              have hh := hSt3.hits.cell (i := 2) (by omega)
              have hm := hSt3.miss.cell (i := 2) (by omega)
              simp at pc hh hm
              have HSt3 := Lib.hid hSt3
              clear hSt3 hSt
              go_wp2_with fail
              refine (asked_nil _).mono ?_
              rintro e w' ⟨rfl, rfl⟩
              simp only
              go_wp2_with fail
              go_roundw
              case rel => first | exact ⟨k + 1, _, _, _, _, _, by omega, by go_num, HSt3.out, hbW3, hsW3⟩ | ((repeat apply Exists.intro); exact ⟨⟨k + 1, _, _, _, _, _, by omega, by go_num, HSt3.out, hbW3, hsW3⟩, rfl⟩)
              case measure => simp [intOf]; omega
          by_cases hkind1 : o1 = 1
          · have HU := Lib.hid hci
            obtain ⟨q1, hS3⟩ := hSt.sim.change o2 (o3, o4) o5
            have hk0 : (o1 == 0) = false := by simpa using hkind
            have hk1 : (o1 == 1) = true := by simpa using hkind1
            have HK0 := Lib.hid hkind
            have HK1 := Lib.hid hkind1
            clear hkind hkind1
            go_wp2_with fail
            clear c0 c1 c2 c3 c4 c5
            refine (change_any (hSt.tree.below ((Below.refl _ _).alloc (Nat.le_refl _) _)) o2 (o3, o4) o5 hoo.2.2.1 hoo.2.1 hoo.2.2.2.1 (by omega) (by simp; omega)).mono ?_
            rintro e W2 ⟨rfl, hT2, hF2⟩
            have hx2 := hF2.op (heap_new' (w := wr) rfl)
            have r1 := cell_block hx2 1
            have r2 := cell_block hx2 2
            have r3 := cell_block hx2 3
            have r4 := cell_block hx2 4
            simp at r1 r2 r3 r4
            have hb1r : Below wr.heap.size wr (wr.alloc _) := (Below.refl _ _).alloc (Nat.le_refl _) (.cells #[.int .i64 o1, .int .i64 o2, .string o3, .int .i64 o4, .int .i64 o5, .int .i64 o6] 32)
            have hR2 := (hSt.ref.below hb1r).fr hF2
            have hb2W : Below w2.heap.size w2 W2 := (hbk.alloc hbn _).trans hF2.below
            have sW2 : wr.heap.size ≤ W2.heap.size := by have := hF2.size; simp at this; omega
            have HR2 := Lib.hid hR2
            have HT2 := Lib.hid hT2
            have HF2 := Lib.hid hF2
            clear hx2 hT2 hR2 hF2
            simp only [show changeM (m.1, m.2) o2 (o3, o4) o5 = changeM m o2 (o3, o4) o5 from rfl]
            go_wp2_with fail
            refine (change_doc HR2.out o2 (o3, o4) o5 (by simp only; omega) (by rw [← HSAME.out]; omega) (by omega) (by omega)).mono ?_
            rintro e W3 ⟨rfl, hR3, hF3⟩
            have hT3 := HT2.out.fr hF3
            change IsTree _ W3 _ (changeM m o2 (o3, o4) o5).1.1 (changeM m o2 (o3, o4) o5).1.2 at hT3
            change IsRef _ W3 _ (changeD r o2 (o3, o4) o5).1.1 (changeD r o2 (o3, o4) o5).1.2 at hR3
            have hSt3 := hSt.move hT3 hR3 hS3 (change_length _ _ _ _) (changeD_ways _ _ _ _) (change_ext _ _ _ _) (fun i o ho hp => hF3.cachesR (HF2.out.caches ((hb1r.block i (Array.getElem?_eq_some_iff.1 ho).1).trans ho) hp) hp)
            have hbW3 : Below w2.heap.size w2 W3 := hb2W.trans (hF3.below.mono (by omega))
            have hsW3 : w3.heap.size ≤ W3.heap.size := by have := hF3.size; omega
            clear hT3 hR3 hF3 HR2 HT2 HF2 r1 r2 r3 r4 q1 hS3
            generalize hCX : C = CX at *
            simp only
            by_cases h2 : ci < 2
            · have pc := hSt3.ptrs.cell (i := ci) hci
              have hcache := hSt3.cache ci h2
              rw [ptr3 _ _ _ h2] at pc
              have hh := hSt3.hits.cell (i := ci) hci
              have hm := hSt3.miss.cell (i := ci) hci
              simp only [h2, if_true] at hh hm
              generalize (if ci = 0 then w4.heap.size else w5.heap.size) = cb at pc hcache
              have HSt3 := Lib.hid hSt3
              clear hSt3 hSt
              go_wp2_with fail
              refine (asked_any hcache).mono ?_
              rintro e w' ⟨rfl, rfl⟩
              simp only
              have hh' := cell_drew hh
              have hm' := cell_drew hm
              clear hh hm pc hcache
              go_wp2_with fail
              go_roundw
              case rel => first | exact ⟨k + 1, _, _, _, _, _, by omega, by go_num, HSt3.out.below (Below.refl _ _).drew, hbW3.drew, hsW3⟩ | ((repeat apply Exists.intro); exact ⟨⟨k + 1, _, _, _, _, _, by omega, by go_num, HSt3.out.below (Below.refl _ _).drew, hbW3.drew, hsW3⟩, rfl⟩)
              case measure => simp [intOf]; omega
            · obtain rfl : ci = 2 := by omega
              have pc := hSt3.ptrs.cell (i := 2) (by omega)
              have hh := hSt3.hits.cell (i := 2) (by omega)
              have hm := hSt3.miss.cell (i := 2) (by omega)
              simp at pc hh hm
              have HSt3 := Lib.hid hSt3
              clear hSt3 hSt
              go_wp2_with fail
              refine (asked_nil _).mono ?_
              rintro e w' ⟨rfl, rfl⟩
              simp only
              go_wp2_with fail
              go_roundw
              case rel => first | exact ⟨k + 1, _, _, _, _, _, by omega, by go_num, HSt3.out, hbW3, hsW3⟩ | ((repeat apply Exists.intro); exact ⟨⟨k + 1, _, _, _, _, _, by omega, by go_num, HSt3.out, hbW3, hsW3⟩, rfl⟩)
              case measure => simp [intOf]; omega
          by_cases hkind3 : o1 = 3
          · have HU := Lib.hid hci
            have hk0 : (o1 == 0) = false := by simpa using hkind
            have hk1 : (o1 == 1) = false := by simpa using hkind1
            have hk3 : (o1 == 3) = true := by simpa using hkind3
            have HK0 := Lib.hid hkind
            have HK1 := Lib.hid hkind1
            have HK3 := Lib.hid hkind3
            clear hkind hkind1 hkind3
            have hb1r : Below wr.heap.size wr (wr.alloc (.cells #[.int .i64 o1, .int .i64 o2, .string o3, .int .i64 o4, .int .i64 o5, .int .i64 o6] 32)) := (Below.refl _ _).alloc (Nat.le_refl _) _
            have hM := hSt.mem.below hb1r
            by_cases h2 : ci < 2
            · have pc := hM.ptrs.cell (i := ci) hci
              have hcache := hM.cache ci h2
              rw [ptr3 _ _ _ h2] at pc
              have hcbN : w2.heap.size ≤ (if ci = 0 then w4.heap.size else w5.heap.size) := by split <;> omega
              have hgr := setCell_grown (wr.alloc (.cells #[.int .i64 o1, .int .i64 o2, .string o3, .int .i64 o4, .int .i64 o5, .int .i64 o6] 32)) ⟨if ci = 0 then w4.heap.size else w5.heap.size, 1, none⟩ (.pointer none)
              have hca := hcache.set 1 (.pointer none) { C ci with tree := none } rfl
              have hM2 := hM.cachePut h2 hgr hca
              have hM3 := hM2.havePut hci false
              have vc := hM2.have_.cell (i := ci) hci
              have vf := hM2.have_.frozen ci
              have hSt3 := hSt.flushed h2 hM3
              have hbW3 := (((hbk.trans (hb1r.mono hbn)).grown hgr (by have := hb1r.size; omega) (fun j hj => by cases hj; exact hcbN))).grown (setCell_grown _ ⟨bl + 1, ci, none⟩ (.bool false)) (by simp; omega) (fun j hj => by cases hj; show w2.heap.size ≤ bl + 1; omega)
              have hsW3 : w3.heap.size ≤ ((((wr.alloc (.cells #[.int .i64 o1, .int .i64 o2, .string o3, .int .i64 o4, .int .i64 o5, .int .i64 o6] 32)).setCell ⟨if ci = 0 then w4.heap.size else w5.heap.size, 1, none⟩ (.pointer none))).setCell ⟨bl + 1, ci, none⟩ (.bool false)).heap.size := by simp; omega
              have HM := Lib.hid hM
              clear hM hM2 hM3 hca hgr
              generalize hcbe : (if ci = 0 then w4.heap.size else w5.heap.size) = cb at *
              have HSt3x := Lib.hid hSt3
              clear hSt3
              go_wp2_with fail
              refine (flush_any hcache).mono ?_
              rintro e W' ⟨rfl, rfl, _⟩
              simp only
              have hSt3 := HSt3x.out
              have pc := hSt3.ptrs.cell (i := ci) hci
              have hcache := hSt3.cache ci h2
              rw [ptr3 _ _ _ h2] at pc
              have hh := hSt3.hits.cell (i := ci) hci
              have hm := hSt3.miss.cell (i := ci) hci
              simp only [h2, if_true, hcbe] at hh hm pc hcache
              have HSt3 := Lib.hid hSt3
              clear hSt3 hSt HSt3x
              go_wp2_with fail
              refine (asked_any hcache).mono ?_
              rintro e w' ⟨rfl, rfl⟩
              simp only
              have hh' := cell_drew hh
              have hm' := cell_drew hm
              clear hh hm pc hcache
              go_wp2_with fail
              go_roundw
              case rel => first | exact ⟨k + 1, _, _, _, _, _, by omega, by go_num, HSt3.out.below (Below.refl _ _).drew, hbW3.drew, hsW3⟩ | ((repeat apply Exists.intro); exact ⟨⟨k + 1, _, _, _, _, _, by omega, by go_num, HSt3.out.below (Below.refl _ _).drew, hbW3.drew, hsW3⟩, rfl⟩)
              case measure => simp [intOf]; omega
            · obtain rfl : ci = 2 := by omega
              have pc := hM.ptrs.cell (i := 2) (by omega)
              have hM3 := hM.havePut (ci := 2) (by omega) false
              have vc := hM.have_.cell (i := 2) (by omega)
              have vf := hM.have_.frozen 2
              have hSt3 := hSt.flushed2 hM3
              have hbW3 := (hbk.trans (hb1r.mono hbn)).grown (setCell_grown _ ⟨bl + 1, 2, none⟩ (.bool false)) (by have := hb1r.size; omega) (fun j hj => by cases hj; show w2.heap.size ≤ bl + 1; omega)
              have hsW3 : w3.heap.size ≤ ((wr.alloc (.cells #[.int .i64 o1, .int .i64 o2, .string o3, .int .i64 o4, .int .i64 o5, .int .i64 o6] 32)).setCell ⟨bl + 1, 2, none⟩ (.bool false)).heap.size := by simp; omega
              have HSt3x := Lib.hid hSt3
              clear hM hM3 hSt3
              simp at pc
              go_wp2_with fail
              refine (flush_nil _).mono ?_
              rintro e W' ⟨rfl, rfl⟩
              simp only
              have hSt3 := HSt3x.out
              have pc := hSt3.ptrs.cell (i := 2) (by omega)
              have hh := hSt3.hits.cell (i := 2) (by omega)
              have hm := hSt3.miss.cell (i := 2) (by omega)
              simp at pc hh hm
              have HSt3 := Lib.hid hSt3
              clear hSt3 hSt HSt3x
              go_wp2_with fail
              refine (asked_nil _).mono ?_
              rintro e w' ⟨rfl, rfl⟩
              simp only
              go_wp2_with fail
              go_roundw
              case rel => first | exact ⟨k + 1, _, _, _, _, _, by omega, by go_num, HSt3.out, hbW3, hsW3⟩ | ((repeat apply Exists.intro); exact ⟨⟨k + 1, _, _, _, _, _, by omega, by go_num, HSt3.out, hbW3, hsW3⟩, rfl⟩)
              case measure => simp [intOf]; omega
          have hk0 : (o1 == 0) = false := by simpa using hkind
          have hk1 : (o1 == 1) = false := by simpa using hkind1
          have hk3 : (o1 == 3) = false := by simpa using hkind3
          have HK0 := Lib.hid hkind
          have HK1 := Lib.hid hkind1
          have HK3 := Lib.hid hkind3
          clear hkind hkind1 hkind3
          have hb1r : Below wr.heap.size wr (wr.alloc (.cells #[.int .i64 o1, .int .i64 o2, .string o3, .int .i64 o4, .int .i64 o5, .int .i64 o6] 32)) := (Below.refl _ _).alloc (Nat.le_refl _) _
          have hM := hSt.mem.below hb1r
          have hx1 := heap_new' (w := wr) (o := .cells #[.int .i64 o1, .int .i64 o2, .string o3, .int .i64 o4, .int .i64 o5, .int .i64 o6] 32) rfl
          have e1 : (wr.alloc (.cells #[.int .i64 o1, .int .i64 o2, .string o3, .int .i64 o4, .int .i64 o5, .int .i64 o6] 32)).cell? ⟨wr.heap.size, 1, none⟩ = some (.int .i64 o2) := cell_block hx1 1
          have e2 : (wr.alloc (.cells #[.int .i64 o1, .int .i64 o2, .string o3, .int .i64 o4, .int .i64 o5, .int .i64 o6] 32)).cell? ⟨wr.heap.size, 2, none⟩ = some (.string o3) := cell_block hx1 2
          have e3 : (wr.alloc (.cells #[.int .i64 o1, .int .i64 o2, .string o3, .int .i64 o4, .int .i64 o5, .int .i64 o6] 32)).cell? ⟨wr.heap.size, 3, none⟩ = some (.int .i64 o4) := cell_block hx1 3
          have hfind := hSt.sim.find o2 (o3, o4)
          by_cases h2 : ci < 2
          · have pc := hM.ptrs.cell (i := ci) hci
            have hcache := hM.cache ci h2
            have hlt0 := (Array.getElem?_eq_some_iff.1 (hSt.cache ci h2)).1
            rw [ptr3 _ _ _ h2] at pc
            have hcbN : w2.heap.size ≤ (if ci = 0 then w4.heap.size else w5.heap.size) := by split <;> omega
            obtain ⟨g1, g2, g3, g4, g5⟩ := hSt.right ci h2
            have hpne := hM.ptrs.ne_cells hcache (by decide)
            have hcaD : CacheAt (wr.alloc (.cells #[.int .i64 o1, .int .i64 o2, .string o3, .int .i64 o4, .int .i64 o5, .int .i64 o6] 32)).drew (if ci = 0 then w4.heap.size else w5.heap.size) (C ci) := hcache
            have HM := Lib.hid hM
            have HMD := Lib.hid (hM.below (w' := (wr.alloc (.cells #[.int .i64 o1, .int .i64 o2, .string o3, .int .i64 o4, .int .i64 o5, .int .i64 o6] 32)).drew) (Below.refl _ _).drew)
            have HSt := Lib.hid hSt
            clear hM hSt
            generalize hcbe : (if ci = 0 then w4.heap.size else w5.heap.size) = cb at *
            have HCB := Lib.hid hcbe
            clear hcbe
            go_wp2_with fail
            clear c0 c1 c2 c3 c4 c5
            refine wp_region_lin (fun w' => w'.cell? ⟨w6.heap.size, ci, none⟩ = some (.pointer (some ⟨cb, 0, none⟩)) ∧ w'.cell? ⟨wr.heap.size, 1, none⟩ = some (.int .i64 o2) ∧ w'.cell? ⟨wr.heap.size, 2, none⟩ = some (.string o3) ∧ w'.cell? ⟨wr.heap.size, 3, none⟩ = some (.int .i64 o4)) [16] (.block 0 (.block 1 (.block 2 (.block 3 (.block 4 (.block 5 (.block 6 (.block 7 (.block 8 (.scope (.seq (.label 9) (.block 10 (.block 11 (.block 12 (.block 13 (.block 14 (.block 15 (.loop (.block 16 (.skip)))))))))))))))))))) (by kernel_rfl) (by kernel_rfl) (by kernel_rfl) (by kernel_rfl) (by kernel_rfl) ⟨pc, e1, e2, e3⟩ ?_
            repeat
              (refine lin_light (A1 := ?_) rfl rfl rfl rfl rfl (fun w' hS K hK => ?_) ?_ ?_
               rotate_left
               · obtain ⟨_, _, _, _⟩ := hS; go_step; exact hK
               · rfl)
            refine lin_group ?_
            refine lin_heavy rfl rfl (fun K hK => ?_)
            go_step
            refine (cached_tree HMD.out.tree hcaD g1 o2 (o3, o4) hoo.2.2.1 (by omega) ⟨g3.1, by omega⟩ ⟨g4.1, by omega⟩).mono ?_
            rintro e W2 ⟨rfl, hg2, hC2⟩
            simp only
            have hx2 := (hg2.block wr.heap.size (by show wr.heap.size < (World.alloc _ _).heap.size; simp) (by intro e; injection e with e; omega)).trans (show (World.drew _).heap[wr.heap.size]? = _ from hx1)
            have pc2 := hg2.cell (cell_drew pc) (by intro e; injection e with e; exact hpne e)
            have f1 := hg2.cell (cell_drew e1) (by intro e; injection e with e; have : wr.heap.size = cb := e; omega)
            have f2 := hg2.cell (cell_drew e2) (by intro e; injection e with e; have : wr.heap.size = cb := e; omega)
            have f3 := hg2.cell (cell_drew e3) (by intro e; injection e with e; have : wr.heap.size = cb := e; omega)
            refine hK.out _ _ ⟨pc2, f1, f2, f3⟩ ?_
            clear hK K e1 e2 e3 pc
            repeat
              (refine lin_light (A1 := ?_) rfl rfl rfl rfl rfl (fun w' hS K hK => ?_) ?_ ?_
               rotate_left
               · obtain ⟨_, _, _, _⟩ := hS; go_step; exact hK
               · rfl)
            try refine lin_late ?_
            repeat
              (refine lin_light (A1 := ?_) rfl rfl rfl rfl rfl (fun w' hS K hK => ?_) ?_ ?_
               rotate_left
               · clear hS; go_step; exact hK
               · rfl)
            refine lin_end ?_
            go_wp2_with fail
            refine (find_doc (HMD.out.ref.by_block (w' := W2) hg2 hcaD (by show ¬ (_ = _ ∨ _ = _ ∨ _ = _ ∨ _ = _); decide)) o2 (o3, o4) (by simp only; omega)).mono ?_
            rintro e W3 ⟨rfl, hb23⟩
            rw [← hfind]
            have hM2 := HMD.out.cachePut h2 (w' := W2) (by rw [HCB.out]; exact hg2) (by rw [HCB.out]; exact hC2)
            have hM3 := hM2.below hb23
            have hx3 := (hb23.block _ (Array.getElem?_eq_some_iff.1 hx2).1).trans hx2
            have HX3 := Lib.hid hx3
            have v0 := hM3.have_.cell (i := ci) hci
            have v1 : W3.cell? ⟨bl, ci * 6 + 1, none⟩ = some (.int .i64 (L ci).2.1) := by
              have := hM3.last.cell (i := ci * 6 + 1) (by omega)
              rw [show (ci * 6 + 1) / 6 = ci from by omega, show (ci * 6 + 1) % 6 = 1 from by omega] at this
              exact this
            have v2 : W3.cell? ⟨bl, ci * 6 + 2, none⟩ = some (.string (L ci).2.2.1.1) := by
              have := hM3.last.cell (i := ci * 6 + 2) (by omega)
              rw [show (ci * 6 + 2) / 6 = ci from by omega, show (ci * 6 + 2) % 6 = 2 from by omega] at this
              exact this
            have v3 : W3.cell? ⟨bl, ci * 6 + 3, none⟩ = some (.int .i64 (L ci).2.2.1.2) := by
              have := hM3.last.cell (i := ci * 6 + 3) (by omega)
              rw [show (ci * 6 + 3) / 6 = ci from by omega, show (ci * 6 + 3) % 6 = 3 from by omega] at this
              exact this
            have w1' := (hb23.cell (World.block_lt_of_cell? _ _ f1)).trans f1
            have w2' := (hb23.cell (World.block_lt_of_cell? _ _ f2)).trans f2
            have w3' := (hb23.cell (World.block_lt_of_cell? _ _ f3)).trans f3
            have HM3 := Lib.hid hM3
            have hbD := (hbk.trans (hb1r.mono hbn)).drew
            have hbW2 : Below w2.heap.size w2 W2 := hbD.grown hg2 hbD.size (fun j hj => by cases hj; exact hcbN)
            have hbW3 : Below w2.heap.size w2 W3 := hbW2.trans (hb23.mono hbW2.size)
            have hsW3 : w3.heap.size ≤ W3.heap.size := by have h1 := hg2.size; have h3 := hb23.size; simp at h1; omega
            have gc2 : ((ci : Int) == 2) = false := by simp; omega
            have gc3 : decide ((ci : Int) = 2) = false := by simp; omega
            clear hM2 hM3 f1 f2 f3 pc2 hx2 hx3 hx1
            generalize findM m.1 o2 (o3, o4) = fr at *
            obtain ⟨x, fl, isx⟩ := fr
            simp only
            cases hH : H ci with
            | true =>
              rw [hH] at v0
              have hfacts : ∀ w', Below W3.heap.size W3 w' → w'.cell? ⟨bl + 1, ci, none⟩ = some (.bool true) ∧ w'.cell? ⟨bl, ci * 6 + 1, none⟩ = some (.int .i64 (L ci).2.1) ∧ w'.cell? ⟨bl, ci * 6 + 2, none⟩ = some (.string (L ci).2.2.1.1) ∧ w'.cell? ⟨bl, ci * 6 + 3, none⟩ = some (.int .i64 (L ci).2.2.1.2) ∧
                  w'.cell? ⟨wr.heap.size, 1, none⟩ = some (.int .i64 o2) ∧ w'.cell? ⟨wr.heap.size, 2, none⟩ = some (.string o3) ∧ w'.cell? ⟨wr.heap.size, 3, none⟩ = some (.int .i64 o4) := fun w' hb =>
                have hh : ∀ {a : Addr} {u : Value}, W3.cell? a = some u → w'.cell? a = some u := fun {a u} h => (hb.cell (World.block_lt_of_cell? _ _ h)).trans h
                ⟨hh v0, hh v1, hh v2, hh v3, hh w1', hh w2', hh w3'⟩
              have HF22 := Lib.hid hfacts
              clear hfacts
              cases hS : ((L ci).2.1 == o2) with
              | true =>
                go_wp2_with fail
                refine wp_region_lin (fun w' => Below W3.heap.size W3 w') [] (.block 0 (.block 1 (.block 2 (.block 3 (.block 4 (.block 5 (.block 6 (.block 7 (.block 8 (.block 9 (.block 10 (.block 11 (.block 12 (.block 13 (.block 14 (.block 15 (.block 16 (.block 17 (.block 18 (.block 19 (.block 20 (.block 21 (.scope (.seq (.label 22) (.block 23 (.skip)))))))))))))))))))))))))) (by kernel_rfl) (by kernel_rfl) (by kernel_rfl) (by kernel_rfl) (by kernel_rfl) (Below.refl _ _).drew ?_
                repeat first
                  | (refine lin_light (A1 := ?_) rfl rfl rfl rfl rfl (fun w' hS K hK => ?_) ?_ ?_
                     rotate_left
                     · have hF := HF22.out _ hS; obtain ⟨_, _, _, _, _, _, _⟩ := hF; go_step; exact hK
                     · rfl)
                  | (refine lin_skip rfl rfl ?_; simp only [Act.put, List.setIfInBounds_toArray, List.set_cons_zero, List.set_cons_succ])
                refine lin_group ?_
                refine lin_heavy rfl rfl (fun K hK => ?_)
                go_step
                refine (same_any (L ci).2.2.1 (o3, o4) _ g5 (by simp only; omega)).mono ?_
                rintro e W4 ⟨rfl, hb4'⟩
                simp only
                have hb34 : Below W3.heap.size W3 W4 := (Below.refl _ _).drew.trans (hb4'.mono (Nat.le_refl _))
                cases hSK : sameB (L ci).2.2.1 (o3, o4) with
                | true =>
                  refine hK.out _ _ hb34 ?_
                  clear hK K
                  repeat first
                    | (refine lin_light (A1 := ?_) rfl rfl rfl rfl rfl (fun w' hS K hK => ?_) ?_ ?_
                       rotate_left
                       · have hF := HF22.out _ hS; obtain ⟨_, _, _, _, _, _, _⟩ := hF; go_step; exact hK
                       · rfl)
                    | (refine lin_skip rfl rfl ?_; simp only [Act.put, List.setIfInBounds_toArray, List.set_cons_zero, List.set_cons_succ])
                  refine lin_end ?_
                  have hask : askC m (w2.heap.size + 3) (C ci) o2 (o3, o4) = { C ci with hits := (C ci).hits + 1 } := if_pos ((HSt.out.hit_iff h2 o2 (o3, o4)).2 ⟨hH, by simpa using hS, hSK⟩)
                  have hM4 := HM3.out.below hb34
                  have hh4 := hM4.hits.cell (i := ci) hci
                  have hf4 := hM4.hits.frozen ci
                  simp only [h2, if_true] at hh4
                  have hx4 := (hb34.block _ (Array.getElem?_eq_some_iff.1 HX3.out).1).trans HX3.out
                  have hM5 := hM4.hitPut hci ((C ci).hits + 1)
                  have hx5 : (W4.setCell ⟨bh, ci, none⟩ (.int .i64 ((C ci).hits + 1))).heap[wr.heap.size]? = _ := (Below.heap_setCell _ _ _ _ (by obtain ⟨_, p1, _⟩ := hM4.hits; exact cells_ne hx4 p1 (by decide))).trans hx4
                  have hbW4 : Below w2.heap.size w2 W4 := hbW3.trans (hb34.mono hbW3.size)
                  have hbW5 := hbW4.grown (setCell_grown W4 ⟨bh, ci, none⟩ (.int .i64 ((C ci).hits + 1))) hbW4.size (fun j hj => by cases hj; exact hgbh)
                  have hsW5 : w3.heap.size ≤ (W4.setCell ⟨bh, ci, none⟩ (.int .i64 ((C ci).hits + 1))).heap.size := by have := hb34.size; simp [World.setCell] <;> omega
                  obtain ⟨W5X, hW5X⟩ : ∃ W5X, W4.setCell ⟨bh, ci, none⟩ (.int .i64 ((C ci).hits + 1)) = W5X := ⟨_, rfl⟩
                  rw [hW5X] at hM5 hx5 hbW5 hsW5
                  have y0 : World.cell? _ ⟨wr.heap.size, 0, none⟩ = some (.int .i64 o1) := cell_block hx5 0
                  have y1 : World.cell? _ ⟨wr.heap.size, 1, none⟩ = some (.int .i64 o2) := cell_block hx5 1
                  have y2 : World.cell? _ ⟨wr.heap.size, 2, none⟩ = some (.string o3) := cell_block hx5 2
                  have y3 : World.cell? _ ⟨wr.heap.size, 3, none⟩ = some (.int .i64 o4) := cell_block hx5 3
                  have y4 : World.cell? _ ⟨wr.heap.size, 4, none⟩ = some (.int .i64 o5) := cell_block hx5 4
                  have y5 : World.cell? _ ⟨wr.heap.size, 5, none⟩ = some (.int .i64 o6) := cell_block hx5 5
                  have ht6 : World.there W5X bl (ci * 6) 6 := fun j hj => ⟨by rw [last_cell hM5.last hci hj]; rfl, hM5.last.frozen _⟩
                  have hM6 := hM5.lastPut hci (o1, o2, (o3, o4), o5, o6)
                  have hg56 := setCells_grown bl (opCells (o1, o2, (o3, o4), o5, o6)) (ci * 6) W5X
                  obtain ⟨W6, hW6⟩ : ∃ W6, World.setCells W5X bl (ci * 6) (#[.int .i64 o1, .int .i64 o2, .string o3, .int .i64 o4, .int .i64 o5, .int .i64 o6] : Array Value).toList = W6 := ⟨_, rfl⟩
                  change StM _ _ _ _ _ _ _ _ _ _ _ (World.setCells W5X bl (ci * 6) (#[.int .i64 o1, .int .i64 o2, .string o3, .int .i64 o4, .int .i64 o5, .int .i64 o6] : Array Value).toList) _ _ _ _ _ _ _ at hM6
                  change World.grownBy _ (World.setCells W5X bl (ci * 6) (#[.int .i64 o1, .int .i64 o2, .string o3, .int .i64 o4, .int .i64 o5, .int .i64 o6] : Array Value).toList) _ at hg56
                  rw [hW6] at hM6 hg56
                  have hM7 := hM6.havePut hci true
                  have u0 := hM6.have_.cell (i := ci) hci
                  have u1 := hM6.have_.frozen ci
                  have hSt3 := HSt.out.asked h2 (o1, o2, (o3, o4), o5, o6) (by simp only; omega) hM7 (by funext i; first | (rw [hask]; done) | (rw [hask]; by_cases e : i = ci <;> simp [e, h2])) (by funext i; first | (rw [hask]; done) | (rw [hask]; by_cases e : i = ci <;> simp [e, h2]))
                  have HSt3x := Lib.hid hSt3
                  have hbW6 : Below w2.heap.size w2 W6 := hbW5.grown hg56 hbW5.size (fun j hj => by cases hj; exact hgbl)
                  have hbW7 : Below w2.heap.size w2 (W6.setCell ⟨bl + 1, ci, none⟩ (.bool true)) := hbW6.grown (setCell_grown _ ⟨bl + 1, ci, none⟩ (.bool true)) hbW6.size (fun j hj => by cases hj; show w2.heap.size ≤ bl + 1; omega)
                  have hsW7 : w3.heap.size ≤ (W6.setCell ⟨bl + 1, ci, none⟩ (.bool true)).heap.size := by have := hg56.size; simp [World.setCell] <;> omega
                  have pc7 := hSt3.ptrs.cell (i := ci) hci
                  rw [ptr3 _ _ _ h2, HCB.out] at pc7
                  have hc7 := hSt3.cache ci h2
                  rw [HCB.out] at hc7
                  have hh7 := hSt3.hits.cell (i := ci) hci
                  have hm7 := hSt3.miss.cell (i := ci) hci
                  simp only [h2, if_true] at hh7 hm7 hc7
                  generalize hcN : askC _ _ _ _ _ = cN at hh7 hm7 hc7
                  have hi6 : (Try.prog.info? 32).map (·.size) = some 6 := by kernel_rfl
                  have h1c : (#[.int .i64 o1, .int .i64 o2, .string o3, .int .i64 o4, .int .i64 o5, .int .i64 o6] : Array Value).all (·.oneCell') = true := all_oneCell_toArray (cs := [.int .i64 o1, .int .i64 o2, .string o3, .int .i64 o4, .int .i64 o5, .int .i64 o6]) (by simp [Value.oneCell'])
                  have HX := Lib.hid hx5
                  clear hM4 hM5 hM6 hM7 hx4 hx5 hSt3
                  go_wp2_with (refine wpList_store_mid rfl _ _ _ rfl bl (ci * 6) #[.int .i64 o1, .int .i64 o2, .string o3, .int .i64 o4, .int .i64 o5, .int .i64 o6] rfl rfl ht6 hi6 h1c ?_; rw [hW6])
                  refine (asked_any hc7).mono ?_
                  rintro e w' ⟨rfl, rfl⟩
                  simp only
                  have hh8 := cell_drew hh7
                  have hm8 := cell_drew hm7
                  clear hh7 hm7 pc7 hc7
                  go_wp2_with fail
                  go_roundw
                  case rel => first | exact ⟨k + 1, _, _, _, _, _, by omega, by go_num, HSt3x.out.below (Below.refl _ _).drew, hbW7.drew, hsW7⟩ | ((repeat apply Exists.intro); exact ⟨⟨k + 1, _, _, _, _, _, by omega, by go_num, HSt3x.out.below (Below.refl _ _).drew, hbW7.drew, hsW7⟩, rfl⟩)
                  case measure => simp [intOf]; omega
                | false =>
                  refine hK.out _ _ hb34 ?_
                  clear hK K
                  repeat first
                    | (refine lin_light (A1 := ?_) rfl rfl rfl rfl rfl (fun w' hS K hK => ?_) ?_ ?_
                       rotate_left
                       · have hF := HF22.out _ hS; obtain ⟨_, _, _, _, _, _, _⟩ := hF; go_step; exact hK
                       · rfl)
                    | (refine lin_skip rfl rfl ?_; simp only [Act.put, List.setIfInBounds_toArray, List.set_cons_zero, List.set_cons_succ])
                  refine lin_end ?_
                  have HNO := Lib.hid (show ¬ (H ci = true ∧ (L ci).2.1 = o2 ∧ sameB (L ci).2.2.1 (o3, o4) = true) from fun h => by rw [hSK] at h; exact absurd h.2.2 (by simp))
                  have hask : askC m (w2.heap.size + 3) (C ci) o2 (o3, o4) = ⟨some (w2.heap.size + 3), o2, plainK (o3, o4), (findM m.1 o2 (o3, o4)).1, (findM m.1 o2 (o3, o4)).2.1, (findM m.1 o2 (o3, o4)).2.2, (C ci).hits, (C ci).miss + 1⟩ := if_neg (fun hc => HNO.out ((HSt.out.hit_iff h2 o2 (o3, o4)).1 hc))
                  have hM4 := HM3.out.below hb34
                  have hh4 := hM4.miss.cell (i := ci) hci
                  have hf4 := hM4.miss.frozen ci
                  simp only [h2, if_true] at hh4
                  have hx4 := (hb34.block _ (Array.getElem?_eq_some_iff.1 HX3.out).1).trans HX3.out
                  have hM5 := hM4.missPut hci ((C ci).miss + 1)
                  have hx5 : (W4.setCell ⟨bm, ci, none⟩ (.int .i64 ((C ci).miss + 1))).heap[wr.heap.size]? = _ := (Below.heap_setCell _ _ _ _ (by obtain ⟨_, p1, _⟩ := hM4.miss; exact cells_ne hx4 p1 (by decide))).trans hx4
                  have hbW4 : Below w2.heap.size w2 W4 := hbW3.trans (hb34.mono hbW3.size)
                  have hbW5 := hbW4.grown (setCell_grown W4 ⟨bm, ci, none⟩ (.int .i64 ((C ci).miss + 1))) hbW4.size (fun j hj => by cases hj; exact hgbm)
                  have hsW5 : w3.heap.size ≤ (W4.setCell ⟨bm, ci, none⟩ (.int .i64 ((C ci).miss + 1))).heap.size := by have := hb34.size; simp [World.setCell] <;> omega
                  obtain ⟨W5X, hW5X⟩ : ∃ W5X, W4.setCell ⟨bm, ci, none⟩ (.int .i64 ((C ci).miss + 1)) = W5X := ⟨_, rfl⟩
                  rw [hW5X] at hM5 hx5 hbW5 hsW5
                  have y0 : World.cell? _ ⟨wr.heap.size, 0, none⟩ = some (.int .i64 o1) := cell_block hx5 0
                  have y1 : World.cell? _ ⟨wr.heap.size, 1, none⟩ = some (.int .i64 o2) := cell_block hx5 1
                  have y2 : World.cell? _ ⟨wr.heap.size, 2, none⟩ = some (.string o3) := cell_block hx5 2
                  have y3 : World.cell? _ ⟨wr.heap.size, 3, none⟩ = some (.int .i64 o4) := cell_block hx5 3
                  have y4 : World.cell? _ ⟨wr.heap.size, 4, none⟩ = some (.int .i64 o5) := cell_block hx5 4
                  have y5 : World.cell? _ ⟨wr.heap.size, 5, none⟩ = some (.int .i64 o6) := cell_block hx5 5
                  have ht6 : World.there W5X bl (ci * 6) 6 := fun j hj => ⟨by rw [last_cell hM5.last hci hj]; rfl, hM5.last.frozen _⟩
                  have hM6 := hM5.lastPut hci (o1, o2, (o3, o4), o5, o6)
                  have hg56 := setCells_grown bl (opCells (o1, o2, (o3, o4), o5, o6)) (ci * 6) W5X
                  obtain ⟨W6, hW6⟩ : ∃ W6, World.setCells W5X bl (ci * 6) (#[.int .i64 o1, .int .i64 o2, .string o3, .int .i64 o4, .int .i64 o5, .int .i64 o6] : Array Value).toList = W6 := ⟨_, rfl⟩
                  change StM _ _ _ _ _ _ _ _ _ _ _ (World.setCells W5X bl (ci * 6) (#[.int .i64 o1, .int .i64 o2, .string o3, .int .i64 o4, .int .i64 o5, .int .i64 o6] : Array Value).toList) _ _ _ _ _ _ _ at hM6
                  change World.grownBy _ (World.setCells W5X bl (ci * 6) (#[.int .i64 o1, .int .i64 o2, .string o3, .int .i64 o4, .int .i64 o5, .int .i64 o6] : Array Value).toList) _ at hg56
                  rw [hW6] at hM6 hg56
                  have hM7 := hM6.havePut hci true
                  have u0 := hM6.have_.cell (i := ci) hci
                  have u1 := hM6.have_.frozen ci
                  have hSt3 := HSt.out.asked h2 (o1, o2, (o3, o4), o5, o6) (by simp only; omega) hM7 (by funext i; first | (rw [hask]; done) | (rw [hask]; by_cases e : i = ci <;> simp [e, h2])) (by funext i; first | (rw [hask]; done) | (rw [hask]; by_cases e : i = ci <;> simp [e, h2]))
                  have HSt3x := Lib.hid hSt3
                  have hbW6 : Below w2.heap.size w2 W6 := hbW5.grown hg56 hbW5.size (fun j hj => by cases hj; exact hgbl)
                  have hbW7 : Below w2.heap.size w2 (W6.setCell ⟨bl + 1, ci, none⟩ (.bool true)) := hbW6.grown (setCell_grown _ ⟨bl + 1, ci, none⟩ (.bool true)) hbW6.size (fun j hj => by cases hj; show w2.heap.size ≤ bl + 1; omega)
                  have hsW7 : w3.heap.size ≤ (W6.setCell ⟨bl + 1, ci, none⟩ (.bool true)).heap.size := by have := hg56.size; simp [World.setCell] <;> omega
                  have pc7 := hSt3.ptrs.cell (i := ci) hci
                  rw [ptr3 _ _ _ h2, HCB.out] at pc7
                  have hc7 := hSt3.cache ci h2
                  rw [HCB.out] at hc7
                  have hh7 := hSt3.hits.cell (i := ci) hci
                  have hm7 := hSt3.miss.cell (i := ci) hci
                  simp only [h2, if_true] at hh7 hm7 hc7
                  generalize hcN : askC _ _ _ _ _ = cN at hh7 hm7 hc7
                  have hi6 : (Try.prog.info? 32).map (·.size) = some 6 := by kernel_rfl
                  have h1c : (#[.int .i64 o1, .int .i64 o2, .string o3, .int .i64 o4, .int .i64 o5, .int .i64 o6] : Array Value).all (·.oneCell') = true := all_oneCell_toArray (cs := [.int .i64 o1, .int .i64 o2, .string o3, .int .i64 o4, .int .i64 o5, .int .i64 o6]) (by simp [Value.oneCell'])
                  have HX := Lib.hid hx5
                  clear hM4 hM5 hM6 hM7 hx4 hx5 hSt3
                  go_wp2_with (refine wpList_store_mid rfl _ _ _ rfl bl (ci * 6) #[.int .i64 o1, .int .i64 o2, .string o3, .int .i64 o4, .int .i64 o5, .int .i64 o6] rfl rfl ht6 hi6 h1c ?_; rw [hW6])
                  refine (asked_any hc7).mono ?_
                  rintro e w' ⟨rfl, rfl⟩
                  simp only
                  have hh8 := cell_drew hh7
                  have hm8 := cell_drew hm7
                  clear hh7 hm7 pc7 hc7
                  go_wp2_with fail
                  go_roundw
                  case rel => first | exact ⟨k + 1, _, _, _, _, _, by omega, by go_num, HSt3x.out.below (Below.refl _ _).drew, hbW7.drew, hsW7⟩ | ((repeat apply Exists.intro); exact ⟨⟨k + 1, _, _, _, _, _, by omega, by go_num, HSt3x.out.below (Below.refl _ _).drew, hbW7.drew, hsW7⟩, rfl⟩)
                  case measure => simp [intOf]; omega
              | false =>
                go_wp2_with fail
                refine wp_region_lin (fun w' => Below W3.heap.size W3 w') [] (.block 0 (.block 1 (.block 2 (.block 3 (.block 4 (.block 5 (.block 6 (.block 7 (.block 8 (.block 9 (.block 10 (.block 11 (.block 12 (.block 13 (.block 14 (.block 15 (.block 16 (.block 17 (.block 18 (.block 19 (.block 20 (.block 21 (.scope (.seq (.label 22) (.block 23 (.skip)))))))))))))))))))))))))) (by kernel_rfl) (by kernel_rfl) (by kernel_rfl) (by kernel_rfl) (by kernel_rfl) (Below.refl _ _).drew ?_
                repeat first
                  | (refine lin_light (A1 := ?_) rfl rfl rfl rfl rfl (fun w' hS K hK => ?_) ?_ ?_
                     rotate_left
                     · have hF := HF22.out _ hS; obtain ⟨_, _, _, _, _, _, _⟩ := hF; go_step; exact hK
                     · rfl)
                  | (refine lin_skip rfl rfl ?_; simp only [Act.put, List.setIfInBounds_toArray, List.set_cons_zero, List.set_cons_succ])
                refine lin_group ?_
                refine lin_skip_heavy rfl rfl (Below.refl _ _).drew ?_
                simp only [Act.put, List.setIfInBounds_toArray, List.set_cons_zero, List.set_cons_succ]
                repeat first
                  | (refine lin_light (A1 := ?_) rfl rfl rfl rfl rfl (fun w' hS K hK => ?_) ?_ ?_
                     rotate_left
                     · have hF := HF22.out _ hS; obtain ⟨_, _, _, _, _, _, _⟩ := hF; go_step; exact hK
                     · rfl)
                  | (refine lin_skip rfl rfl ?_; simp only [Act.put, List.setIfInBounds_toArray, List.set_cons_zero, List.set_cons_succ])
                refine lin_end ?_
                have hb34 : Below W3.heap.size W3 W3.drew := (Below.refl _ _).drew
                generalize W3.drew = W4 at hb34 ⊢
                have HNO := Lib.hid (show ¬ (H ci = true ∧ (L ci).2.1 = o2 ∧ sameB (L ci).2.2.1 (o3, o4) = true) from fun h => by simp [h.2.1] at hS)
                have hask : askC m (w2.heap.size + 3) (C ci) o2 (o3, o4) = ⟨some (w2.heap.size + 3), o2, plainK (o3, o4), (findM m.1 o2 (o3, o4)).1, (findM m.1 o2 (o3, o4)).2.1, (findM m.1 o2 (o3, o4)).2.2, (C ci).hits, (C ci).miss + 1⟩ := if_neg (fun hc => HNO.out ((HSt.out.hit_iff h2 o2 (o3, o4)).1 hc))
                have hM4 := HM3.out.below hb34
                have hh4 := hM4.miss.cell (i := ci) hci
                have hf4 := hM4.miss.frozen ci
                simp only [h2, if_true] at hh4
                have hx4 := (hb34.block _ (Array.getElem?_eq_some_iff.1 HX3.out).1).trans HX3.out
                have hM5 := hM4.missPut hci ((C ci).miss + 1)
                have hx5 : (W4.setCell ⟨bm, ci, none⟩ (.int .i64 ((C ci).miss + 1))).heap[wr.heap.size]? = _ := (Below.heap_setCell _ _ _ _ (by obtain ⟨_, p1, _⟩ := hM4.miss; exact cells_ne hx4 p1 (by decide))).trans hx4
                have hbW4 : Below w2.heap.size w2 W4 := hbW3.trans (hb34.mono hbW3.size)
                have hbW5 := hbW4.grown (setCell_grown W4 ⟨bm, ci, none⟩ (.int .i64 ((C ci).miss + 1))) hbW4.size (fun j hj => by cases hj; exact hgbm)
                have hsW5 : w3.heap.size ≤ (W4.setCell ⟨bm, ci, none⟩ (.int .i64 ((C ci).miss + 1))).heap.size := by have := hb34.size; simp [World.setCell] <;> omega
                obtain ⟨W5X, hW5X⟩ : ∃ W5X, W4.setCell ⟨bm, ci, none⟩ (.int .i64 ((C ci).miss + 1)) = W5X := ⟨_, rfl⟩
                rw [hW5X] at hM5 hx5 hbW5 hsW5
                have y0 : World.cell? _ ⟨wr.heap.size, 0, none⟩ = some (.int .i64 o1) := cell_block hx5 0
                have y1 : World.cell? _ ⟨wr.heap.size, 1, none⟩ = some (.int .i64 o2) := cell_block hx5 1
                have y2 : World.cell? _ ⟨wr.heap.size, 2, none⟩ = some (.string o3) := cell_block hx5 2
                have y3 : World.cell? _ ⟨wr.heap.size, 3, none⟩ = some (.int .i64 o4) := cell_block hx5 3
                have y4 : World.cell? _ ⟨wr.heap.size, 4, none⟩ = some (.int .i64 o5) := cell_block hx5 4
                have y5 : World.cell? _ ⟨wr.heap.size, 5, none⟩ = some (.int .i64 o6) := cell_block hx5 5
                have ht6 : World.there W5X bl (ci * 6) 6 := fun j hj => ⟨by rw [last_cell hM5.last hci hj]; rfl, hM5.last.frozen _⟩
                have hM6 := hM5.lastPut hci (o1, o2, (o3, o4), o5, o6)
                have hg56 := setCells_grown bl (opCells (o1, o2, (o3, o4), o5, o6)) (ci * 6) W5X
                obtain ⟨W6, hW6⟩ : ∃ W6, World.setCells W5X bl (ci * 6) (#[.int .i64 o1, .int .i64 o2, .string o3, .int .i64 o4, .int .i64 o5, .int .i64 o6] : Array Value).toList = W6 := ⟨_, rfl⟩
                change StM _ _ _ _ _ _ _ _ _ _ _ (World.setCells W5X bl (ci * 6) (#[.int .i64 o1, .int .i64 o2, .string o3, .int .i64 o4, .int .i64 o5, .int .i64 o6] : Array Value).toList) _ _ _ _ _ _ _ at hM6
                change World.grownBy _ (World.setCells W5X bl (ci * 6) (#[.int .i64 o1, .int .i64 o2, .string o3, .int .i64 o4, .int .i64 o5, .int .i64 o6] : Array Value).toList) _ at hg56
                rw [hW6] at hM6 hg56
                have hM7 := hM6.havePut hci true
                have u0 := hM6.have_.cell (i := ci) hci
                have u1 := hM6.have_.frozen ci
                have hSt3 := HSt.out.asked h2 (o1, o2, (o3, o4), o5, o6) (by simp only; omega) hM7 (by funext i; first | (rw [hask]; done) | (rw [hask]; by_cases e : i = ci <;> simp [e, h2])) (by funext i; first | (rw [hask]; done) | (rw [hask]; by_cases e : i = ci <;> simp [e, h2]))
                have HSt3x := Lib.hid hSt3
                have hbW6 : Below w2.heap.size w2 W6 := hbW5.grown hg56 hbW5.size (fun j hj => by cases hj; exact hgbl)
                have hbW7 : Below w2.heap.size w2 (W6.setCell ⟨bl + 1, ci, none⟩ (.bool true)) := hbW6.grown (setCell_grown _ ⟨bl + 1, ci, none⟩ (.bool true)) hbW6.size (fun j hj => by cases hj; show w2.heap.size ≤ bl + 1; omega)
                have hsW7 : w3.heap.size ≤ (W6.setCell ⟨bl + 1, ci, none⟩ (.bool true)).heap.size := by have := hg56.size; simp [World.setCell] <;> omega
                have pc7 := hSt3.ptrs.cell (i := ci) hci
                rw [ptr3 _ _ _ h2, HCB.out] at pc7
                have hc7 := hSt3.cache ci h2
                rw [HCB.out] at hc7
                have hh7 := hSt3.hits.cell (i := ci) hci
                have hm7 := hSt3.miss.cell (i := ci) hci
                simp only [h2, if_true] at hh7 hm7 hc7
                generalize hcN : askC _ _ _ _ _ = cN at hh7 hm7 hc7
                have hi6 : (Try.prog.info? 32).map (·.size) = some 6 := by kernel_rfl
                have h1c : (#[.int .i64 o1, .int .i64 o2, .string o3, .int .i64 o4, .int .i64 o5, .int .i64 o6] : Array Value).all (·.oneCell') = true := all_oneCell_toArray (cs := [.int .i64 o1, .int .i64 o2, .string o3, .int .i64 o4, .int .i64 o5, .int .i64 o6]) (by simp [Value.oneCell'])
                have HX := Lib.hid hx5
                clear hM4 hM5 hM6 hM7 hx4 hx5 hSt3
                go_wp2_with (refine wpList_store_mid rfl _ _ _ rfl bl (ci * 6) #[.int .i64 o1, .int .i64 o2, .string o3, .int .i64 o4, .int .i64 o5, .int .i64 o6] rfl rfl ht6 hi6 h1c ?_; rw [hW6])
                refine (asked_any hc7).mono ?_
                rintro e w' ⟨rfl, rfl⟩
                simp only
                have hh8 := cell_drew hh7
                have hm8 := cell_drew hm7
                clear hh7 hm7 pc7 hc7
                go_wp2_with fail
                go_roundw
                case rel => first | exact ⟨k + 1, _, _, _, _, _, by omega, by go_num, HSt3x.out.below (Below.refl _ _).drew, hbW7.drew, hsW7⟩ | ((repeat apply Exists.intro); exact ⟨⟨k + 1, _, _, _, _, _, by omega, by go_num, HSt3x.out.below (Below.refl _ _).drew, hbW7.drew, hsW7⟩, rfl⟩)
                case measure => simp [intOf]; omega
            | false =>
              rw [hH] at v0
              have hfacts : ∀ w', Below W3.heap.size W3 w' → w'.cell? ⟨bl + 1, ci, none⟩ = some (.bool false) := fun w' hb => (hb.cell (World.block_lt_of_cell? _ _ v0)).trans v0
              have HF22 := Lib.hid hfacts
              clear hfacts
              go_wp2_with fail
              refine wp_region_lin (fun w' => Below W3.heap.size W3 w') [] (.block 0 (.block 1 (.block 2 (.block 3 (.block 4 (.block 5 (.block 6 (.block 7 (.block 8 (.block 9 (.block 10 (.block 11 (.block 12 (.block 13 (.block 14 (.block 15 (.block 16 (.block 17 (.block 18 (.block 19 (.block 20 (.block 21 (.scope (.seq (.label 22) (.block 23 (.skip)))))))))))))))))))))))))) (by kernel_rfl) (by kernel_rfl) (by kernel_rfl) (by kernel_rfl) (by kernel_rfl) (Below.refl _ _).drew ?_
              repeat first
                | (refine lin_light (A1 := ?_) rfl rfl rfl rfl rfl (fun w' hS K hK => ?_) ?_ ?_
                   rotate_left
                   · have hF := HF22.out _ hS; go_step; exact hK
                   · rfl)
                | (refine lin_skip rfl rfl ?_; simp only [Act.put, List.setIfInBounds_toArray, List.set_cons_zero, List.set_cons_succ])
              refine lin_group ?_
              refine lin_skip_heavy rfl rfl (Below.refl _ _).drew ?_
              simp only [Act.put, List.setIfInBounds_toArray, List.set_cons_zero, List.set_cons_succ]
              repeat first
                | (refine lin_light (A1 := ?_) rfl rfl rfl rfl rfl (fun w' hS K hK => ?_) ?_ ?_
                   rotate_left
                   · have hF := HF22.out _ hS; go_step; exact hK
                   · rfl)
                | (refine lin_skip rfl rfl ?_; simp only [Act.put, List.setIfInBounds_toArray, List.set_cons_zero, List.set_cons_succ])
              refine lin_end ?_
              have hb34 : Below W3.heap.size W3 W3.drew := (Below.refl _ _).drew
              generalize W3.drew = W4 at hb34 ⊢
              have HNO := Lib.hid (show ¬ (H ci = true ∧ (L ci).2.1 = o2 ∧ sameB (L ci).2.2.1 (o3, o4) = true) from fun h => by rw [hH] at h; exact absurd h.1 (by simp))
              have hask : askC m (w2.heap.size + 3) (C ci) o2 (o3, o4) = ⟨some (w2.heap.size + 3), o2, plainK (o3, o4), (findM m.1 o2 (o3, o4)).1, (findM m.1 o2 (o3, o4)).2.1, (findM m.1 o2 (o3, o4)).2.2, (C ci).hits, (C ci).miss + 1⟩ := if_neg (fun hc => HNO.out ((HSt.out.hit_iff h2 o2 (o3, o4)).1 hc))
              have hM4 := HM3.out.below hb34
              have hh4 := hM4.miss.cell (i := ci) hci
              have hf4 := hM4.miss.frozen ci
              simp only [h2, if_true] at hh4
              have hx4 := (hb34.block _ (Array.getElem?_eq_some_iff.1 HX3.out).1).trans HX3.out
              have hM5 := hM4.missPut hci ((C ci).miss + 1)
              have hx5 : (W4.setCell ⟨bm, ci, none⟩ (.int .i64 ((C ci).miss + 1))).heap[wr.heap.size]? = _ := (Below.heap_setCell _ _ _ _ (by obtain ⟨_, p1, _⟩ := hM4.miss; exact cells_ne hx4 p1 (by decide))).trans hx4
              have hbW4 : Below w2.heap.size w2 W4 := hbW3.trans (hb34.mono hbW3.size)
              have hbW5 := hbW4.grown (setCell_grown W4 ⟨bm, ci, none⟩ (.int .i64 ((C ci).miss + 1))) hbW4.size (fun j hj => by cases hj; exact hgbm)
              have hsW5 : w3.heap.size ≤ (W4.setCell ⟨bm, ci, none⟩ (.int .i64 ((C ci).miss + 1))).heap.size := by have := hb34.size; simp [World.setCell] <;> omega
              obtain ⟨W5X, hW5X⟩ : ∃ W5X, W4.setCell ⟨bm, ci, none⟩ (.int .i64 ((C ci).miss + 1)) = W5X := ⟨_, rfl⟩
              rw [hW5X] at hM5 hx5 hbW5 hsW5
              have y0 : World.cell? _ ⟨wr.heap.size, 0, none⟩ = some (.int .i64 o1) := cell_block hx5 0
              have y1 : World.cell? _ ⟨wr.heap.size, 1, none⟩ = some (.int .i64 o2) := cell_block hx5 1
              have y2 : World.cell? _ ⟨wr.heap.size, 2, none⟩ = some (.string o3) := cell_block hx5 2
              have y3 : World.cell? _ ⟨wr.heap.size, 3, none⟩ = some (.int .i64 o4) := cell_block hx5 3
              have y4 : World.cell? _ ⟨wr.heap.size, 4, none⟩ = some (.int .i64 o5) := cell_block hx5 4
              have y5 : World.cell? _ ⟨wr.heap.size, 5, none⟩ = some (.int .i64 o6) := cell_block hx5 5
              have ht6 : World.there W5X bl (ci * 6) 6 := fun j hj => ⟨by rw [last_cell hM5.last hci hj]; rfl, hM5.last.frozen _⟩
              have hM6 := hM5.lastPut hci (o1, o2, (o3, o4), o5, o6)
              have hg56 := setCells_grown bl (opCells (o1, o2, (o3, o4), o5, o6)) (ci * 6) W5X
              obtain ⟨W6, hW6⟩ : ∃ W6, World.setCells W5X bl (ci * 6) (#[.int .i64 o1, .int .i64 o2, .string o3, .int .i64 o4, .int .i64 o5, .int .i64 o6] : Array Value).toList = W6 := ⟨_, rfl⟩
              change StM _ _ _ _ _ _ _ _ _ _ _ (World.setCells W5X bl (ci * 6) (#[.int .i64 o1, .int .i64 o2, .string o3, .int .i64 o4, .int .i64 o5, .int .i64 o6] : Array Value).toList) _ _ _ _ _ _ _ at hM6
              change World.grownBy _ (World.setCells W5X bl (ci * 6) (#[.int .i64 o1, .int .i64 o2, .string o3, .int .i64 o4, .int .i64 o5, .int .i64 o6] : Array Value).toList) _ at hg56
              rw [hW6] at hM6 hg56
              have hM7 := hM6.havePut hci true
              have u0 := hM6.have_.cell (i := ci) hci
              have u1 := hM6.have_.frozen ci
              have hSt3 := HSt.out.asked h2 (o1, o2, (o3, o4), o5, o6) (by simp only; omega) hM7 (by funext i; first | (rw [hask]; done) | (rw [hask]; by_cases e : i = ci <;> simp [e, h2])) (by funext i; first | (rw [hask]; done) | (rw [hask]; by_cases e : i = ci <;> simp [e, h2]))
              have HSt3x := Lib.hid hSt3
              have hbW6 : Below w2.heap.size w2 W6 := hbW5.grown hg56 hbW5.size (fun j hj => by cases hj; exact hgbl)
              have hbW7 : Below w2.heap.size w2 (W6.setCell ⟨bl + 1, ci, none⟩ (.bool true)) := hbW6.grown (setCell_grown _ ⟨bl + 1, ci, none⟩ (.bool true)) hbW6.size (fun j hj => by cases hj; show w2.heap.size ≤ bl + 1; omega)
              have hsW7 : w3.heap.size ≤ (W6.setCell ⟨bl + 1, ci, none⟩ (.bool true)).heap.size := by have := hg56.size; simp [World.setCell] <;> omega
              have pc7 := hSt3.ptrs.cell (i := ci) hci
              rw [ptr3 _ _ _ h2, HCB.out] at pc7
              have hc7 := hSt3.cache ci h2
              rw [HCB.out] at hc7
              have hh7 := hSt3.hits.cell (i := ci) hci
              have hm7 := hSt3.miss.cell (i := ci) hci
              simp only [h2, if_true] at hh7 hm7 hc7
              generalize hcN : askC _ _ _ _ _ = cN at hh7 hm7 hc7
              have hi6 : (Try.prog.info? 32).map (·.size) = some 6 := by kernel_rfl
              have h1c : (#[.int .i64 o1, .int .i64 o2, .string o3, .int .i64 o4, .int .i64 o5, .int .i64 o6] : Array Value).all (·.oneCell') = true := all_oneCell_toArray (cs := [.int .i64 o1, .int .i64 o2, .string o3, .int .i64 o4, .int .i64 o5, .int .i64 o6]) (by simp [Value.oneCell'])
              have HX := Lib.hid hx5
              clear hM4 hM5 hM6 hM7 hx4 hx5 hSt3
              go_wp2_with (refine wpList_store_mid rfl _ _ _ rfl bl (ci * 6) #[.int .i64 o1, .int .i64 o2, .string o3, .int .i64 o4, .int .i64 o5, .int .i64 o6] rfl rfl ht6 hi6 h1c ?_; rw [hW6])
              refine (asked_any hc7).mono ?_
              rintro e w' ⟨rfl, rfl⟩
              simp only
              have hh8 := cell_drew hh7
              have hm8 := cell_drew hm7
              clear hh7 hm7 pc7 hc7
              go_wp2_with fail
              go_roundw
              case rel => first | exact ⟨k + 1, _, _, _, _, _, by omega, by go_num, HSt3x.out.below (Below.refl _ _).drew, hbW7.drew, hsW7⟩ | ((repeat apply Exists.intro); exact ⟨⟨k + 1, _, _, _, _, _, by omega, by go_num, HSt3x.out.below (Below.refl _ _).drew, hbW7.drew, hsW7⟩, rfl⟩)
              case measure => simp [intOf]; omega
          · obtain rfl : ci = 2 := by omega
            have pc := hM.ptrs.cell (i := 2) (by omega)
            simp at pc
            have HM := Lib.hid hM
            have HMD := Lib.hid (hM.below (w' := (wr.alloc (.cells #[.int .i64 o1, .int .i64 o2, .string o3, .int .i64 o4, .int .i64 o5, .int .i64 o6] 32)).drew) (Below.refl _ _).drew)
            have HSt := Lib.hid hSt
            clear hM hSt
            go_wp2_with fail
            clear c0 c1 c2 c3 c4 c5
            refine wp_region_lin (fun w' => w'.cell? ⟨w6.heap.size, 2, none⟩ = some (.pointer none) ∧ w'.cell? ⟨wr.heap.size, 1, none⟩ = some (.int .i64 o2) ∧ w'.cell? ⟨wr.heap.size, 2, none⟩ = some (.string o3) ∧ w'.cell? ⟨wr.heap.size, 3, none⟩ = some (.int .i64 o4)) [16] (.block 0 (.block 1 (.block 2 (.block 3 (.block 4 (.block 5 (.block 6 (.block 7 (.block 8 (.scope (.seq (.label 9) (.block 10 (.block 11 (.block 12 (.block 13 (.block 14 (.block 15 (.loop (.block 16 (.skip)))))))))))))))))))) (by kernel_rfl) (by kernel_rfl) (by kernel_rfl) (by kernel_rfl) (by kernel_rfl) ⟨pc, e1, e2, e3⟩ ?_
            repeat
              (refine lin_light (A1 := ?_) rfl rfl rfl rfl rfl (fun w' hS K hK => ?_) ?_ ?_
               rotate_left
               · obtain ⟨_, _, _, _⟩ := hS; go_step; exact hK
               · rfl)
            refine lin_group ?_
            refine lin_heavy rfl rfl (fun K hK => ?_)
            go_step
            refine (cached_nocache HMD.out.tree o2 (o3, o4) hoo.2.2.1 (by omega)).mono ?_
            rintro e W2 ⟨rfl, hb2'⟩
            simp only
            have pc2 := (hb2'.cell (World.block_lt_of_cell? _ _ pc)).trans pc
            have f1 := (hb2'.cell (World.block_lt_of_cell? _ _ e1)).trans e1
            have f2 := (hb2'.cell (World.block_lt_of_cell? _ _ e2)).trans e2
            have f3 := (hb2'.cell (World.block_lt_of_cell? _ _ e3)).trans e3
            refine hK.out _ _ ⟨pc2, f1, f2, f3⟩ ?_
            clear hK K e1 e2 e3 pc
            repeat
              (refine lin_light (A1 := ?_) rfl rfl rfl rfl rfl (fun w' hS K hK => ?_) ?_ ?_
               rotate_left
               · obtain ⟨_, _, _, _⟩ := hS; go_step; exact hK
               · rfl)
            try refine lin_late ?_
            repeat
              (refine lin_light (A1 := ?_) rfl rfl rfl rfl rfl (fun w' hS K hK => ?_) ?_ ?_
               rotate_left
               · clear hS; go_step; exact hK
               · rfl)
            refine lin_end ?_
            have f1 : W2.cell? _ = _ := f1
            have f2 : W2.cell? _ = _ := f2
            have f3 : W2.cell? _ = _ := f3
            go_wp2_with fail
            refine (find_doc (HMD.out.below hb2').ref o2 (o3, o4) (by simp only; omega)).mono ?_
            rintro e W3 ⟨rfl, hb23⟩
            rw [← hfind]
            have hbD := (hbk.trans (hb1r.mono hbn)).drew
            have hbW2 : Below w2.heap.size w2 W2 := hbD.trans (hb2'.mono hbD.size)
            have hbW3 : Below w2.heap.size w2 W3 := hbW2.trans (hb23.mono hbW2.size)
            have hsW3 : w3.heap.size ≤ W3.heap.size := by have h1 := hb2'.size; have h3 := hb23.size; simp at h1; omega
            have hSt3 := (((HSt.out.below hb1r).below (Below.refl _ _).drew).below hb2' |>.below hb23).next
            have pc3 := hSt3.ptrs.cell (i := 2) (by omega)
            have hh := hSt3.hits.cell (i := 2) (by omega)
            have hm := hSt3.miss.cell (i := 2) (by omega)
            simp at pc3 hh hm
            have HSt3 := Lib.hid hSt3
            clear hSt3 f1 f2 f3 pc2
            generalize findM m.1 o2 (o3, o4) = fr at *
            obtain ⟨x, fl, isx⟩ := fr
            simp only
            go_wp2_with fail
            refine (asked_nil _).mono ?_
            rintro e w' ⟨rfl, rfl⟩
            simp only
            go_wp2_with fail
            go_roundw
            case rel => first | exact ⟨k + 1, _, _, _, _, _, by omega, by go_num, HSt3.out, hbW3, hsW3⟩ | ((repeat apply Exists.intro); exact ⟨⟨k + 1, _, _, _, _, _, by omega, by go_num, HSt3.out, hbW3, hsW3⟩, rfl⟩)
            case measure => simp [intOf]; omega
        · obtain rfl : k = l.length := by omega
          go_wp2_with fail
          go_ret
          exact ⟨rfl, hb1.trans ((hb2.trans (hbk.mono s2)).mono s1)⟩
  · simp only [hfew, decide_false]
    go_wp2_with fail
    go_ret
    exact ⟨rfl, hb1.trans (hb2.mono s1)⟩
end Go.Proofs.Ytopepkcmpogdoaa
