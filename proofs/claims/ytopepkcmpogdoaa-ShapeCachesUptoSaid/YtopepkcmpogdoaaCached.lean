/- The walk of (*shape.Tree).Cached. -/
import Derived.Test.YtopepkcmpogdoaaCacheA
import Derived.Test.YtopepkcmpogdoaaEqK
namespace Go.Proofs.Ytopepkcmpogdoaa
open Go.RowKit
set_option maxHeartbeats 400000
set_option maxRecDepth 100000

theorem plainK_again (k : KK) : plainK (plainK k) = plainK k := by
  obtain ⟨n, s⟩ := k
  unfold plainK plainName plainSym
  by_cases h : 0 < s
  · simp [h]
  · simp only [h, if_false]
    simp only [show ¬ ((0 : Int) < 0) from by omega, if_false]
    have e : evenB (evenB n) = evenB n := by
      have h1 := evenB_size n
      have h2 : evenB (evenB n) = (evenB n).extract 0 ((evenB n).size) := by
        rw [evenB, h1]
        congr 1
        omega
      rw [h2]
      simp
    rw [e]

theorem setCell_other {w : World} {cb b' : Nat} {v u : Value} {o' : Nat} (o : Nat) (hne : cb ≠ b') (h : w.cell? ⟨b', o', none⟩ = some u) : (w.setCell ⟨cb, o, none⟩ v).cell? ⟨b', o', none⟩ = some u := by
  rw [cell_of_heap (Below.heap_setCell w ⟨cb, o, none⟩ v b' hne.symm), h]
theorem info_tree : (Try.prog.info? 61).isSome = true := by kernel_rfl
def cachedR (c : CM) (a f : Int) (i : Bool) : Value := if c.there then .tuple #[.int .i64 c.at', .int .i64 c.fl, .bool true] else .tuple #[.int .i64 a, .int .i64 f, .bool i]
def hitC (c : CM) (p : Option Nat) (s : Int) (k : KK) : Prop := c.tree = p ∧ c.s = s ∧ c.k = plainK k

theorem cached_any {w : World} {cb : Nat} {c : CM} (h : CacheAt w cb c) (tb : Nat) (s : Int) (k : KK) (hk : okK k) (hct : c.tree = none ∨ c.tree = some tb) (hh : 0 ≤ c.hits ∧ c.hits < 1000000) (hm : 0 ≤ c.miss ∧ c.miss < 1000000) (a f : Int) (i : Bool)
    (hF : ∀ (w' : World) (k' : KK), w.grownBy w' (some cb) → plainK k' = plainK k → okK k' → Calls Try.prog 24 #[.pointer (some ⟨tb, 0, none⟩), .int .i64 s, encK k'] w' fun e w'' => e = .returned (.tuple #[.int .i64 a, .int .i64 f, .bool i]) ∧ Below w'.heap.size w' w'') :
    Calls Try.prog 20 #[.pointer (some ⟨tb, 0, none⟩), .pointer (some ⟨cb, 0, none⟩), .int .i64 s, encK k] w fun e w' => w.grownBy w' (some cb) ∧
      (hitC c (some tb) s k → e = .returned (cachedR c a f i) ∧ CacheAt w' cb { c with hits := c.hits + 1 }) ∧
      (¬ hitC c (some tb) s k → e = .returned (.tuple #[.int .i64 a, .int .i64 f, .bool i]) ∧ CacheAt w' cb ⟨some tb, s, plainK k, a, f, i, c.hits, c.miss + 1⟩) := by
  have hp := okPlain hk
  have hpp := plainK_again k
  obtain ⟨n, sy⟩ := k
  simp only [encK]
  have ep : plainK (n, sy) = (plainName n sy, plainSym sy) := rfl
  rw [ep] at hp hpp hF
  obtain ⟨jt, hjt⟩ := Option.isSome_iff_exists.1 info_tree
  have hq1 := fun w => eql_key w
  have hq2 : ∀ w, (binOp .eql 25 (.pointer (some ⟨tb, 0, none⟩)) (.pointer (some ⟨tb, 0, none⟩))).run Try.prog w = .ok (.bool true) w := fun w => run_eql_ptr_same w _ Try.underlying25 hjt
  have hq3 := fun w => eql_tree_nil w ⟨tb, 0, none⟩
  go_enter Try.func20, Try.ntmps20
  go_wp2_with fail
  generalize hW : w.alloc _ = w1
  have hb1 : Below w.heap.size w w1 := by rw [← hW]; exact (Below.refl _ _).alloc (Nat.le_refl _) _
  have hbx := hW ▸ heap_new' (w := w) (o := .cells #[.string n, .int .i64 sy] 30) rfl
  clear hW
  have h1 : CacheAt w1 cb c := (hb1.block cb (Array.getElem?_eq_some_iff.1 h).1).trans h
  have c0 := h1.cell 0
  simp [cacheCells] at c0
  have k0 := cell_block hbx 0
  have k1 := cell_block hbx 1
  simp at k0 k1
  refine (real_any w1 cb 1 c0).mono ?_
  rintro e w' ⟨rfl, rfl⟩
  simp only [decide_true]
  go_wp2_with fail
  refine (plain_any n sy w1 hk.1).mono ?_
  rintro e w2 ⟨rfl, hb2⟩
  have hbx2 := (hb2.block _ (Array.getElem?_eq_some_iff.1 hbx).1).trans hbx
  have h2 : CacheAt w2 cb c := (hb2.block cb (Array.getElem?_eq_some_iff.1 h1).1).trans h1
  have k0' := cell_block hbx2 0
  have k1' := cell_block hbx2 1
  have f0' := frozen_block hbx2 0
  have f1' := frozen_block hbx2 1
  simp at k0' k1'
  simp only
  clear k0 k1 c0
  go_wp2_with fail
  generalize hW3 : (w2.setCell _ _).setCell _ _ = W3
  have hk3 : W3.heap[w.heap.size]? = some (.cells #[.string (plainName n sy), .int .i64 (plainSym sy)] 30) := by
    rw [← hW3, setCell_block (setCell_block hbx2 _)]
    rfl
  have hcb : cb ≠ w.heap.size := by
    have := (Array.getElem?_eq_some_iff.1 h).1
    omega
  have h3 : CacheAt W3 cb c := by
    unfold CacheAt
    rw [← hW3, Below.heap_setCell _ _ _ _ hcb, Below.heap_setCell _ _ _ _ hcb]
    exact h2
  have hb3 : Below w.heap.size w W3 := by
    rw [← hW3]
    exact ((hb1.trans (hb2.mono hb1.size)).setCell (p := ⟨w.heap.size, 0, none⟩) (Nat.le_refl _) _).setCell (p := ⟨w.heap.size, 1, none⟩) (Nat.le_refl _) _
  clear hW3 k0' k1' f0' f1' hbx hbx2 h1 h2 hb2
  have k0 := cell_block hk3 0
  have k1 := cell_block hk3 1
  have c1 := h3.cell 1
  have c2 := h3.cell 2
  have c3 := h3.cell 3
  have c4 := h3.cell 4
  simp [cacheCells] at k0 k1 c1 c2 c3 c4
  obtain ⟨ct, cs, ⟨cn, cy⟩, ca, cf, ci, ch, cm⟩ := c
  simp only at c1 c2 c3 c4 hh hm
  by_cases g1 : ct = some tb
  · by_cases g2 : cs = s
    · by_cases g3 : cn = plainName n sy
      · by_cases g4 : cy = plainSym sy
        · subst g1 g2 g3 g4
          refine wp_region_lin (fun w' => w' = W3.drew) [] (.block 0 (.block 1 (.block 2 (.block 3 (.block 4 (.block 5 (.block 6 (.block 7 (.block 8 (.block 9 (.block 10 (.block 11 (.block 12 (.block 13 (.block 14 (.block 15 (.block 16 (.block 17 (.block 18 (.block 19 (.block 20 (.block 21 (.skip))))))))))))))))))))))) (by kernel_rfl) (by kernel_rfl) (by kernel_rfl) (by kernel_rfl) (by kernel_rfl) rfl ?_
          repeat first
            | (refine lin_light (A1 := ?_) rfl rfl rfl rfl rfl (fun w' hS K hK => ?_) ?_ ?_
               rotate_left
               · obtain rfl := hS; go_step; exact hK
               · rfl)
            | (refine lin_skip rfl rfl ?_; simp only [Act.put, List.setIfInBounds_toArray, List.set_cons_zero, List.set_cons_succ])
          refine lin_end ?_
          clear k0 k1 c1 c2 c3 c4 hq1 hq2 hq3
          have c8 : W3.drew.cell? ⟨cb, 8, none⟩ = some (.int .i64 ch) := h3.cell 8
          have f8 : W3.drew.frozen? ⟨cb, 8, none⟩ = false := frozen_block h3 8
          go_wp2_with fail
          refine (atomic_add W3.drew cb 8 ch c8 f8 hh).mono ?_
          rintro e W5 ⟨rfl, rfl⟩
          have h5 : CacheAt (W3.drew.setCell ⟨cb, 8, none⟩ (.int .i64 (ch + 1))) cb ⟨some tb, cs, (plainName n sy, plainSym sy), ca, cf, ci, ch + 1, cm⟩ := CacheAt.set (w := W3.drew) h3 8 _ _ rfl
          have hg5 : w.grownBy (W3.drew.setCell ⟨cb, 8, none⟩ (.int .i64 (ch + 1))) (some cb) := grownBy_trans (grownBy_of_below hb3.drew _) (setCell_grown W3.drew ⟨cb, 8, none⟩ _)
          have hk5 : (W3.drew.setCell ⟨cb, 8, none⟩ (.int .i64 (ch + 1))).heap[w.heap.size]? = some (.cells #[.string (plainName n sy), .int .i64 (plainSym sy)] 30) := by
            rw [Below.heap_setCell _ _ _ _ hcb.symm]
            exact hk3
          generalize W3.drew.setCell ⟨cb, 8, none⟩ (.int .i64 (ch + 1)) = W5 at *
          clear c8 f8
          have k0 := cell_block hk5 0
          have k1 := cell_block hk5 1
          have c7 := h5.cell 7
          have c5 := h5.cell 5
          have c6 := h5.cell 6
          simp [cacheCells] at k0 k1 c7 c5 c6
          simp only
          cases ci with
          | false =>
            go_wp2_with fail
            refine (hF W5 (plainName n sy, plainSym sy) hg5 hpp hp).mono ?_
            rintro e W6 ⟨rfl, hb6⟩
            simp only
            go_wp2_with fail
            refine bodyPost_ret (v := .tuple #[.int .i64 a, .int .i64 f, .bool i]) (by simp [results, Try.results20, go_sem]) rfl ?_
            exact ⟨grownBy_trans hg5 (grownBy_of_below hb6 _), fun _ => ⟨rfl, (hb6.block cb (Array.getElem?_eq_some_iff.1 h5).1).trans h5⟩, fun hn => absurd ⟨rfl, rfl, rfl⟩ hn⟩
          | true =>
            go_wp2_with fail
            refine wp_region_lin (fun w' => w' = W5.drew) [10] (.block 0 (.block 1 (.block 2 (.block 3 (.block 4 (.block 5 (.block 6 (.block 7 (.block 8 (.block 9 (.loop (.block 10 (.skip))))))))))))) (by kernel_rfl) (by kernel_rfl) (by kernel_rfl) (by kernel_rfl) (by kernel_rfl) rfl ?_
            repeat
              (refine lin_light (A1 := ?_) rfl rfl rfl rfl rfl (fun w' hS K hK => ?_) ?_ ?_
               rotate_left
               · obtain rfl := hS; go_step; exact hK
               · rfl)
            try refine lin_late ?_
            repeat
              (refine lin_light (A1 := ?_) rfl rfl rfl rfl rfl (fun w' hS K hK => ?_) ?_ ?_
               rotate_left
               · clear hS; go_step; exact hK
               · rfl)
            refine lin_end ?_
            go_wp2_with fail
            refine bodyPost_ret (v := .tuple #[.int .i64 ca, .int .i64 cf, .bool true]) (by simp [results, Try.results20, go_sem]) rfl ?_
            exact ⟨grownBy_drew hg5, fun _ => ⟨rfl, h5⟩, fun hn => absurd ⟨rfl, rfl, rfl⟩ hn⟩
        · have g2' := g2.symm
          subst g1 g2' g3
          simp only [Option.map_some] at c1
          have hd : decide (plainName n sy = plainName n sy ∧ cy = plainSym sy) = false := by simpa using g4
          have HMISS := Lib.hid (show ¬ hitC ⟨some tb, s, (plainName n sy, cy), ca, cf, ci, ch, cm⟩ (some tb) s (n, sy) from fun h => g4 (congrArg Prod.snd h.2.2))
          refine wp_region_lin (fun w' => w' = W3.drew) [] (.block 0 (.block 1 (.block 2 (.block 3 (.block 4 (.block 5 (.block 6 (.block 7 (.block 8 (.block 9 (.block 10 (.block 11 (.block 12 (.block 13 (.block 14 (.block 15 (.block 16 (.block 17 (.block 18 (.block 19 (.block 20 (.block 21 (.skip))))))))))))))))))))))) (by kernel_rfl) (by kernel_rfl) (by kernel_rfl) (by kernel_rfl) (by kernel_rfl) rfl ?_
          repeat first
            | (refine lin_light (A1 := ?_) rfl rfl rfl rfl rfl (fun w' hS K hK => ?_) ?_ ?_
               rotate_left
               · obtain rfl := hS; go_step; exact hK
               · rfl)
            | (refine lin_skip rfl rfl ?_; simp only [Act.put, List.setIfInBounds_toArray, List.set_cons_zero, List.set_cons_succ])
          refine lin_end ?_
          clear k0 k1 c1 c2 c3 c4 hq1 hq2 hq3
          have c9 : W3.drew.cell? ⟨cb, 9, none⟩ = some (.int .i64 cm) := h3.cell 9
          have f9 : W3.drew.frozen? ⟨cb, 9, none⟩ = false := frozen_block h3 9
          go_wp2_with fail
          refine (atomic_add W3.drew cb 9 cm c9 f9 hm).mono ?_
          rintro e W5 ⟨rfl, rfl⟩
          have h5 := CacheAt.set (w := W3.drew) h3 9 (.int .i64 (cm + 1)) ⟨_, _, _, _, _, _, _, cm + 1⟩ rfl
          have hg5 : w.grownBy (W3.drew.setCell ⟨cb, 9, none⟩ (.int .i64 (cm + 1))) (some cb) := grownBy_trans (grownBy_of_below hb3.drew _) (setCell_grown W3.drew ⟨cb, 9, none⟩ _)
          have hk5 : (W3.drew.setCell ⟨cb, 9, none⟩ (.int .i64 (cm + 1))).heap[w.heap.size]? = some (.cells #[.string (plainName n sy), .int .i64 (plainSym sy)] 30) := by
            rw [Below.heap_setCell _ _ _ _ hcb.symm]
            exact hk3
          generalize W3.drew.setCell ⟨cb, 9, none⟩ (.int .i64 (cm + 1)) = W5 at *
          clear c9 f9
          have k0 := cell_block hk5 0
          have k1 := cell_block hk5 1
          simp at k0 k1
          simp only
          go_wp2_with fail
          refine (hF W5 (plainName n sy, plainSym sy) hg5 hpp hp).mono ?_
          rintro e W6 ⟨rfl, hb6⟩
          have hk6 := (hb6.block _ (Array.getElem?_eq_some_iff.1 hk5).1).trans hk5
          have h6 := (hb6.block cb (Array.getElem?_eq_some_iff.1 h5).1).trans h5
          have hg6 : w.grownBy W6.drew (some cb) := grownBy_drew (grownBy_trans hg5 (grownBy_of_below hb6 _))
          clear k0 k1
          have k0 : W6.drew.cell? ⟨w.heap.size, 0, none⟩ = some (.string (plainName n sy)) := cell_block hk6 0
          have k1 : W6.drew.cell? ⟨w.heap.size, 1, none⟩ = some (.int .i64 (plainSym sy)) := cell_block hk6 1
          simp only
          go_wp2_with fail
          refine wp_region_lin (fun w' => w'.cell? ⟨w.heap.size, 0, none⟩ = some (.string (plainName n sy)) ∧ w'.cell? ⟨w.heap.size, 1, none⟩ = some (.int .i64 (plainSym sy))) [27, 28, 29] (.block 0 (.block 1 (.block 2 (.block 3 (.block 4 (.block 5 (.block 6 (.block 7 (.block 8 (.block 9 (.block 10 (.block 11 (.block 12 (.block 13 (.scope (.seq (.label 14) (.block 15 (.block 16 (.scope (.seq (.label 17) (.block 18 (.block 19 (.scope (.seq (.label 20) (.block 21 (.block 22 (.scope (.seq (.label 23) (.block 24 (.block 25 (.scope (.seq (.label 26) (.loop (.block 27 (.block 28 (.scope (.seq (.label 29) (.skip)))))))))))))))))))))))))))))))))))))) (by kernel_rfl) (by kernel_rfl) (by kernel_rfl) (by kernel_rfl) (by kernel_rfl) ⟨k0, k1⟩ ?_
          change CacheAt W6.drew cb _ at h6
          clear hk6
          generalize W6.drew = W7 at *
          repeat
            (refine lin_light (A1 := ?_) rfl rfl rfl rfl rfl (fun w' hS K hK => ?_) ?_ ?_
             rotate_left
             · obtain ⟨_, _⟩ := hS; go_step; exact hK
             · rfl)
          have cc := h6.cell 1
          have ff := frozen_block h6 1
          simp [cacheCells] at cc
          refine lin_group ?_
          refine lin_heavy rfl rfl (fun K hK => ?_)
          go_step
          refine hK.out _ _ ⟨(setCell_other 1 hcb k0), (setCell_other 1 hcb k1)⟩ ?_
          clear hK K cc ff
          have hx0 := h6.set 1 (.pointer (some ⟨tb, 0, none⟩)) ⟨some tb, _, _, _, _, _, _, _⟩ rfl
          have hgx0 := grownBy_trans hg6 (setCell_grown W7 ⟨cb, 1, none⟩ (.pointer (some ⟨tb, 0, none⟩)))
          replace k0 := setCell_other (v := (.pointer (some ⟨tb, 0, none⟩))) 1 hcb k0
          replace k1 := setCell_other (v := (.pointer (some ⟨tb, 0, none⟩))) 1 hcb k1
          clear h6 hg6
          generalize W7.setCell ⟨cb, 1, none⟩ (.pointer (some ⟨tb, 0, none⟩)) = X0 at *
          repeat
            (refine lin_light (A1 := ?_) rfl rfl rfl rfl rfl (fun w' hS K hK => ?_) ?_ ?_
             rotate_left
             · obtain ⟨_, _⟩ := hS; go_step; exact hK
             · rfl)
          have cc := hx0.cell 2
          have ff := frozen_block hx0 2
          simp [cacheCells] at cc
          refine lin_group ?_
          refine lin_heavy rfl rfl (fun K hK => ?_)
          go_step
          refine hK.out _ _ ⟨(setCell_other 2 hcb k0), (setCell_other 2 hcb k1)⟩ ?_
          clear hK K cc ff
          have hx1 := hx0.set 2 (.int .i64 s) ⟨_, s, _, _, _, _, _, _⟩ rfl
          have hgx1 := grownBy_trans hgx0 (setCell_grown X0 ⟨cb, 2, none⟩ (.int .i64 s))
          replace k0 := setCell_other (v := (.int .i64 s)) 2 hcb k0
          replace k1 := setCell_other (v := (.int .i64 s)) 2 hcb k1
          clear hx0 hgx0
          generalize X0.setCell ⟨cb, 2, none⟩ (.int .i64 s) = X1 at *
          repeat
            (refine lin_light (A1 := ?_) rfl rfl rfl rfl rfl (fun w' hS K hK => ?_) ?_ ?_
             rotate_left
             · obtain ⟨_, _⟩ := hS; go_step; exact hK
             · rfl)
          have cc := hx1.cell 3
          have cc4 := hx1.cell 4
          have ff := frozen_block hx1 3
          have ff4 := frozen_block hx1 4
          simp [cacheCells] at cc cc4
          refine lin_group ?_
          refine lin_heavy rfl rfl (fun K hK => ?_)
          go_step
          refine hK.out _ _ ⟨setCell_other 4 hcb (setCell_other 3 hcb k0), setCell_other 4 hcb (setCell_other 3 hcb k1)⟩ ?_
          clear hK K cc ff cc4 ff4
          have hx2 := (hx1.set 3 (.string (plainName n sy)) ⟨_, _, (plainName n sy, _), _, _, _, _, _⟩ rfl).set 4 (.int .i64 (plainSym sy)) ⟨_, _, (plainName n sy, plainSym sy), _, _, _, _, _⟩ rfl
          have hgx2 := grownBy_trans (grownBy_trans hgx1 (setCell_grown X1 ⟨cb, 3, none⟩ (.string (plainName n sy)))) (setCell_grown (X1.setCell ⟨cb, 3, none⟩ (.string (plainName n sy))) ⟨cb, 4, none⟩ (.int .i64 (plainSym sy)))
          replace k0 := setCell_other (v := .int .i64 (plainSym sy)) 4 hcb (setCell_other (v := .string (plainName n sy)) 3 hcb k0)
          replace k1 := setCell_other (v := .int .i64 (plainSym sy)) 4 hcb (setCell_other (v := .string (plainName n sy)) 3 hcb k1)
          clear hx1 hgx1
          generalize (X1.setCell ⟨cb, 3, none⟩ (.string (plainName n sy))).setCell ⟨cb, 4, none⟩ (.int .i64 (plainSym sy)) = X2 at *
          repeat
            (refine lin_light (A1 := ?_) rfl rfl rfl rfl rfl (fun w' hS K hK => ?_) ?_ ?_
             rotate_left
             · obtain ⟨_, _⟩ := hS; go_step; exact hK
             · rfl)
          have cc := hx2.cell 5
          have ff := frozen_block hx2 5
          simp [cacheCells] at cc
          refine lin_group ?_
          refine lin_heavy rfl rfl (fun K hK => ?_)
          go_step
          refine hK.out _ _ ⟨(setCell_other 5 hcb k0), (setCell_other 5 hcb k1)⟩ ?_
          clear hK K cc ff
          have hx3 := hx2.set 5 (.int .i64 a) ⟨_, _, _, a, _, _, _, _⟩ rfl
          have hgx3 := grownBy_trans hgx2 (setCell_grown X2 ⟨cb, 5, none⟩ (.int .i64 a))
          replace k0 := setCell_other (v := (.int .i64 a)) 5 hcb k0
          replace k1 := setCell_other (v := (.int .i64 a)) 5 hcb k1
          clear hx2 hgx2
          generalize X2.setCell ⟨cb, 5, none⟩ (.int .i64 a) = X3 at *
          repeat
            (refine lin_light (A1 := ?_) rfl rfl rfl rfl rfl (fun w' hS K hK => ?_) ?_ ?_
             rotate_left
             · obtain ⟨_, _⟩ := hS; go_step; exact hK
             · rfl)
          have cc := hx3.cell 6
          have ff := frozen_block hx3 6
          simp [cacheCells] at cc
          refine lin_group ?_
          refine lin_heavy rfl rfl (fun K hK => ?_)
          go_step
          refine hK.out _ _ ⟨(setCell_other 6 hcb k0), (setCell_other 6 hcb k1)⟩ ?_
          clear hK K cc ff
          have hx4 := hx3.set 6 (.int .i64 f) ⟨_, _, _, _, f, _, _, _⟩ rfl
          have hgx4 := grownBy_trans hgx3 (setCell_grown X3 ⟨cb, 6, none⟩ (.int .i64 f))
          replace k0 := setCell_other (v := (.int .i64 f)) 6 hcb k0
          replace k1 := setCell_other (v := (.int .i64 f)) 6 hcb k1
          clear hx3 hgx3
          generalize X3.setCell ⟨cb, 6, none⟩ (.int .i64 f) = X4 at *
          try refine lin_late ?_
          repeat
            (refine lin_light (A1 := ?_) rfl rfl rfl rfl rfl (fun w' hS K hK => ?_) ?_ ?_
             rotate_left
             · clear hS; go_step; exact hK
             · rfl)
          have cc := hx4.cell 7
          have ff := frozen_block hx4 7
          simp [cacheCells] at cc
          refine lin_group ?_
          refine lin_heavy rfl rfl (fun K hK => ?_)
          go_step
          refine hK.out _ _ trivial ?_
          clear hK K cc ff
          have hx5 := hx4.set 7 (.bool i) ⟨_, _, _, _, _, i, _, _⟩ rfl
          have hgx5 := grownBy_trans hgx4 (setCell_grown X4 ⟨cb, 7, none⟩ (.bool i))
          replace k0 := setCell_other (v := (.bool i)) 7 hcb k0
          replace k1 := setCell_other (v := (.bool i)) 7 hcb k1
          clear hx4 hgx4
          generalize X4.setCell ⟨cb, 7, none⟩ (.bool i) = X5 at *
          refine lin_end ?_
          go_wp2_with fail
          refine bodyPost_ret (v := .tuple #[.int .i64 a, .int .i64 f, .bool i]) (by simp [results, Try.results20, go_sem]) rfl ?_
          exact ⟨hgx5, fun hn => absurd hn HMISS.out, fun _ => ⟨rfl, hx5⟩⟩
      · have g2' := g2.symm
        subst g1 g2'
        simp only [Option.map_some] at c1
        have hd : decide (cn = plainName n sy ∧ cy = plainSym sy) = false := by simp [g3]
        have HMISS := Lib.hid (show ¬ hitC ⟨some tb, s, (cn, cy), ca, cf, ci, ch, cm⟩ (some tb) s (n, sy) from fun h => g3 (congrArg Prod.fst h.2.2))
        refine wp_region_lin (fun w' => w' = W3.drew) [] (.block 0 (.block 1 (.block 2 (.block 3 (.block 4 (.block 5 (.block 6 (.block 7 (.block 8 (.block 9 (.block 10 (.block 11 (.block 12 (.block 13 (.block 14 (.block 15 (.block 16 (.block 17 (.block 18 (.block 19 (.block 20 (.block 21 (.skip))))))))))))))))))))))) (by kernel_rfl) (by kernel_rfl) (by kernel_rfl) (by kernel_rfl) (by kernel_rfl) rfl ?_
        repeat first
          | (refine lin_light (A1 := ?_) rfl rfl rfl rfl rfl (fun w' hS K hK => ?_) ?_ ?_
             rotate_left
             · obtain rfl := hS; go_step; exact hK
             · rfl)
          | (refine lin_skip rfl rfl ?_; simp only [Act.put, List.setIfInBounds_toArray, List.set_cons_zero, List.set_cons_succ])
        refine lin_end ?_
        clear k0 k1 c1 c2 c3 c4 hq1 hq2 hq3
        have c9 : W3.drew.cell? ⟨cb, 9, none⟩ = some (.int .i64 cm) := h3.cell 9
        have f9 : W3.drew.frozen? ⟨cb, 9, none⟩ = false := frozen_block h3 9
        go_wp2_with fail
        refine (atomic_add W3.drew cb 9 cm c9 f9 hm).mono ?_
        rintro e W5 ⟨rfl, rfl⟩
        have h5 := CacheAt.set (w := W3.drew) h3 9 (.int .i64 (cm + 1)) ⟨_, _, _, _, _, _, _, cm + 1⟩ rfl
        have hg5 : w.grownBy (W3.drew.setCell ⟨cb, 9, none⟩ (.int .i64 (cm + 1))) (some cb) := grownBy_trans (grownBy_of_below hb3.drew _) (setCell_grown W3.drew ⟨cb, 9, none⟩ _)
        have hk5 : (W3.drew.setCell ⟨cb, 9, none⟩ (.int .i64 (cm + 1))).heap[w.heap.size]? = some (.cells #[.string (plainName n sy), .int .i64 (plainSym sy)] 30) := by
          rw [Below.heap_setCell _ _ _ _ hcb.symm]
          exact hk3
        generalize W3.drew.setCell ⟨cb, 9, none⟩ (.int .i64 (cm + 1)) = W5 at *
        clear c9 f9
        have k0 := cell_block hk5 0
        have k1 := cell_block hk5 1
        simp at k0 k1
        simp only
        go_wp2_with fail
        refine (hF W5 (plainName n sy, plainSym sy) hg5 hpp hp).mono ?_
        rintro e W6 ⟨rfl, hb6⟩
        have hk6 := (hb6.block _ (Array.getElem?_eq_some_iff.1 hk5).1).trans hk5
        have h6 := (hb6.block cb (Array.getElem?_eq_some_iff.1 h5).1).trans h5
        have hg6 : w.grownBy W6.drew (some cb) := grownBy_drew (grownBy_trans hg5 (grownBy_of_below hb6 _))
        clear k0 k1
        have k0 : W6.drew.cell? ⟨w.heap.size, 0, none⟩ = some (.string (plainName n sy)) := cell_block hk6 0
        have k1 : W6.drew.cell? ⟨w.heap.size, 1, none⟩ = some (.int .i64 (plainSym sy)) := cell_block hk6 1
        simp only
        go_wp2_with fail
        refine wp_region_lin (fun w' => w'.cell? ⟨w.heap.size, 0, none⟩ = some (.string (plainName n sy)) ∧ w'.cell? ⟨w.heap.size, 1, none⟩ = some (.int .i64 (plainSym sy))) [27, 28, 29] (.block 0 (.block 1 (.block 2 (.block 3 (.block 4 (.block 5 (.block 6 (.block 7 (.block 8 (.block 9 (.block 10 (.block 11 (.block 12 (.block 13 (.scope (.seq (.label 14) (.block 15 (.block 16 (.scope (.seq (.label 17) (.block 18 (.block 19 (.scope (.seq (.label 20) (.block 21 (.block 22 (.scope (.seq (.label 23) (.block 24 (.block 25 (.scope (.seq (.label 26) (.loop (.block 27 (.block 28 (.scope (.seq (.label 29) (.skip)))))))))))))))))))))))))))))))))))))) (by kernel_rfl) (by kernel_rfl) (by kernel_rfl) (by kernel_rfl) (by kernel_rfl) ⟨k0, k1⟩ ?_
        change CacheAt W6.drew cb _ at h6
        clear hk6
        generalize W6.drew = W7 at *
        repeat
          (refine lin_light (A1 := ?_) rfl rfl rfl rfl rfl (fun w' hS K hK => ?_) ?_ ?_
           rotate_left
           · obtain ⟨_, _⟩ := hS; go_step; exact hK
           · rfl)
        have cc := h6.cell 1
        have ff := frozen_block h6 1
        simp [cacheCells] at cc
        refine lin_group ?_
        refine lin_heavy rfl rfl (fun K hK => ?_)
        go_step
        refine hK.out _ _ ⟨(setCell_other 1 hcb k0), (setCell_other 1 hcb k1)⟩ ?_
        clear hK K cc ff
        have hx0 := h6.set 1 (.pointer (some ⟨tb, 0, none⟩)) ⟨some tb, _, _, _, _, _, _, _⟩ rfl
        have hgx0 := grownBy_trans hg6 (setCell_grown W7 ⟨cb, 1, none⟩ (.pointer (some ⟨tb, 0, none⟩)))
        replace k0 := setCell_other (v := (.pointer (some ⟨tb, 0, none⟩))) 1 hcb k0
        replace k1 := setCell_other (v := (.pointer (some ⟨tb, 0, none⟩))) 1 hcb k1
        clear h6 hg6
        generalize W7.setCell ⟨cb, 1, none⟩ (.pointer (some ⟨tb, 0, none⟩)) = X0 at *
        repeat
          (refine lin_light (A1 := ?_) rfl rfl rfl rfl rfl (fun w' hS K hK => ?_) ?_ ?_
           rotate_left
           · obtain ⟨_, _⟩ := hS; go_step; exact hK
           · rfl)
        have cc := hx0.cell 2
        have ff := frozen_block hx0 2
        simp [cacheCells] at cc
        refine lin_group ?_
        refine lin_heavy rfl rfl (fun K hK => ?_)
        go_step
        refine hK.out _ _ ⟨(setCell_other 2 hcb k0), (setCell_other 2 hcb k1)⟩ ?_
        clear hK K cc ff
        have hx1 := hx0.set 2 (.int .i64 s) ⟨_, s, _, _, _, _, _, _⟩ rfl
        have hgx1 := grownBy_trans hgx0 (setCell_grown X0 ⟨cb, 2, none⟩ (.int .i64 s))
        replace k0 := setCell_other (v := (.int .i64 s)) 2 hcb k0
        replace k1 := setCell_other (v := (.int .i64 s)) 2 hcb k1
        clear hx0 hgx0
        generalize X0.setCell ⟨cb, 2, none⟩ (.int .i64 s) = X1 at *
        repeat
          (refine lin_light (A1 := ?_) rfl rfl rfl rfl rfl (fun w' hS K hK => ?_) ?_ ?_
           rotate_left
           · obtain ⟨_, _⟩ := hS; go_step; exact hK
           · rfl)
        have cc := hx1.cell 3
        have cc4 := hx1.cell 4
        have ff := frozen_block hx1 3
        have ff4 := frozen_block hx1 4
        simp [cacheCells] at cc cc4
        refine lin_group ?_
        refine lin_heavy rfl rfl (fun K hK => ?_)
        go_step
        refine hK.out _ _ ⟨setCell_other 4 hcb (setCell_other 3 hcb k0), setCell_other 4 hcb (setCell_other 3 hcb k1)⟩ ?_
        clear hK K cc ff cc4 ff4
        have hx2 := (hx1.set 3 (.string (plainName n sy)) ⟨_, _, (plainName n sy, _), _, _, _, _, _⟩ rfl).set 4 (.int .i64 (plainSym sy)) ⟨_, _, (plainName n sy, plainSym sy), _, _, _, _, _⟩ rfl
        have hgx2 := grownBy_trans (grownBy_trans hgx1 (setCell_grown X1 ⟨cb, 3, none⟩ (.string (plainName n sy)))) (setCell_grown (X1.setCell ⟨cb, 3, none⟩ (.string (plainName n sy))) ⟨cb, 4, none⟩ (.int .i64 (plainSym sy)))
        replace k0 := setCell_other (v := .int .i64 (plainSym sy)) 4 hcb (setCell_other (v := .string (plainName n sy)) 3 hcb k0)
        replace k1 := setCell_other (v := .int .i64 (plainSym sy)) 4 hcb (setCell_other (v := .string (plainName n sy)) 3 hcb k1)
        clear hx1 hgx1
        generalize (X1.setCell ⟨cb, 3, none⟩ (.string (plainName n sy))).setCell ⟨cb, 4, none⟩ (.int .i64 (plainSym sy)) = X2 at *
        repeat
          (refine lin_light (A1 := ?_) rfl rfl rfl rfl rfl (fun w' hS K hK => ?_) ?_ ?_
           rotate_left
           · obtain ⟨_, _⟩ := hS; go_step; exact hK
           · rfl)
        have cc := hx2.cell 5
        have ff := frozen_block hx2 5
        simp [cacheCells] at cc
        refine lin_group ?_
        refine lin_heavy rfl rfl (fun K hK => ?_)
        go_step
        refine hK.out _ _ ⟨(setCell_other 5 hcb k0), (setCell_other 5 hcb k1)⟩ ?_
        clear hK K cc ff
        have hx3 := hx2.set 5 (.int .i64 a) ⟨_, _, _, a, _, _, _, _⟩ rfl
        have hgx3 := grownBy_trans hgx2 (setCell_grown X2 ⟨cb, 5, none⟩ (.int .i64 a))
        replace k0 := setCell_other (v := (.int .i64 a)) 5 hcb k0
        replace k1 := setCell_other (v := (.int .i64 a)) 5 hcb k1
        clear hx2 hgx2
        generalize X2.setCell ⟨cb, 5, none⟩ (.int .i64 a) = X3 at *
        repeat
          (refine lin_light (A1 := ?_) rfl rfl rfl rfl rfl (fun w' hS K hK => ?_) ?_ ?_
           rotate_left
           · obtain ⟨_, _⟩ := hS; go_step; exact hK
           · rfl)
        have cc := hx3.cell 6
        have ff := frozen_block hx3 6
        simp [cacheCells] at cc
        refine lin_group ?_
        refine lin_heavy rfl rfl (fun K hK => ?_)
        go_step
        refine hK.out _ _ ⟨(setCell_other 6 hcb k0), (setCell_other 6 hcb k1)⟩ ?_
        clear hK K cc ff
        have hx4 := hx3.set 6 (.int .i64 f) ⟨_, _, _, _, f, _, _, _⟩ rfl
        have hgx4 := grownBy_trans hgx3 (setCell_grown X3 ⟨cb, 6, none⟩ (.int .i64 f))
        replace k0 := setCell_other (v := (.int .i64 f)) 6 hcb k0
        replace k1 := setCell_other (v := (.int .i64 f)) 6 hcb k1
        clear hx3 hgx3
        generalize X3.setCell ⟨cb, 6, none⟩ (.int .i64 f) = X4 at *
        try refine lin_late ?_
        repeat
          (refine lin_light (A1 := ?_) rfl rfl rfl rfl rfl (fun w' hS K hK => ?_) ?_ ?_
           rotate_left
           · clear hS; go_step; exact hK
           · rfl)
        have cc := hx4.cell 7
        have ff := frozen_block hx4 7
        simp [cacheCells] at cc
        refine lin_group ?_
        refine lin_heavy rfl rfl (fun K hK => ?_)
        go_step
        refine hK.out _ _ trivial ?_
        clear hK K cc ff
        have hx5 := hx4.set 7 (.bool i) ⟨_, _, _, _, _, i, _, _⟩ rfl
        have hgx5 := grownBy_trans hgx4 (setCell_grown X4 ⟨cb, 7, none⟩ (.bool i))
        replace k0 := setCell_other (v := (.bool i)) 7 hcb k0
        replace k1 := setCell_other (v := (.bool i)) 7 hcb k1
        clear hx4 hgx4
        generalize X4.setCell ⟨cb, 7, none⟩ (.bool i) = X5 at *
        refine lin_end ?_
        go_wp2_with fail
        refine bodyPost_ret (v := .tuple #[.int .i64 a, .int .i64 f, .bool i]) (by simp [results, Try.results20, go_sem]) rfl ?_
        exact ⟨hgx5, fun hn => absurd hn HMISS.out, fun _ => ⟨rfl, hx5⟩⟩
    · subst g1
      simp only [Option.map_some] at c1
      have hd : (cs == s) = false := by simpa using g2
      have HMISS := Lib.hid (show ¬ hitC ⟨some tb, cs, (cn, cy), ca, cf, ci, ch, cm⟩ (some tb) s (n, sy) from fun h => g2 h.2.1)
      refine wp_region_lin (fun w' => w' = W3.drew) [] (.block 0 (.block 1 (.block 2 (.block 3 (.block 4 (.block 5 (.block 6 (.block 7 (.block 8 (.block 9 (.block 10 (.block 11 (.block 12 (.block 13 (.block 14 (.block 15 (.block 16 (.block 17 (.block 18 (.block 19 (.block 20 (.block 21 (.skip))))))))))))))))))))))) (by kernel_rfl) (by kernel_rfl) (by kernel_rfl) (by kernel_rfl) (by kernel_rfl) rfl ?_
      repeat first
        | (refine lin_light (A1 := ?_) rfl rfl rfl rfl rfl (fun w' hS K hK => ?_) ?_ ?_
           rotate_left
           · obtain rfl := hS; go_step; exact hK
           · rfl)
        | (refine lin_skip rfl rfl ?_; simp only [Act.put, List.setIfInBounds_toArray, List.set_cons_zero, List.set_cons_succ])
      refine lin_end ?_
      clear k0 k1 c1 c2 c3 c4 hq1 hq2 hq3
      have c9 : W3.drew.cell? ⟨cb, 9, none⟩ = some (.int .i64 cm) := h3.cell 9
      have f9 : W3.drew.frozen? ⟨cb, 9, none⟩ = false := frozen_block h3 9
      go_wp2_with fail
      refine (atomic_add W3.drew cb 9 cm c9 f9 hm).mono ?_
      rintro e W5 ⟨rfl, rfl⟩
      have h5 := CacheAt.set (w := W3.drew) h3 9 (.int .i64 (cm + 1)) ⟨_, _, _, _, _, _, _, cm + 1⟩ rfl
      have hg5 : w.grownBy (W3.drew.setCell ⟨cb, 9, none⟩ (.int .i64 (cm + 1))) (some cb) := grownBy_trans (grownBy_of_below hb3.drew _) (setCell_grown W3.drew ⟨cb, 9, none⟩ _)
      have hk5 : (W3.drew.setCell ⟨cb, 9, none⟩ (.int .i64 (cm + 1))).heap[w.heap.size]? = some (.cells #[.string (plainName n sy), .int .i64 (plainSym sy)] 30) := by
        rw [Below.heap_setCell _ _ _ _ hcb.symm]
        exact hk3
      generalize W3.drew.setCell ⟨cb, 9, none⟩ (.int .i64 (cm + 1)) = W5 at *
      clear c9 f9
      have k0 := cell_block hk5 0
      have k1 := cell_block hk5 1
      simp at k0 k1
      simp only
      go_wp2_with fail
      refine (hF W5 (plainName n sy, plainSym sy) hg5 hpp hp).mono ?_
      rintro e W6 ⟨rfl, hb6⟩
      have hk6 := (hb6.block _ (Array.getElem?_eq_some_iff.1 hk5).1).trans hk5
      have h6 := (hb6.block cb (Array.getElem?_eq_some_iff.1 h5).1).trans h5
      have hg6 : w.grownBy W6.drew (some cb) := grownBy_drew (grownBy_trans hg5 (grownBy_of_below hb6 _))
      clear k0 k1
      have k0 : W6.drew.cell? ⟨w.heap.size, 0, none⟩ = some (.string (plainName n sy)) := cell_block hk6 0
      have k1 : W6.drew.cell? ⟨w.heap.size, 1, none⟩ = some (.int .i64 (plainSym sy)) := cell_block hk6 1
      simp only
      go_wp2_with fail
      refine wp_region_lin (fun w' => w'.cell? ⟨w.heap.size, 0, none⟩ = some (.string (plainName n sy)) ∧ w'.cell? ⟨w.heap.size, 1, none⟩ = some (.int .i64 (plainSym sy))) [27, 28, 29] (.block 0 (.block 1 (.block 2 (.block 3 (.block 4 (.block 5 (.block 6 (.block 7 (.block 8 (.block 9 (.block 10 (.block 11 (.block 12 (.block 13 (.scope (.seq (.label 14) (.block 15 (.block 16 (.scope (.seq (.label 17) (.block 18 (.block 19 (.scope (.seq (.label 20) (.block 21 (.block 22 (.scope (.seq (.label 23) (.block 24 (.block 25 (.scope (.seq (.label 26) (.loop (.block 27 (.block 28 (.scope (.seq (.label 29) (.skip)))))))))))))))))))))))))))))))))))))) (by kernel_rfl) (by kernel_rfl) (by kernel_rfl) (by kernel_rfl) (by kernel_rfl) ⟨k0, k1⟩ ?_
      change CacheAt W6.drew cb _ at h6
      clear hk6
      generalize W6.drew = W7 at *
      repeat
        (refine lin_light (A1 := ?_) rfl rfl rfl rfl rfl (fun w' hS K hK => ?_) ?_ ?_
         rotate_left
         · obtain ⟨_, _⟩ := hS; go_step; exact hK
         · rfl)
      have cc := h6.cell 1
      have ff := frozen_block h6 1
      simp [cacheCells] at cc
      refine lin_group ?_
      refine lin_heavy rfl rfl (fun K hK => ?_)
      go_step
      refine hK.out _ _ ⟨(setCell_other 1 hcb k0), (setCell_other 1 hcb k1)⟩ ?_
      clear hK K cc ff
      have hx0 := h6.set 1 (.pointer (some ⟨tb, 0, none⟩)) ⟨some tb, _, _, _, _, _, _, _⟩ rfl
      have hgx0 := grownBy_trans hg6 (setCell_grown W7 ⟨cb, 1, none⟩ (.pointer (some ⟨tb, 0, none⟩)))
      replace k0 := setCell_other (v := (.pointer (some ⟨tb, 0, none⟩))) 1 hcb k0
      replace k1 := setCell_other (v := (.pointer (some ⟨tb, 0, none⟩))) 1 hcb k1
      clear h6 hg6
      generalize W7.setCell ⟨cb, 1, none⟩ (.pointer (some ⟨tb, 0, none⟩)) = X0 at *
      repeat
        (refine lin_light (A1 := ?_) rfl rfl rfl rfl rfl (fun w' hS K hK => ?_) ?_ ?_
         rotate_left
         · obtain ⟨_, _⟩ := hS; go_step; exact hK
         · rfl)
      have cc := hx0.cell 2
      have ff := frozen_block hx0 2
      simp [cacheCells] at cc
      refine lin_group ?_
      refine lin_heavy rfl rfl (fun K hK => ?_)
      go_step
      refine hK.out _ _ ⟨(setCell_other 2 hcb k0), (setCell_other 2 hcb k1)⟩ ?_
      clear hK K cc ff
      have hx1 := hx0.set 2 (.int .i64 s) ⟨_, s, _, _, _, _, _, _⟩ rfl
      have hgx1 := grownBy_trans hgx0 (setCell_grown X0 ⟨cb, 2, none⟩ (.int .i64 s))
      replace k0 := setCell_other (v := (.int .i64 s)) 2 hcb k0
      replace k1 := setCell_other (v := (.int .i64 s)) 2 hcb k1
      clear hx0 hgx0
      generalize X0.setCell ⟨cb, 2, none⟩ (.int .i64 s) = X1 at *
      repeat
        (refine lin_light (A1 := ?_) rfl rfl rfl rfl rfl (fun w' hS K hK => ?_) ?_ ?_
         rotate_left
         · obtain ⟨_, _⟩ := hS; go_step; exact hK
         · rfl)
      have cc := hx1.cell 3
      have cc4 := hx1.cell 4
      have ff := frozen_block hx1 3
      have ff4 := frozen_block hx1 4
      simp [cacheCells] at cc cc4
      refine lin_group ?_
      refine lin_heavy rfl rfl (fun K hK => ?_)
      go_step
      refine hK.out _ _ ⟨setCell_other 4 hcb (setCell_other 3 hcb k0), setCell_other 4 hcb (setCell_other 3 hcb k1)⟩ ?_
      clear hK K cc ff cc4 ff4
      have hx2 := (hx1.set 3 (.string (plainName n sy)) ⟨_, _, (plainName n sy, _), _, _, _, _, _⟩ rfl).set 4 (.int .i64 (plainSym sy)) ⟨_, _, (plainName n sy, plainSym sy), _, _, _, _, _⟩ rfl
      have hgx2 := grownBy_trans (grownBy_trans hgx1 (setCell_grown X1 ⟨cb, 3, none⟩ (.string (plainName n sy)))) (setCell_grown (X1.setCell ⟨cb, 3, none⟩ (.string (plainName n sy))) ⟨cb, 4, none⟩ (.int .i64 (plainSym sy)))
      replace k0 := setCell_other (v := .int .i64 (plainSym sy)) 4 hcb (setCell_other (v := .string (plainName n sy)) 3 hcb k0)
      replace k1 := setCell_other (v := .int .i64 (plainSym sy)) 4 hcb (setCell_other (v := .string (plainName n sy)) 3 hcb k1)
      clear hx1 hgx1
      generalize (X1.setCell ⟨cb, 3, none⟩ (.string (plainName n sy))).setCell ⟨cb, 4, none⟩ (.int .i64 (plainSym sy)) = X2 at *
      repeat
        (refine lin_light (A1 := ?_) rfl rfl rfl rfl rfl (fun w' hS K hK => ?_) ?_ ?_
         rotate_left
         · obtain ⟨_, _⟩ := hS; go_step; exact hK
         · rfl)
      have cc := hx2.cell 5
      have ff := frozen_block hx2 5
      simp [cacheCells] at cc
      refine lin_group ?_
      refine lin_heavy rfl rfl (fun K hK => ?_)
      go_step
      refine hK.out _ _ ⟨(setCell_other 5 hcb k0), (setCell_other 5 hcb k1)⟩ ?_
      clear hK K cc ff
      have hx3 := hx2.set 5 (.int .i64 a) ⟨_, _, _, a, _, _, _, _⟩ rfl
      have hgx3 := grownBy_trans hgx2 (setCell_grown X2 ⟨cb, 5, none⟩ (.int .i64 a))
      replace k0 := setCell_other (v := (.int .i64 a)) 5 hcb k0
      replace k1 := setCell_other (v := (.int .i64 a)) 5 hcb k1
      clear hx2 hgx2
      generalize X2.setCell ⟨cb, 5, none⟩ (.int .i64 a) = X3 at *
      repeat
        (refine lin_light (A1 := ?_) rfl rfl rfl rfl rfl (fun w' hS K hK => ?_) ?_ ?_
         rotate_left
         · obtain ⟨_, _⟩ := hS; go_step; exact hK
         · rfl)
      have cc := hx3.cell 6
      have ff := frozen_block hx3 6
      simp [cacheCells] at cc
      refine lin_group ?_
      refine lin_heavy rfl rfl (fun K hK => ?_)
      go_step
      refine hK.out _ _ ⟨(setCell_other 6 hcb k0), (setCell_other 6 hcb k1)⟩ ?_
      clear hK K cc ff
      have hx4 := hx3.set 6 (.int .i64 f) ⟨_, _, _, _, f, _, _, _⟩ rfl
      have hgx4 := grownBy_trans hgx3 (setCell_grown X3 ⟨cb, 6, none⟩ (.int .i64 f))
      replace k0 := setCell_other (v := (.int .i64 f)) 6 hcb k0
      replace k1 := setCell_other (v := (.int .i64 f)) 6 hcb k1
      clear hx3 hgx3
      generalize X3.setCell ⟨cb, 6, none⟩ (.int .i64 f) = X4 at *
      try refine lin_late ?_
      repeat
        (refine lin_light (A1 := ?_) rfl rfl rfl rfl rfl (fun w' hS K hK => ?_) ?_ ?_
         rotate_left
         · clear hS; go_step; exact hK
         · rfl)
      have cc := hx4.cell 7
      have ff := frozen_block hx4 7
      simp [cacheCells] at cc
      refine lin_group ?_
      refine lin_heavy rfl rfl (fun K hK => ?_)
      go_step
      refine hK.out _ _ trivial ?_
      clear hK K cc ff
      have hx5 := hx4.set 7 (.bool i) ⟨_, _, _, _, _, i, _, _⟩ rfl
      have hgx5 := grownBy_trans hgx4 (setCell_grown X4 ⟨cb, 7, none⟩ (.bool i))
      replace k0 := setCell_other (v := (.bool i)) 7 hcb k0
      replace k1 := setCell_other (v := (.bool i)) 7 hcb k1
      clear hx4 hgx4
      generalize X4.setCell ⟨cb, 7, none⟩ (.bool i) = X5 at *
      refine lin_end ?_
      go_wp2_with fail
      refine bodyPost_ret (v := .tuple #[.int .i64 a, .int .i64 f, .bool i]) (by simp [results, Try.results20, go_sem]) rfl ?_
      exact ⟨hgx5, fun hn => absurd hn HMISS.out, fun _ => ⟨rfl, hx5⟩⟩
  · obtain rfl : ct = none := hct.resolve_right g1
    simp only [Option.map_none] at c1
    have HMISS := Lib.hid (show ¬ hitC ⟨none, cs, (cn, cy), ca, cf, ci, ch, cm⟩ (some tb) s (n, sy) from fun h => g1 h.1)
    refine wp_region_lin (fun w' => w' = W3.drew) [] (.block 0 (.block 1 (.block 2 (.block 3 (.block 4 (.block 5 (.block 6 (.block 7 (.block 8 (.block 9 (.block 10 (.block 11 (.block 12 (.block 13 (.block 14 (.block 15 (.block 16 (.block 17 (.block 18 (.block 19 (.block 20 (.block 21 (.skip))))))))))))))))))))))) (by kernel_rfl) (by kernel_rfl) (by kernel_rfl) (by kernel_rfl) (by kernel_rfl) rfl ?_
    repeat first
      | (refine lin_light (A1 := ?_) rfl rfl rfl rfl rfl (fun w' hS K hK => ?_) ?_ ?_
         rotate_left
         · obtain rfl := hS; go_step; exact hK
         · rfl)
      | (refine lin_skip rfl rfl ?_; simp only [Act.put, List.setIfInBounds_toArray, List.set_cons_zero, List.set_cons_succ])
    refine lin_end ?_
    clear k0 k1 c1 c2 c3 c4 hq1 hq2 hq3
    have c9 : W3.drew.cell? ⟨cb, 9, none⟩ = some (.int .i64 cm) := h3.cell 9
    have f9 : W3.drew.frozen? ⟨cb, 9, none⟩ = false := frozen_block h3 9
    go_wp2_with fail
    refine (atomic_add W3.drew cb 9 cm c9 f9 hm).mono ?_
    rintro e W5 ⟨rfl, rfl⟩
    have h5 := CacheAt.set (w := W3.drew) h3 9 (.int .i64 (cm + 1)) ⟨_, _, _, _, _, _, _, cm + 1⟩ rfl
    have hg5 : w.grownBy (W3.drew.setCell ⟨cb, 9, none⟩ (.int .i64 (cm + 1))) (some cb) := grownBy_trans (grownBy_of_below hb3.drew _) (setCell_grown W3.drew ⟨cb, 9, none⟩ _)
    have hk5 : (W3.drew.setCell ⟨cb, 9, none⟩ (.int .i64 (cm + 1))).heap[w.heap.size]? = some (.cells #[.string (plainName n sy), .int .i64 (plainSym sy)] 30) := by
      rw [Below.heap_setCell _ _ _ _ hcb.symm]
      exact hk3
    generalize W3.drew.setCell ⟨cb, 9, none⟩ (.int .i64 (cm + 1)) = W5 at *
    clear c9 f9
    have k0 := cell_block hk5 0
    have k1 := cell_block hk5 1
    simp at k0 k1
    simp only
    go_wp2_with fail
    refine (hF W5 (plainName n sy, plainSym sy) hg5 hpp hp).mono ?_
    rintro e W6 ⟨rfl, hb6⟩
    have hk6 := (hb6.block _ (Array.getElem?_eq_some_iff.1 hk5).1).trans hk5
    have h6 := (hb6.block cb (Array.getElem?_eq_some_iff.1 h5).1).trans h5
    have hg6 : w.grownBy W6.drew (some cb) := grownBy_drew (grownBy_trans hg5 (grownBy_of_below hb6 _))
    clear k0 k1
    have k0 : W6.drew.cell? ⟨w.heap.size, 0, none⟩ = some (.string (plainName n sy)) := cell_block hk6 0
    have k1 : W6.drew.cell? ⟨w.heap.size, 1, none⟩ = some (.int .i64 (plainSym sy)) := cell_block hk6 1
    simp only
    go_wp2_with fail
    refine wp_region_lin (fun w' => w'.cell? ⟨w.heap.size, 0, none⟩ = some (.string (plainName n sy)) ∧ w'.cell? ⟨w.heap.size, 1, none⟩ = some (.int .i64 (plainSym sy))) [27, 28, 29] (.block 0 (.block 1 (.block 2 (.block 3 (.block 4 (.block 5 (.block 6 (.block 7 (.block 8 (.block 9 (.block 10 (.block 11 (.block 12 (.block 13 (.scope (.seq (.label 14) (.block 15 (.block 16 (.scope (.seq (.label 17) (.block 18 (.block 19 (.scope (.seq (.label 20) (.block 21 (.block 22 (.scope (.seq (.label 23) (.block 24 (.block 25 (.scope (.seq (.label 26) (.loop (.block 27 (.block 28 (.scope (.seq (.label 29) (.skip)))))))))))))))))))))))))))))))))))))) (by kernel_rfl) (by kernel_rfl) (by kernel_rfl) (by kernel_rfl) (by kernel_rfl) ⟨k0, k1⟩ ?_
    change CacheAt W6.drew cb _ at h6
    clear hk6
    generalize W6.drew = W7 at *
    repeat
      (refine lin_light (A1 := ?_) rfl rfl rfl rfl rfl (fun w' hS K hK => ?_) ?_ ?_
       rotate_left
       · obtain ⟨_, _⟩ := hS; go_step; exact hK
       · rfl)
    have cc := h6.cell 1
    have ff := frozen_block h6 1
    simp [cacheCells] at cc
    refine lin_group ?_
    refine lin_heavy rfl rfl (fun K hK => ?_)
    go_step
    refine hK.out _ _ ⟨(setCell_other 1 hcb k0), (setCell_other 1 hcb k1)⟩ ?_
    clear hK K cc ff
    have hx0 := h6.set 1 (.pointer (some ⟨tb, 0, none⟩)) ⟨some tb, _, _, _, _, _, _, _⟩ rfl
    have hgx0 := grownBy_trans hg6 (setCell_grown W7 ⟨cb, 1, none⟩ (.pointer (some ⟨tb, 0, none⟩)))
    replace k0 := setCell_other (v := (.pointer (some ⟨tb, 0, none⟩))) 1 hcb k0
    replace k1 := setCell_other (v := (.pointer (some ⟨tb, 0, none⟩))) 1 hcb k1
    clear h6 hg6
    generalize W7.setCell ⟨cb, 1, none⟩ (.pointer (some ⟨tb, 0, none⟩)) = X0 at *
    repeat
      (refine lin_light (A1 := ?_) rfl rfl rfl rfl rfl (fun w' hS K hK => ?_) ?_ ?_
       rotate_left
       · obtain ⟨_, _⟩ := hS; go_step; exact hK
       · rfl)
    have cc := hx0.cell 2
    have ff := frozen_block hx0 2
    simp [cacheCells] at cc
    refine lin_group ?_
    refine lin_heavy rfl rfl (fun K hK => ?_)
    go_step
    refine hK.out _ _ ⟨(setCell_other 2 hcb k0), (setCell_other 2 hcb k1)⟩ ?_
    clear hK K cc ff
    have hx1 := hx0.set 2 (.int .i64 s) ⟨_, s, _, _, _, _, _, _⟩ rfl
    have hgx1 := grownBy_trans hgx0 (setCell_grown X0 ⟨cb, 2, none⟩ (.int .i64 s))
    replace k0 := setCell_other (v := (.int .i64 s)) 2 hcb k0
    replace k1 := setCell_other (v := (.int .i64 s)) 2 hcb k1
    clear hx0 hgx0
    generalize X0.setCell ⟨cb, 2, none⟩ (.int .i64 s) = X1 at *
    repeat
      (refine lin_light (A1 := ?_) rfl rfl rfl rfl rfl (fun w' hS K hK => ?_) ?_ ?_
       rotate_left
       · obtain ⟨_, _⟩ := hS; go_step; exact hK
       · rfl)
    have cc := hx1.cell 3
    have cc4 := hx1.cell 4
    have ff := frozen_block hx1 3
    have ff4 := frozen_block hx1 4
    simp [cacheCells] at cc cc4
    refine lin_group ?_
    refine lin_heavy rfl rfl (fun K hK => ?_)
    go_step
    refine hK.out _ _ ⟨setCell_other 4 hcb (setCell_other 3 hcb k0), setCell_other 4 hcb (setCell_other 3 hcb k1)⟩ ?_
    clear hK K cc ff cc4 ff4
    have hx2 := (hx1.set 3 (.string (plainName n sy)) ⟨_, _, (plainName n sy, _), _, _, _, _, _⟩ rfl).set 4 (.int .i64 (plainSym sy)) ⟨_, _, (plainName n sy, plainSym sy), _, _, _, _, _⟩ rfl
    have hgx2 := grownBy_trans (grownBy_trans hgx1 (setCell_grown X1 ⟨cb, 3, none⟩ (.string (plainName n sy)))) (setCell_grown (X1.setCell ⟨cb, 3, none⟩ (.string (plainName n sy))) ⟨cb, 4, none⟩ (.int .i64 (plainSym sy)))
    replace k0 := setCell_other (v := .int .i64 (plainSym sy)) 4 hcb (setCell_other (v := .string (plainName n sy)) 3 hcb k0)
    replace k1 := setCell_other (v := .int .i64 (plainSym sy)) 4 hcb (setCell_other (v := .string (plainName n sy)) 3 hcb k1)
    clear hx1 hgx1
    generalize (X1.setCell ⟨cb, 3, none⟩ (.string (plainName n sy))).setCell ⟨cb, 4, none⟩ (.int .i64 (plainSym sy)) = X2 at *
    repeat
      (refine lin_light (A1 := ?_) rfl rfl rfl rfl rfl (fun w' hS K hK => ?_) ?_ ?_
       rotate_left
       · obtain ⟨_, _⟩ := hS; go_step; exact hK
       · rfl)
    have cc := hx2.cell 5
    have ff := frozen_block hx2 5
    simp [cacheCells] at cc
    refine lin_group ?_
    refine lin_heavy rfl rfl (fun K hK => ?_)
    go_step
    refine hK.out _ _ ⟨(setCell_other 5 hcb k0), (setCell_other 5 hcb k1)⟩ ?_
    clear hK K cc ff
    have hx3 := hx2.set 5 (.int .i64 a) ⟨_, _, _, a, _, _, _, _⟩ rfl
    have hgx3 := grownBy_trans hgx2 (setCell_grown X2 ⟨cb, 5, none⟩ (.int .i64 a))
    replace k0 := setCell_other (v := (.int .i64 a)) 5 hcb k0
    replace k1 := setCell_other (v := (.int .i64 a)) 5 hcb k1
    clear hx2 hgx2
    generalize X2.setCell ⟨cb, 5, none⟩ (.int .i64 a) = X3 at *
    repeat
      (refine lin_light (A1 := ?_) rfl rfl rfl rfl rfl (fun w' hS K hK => ?_) ?_ ?_
       rotate_left
       · obtain ⟨_, _⟩ := hS; go_step; exact hK
       · rfl)
    have cc := hx3.cell 6
    have ff := frozen_block hx3 6
    simp [cacheCells] at cc
    refine lin_group ?_
    refine lin_heavy rfl rfl (fun K hK => ?_)
    go_step
    refine hK.out _ _ ⟨(setCell_other 6 hcb k0), (setCell_other 6 hcb k1)⟩ ?_
    clear hK K cc ff
    have hx4 := hx3.set 6 (.int .i64 f) ⟨_, _, _, _, f, _, _, _⟩ rfl
    have hgx4 := grownBy_trans hgx3 (setCell_grown X3 ⟨cb, 6, none⟩ (.int .i64 f))
    replace k0 := setCell_other (v := (.int .i64 f)) 6 hcb k0
    replace k1 := setCell_other (v := (.int .i64 f)) 6 hcb k1
    clear hx3 hgx3
    generalize X3.setCell ⟨cb, 6, none⟩ (.int .i64 f) = X4 at *
    try refine lin_late ?_
    repeat
      (refine lin_light (A1 := ?_) rfl rfl rfl rfl rfl (fun w' hS K hK => ?_) ?_ ?_
       rotate_left
       · clear hS; go_step; exact hK
       · rfl)
    have cc := hx4.cell 7
    have ff := frozen_block hx4 7
    simp [cacheCells] at cc
    refine lin_group ?_
    refine lin_heavy rfl rfl (fun K hK => ?_)
    go_step
    refine hK.out _ _ trivial ?_
    clear hK K cc ff
    have hx5 := hx4.set 7 (.bool i) ⟨_, _, _, _, _, i, _, _⟩ rfl
    have hgx5 := grownBy_trans hgx4 (setCell_grown X4 ⟨cb, 7, none⟩ (.bool i))
    replace k0 := setCell_other (v := (.bool i)) 7 hcb k0
    replace k1 := setCell_other (v := (.bool i)) 7 hcb k1
    clear hx4 hgx4
    generalize X4.setCell ⟨cb, 7, none⟩ (.bool i) = X5 at *
    refine lin_end ?_
    go_wp2_with fail
    refine bodyPost_ret (v := .tuple #[.int .i64 a, .int .i64 f, .bool i]) (by simp [results, Try.results20, go_sem]) rfl ?_
    exact ⟨hgx5, fun hn => absurd hn HMISS.out, fun _ => ⟨rfl, hx5⟩⟩
end Go.Proofs.Ytopepkcmpogdoaa
