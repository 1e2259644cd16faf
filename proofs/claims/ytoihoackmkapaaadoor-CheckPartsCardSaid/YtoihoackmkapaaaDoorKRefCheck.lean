/- The walk of lintelref12.Check. -/
import Derived.Test.YtoihoackmkapaaaDoorKChkD
namespace Go.Proofs.YtoihoackmkapaaaDoor
open Go.RowKit
set_option maxHeartbeats 8000000
set_option maxRecDepth 100000

section
variable {w : World} {A : Option Addr} {m c : Nat} {fns : List FnT}
theorem refcheck_any (hM : ModIn w w.heap.size A fns) (hlm : fns.length = m) (hm : m ≤ 1000) (hs : ∀ f ∈ fns, Small f) :
    Calls Tryd.prog 10 #[.agg #[.slice A m c]] w fun e w' => e = .returned (.tuple (checkR fns m)) ∧ Below w.heap.size w w' := by
  by_cases hm0 : m = 0
  · subst hm0
    rw [show checkR fns 0 = #[.int .i64 0, .int .i64 0, .int .i64 120] from rfl]
    go_enter Tryd.func10, Tryd.ntmps10
    go_wp2_with fail
    go_ret3
    exact ⟨rfl, (Below.refl _ _).alloc (Nat.le_refl _) _⟩
  have hm0' : ¬ ((m : Int) = 0) := by omega
  obtain ⟨R, hR⟩ : ∃ R, checkR fns m = R := ⟨_, rfl⟩
  rw [hR]
  have hR2 : ansR (chkM (chkF fns m) m 0) = R := by rw [← hR]; exact (if_neg hm0).symm
  obtain ⟨X, hX⟩ : ∃ X, chkM (chkF fns m) (m - 0) 0 = X := ⟨_, rfl⟩
  have hRX : ansR X = R := by rw [← hX]; exact hR2
  have HRX := Lib.hid hRX
  have HX := Lib.hid hX
  have HLM := Lib.hid hlm
  clear hR hR2 hX hRX hlm hm0
  have hbx : (w.alloc (.cells #[.slice A m c] 24)).heap[w.heap.size]? = some (.cells #[.slice A m c] 24 (0, 0)) := heap_alloc_new w _
  have hb00 : Below w.heap.size w (w.alloc (.cells #[.slice A m c] 24)) := (Below.refl _ _).alloc (Nat.le_refl _) _
  have hsz0 : (w.alloc (.cells #[.slice A m c] 24)).heap.size = w.heap.size + 1 := by simp
  obtain ⟨w0, hw0⟩ : ∃ w0, w.alloc (.cells #[.slice A m c] 24) = w0 := ⟨_, rfl⟩
  rw [hw0] at hbx hb00 hsz0
  have m0 := cell_blockK hbx 0
  simp at m0
  go_enter Tryd.func10, Tryd.ntmps10
  go_wp2_with fail
  clear hw0
  go_loopw [15] (fun iv wr => ∃ n : Nat, n ≤ m ∧ iv = .int .i64 n ∧ chkM (chkF fns m) (m - n) n = X ∧ Below w0.heap.size w0 wr)
    (fun iv _ => m - (intOf iv).toNat)
  case atStart => exact ⟨0, Nat.zero_le _, rfl, HX.out, Below.refl _ _⟩
  case round =>
    obtain ⟨n, hn, rfl, hx, hb⟩ := hrel
    have HXN := Lib.hid hx
    clear hx
    have hsb := hb.size
    have hbw : Below w.heap.size w wr := hb00.trans (hb.mono (by omega))
    by_cases hlt : n < m
    · obtain ⟨f, hf⟩ : ∃ f, fns[n]? = some f := ⟨fns[n]'(by have := HLM.out; omega), List.getElem?_eq_getElem _⟩
      have hMr := hM.below hbw hbw.size
      obtain ⟨b, off, rfl, hbl, d0, d1, d2, d3, d4, d5, d6, d7, d8⟩ := hMr.at_ hf
      have hmem := List.mem_of_getElem? hf
      have hsm := hs f hmem
      have m1 := (hb.cell (World.block_lt_of_cell? _ _ m0)).trans m0
      have HCF := Lib.hid (chkF_at (m := m) hf)
      have hbf2 : (wr.alloc (.cells #[.string f.name, .int .i64 f.params, .bool f.rest, .bool f.arrow, .int .i64 f.regs, .slice f.cA f.consts.length f.cC, .slice f.kA f.code.length f.kC, .slice f.tA f.tries.length f.tC, .slice f.uA f.caps.length f.uC] 38)).heap[wr.heap.size]? = some (.cells #[.string f.name, .int .i64 f.params, .bool f.rest, .bool f.arrow, .int .i64 f.regs, .slice f.cA f.consts.length f.cC, .slice f.kA f.code.length f.kC, .slice f.tA f.tries.length f.tC, .slice f.uA f.caps.length f.uC] 38 (0, 0)) := heap_alloc_new wr _
      have hbW : Below w0.heap.size w0 (wr.alloc (.cells #[.string f.name, .int .i64 f.params, .bool f.rest, .bool f.arrow, .int .i64 f.regs, .slice f.cA f.consts.length f.cC, .slice f.kA f.code.length f.kC, .slice f.tA f.tries.length f.tC, .slice f.uA f.caps.length f.uC] 38)) := hb.alloc hb.size _
      have hsW : (wr.alloc (.cells #[.string f.name, .int .i64 f.params, .bool f.rest, .bool f.arrow, .int .i64 f.regs, .slice f.cA f.consts.length f.cC, .slice f.kA f.code.length f.kC, .slice f.tA f.tries.length f.tC, .slice f.uA f.caps.length f.uC] 38)).heap.size = wr.heap.size + 1 := by simp
      obtain ⟨W, hW⟩ : ∃ W, wr.alloc (.cells #[.string f.name, .int .i64 f.params, .bool f.rest, .bool f.arrow, .int .i64 f.regs, .slice f.cA f.consts.length f.cC, .slice f.kA f.code.length f.kC, .slice f.tA f.tries.length f.tC, .slice f.uA f.caps.length f.uC] 38) = W := ⟨_, rfl⟩
      rw [hW] at hbf2 hbW hsW
      have f0 := cell_blockK hbf2 0
      have f1 := cell_blockK hbf2 1
      have f2 := cell_blockK hbf2 2
      have f3 := cell_blockK hbf2 3
      have f4 := cell_blockK hbf2 4
      have f5 := cell_blockK hbf2 5
      have f6 := cell_blockK hbf2 6
      have f7 := cell_blockK hbf2 7
      have f8 := cell_blockK hbf2 8
      simp at f0 f1 f2 f3 f4 f5 f6 f7 f8
      have hbz : Below w.heap.size w W := hb00.trans (hbW.mono (by omega))
      have hFW := (hMr.each f hmem).below (w' := W) (B' := W.heap.size) (by rw [← hW]; exact (Below.refl _ _).alloc (Nat.le_refl _) _) (by omega)
      have hMW := hM.below hbz hbz.size
      have m2 := (hbW.cell (World.block_lt_of_cell? _ _ m0)).trans m0
      obtain ⟨nk, hnk⟩ : ∃ x, f.code.length = x := ⟨_, rfl⟩
      have hnkb : nk ≤ 1000 := by rw [← hnk]; exact hsm.k
      have HNK := Lib.hid hnk
      rw [hnk] at f6
      clear hnk
      go_wp2_with fail
      refine (refhead_any hMW hf HLM.out hm hsm.u hsm.c).mono ?_
      rintro e w2 ⟨rfl, b2⟩
      have hb2w := hbz.trans (b2.mono hbz.size)
      clear hW
      cases hh : headB n f with
      | false =>
        have hfin : R = #[.int .i64 n, .int .i64 0, .int .i64 120] := by rw [← HRX.out, ← HXN.out, chkM_bad _ hlt (by rw [HCF.out]; exact chkFn_head hh)]; rfl
        subst hfin
        simp only
        go_wp2_with fail
        go_ret3
        exact ⟨rfl, hb2w⟩
      | true =>
        have g6 := (b2.cell (World.block_lt_of_cell? _ _ f6)).trans f6
        simp only
        go_wp2_with fail
        obtain ⟨Y, hY⟩ : ∃ Y, bad (insK fns m f) (nk - 0) 0 = Y := ⟨_, rfl⟩
        have HY := Lib.hid hY
        clear hY
        go_loopw [28] (fun iv wq => ∃ k : Nat, k ≤ nk ∧ iv = .int .i64 k ∧ bad (insK fns m f) (nk - k) k = Y ∧ Below W.heap.size W wq)
          (fun iv _ => nk - (intOf iv).toNat)
        case atStart => exact ⟨0, Nat.zero_le _, rfl, HY.out, b2⟩
        case round =>
          obtain ⟨k, hk, rfl, hbad, hbq⟩ := hrel
          have HBAD := Lib.hid hbad
          clear hbad
          have hbqw : Below w.heap.size w wr := hbz.trans (hbq.mono hbz.size)
          have h0 := (hbq.cell (World.block_lt_of_cell? _ _ f0)).trans f0
          have h1 := (hbq.cell (World.block_lt_of_cell? _ _ f1)).trans f1
          have h2 := (hbq.cell (World.block_lt_of_cell? _ _ f2)).trans f2
          have h3 := (hbq.cell (World.block_lt_of_cell? _ _ f3)).trans f3
          have h4 := (hbq.cell (World.block_lt_of_cell? _ _ f4)).trans f4
          have h5 := (hbq.cell (World.block_lt_of_cell? _ _ f5)).trans f5
          have h6 := (hbq.cell (World.block_lt_of_cell? _ _ f6)).trans f6
          have h7 := (hbq.cell (World.block_lt_of_cell? _ _ f7)).trans f7
          have h8 := (hbq.cell (World.block_lt_of_cell? _ _ f8)).trans f8
          have hm2 := (hbq.cell (World.block_lt_of_cell? _ _ m2)).trans m2
          have hFq := hFW.below hbq hbq.size
          by_cases hlk : k < nk
          · obtain ⟨i, hi⟩ : ∃ i, f.code[k]? = some i := ⟨f.code[k]'(by have := HNK.out; omega), List.getElem?_eq_getElem _⟩
            have HST := Lib.hid (bad_step (insK fns m f) hlk)
            have HIK := Lib.hid (insK_at (fns := fns) (m := m) hi)
            have hMq := hMW.below hbq hbq.size
            go_wp2_with fail
            have hins := refins_any (c := c) hMq HLM.out hFq hi hm hsm.k hsm.u (fun g hg => (hs g hg).u)
            rw [insD_eq] at hins
            simp only [fnC, HNK.out] at hins
            refine hins.mono ?_
            rintro e w3 ⟨rfl, b3⟩
            cases hres : insB fns m f k i with
            | true =>
              have hb3 : Below W.heap.size W w3 := hbq.trans (b3.mono hbq.size)
              simp only
              go_wp2_with fail
              go_roundw
              case rel =>
                have hR3 : bad (insK fns m f) (nk - (k + 1)) (k + 1) = Y := by rw [← HBAD.out, HST.out, HIK.out, hres]; rfl
                exact ⟨k + 1, by omega, by go_num, hR3, hb3⟩
              case measure => simp [intOf]; omega
            | false =>
              have hY1 : Y = some k := by rw [← HBAD.out, HST.out, HIK.out, hres]; rfl
              have hbd : bad (insK fns m f) f.code.length 0 = some k := by rw [HNK.out]; exact HY.out.trans hY1
              have hfin : R = #[.int .i64 n, .int .i64 k, .int .i64 120] := by rw [← HRX.out, ← HXN.out, chkM_bad _ hlt (by rw [HCF.out]; exact chkFn_ins hh hbd)]; rfl
              subst hfin
              clear hY1 hbd
              simp only
              go_wp2_with fail
              go_ret3
              exact ⟨rfl, hbqw.trans (b3.mono hbqw.size)⟩
          · have hY1 : Y = none := by rw [← HBAD.out, bad_end _ (by omega)]
            have hbd : bad (insK fns m f) f.code.length 0 = none := by rw [HNK.out]; exact HY.out.trans hY1
            have HBD := Lib.hid hbd
            clear hY1 hbd
            go_wp2_with fail
            have htri := reftries_any hFq hsm.t
            simp only [fnC, HNK.out] at htri
            refine htri.mono ?_
            rintro e w3 ⟨rfl, b3⟩
            have hb3 : Below W.heap.size W w3 := hbq.trans (b3.mono hbq.size)
            cases hres : triesB f with
            | true =>
              simp only
              go_wp2_with fail
              go_roundw
              case rel =>
                have hR3 : chkM (chkF fns m) (m - (n + 1)) (n + 1) = X := by rw [← HXN.out, chkM_ok _ hlt (by rw [HCF.out]; exact chkFn_ok hh HBD.out hres)]
                have hb4 : Below w0.heap.size w0 w3 := hbW.trans (hb3.mono hbW.size)
                first | exact ⟨n + 1, by omega, by go_num, hR3, hb4⟩ | ((repeat apply Exists.intro); exact ⟨⟨n + 1, by omega, by go_num, hR3, hb4⟩, rfl⟩)
              case measure => simp [intOf]; omega
            | false =>
              have hfin : R = #[.int .i64 n, .int .i64 nk, .int .i64 120] := by rw [← HRX.out, ← HXN.out, chkM_bad _ hlt (by rw [HCF.out]; exact chkFn_tries hh HBD.out hres), HNK.out]; rfl
              subst hfin
              have j6 := (hb3.cell (World.block_lt_of_cell? _ _ f6)).trans f6
              simp only
              go_wp2_with fail
              refine wp_region_lin (fun w' => w' = w3.drew) [6] (.block 0 (.block 1 (.block 2 (.block 3 (.block 4 (.block 5 (.loop (.block 6 (.skip))))))))) (by kernel_rfl) (by kernel_rfl) (by kernel_rfl) (by kernel_rfl) (by kernel_rfl) rfl ?_
              repeat
                (refine lin_light (A1 := ?_) rfl rfl rfl rfl rfl (fun w' hS K hK => ?_) ?_ ?_
                 rotate_left
                 · obtain rfl := hS; go_step; exact hK
                 · rfl)
              try refine lin_late ?_
              repeat
                (refine lin_light (A1 := ?_) rfl rfl rfl rfl rfl (fun w' hS K hK => ?_) ?_ ?_
                 rotate_left
                 · clear hS; go_step; exact hK
                 · rfl)
              refine lin_end ?_
              go_wp2_with fail
              go_ret3
              exact ⟨rfl, (hbqw.trans (b3.mono hbqw.size)).drew⟩
    · have hfin : R = #[.int .i64 0, .int .i64 0, .int .i64 0] := by rw [← HRX.out, ← HXN.out, chkM_end _ (by omega)]; rfl
      subst hfin
      go_wp2_with fail
      go_ret3
      exact ⟨rfl, hbw⟩
end
end Go.Proofs.YtoihoackmkapaaaDoor
