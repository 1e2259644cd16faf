/- The walk of check.Check at lengths of any size. -/
import Derived.Test.YtoihoackmkapaaaDoorGChkD
import Derived.Test.YtoihoackmkapaaaDoorGInsW
import Derived.Test.YtoihoackmkapaaaDoorGTries
import Derived.WalkMore
namespace Go.Proofs.YtoihoackmkapaaaDoor.G
open Go.RowKit
set_option maxHeartbeats 8000000
set_option maxRecDepth 100000
section
variable {w : World} {A : Option Addr} {m c : Nat} {fns : List FnT}
theorem check_any (hM : ModIn w w.heap.size A fns) (hlm : fns.length = m) (hT : Tb w) (hm : m ≤ 9223372036854775807) (hs : ∀ f ∈ fns, Small f) :
    Calls Tryd.prog 9 #[.agg #[.slice A m c]] w fun e w' => e = .returned (.tuple (checkR fns m)) ∧ Below w.heap.size w w' := by
  by_cases hm0 : m = 0
  · subst hm0
    rw [show checkR fns 0 = #[.int .i64 0, .int .i64 0, .int .i64 120] from rfl]
    go_enter Tryd.func9, Tryd.ntmps9
    go_wp2_with fail
    go_step3
    go_wp2_with fail
    try simp only [Exit.noGoto_ret]
    go_ret3
    exact ⟨rfl, (Below.refl _ _).alloc (Nat.le_refl _) _⟩
  have hm0' : ¬ ((m : Int) = 0) := by omega
  obtain ⟨R, hR⟩ : ∃ R, checkR fns m = R := ⟨_, rfl⟩
  rw [hR]
  have hR2 : ansR (chkM (chkF fns m) m 0) = R := by rw [← hR]; exact (if_neg hm0).symm
  obtain ⟨X, hX⟩ : ∃ X, chkM (chkF fns m) (m - 0) 0 = X := ⟨_, rfl⟩
  have hRX : ansR X = R := by rw [← hX]; exact hR2
  have HRX := Lib.hid hRX
  have HX := Lib.hid hX
  have HLM := Lib.hid hlm
  clear hR hR2 hX hRX hlm hm0
  have hbx : (w.alloc (.cells #[.slice A m c] 24)).heap[w.heap.size]? = some (.cells #[.slice A m c] 24 (0, 0)) := heap_alloc_new w _
  have hb00 : Below w.heap.size w (w.alloc (.cells #[.slice A m c] 24)) := (Below.refl _ _).alloc (Nat.le_refl _) _
  have hsz0 : w.heap.size + 1 ≤ (w.alloc (.cells #[.slice A m c] 24)).heap.size := by simp
  obtain ⟨w0, hw0⟩ : ∃ w0, w.alloc (.cells #[.slice A m c] 24) = w0 := ⟨_, rfl⟩
  rw [hw0] at hbx hb00 hsz0
  have m0 := cell_blockK hbx 0
  simp at m0
  go_enter Tryd.func9, Tryd.ntmps9
  go_wp2_with fail
  go_step3
  go_wp2_with fail
  refine (kinds_any _).mono ?_
  rintro e w1 ⟨rfl, hKi, b1⟩
  have hmb : w0.heap.size < w1.heap.size := hKi.lt
  have n0 := (b1.cell (World.block_lt_of_cell? _ _ m0)).trans m0
  clear hw0
  have b01 := hb00.trans (b1.mono (by omega))
  simp only
  go_wp2_with fail
  go_step3
  go_wp2_with fail
  go_loopw [8, 21] (fun bv iv wr => ∃ n : Nat, n ≤ m ∧ bv = .bool false ∧ iv = .int .i64 n ∧ chkM (chkF fns m) (m - n) n = X ∧ Below w1.heap.size w1 wr)
    (fun _ iv _ => m - (intOf iv).toNat)
  case atStart => exact ⟨0, Nat.zero_le _, rfl, rfl, HX.out, Below.refl _ _⟩
  case round =>
    obtain ⟨n, hn, rfl, rfl, hx, hb⟩ := hrel
    have HXN := Lib.hid hx
    clear hx
    have hsb := hb.size
    have hbw : Below w.heap.size w wr := b01.trans (hb.mono b01.size)
    by_cases hlt : n < m
    · obtain ⟨f, hf⟩ : ∃ f, fns[n]? = some f := ⟨fns[n]'(by have := HLM.out; omega), List.getElem?_eq_getElem _⟩
      have hMr := hM.below hbw hbw.size
      obtain ⟨b, off, rfl, hbl, d0, d1, d2, d3, d4, d5, d6, d7, d8⟩ := hMr.at_ hf
      have hmem := List.mem_of_getElem? hf
      have hsm := hs f hmem
      have m1 := (hb.cell (World.block_lt_of_cell? _ _ n0)).trans n0
      have HCF := Lib.hid (chkF_at (m := m) hf)
      have mA : (wr.alloc (.cells #[.string f.name, .int .i64 f.params, .bool f.rest, .bool f.arrow, .int .i64 f.regs, .slice f.cA f.consts.length f.cC, .slice f.kA f.code.length f.kC, .slice f.tA f.tries.length f.tC, .slice f.uA f.caps.length f.uC] 38)).cell? ⟨w.heap.size, 0, none⟩ = some (.slice (some ⟨b, off, none⟩) m c) := (World.cell?_alloc_lt wr _ _ (World.block_lt_of_cell? _ _ m1)).trans m1
      have hs1 : (wr.alloc (.cells #[.string f.name, .int .i64 f.params, .bool f.rest, .bool f.arrow, .int .i64 f.regs, .slice f.cA f.consts.length f.cC, .slice f.kA f.code.length f.kC, .slice f.tA f.tries.length f.tC, .slice f.uA f.caps.length f.uC] 38)).heap.size = wr.heap.size + 1 := by simp
      have hbf : (wr.alloc (.cells #[.string f.name, .int .i64 f.params, .bool f.rest, .bool f.arrow, .int .i64 f.regs, .slice f.cA f.consts.length f.cC, .slice f.kA f.code.length f.kC, .slice f.tA f.tries.length f.tC, .slice f.uA f.caps.length f.uC] 38)).heap[wr.heap.size]? = some (.cells #[.string f.name, .int .i64 f.params, .bool f.rest, .bool f.arrow, .int .i64 f.regs, .slice f.cA f.consts.length f.cC, .slice f.kA f.code.length f.kC, .slice f.tA f.tries.length f.tC, .slice f.uA f.caps.length f.uC] 38 (0, 0)) := heap_alloc_new wr _
      have hbk : ((wr.alloc (.cells #[.string f.name, .int .i64 f.params, .bool f.rest, .bool f.arrow, .int .i64 f.regs, .slice f.cA f.consts.length f.cC, .slice f.kA f.code.length f.kC, .slice f.tA f.tries.length f.tC, .slice f.uA f.caps.length f.uC] 38)).alloc (.cells #[.slice (some ⟨b, off, none⟩) m c, .int .i64 n, .string f.name, .int .i64 f.params, .bool f.rest, .bool f.arrow, .int .i64 f.regs, .slice f.cA f.consts.length f.cC, .slice f.kA f.code.length f.kC, .slice f.tA f.tries.length f.tC, .slice f.uA f.caps.length f.uC] 57)).heap[wr.heap.size + 1]? = some (.cells #[.slice (some ⟨b, off, none⟩) m c, .int .i64 n, .string f.name, .int .i64 f.params, .bool f.rest, .bool f.arrow, .int .i64 f.regs, .slice f.cA f.consts.length f.cC, .slice f.kA f.code.length f.kC, .slice f.tA f.tries.length f.tC, .slice f.uA f.caps.length f.uC] 57 (0, 0)) := by rw [← hs1]; exact heap_alloc_new _ _
      have hbf2 : ((wr.alloc (.cells #[.string f.name, .int .i64 f.params, .bool f.rest, .bool f.arrow, .int .i64 f.regs, .slice f.cA f.consts.length f.cC, .slice f.kA f.code.length f.kC, .slice f.tA f.tries.length f.tC, .slice f.uA f.caps.length f.uC] 38)).alloc (.cells #[.slice (some ⟨b, off, none⟩) m c, .int .i64 n, .string f.name, .int .i64 f.params, .bool f.rest, .bool f.arrow, .int .i64 f.regs, .slice f.cA f.consts.length f.cC, .slice f.kA f.code.length f.kC, .slice f.tA f.tries.length f.tC, .slice f.uA f.caps.length f.uC] 57)).heap[wr.heap.size]? = some (.cells #[.string f.name, .int .i64 f.params, .bool f.rest, .bool f.arrow, .int .i64 f.regs, .slice f.cA f.consts.length f.cC, .slice f.kA f.code.length f.kC, .slice f.tA f.tries.length f.tC, .slice f.uA f.caps.length f.uC] 38 (0, 0)) := by rw [Lib.alloc_old _ _ _ (by simp)]; exact hbf
      have hbW : Below w1.heap.size w1 ((wr.alloc (.cells #[.string f.name, .int .i64 f.params, .bool f.rest, .bool f.arrow, .int .i64 f.regs, .slice f.cA f.consts.length f.cC, .slice f.kA f.code.length f.kC, .slice f.tA f.tries.length f.tC, .slice f.uA f.caps.length f.uC] 38)).alloc (.cells #[.slice (some ⟨b, off, none⟩) m c, .int .i64 n, .string f.name, .int .i64 f.params, .bool f.rest, .bool f.arrow, .int .i64 f.regs, .slice f.cA f.consts.length f.cC, .slice f.kA f.code.length f.kC, .slice f.tA f.tries.length f.tC, .slice f.uA f.caps.length f.uC] 57)) := (hb.alloc hb.size _).alloc (by simp; omega) _
      have hsW : wr.heap.size + 2 ≤ ((wr.alloc (.cells #[.string f.name, .int .i64 f.params, .bool f.rest, .bool f.arrow, .int .i64 f.regs, .slice f.cA f.consts.length f.cC, .slice f.kA f.code.length f.kC, .slice f.tA f.tries.length f.tC, .slice f.uA f.caps.length f.uC] 38)).alloc (.cells #[.slice (some ⟨b, off, none⟩) m c, .int .i64 n, .string f.name, .int .i64 f.params, .bool f.rest, .bool f.arrow, .int .i64 f.regs, .slice f.cA f.consts.length f.cC, .slice f.kA f.code.length f.kC, .slice f.tA f.tries.length f.tC, .slice f.uA f.caps.length f.uC] 57)).heap.size := by simp
      obtain ⟨W, hW⟩ : ∃ W, (wr.alloc (.cells #[.string f.name, .int .i64 f.params, .bool f.rest, .bool f.arrow, .int .i64 f.regs, .slice f.cA f.consts.length f.cC, .slice f.kA f.code.length f.kC, .slice f.tA f.tries.length f.tC, .slice f.uA f.caps.length f.uC] 38)).alloc (.cells #[.slice (some ⟨b, off, none⟩) m c, .int .i64 n, .string f.name, .int .i64 f.params, .bool f.rest, .bool f.arrow, .int .i64 f.regs, .slice f.cA f.consts.length f.cC, .slice f.kA f.code.length f.kC, .slice f.tA f.tries.length f.tC, .slice f.uA f.caps.length f.uC] 57) = W := ⟨_, rfl⟩
      rw [hW] at hbk hbf2 hbW hsW
      have hCW : Chk W (wr.heap.size + 1) (some ⟨b, off, none⟩) m c (n : Nat) f := hbk
      have f6 := cell_blockK hbf2 6
      simp at f6
      have hbz : Below w.heap.size w W := b01.trans (hbW.mono b01.size)
      have hFW := (hMr.each f hmem).below (w' := W) (B' := W.heap.size) (by rw [← hW]; exact ((Below.refl _ _).alloc (Nat.le_refl _) _).alloc (by simp) _) (by omega)
      have hMW := hM.below hbz hbz.size
      have hKW := hKi.below hbW hmb
      have hTW : Tb W := hT.below hbz (Nat.le_refl _)
      obtain ⟨nk, hnk⟩ : ∃ x, f.code.length = x := ⟨_, rfl⟩
      have hnkb : nk ≤ 9223372036854775807 := by rw [← hnk]; exact hsm.k
      have HNK := Lib.hid hnk
      have f6' : W.cell? ⟨wr.heap.size, 6, none⟩ = some (.slice f.kA nk f.kC) := by rw [← hnk]; exact f6
      clear hs1 hbf hbk f6 hnk
      go_wp2_with fail
      refine (head_any hCW hFW hm hsm.u hsm.c).mono ?_
      rintro e w2 ⟨rfl, b2⟩
      have hb2w := hbz.trans (b2.mono hbz.size)
      clear hW
      cases hh : headB m n f with
      | false =>
        have hfin : R = #[.int .i64 n, .int .i64 0, .int .i64 120] := by rw [← HRX.out, ← HXN.out, chkM_bad _ hlt (by rw [HCF.out]; exact chkFn_head hh)]; rfl
        subst hfin
        simp only
        go_wp2_with fail
        try simp only [Exit.noGoto_ret]
        go_ret3
        exact ⟨rfl, hb2w⟩
      | true =>
        have g6 := (b2.cell (World.block_lt_of_cell? _ _ f6')).trans f6'
        simp only
        go_wp2_with fail
        obtain ⟨Y, hY⟩ : ∃ Y, bad (insK fns m f) (nk - 0) 0 = Y := ⟨_, rfl⟩
        have HY := Lib.hid hY
        clear hY
        go_loopw [38] (fun iv wq => ∃ k : Nat, k ≤ nk ∧ iv = .int .i64 k ∧ bad (insK fns m f) (nk - k) k = Y ∧ Below W.heap.size W wq)
          (fun iv _ => nk - (intOf iv).toNat)
        case atStart => exact ⟨0, Nat.zero_le _, rfl, HY.out, b2⟩
        case round =>
          obtain ⟨k, hk, rfl, hbad, hbq⟩ := hrel
          have HBAD := Lib.hid hbad
          clear hbad
          have hbqw : Below w.heap.size w wr := hbz.trans (hbq.mono hbz.size)
          have h6 := (hbq.cell (World.block_lt_of_cell? _ _ f6')).trans f6'
          have hCq := hCW.below hbq (Nat.le_refl _)
          have hFq := hFW.below hbq hbq.size
          by_cases hlk : k < nk
          · obtain ⟨i, hi⟩ : ∃ i, f.code[k]? = some i := ⟨f.code[k]'(by have := HNK.out; omega), List.getElem?_eq_getElem _⟩
            have HST := Lib.hid (bad_step (insK fns m f) hlk)
            have HIK := Lib.hid (insK_at (fns := fns) (m := m) hi)
            have hMq := hMW.below hbq hbq.size
            have hKq := hKW.below hbq (by have := hKW.lt; omega)
            have hTq := hTW.below hbq (Nat.le_refl _)
            go_wp2_with fail
            refine (ins_any hCq hMq HLM.out hFq hKq hTq hi hm hsm.k (fun g hg => (hs g hg).u)).mono ?_
            rintro e w3 ⟨rfl, b3⟩
            cases hres : insB fns m f k i with
            | true =>
              have hb3 : Below W.heap.size W w3 := hbq.trans (b3.mono hbq.size)
              simp only
              go_wp2_with fail
              go_roundw
              case rel =>
                have hR3 : bad (insK fns m f) (nk - (k + 1)) (k + 1) = Y := by rw [← HBAD.out, HST.out, HIK.out, hres]; rfl
                first | exact ⟨k + 1, by omega, by go_num, hR3, hb3⟩ | ((repeat apply Exists.intro); exact ⟨⟨k + 1, by omega, by go_num, hR3, hb3⟩, rfl⟩)
              case measure => simp [intOf]; omega
            | false =>
              have hY1 : Y = some k := by rw [← HBAD.out, HST.out, HIK.out, hres]; rfl
              have hbd : bad (insK fns m f) f.code.length 0 = some k := by rw [HNK.out]; exact HY.out.trans hY1
              have hfin : R = #[.int .i64 n, .int .i64 k, .int .i64 120] := by rw [← HRX.out, ← HXN.out, chkM_bad _ hlt (by rw [HCF.out]; exact chkFn_ins hh hbd)]; rfl
              subst hfin
              clear hY1 hbd
              simp only
              go_wp2_with fail
              try simp only [Exit.noGoto_ret]
              go_ret3
              exact ⟨rfl, hbqw.trans (b3.mono hbqw.size)⟩
          · have hY1 : Y = none := by rw [← HBAD.out, bad_end _ (by omega)]
            have hbd : bad (insK fns m f) f.code.length 0 = none := by rw [HNK.out]; exact HY.out.trans hY1
            have HBD := Lib.hid hbd
            clear hY1 hbd
            go_wp2_with fail
            refine (tries_any hCq hFq hsm.t).mono ?_
            rintro e w3 ⟨rfl, b3⟩
            have hb3 : Below W.heap.size W w3 := hbq.trans (b3.mono hbq.size)
            cases hres : triesB f with
            | true =>
              simp only
              go_wp2_with fail
              go_roundw
              case rel =>
                have hR3 : chkM (chkF fns m) (m - (n + 1)) (n + 1) = X := by rw [← HXN.out, chkM_ok _ hlt (by rw [HCF.out]; exact chkFn_ok hh HBD.out hres)]
                have hb4 : Below w1.heap.size w1 w3 := hbW.trans (hb3.mono hbW.size)
                first | exact ⟨n + 1, by omega, rfl, by go_num, hR3, hb4⟩ | exact ⟨n + 1, by omega, trivial, by go_num, hR3, hb4⟩ | ((repeat apply Exists.intro); exact ⟨⟨n + 1, by omega, rfl, by go_num, hR3, hb4⟩, rfl⟩)
              case measure => simp [intOf]; omega
            | false =>
              have hfin : R = #[.int .i64 n, .int .i64 nk, .int .i64 120] := by rw [← HRX.out, ← HXN.out, chkM_bad _ hlt (by rw [HCF.out]; exact chkFn_tries hh HBD.out hres), HNK.out]; rfl
              subst hfin
              simp only
              go_wp2_with fail
              try simp only [Exit.noGoto_ret]
              go_ret3
              exact ⟨rfl, hbqw.trans (b3.mono hbqw.size)⟩
    · have hfin : R = #[.int .i64 0, .int .i64 0, .int .i64 0] := by rw [← HRX.out, ← HXN.out, chkM_end _ (by omega)]; rfl
      subst hfin
      go_wp2_with fail
      try simp only [Exit.noGoto_ret]
      go_ret3
      exact ⟨rfl, hbw⟩
end
end Go.Proofs.YtoihoackmkapaaaDoor.G
