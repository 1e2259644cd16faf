/- The walk of CheckGuards. -/
import Derived.Test.YtoihoackmkapaaaDoorKLaw
import Derived.Test.YtoihoackmkapaaaDoorKTgt
namespace Go.Proofs.YtoihoackmkapaaaDoor
open Go.RowKit
set_option maxHeartbeats 4000000
set_option maxRecDepth 100000
attribute [local go_sem] Oper.semAt_some

theorem letter_cases {b : UInt8} (h : isLetter b = true) : b = 114 ∨ b = 107 ∨ b = 115 ∨ b = 116 ∨ b = 102 ∨ b = 117 ∨ b = 110 := by
  unfold isLetter at h
  simp only [Bool.or_eq_true, beq_iff_eq] at h
  rcases h with (((((h | h) | h) | h) | h) | h) | h <;> simp [h]
theorem args_cellG {w : World} {b : Nat} {i : InsT} (h : w.heap[b]? = some (.cells #[.int .i64 i.2.1, .int .i64 i.2.2.1, .int .i64 i.2.2.2.1, .int .i64 i.2.2.2.2] 3 (0, 0))) {p : Nat} (hp : p < 4) : w.cell? ⟨b, p, none⟩ = some (.int .i64 (argAt i p)) := by
  rw [cell_blockK h]
  obtain rfl | rfl | rfl | rfl : p = 0 ∨ p = 1 ∨ p = 2 ∨ p = 3 := by omega
  all_goals rfl

theorem guards_any {W : World} {A : Option Addr} {c n : Nat} {fns : List FnT} (hM : ModIn W W.heap.size A fns) (hn : fns.length = n) (hT : Tb W) (hs : fewN fns ≤ 1048576) :
    Calls Tryd.prog 5 #[.agg #[.slice A n c]] W fun e W' => e = .returned (.bool true) ∧ Below W.heap.size W W' := by
  have Hn := Lib.hid hn
  have hb0 : Below W.heap.size W (W.alloc (.cells #[.slice A n c] 24)) := (Below.refl _ _).alloc (Nat.le_refl _) _
  have hz0 : (W.alloc (.cells #[.slice A n c] 24)).heap[W.heap.size]? = some (.cells #[.slice A n c] 24 (0, 0)) := heap_alloc_new W _
  obtain ⟨w0, hw0⟩ : ∃ w0, W.alloc (.cells #[.slice A n c] 24) = w0 := ⟨_, rfl⟩
  rw [hw0] at hb0 hz0
  have l0 := (Array.getElem?_eq_some_iff.1 hz0).1
  clear hn
  go_enter Tryd.func5, Tryd.ntmps5
  go_wp2_with fail
  refine (awake_any _ (hT.below hb0 (Nat.le_refl _))).mono ?_
  rintro e w1 ⟨rfl, b1⟩
  clear hw0
  have hz1 := (b1.block _ l0).trans hz0
  have hb1 := hb0.trans (b1.mono hb0.size)
  have c1 := cell_blockK hz1 0
  have s1 := b1.size
  simp at c1
  simp only
  go_wp2_with fail
  refine (few_any (hM.below hb1 hb1.size) Hn.out hs).mono ?_
  rintro e w2 ⟨rfl, b2⟩
  have hz2 := (b2.block W.heap.size (by omega)).trans hz1
  have hb2 := hb1.trans (b2.mono hb1.size)
  have c2 := cell_blockK hz2 0
  have s2 := b2.size
  simp at c2
  clear c1 b1
  by_cases hf : fewN fns ≤ 1000
  · obtain ⟨hlen, hsm⟩ := few_len hf
    rw [Hn.out] at hlen
    rw [decide_eq_true hf]
    obtain ⟨x, y, z, hc, hz⟩ := checkR_three fns n
    clear hf hs
    simp only
    go_wp2_with fail
    refine (check_any (hM.below hb2 hb2.size) Hn.out (hT.below hb2 (Nat.le_refl _)) hlen hsm).mono ?_
    rintro e w3 ⟨rfl, b3⟩
    have hz3 := (b3.block W.heap.size (by omega)).trans hz2
    have hb3 := hb2.trans (b3.mono hb2.size)
    have c3 := cell_blockK hz3 0
    have s3 := b3.size
    simp at c3
    clear c2 b2 hb1 hb2 hz1 hz2 hz0 hb0
    rw [hc]
    rcases hz with rfl | rfl
    · have hO := (checkR_ok Hn.out hc).2
      have l3 : W.heap.size < w3.heap.size := by omega
      clear hc b3 s1 s2 s3 l0
      simp only
      go_wp2_with fail
      go_loopw [30] (fun i wr => ∃ k : Nat, k ≤ n ∧ i = .int .i64 k ∧ Below w3.heap.size w3 wr) (fun i _ => n - (intOf i).toNat)
      case atStart => exact ⟨0, Nat.zero_le _, rfl, Below.refl _ _⟩
      case round =>
        obtain ⟨k, hk, rfl, hb⟩ := hrel
        obtain ⟨wf, rfl⟩ : ∃ wf, wf = wr := ⟨_, rfl⟩
        have hbW : Below W.heap.size W wf := hb3.trans (hb.mono (by omega))
        have k0 := (hb.block W.heap.size l3).trans hz3
        have hbs := hb.size
        by_cases hlt : k < n
        · obtain ⟨f, hf⟩ : ∃ f, fns[k]? = some f := ⟨fns[k]'(by have := Hn.out; omega), List.getElem?_eq_getElem _⟩
          have hOF := hO k f hf
          have hMw := hM.below hbW hbW.size
          have hF := hMw.each f (List.mem_of_getElem? hf)
          have hS := hsm f (List.mem_of_getElem? hf)
          obtain ⟨fb, off, rfl, hbl, d0, d1, d2, d3, d4, d5, d6, d7, d8⟩ := hMw.at_ hf
          obtain ⟨hg1, hg2, hg3⟩ := hOF.code
          obtain ⟨N, hN⟩ : ∃ N, f.code.length = N + 1 := ⟨f.code.length - 1, by omega⟩
          obtain ⟨i, hi⟩ : ∃ i, f.code[N]? = some i := ⟨f.code[N]'(by omega), List.getElem?_eq_getElem _⟩
          have he := hg3 i (by rw [hN]; exact hi)
          have hNs : N ≤ 1000 := by have := hS.k; omega
          have hN0 : ((N : Int) + 1 == 0) = false := by rw [beq_eq_false_iff_ne]; omega
          have hcs := hS.c
          have hus := hS.u
          obtain ⟨ib, ioff, hA, hbl2, i0, i1, i2, i3, i4⟩ := hF.kr.ins hi
          rw [hN, hA] at d6
          have ha : Below wf.heap.size wf (wf.alloc (.cells #[.string f.name, .int .i64 f.params, .bool f.rest, .bool f.arrow, .int .i64 f.regs, .slice f.cA f.consts.length f.cC, .slice (some ⟨ib, ioff, none⟩) (N + 1) f.kC, .slice f.tA f.tries.length f.tC, .slice f.uA f.caps.length f.uC] 38)) := (Below.refl _ _).alloc (Nat.le_refl _) _
          have hza : (wf.alloc (.cells #[.string f.name, .int .i64 f.params, .bool f.rest, .bool f.arrow, .int .i64 f.regs, .slice f.cA f.consts.length f.cC, .slice (some ⟨ib, ioff, none⟩) (N + 1) f.kC, .slice f.tA f.tries.length f.tC, .slice f.uA f.caps.length f.uC] 38)).heap[wf.heap.size]? = some (.cells #[.string f.name, .int .i64 f.params, .bool f.rest, .bool f.arrow, .int .i64 f.regs, .slice f.cA f.consts.length f.cC, .slice (some ⟨ib, ioff, none⟩) (N + 1) f.kC, .slice f.tA f.tries.length f.tC, .slice f.uA f.caps.length f.uC] 38 (0, 0)) := heap_alloc_new wf _
          obtain ⟨wa, hwa⟩ : ∃ wa, wf.alloc (.cells #[.string f.name, .int .i64 f.params, .bool f.rest, .bool f.arrow, .int .i64 f.regs, .slice f.cA f.consts.length f.cC, .slice (some ⟨ib, ioff, none⟩) (N + 1) f.kC, .slice f.tA f.tries.length f.tC, .slice f.uA f.caps.length f.uC] 38) = wa := ⟨_, rfl⟩
          rw [hwa] at ha hza
          have la := (Array.getElem?_eq_some_iff.1 hza).1
          have f1 := cell_blockK hza 1
          have f4 := cell_blockK hza 4
          have f6 := cell_blockK hza 6
          have j0 := (ha.cell (p := ⟨ib, ioff + N * 5, none⟩) hbl2).trans i0
          simp at f1 f4 f6
          have HI := Lib.hid hi
          have HF := Lib.hid hf
          have HN := Lib.hid hN
          have HA := Lib.hid hA
          clear hi hf hN hA hg1 hg3 i0 i1 i2 i3 i4
          go_wp2_with fail
          refine (refends_any _ _).mono ?_
          rintro e w5 ⟨rfl, rfl⟩
          rw [he]
          clear HI j0 he d0 d1 d2 d3 d4 d5 d6 d7 d8 hwa
          have hab := ha.size
          simp only
          go_wp2_with fail
          go_loopw [61] (fun i w6 => ∃ j : Nat, j ≤ N + 1 ∧ i = .int .i64 j ∧ Below wa.heap.size wa w6) (fun i _ => N + 1 - (intOf i).toNat)
          case atStart => exact ⟨0, Nat.zero_le _, rfl, Below.refl _ _⟩
          case round =>
            clear f1 f4 f6
            obtain ⟨j, hj, rfl, hb6⟩ := hrel
            obtain ⟨w6, rfl⟩ : ∃ w6, w6 = wr := ⟨_, rfl⟩
            have hbW6 : Below W.heap.size W w6 := hbW.trans ((ha.mono hbW.size).trans (hb6.mono (by omega)))
            have hs6 := hb6.size
            by_cases hlt2 : j < N + 1
            · obtain ⟨i, hi⟩ : ∃ i, f.code[j]? = some i := ⟨f.code[j]'(by have := HN.out; omega), List.getElem?_eq_getElem _⟩
              have hFw := hF.below (ha.trans (hb6.mono ha.size)) (B' := w6.heap.size) (by omega)
              obtain ⟨ib2, ioff2, hA2, hbl3, i0, i1, i2, i3, i4⟩ := hFw.kr.ins hi
              rw [HA.out] at hA2
              cases hA2
              have hgd := fun (p : Nat) (x : UInt8) (hx : (lettersOf i.1)[p]? = some x) (hp : p < 4) => hOF.guard hi hx hp
              obtain ⟨o, a1, a2, a3, a4⟩ := i
              simp only at i0 i1 i2 i3 i4 hgd
              have hzi := heap_alloc_new w6 (.cells #[.int .i64 o, .int .i64 a1, .int .i64 a2, .int .i64 a3, .int .i64 a4] 50)
              have hbi : Below w6.heap.size w6 (w6.alloc (.cells #[.int .i64 o, .int .i64 a1, .int .i64 a2, .int .i64 a3, .int .i64 a4] 50)) := (Below.refl _ _).alloc (Nat.le_refl _) _
              have HGD := Lib.hid hgd
              clear hi hgd
              go_wp2_with fail
              generalize w6.alloc (.cells #[.int .i64 o, .int .i64 a1, .int .i64 a2, .int .i64 a3, .int .i64 a4] 50) = w7 at hzi hbi ⊢
              have l7 := (Array.getElem?_eq_some_iff.1 hzi).1
              refine (refOps_any o _).mono ?_
              rintro e w8 ⟨rfl, b8⟩
              -- what stands in w8
              have hs7 := hbi.size
              have hs8 := b8.size
              have mi := (b8.block _ l7).trans hzi
              have mf := (b8.block _ (by omega)).trans ((hbi.block _ (by omega)).trans ((hb6.block _ la).trans hza))
              have mm := (b8.block _ (by omega)).trans ((hbi.block W.heap.size (by omega)).trans ((hb6.block W.heap.size (by omega)).trans ((ha.block W.heap.size (by omega)).trans k0)))
              have bW8 : Below W.heap.size W w8 := hbW6.trans ((hbi.mono (by omega)).trans (b8.mono (by omega)))
              have bR8 : Below wa.heap.size wa w8 := hb6.trans ((hbi.mono (by omega)).trans (b8.mono (by omega)))
              obtain ⟨L, hL⟩ : ∃ L, lettersOf o = L := ⟨_, rfl⟩
              have hLs := (letters_ok o).1
              have hLl := (letters_ok o).2
              have hgd := HGD.out
              rw [hL] at hLs hLl hgd ⊢
              have HGD := Lib.hid hgd
              have HLL := Lib.hid hLl
              have hit0 := World.iter_heap w8 L 0
              have hbi0 : Below w8.heap.size w8 (w8.iter L 0) := (Below.refl _ _).alloc (Nat.le_refl _) _
              clear hL hLl hgd i0 i1 i2 i3 i4 hzi hbi b8
              simp only
              go_wp2_with fail
              go_loopw [] (fun w9 => ∃ p : Nat, p ≤ L.size ∧ w9.heap[w8.heap.size]? = some (.stringIter L p) ∧ Below w8.heap.size w8 w9) (fun w9 => L.size - w9.iterPos w8.heap.size)
              case atStart => exact ⟨0, Nat.zero_le _, hit0, hbi0⟩
              case round =>
                clear hit0 hbi0
                obtain ⟨p, hp, hit, hb9⟩ := hrel
                obtain ⟨w9, rfl⟩ : ∃ w9, w9 = wr := ⟨_, rfl⟩
                by_cases hlt3 : p < L.size
                · obtain ⟨x, hx⟩ : ∃ x, L[p]? = some x := ⟨L[p], getElem?_pos L p hlt3⟩
                  have hlet := HLL.out p x hx
                  have hxv : L[p] = x := by have := getElem?_pos L p hlt3; rw [hx] at this; injection this with this; exact this.symm
                  have hasc : (L[p]'hlt3).toNat < 128 := by rw [hxv]; exact letter_ascii hlet
                  have hnx : ∀ ty, (Instr.next (.pointer (some ⟨w8.heap.size, 0, none⟩)) true ty).run Tryd.prog w9 = _ := fun ty => Lib.run_next_ascii_at w9 w8.heap.size L p ty hit hlt3 hasc
                  simp only [hxv] at hnx
                  have hit2 := Lib.iterAt_heap w9 w8.heap.size L p (p + 1) hit
                  have hbi2 := Lib.below_iterAt hb9 (k := w8.heap.size) (Nat.le_refl _) L (p + 1)
                  obtain ⟨w10, hw10⟩ : ∃ w10, w9.iterAt w8.heap.size L (p + 1) = w10 := ⟨_, rfl⟩
                  rw [hw10] at hnx hit2 hbi2
                  have hi1 := fun w => run_index_str (P := Tryd.prog) Tryd.underlying9 L (p : Int) p rfl hlt3 w
                  rw [hx, Option.getD_some] at hi1
                  have hlt4 : (p : Int) < L.size := by omega
                  have hp4 : p < 4 := by omega
                  obtain ⟨hv0, hv1⟩ := HGD.out p x hx hp4
                  have ni := (hbi2.block _ (by omega)).trans mi
                  have g0 := cell_blockK ni 0
                  have g1 := cell_blockK ni 1
                  have g2 := cell_blockK ni 2
                  have g3 := cell_blockK ni 3
                  have g4 := cell_blockK ni 4
                  simp at g0 g1 g2 g3 g4
                  have hs10 := hbi2.size
                  clear hasc hx hxv
                  go_wp2_with fail
                  refine (refargs_any (o, a1, a2, a3, a4) _).mono ?_
                  rintro e w11 ⟨rfl, hw11⟩
                  have hsi : (w10.alloc (.cells (insC (o, a1, a2, a3, a4)).toArray 50)).heap.size = w10.heap.size + 1 := by simp
                  have c11 : w11.heap[w10.heap.size + 1]? = some (.cells #[.int .i64 a1, .int .i64 a2, .int .i64 a3, .int .i64 a4] 3 (0, 0)) := by rw [← hw11, ← hsi]; exact heap_alloc_new _ _
                  have b11 : Below w10.heap.size w10 w11 := by rw [← hw11]; exact ((Below.refl _ _).alloc (Nat.le_refl _) _).alloc (by simp) _
                  have hq := args_cellG (i := (o, a1, a2, a3, a4)) c11 hp4
                  have nf := (b11.block wf.heap.size (by omega)).trans ((hbi2.block wf.heap.size (by omega)).trans mf)
                  have nm := (b11.block W.heap.size (by omega)).trans ((hbi2.block W.heap.size (by omega)).trans mm)
                  have q4 := cell_blockK nf 4
                  have q5 := cell_blockK nf 5
                  have q6 := cell_blockK nf 6
                  have q8 := cell_blockK nf 8
                  have q0 := cell_blockK nm 0
                  simp at q4 q5 q6 q8 q0
                  obtain ⟨V, hV⟩ : ∃ V, argAt (o, a1, a2, a3, a4) p = V := ⟨_, rfl⟩
                  rw [hV] at hq hv0 hv1
                  have hit3 := (b11.block w8.heap.size (Array.getElem?_eq_some_iff.1 hit2).1).trans hit2
                  have hb11 := hbi2.trans (b11.mono (by omega))
                  have hv2 : ¬ V < 0 := by omega
                  clear hw11 hsi c11 nf nm hV g0 g1 g2 g3 g4 hnx hw10 b11
                  simp only
                  rcases letter_cases hlet with rfl | rfl | rfl | rfl | rfl | rfl | rfl
                  · have hv1 : V < f.regs := hv1
                    have hv3 : ¬ f.regs ≤ V := by omega
                    clear hlet
                    go_wp2_with fail
                    go_roundw
                    case rel => exact ⟨p + 1, by omega, hit3, hb11⟩
                    case measure => rw [iterPos_of hit3, iterPos_of hit]; omega
                  · have hv1 : V < (f.consts.length : Int) := hv1
                    have hv3 : ¬ (f.consts.length : Int) ≤ V := by omega
                    clear hlet
                    go_wp2_with fail
                    go_roundw
                    case rel => exact ⟨p + 1, by omega, hit3, hb11⟩
                    case measure => rw [iterPos_of hit3, iterPos_of hit]; omega
                  · have hv1 : V < (f.consts.length : Int) := hv1
                    have hv3 : ¬ (f.consts.length : Int) ≤ V := by omega
                    clear hlet
                    go_wp2_with fail
                    go_roundw
                    case rel => exact ⟨p + 1, by omega, hit3, hb11⟩
                    case measure => rw [iterPos_of hit3, iterPos_of hit]; omega
                  · have hv1 : V < (N : Int) + 1 := by have h1 : V < (f.code.length : Int) := hv1; have := HN.out; omega
                    have hv3 : ¬ (N : Int) + 1 ≤ V := by omega
                    clear hlet
                    go_wp2_with fail
                    go_roundw
                    case rel => exact ⟨p + 1, by omega, hit3, hb11⟩
                    case measure => rw [iterPos_of hit3, iterPos_of hit]; omega
                  · have hv1 : V < (n : Int) := hv1
                    have hv3 : ¬ (n : Int) ≤ V := by omega
                    clear hlet
                    go_wp2_with fail
                    go_roundw
                    case rel => exact ⟨p + 1, by omega, hit3, hb11⟩
                    case measure => rw [iterPos_of hit3, iterPos_of hit]; omega
                  · have hv1 : V < (f.caps.length : Int) := hv1
                    have hv3 : ¬ (f.caps.length : Int) ≤ V := by omega
                    clear hlet
                    go_wp2_with fail
                    go_roundw
                    case rel => exact ⟨p + 1, by omega, hit3, hb11⟩
                    case measure => rw [iterPos_of hit3, iterPos_of hit]; omega
                  · have hv1 : V < (2147483648 : Int) := hv1
                    have hv3 : ¬ (2147483648 : Int) ≤ V := by omega
                    clear hlet
                    go_wp2_with fail
                    go_roundw
                    case rel => exact ⟨p + 1, by omega, hit3, hb11⟩
                    case measure => rw [iterPos_of hit3, iterPos_of hit]; omega
                · have hnx : ∀ ty, (Instr.next (.pointer (some ⟨w8.heap.size, 0, none⟩)) true ty).run Tryd.prog w9 = _ := fun ty => Lib.run_next_end_at w9 w8.heap.size L p ty hit hlt3
                  have bR9 := bR8.trans (hb9.mono (by omega))
                  go_wp2_with fail
                  go_roundw
                  case rel => exact ⟨j + 1, by omega, by go_num, bR9⟩
                  case measure => simp [intOf]; omega
            · have bR6 := hb.trans ((ha.mono (by omega)).trans (hb6.mono (by omega)))
              go_wp2_with fail
              go_roundw
              case rel => exact ⟨k + 1, by omega, by go_num, bR6⟩
              case measure => simp [intOf]; omega
        · obtain rfl : k = n := by omega
          go_wp2_with fail
          go_ret
          exact ⟨rfl, hbW⟩
    · simp only
      go_wp2_with fail
      go_ret
      exact ⟨rfl, hb3⟩
  · rw [decide_eq_false hf]
    simp only
    go_wp2_with fail
    go_ret
    exact ⟨rfl, hb2⟩
end Go.Proofs.YtoihoackmkapaaaDoor
