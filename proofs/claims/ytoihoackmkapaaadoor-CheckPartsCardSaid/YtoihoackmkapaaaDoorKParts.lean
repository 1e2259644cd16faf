/- The walk of CheckParts. -/
import Derived.Test.YtoihoackmkapaaaDoorKLaw
namespace Go.Proofs.YtoihoackmkapaaaDoor
open Go.RowKit
set_option maxHeartbeats 4000000
set_option maxRecDepth 100000
attribute [local go_sem] Oper.semAt_some

def NoClo (fns : List FnT) (q k : Nat) : Prop := ∀ n f, n < k → fns[n]? = some f → ∀ i ∈ f.code, ¬ (i.1 = 15 ∧ i.2.2.1 = (q : Int))
def NoIn (l : List InsT) (q j : Nat) : Prop := ∀ n i, n < j → l[n]? = some i → ¬ (i.1 = 15 ∧ i.2.2.1 = (q : Int))
theorem NoIn.step {l : List InsT} {q j : Nat} {i : InsT} (h : NoIn l q j) (hi : l[j]? = some i) (hn : ¬ (i.1 = 15 ∧ i.2.2.1 = (q : Int))) : NoIn l q (j + 1) := fun n x hlt hx => by
  by_cases e : n = j
  · subst e
    rw [hi] at hx
    cases hx
    exact hn
  · exact h n x (by omega) hx
theorem NoClo.step {fns : List FnT} {q k : Nat} {f : FnT} (h : NoClo fns q k) (hf : fns[k]? = some f) (hn : NoIn f.code q f.code.length) : NoClo fns q (k + 1) := fun n x hlt hx i hi => by
  by_cases e : n = k
  · subst e
    rw [hf] at hx
    cases hx
    obtain ⟨m, hm⟩ := List.getElem?_of_mem hi
    exact hn m i (List.getElem?_eq_some_iff.1 hm).1 hm
  · exact h n x (by omega) hx i hi
theorem ModIn.take {w : World} {B : Nat} {A : Option Addr} {fns : List FnT} (h : ModIn w B A fns) (q : Nat) : ModIn w B A (fns.take q) where
  rows := fun k r hr => h.rows k r (by
    rw [List.map_take, List.getElem?_take] at hr
    split at hr
    · exact hr
    · cases hr)
  each := fun f hf => h.each f (List.mem_of_mem_take hf)

theorem parts_any {W : World} {A : Option Addr} {c n : Nat} {fns : List FnT} (hM : ModIn W W.heap.size A fns) (hn : fns.length = n) (hcap : n ≤ c) (hT : Tb W) (hs : fewN fns ≤ 1048576) :
    Calls Tryd.prog 6 #[.agg #[.slice A n c]] W fun e W' => e = .returned (.bool true) ∧ Below W.heap.size W W' := by
  have Hn := Lib.hid hn
  have hb0 : Below W.heap.size W (W.alloc (.cells #[.slice A n c] 24)) := (Below.refl _ _).alloc (Nat.le_refl _) _
  have hz0 : (W.alloc (.cells #[.slice A n c] 24)).heap[W.heap.size]? = some (.cells #[.slice A n c] 24 (0, 0)) := heap_alloc_new W _
  obtain ⟨w0, hw0⟩ : ∃ w0, W.alloc (.cells #[.slice A n c] 24) = w0 := ⟨_, rfl⟩
  rw [hw0] at hb0 hz0
  have l0 := (Array.getElem?_eq_some_iff.1 hz0).1
  clear hn
  go_enter Tryd.func6, Tryd.ntmps6
  go_wp2_with fail
  refine (awake_any _ (hT.below hb0 (Nat.le_refl _))).mono ?_
  rintro e w1 ⟨rfl, b1⟩
  clear hw0
  have hz1 := (b1.block _ l0).trans hz0
  have hb1 := hb0.trans (b1.mono hb0.size)
  have c1 := cell_blockK hz1 0
  have s1 := b1.size
  simp at c1
  simp only
  go_wp2_with fail
  refine (few_any (hM.below hb1 hb1.size) Hn.out hs).mono ?_
  rintro e w2 ⟨rfl, b2⟩
  have hz2 := (b2.block W.heap.size (by omega)).trans hz1
  have hb2 := hb1.trans (b2.mono hb1.size)
  have c2 := cell_blockK hz2 0
  have s2 := b2.size
  simp at c2
  clear c1 b1
  by_cases hf : fewN fns ≤ 1000
  · obtain ⟨hlen, hsm⟩ := few_len hf
    rw [Hn.out] at hlen
    rw [decide_eq_true hf]
    by_cases h2 : n < 2
    · simp only
      clear hf hs
      go_wp2_with fail
      go_ret
      exact ⟨rfl, hb2⟩
    obtain ⟨q, rfl⟩ : ∃ q, n = q + 1 := ⟨n - 1, by omega⟩
    have hq1 : 1 ≤ q := by omega
    have hq2 : ¬ ((q : Int) + 1 < 2) := by omega
    obtain ⟨x, y, z, hc, hz⟩ := checkR_three fns (q + 1)
    clear hf hs
    simp only
    go_wp2_with fail
    refine (check_any (hM.below hb2 hb2.size) Hn.out (hT.below hb2 (Nat.le_refl _)) hlen hsm).mono ?_
    rintro e w3 ⟨rfl, b3⟩
    have hz3 := (b3.block W.heap.size (by omega)).trans hz2
    have hb3 := hb2.trans (b3.mono hb2.size)
    have c3 := cell_blockK hz3 0
    have s3 := b3.size
    simp at c3
    clear c2 b2 hb1 hb2 hz1 hz2 hz0 hb0
    rw [hc]
    rcases hz with rfl | rfl
    · have hO := checkR_ok Hn.out hc
      have l3 : W.heap.size < w3.heap.size := by omega
      have HO := Lib.hid hO
      clear hc b3 s1 s2 s3 l0 hO
      simp only
      go_wp2_with fail
      go_loopw [42] (fun i wr => ∃ k : Nat, k ≤ q ∧ i = .int .i64 k ∧ Below w3.heap.size w3 wr ∧ NoClo fns q k) (fun i _ => q - (intOf i).toNat)
      case atStart => exact ⟨0, Nat.zero_le _, rfl, Below.refl _ _, fun n f h => by omega⟩
      case round =>
        obtain ⟨k, hk, rfl, hb, hno⟩ := hrel
        obtain ⟨wf, rfl⟩ : ∃ wf, wf = wr := ⟨_, rfl⟩
        have hbW : Below W.heap.size W wf := hb3.trans (hb.mono (by omega))
        have k0 := (hb.block W.heap.size l3).trans hz3
        have e0 := cell_blockK k0 0
        have hbs := hb.size
        simp at e0
        by_cases hlt : k < q
        · obtain ⟨f, hf⟩ : ∃ f, fns[k]? = some f := ⟨fns[k]'(by have := Hn.out; omega), List.getElem?_eq_getElem _⟩
          have hMw := hM.below hbW hbW.size
          have hF := hMw.each f (List.mem_of_getElem? hf)
          have hS := hsm f (List.mem_of_getElem? hf)
          obtain ⟨fb, off, rfl, hbl, d0, d1, d2, d3, d4, d5, d6, d7, d8⟩ := hMw.at_ hf
          obtain ⟨N, hN⟩ : ∃ N, f.code.length = N := ⟨_, rfl⟩
          have hNs : N ≤ 1000 := by have := hS.k; omega
          rw [hN] at d6
          have ha : Below wf.heap.size wf (wf.alloc (.cells #[.string f.name, .int .i64 f.params, .bool f.rest, .bool f.arrow, .int .i64 f.regs, .slice f.cA f.consts.length f.cC, .slice f.kA N f.kC, .slice f.tA f.tries.length f.tC, .slice f.uA f.caps.length f.uC] 38)) := (Below.refl _ _).alloc (Nat.le_refl _) _
          have hza : (wf.alloc (.cells #[.string f.name, .int .i64 f.params, .bool f.rest, .bool f.arrow, .int .i64 f.regs, .slice f.cA f.consts.length f.cC, .slice f.kA N f.kC, .slice f.tA f.tries.length f.tC, .slice f.uA f.caps.length f.uC] 38)).heap[wf.heap.size]? = some (.cells #[.string f.name, .int .i64 f.params, .bool f.rest, .bool f.arrow, .int .i64 f.regs, .slice f.cA f.consts.length f.cC, .slice f.kA N f.kC, .slice f.tA f.tries.length f.tC, .slice f.uA f.caps.length f.uC] 38 (0, 0)) := heap_alloc_new wf _
          have HF := Lib.hid hf
          have HN := Lib.hid hN
          clear hf hN
          go_wp2_with fail
          generalize wf.alloc (.cells #[.string f.name, .int .i64 f.params, .bool f.rest, .bool f.arrow, .int .i64 f.regs, .slice f.cA f.consts.length f.cC, .slice f.kA N f.kC, .slice f.tA f.tries.length f.tC, .slice f.uA f.caps.length f.uC] 38) = wa at ha hza ⊢
          have la := (Array.getElem?_eq_some_iff.1 hza).1
          have f6 := cell_blockK hza 6
          simp at f6
          clear d0 d1 d2 d3 d4 d5 d6 d7 d8
          go_wp2_with fail
          have hab := ha.size
          go_loopw [49] (fun i w6 => ∃ j : Nat, j ≤ N ∧ i = .int .i64 j ∧ Below wa.heap.size wa w6 ∧ NoIn f.code q j) (fun i _ => N - (intOf i).toNat)
          case atStart => exact ⟨0, Nat.zero_le _, rfl, Below.refl _ _, fun n i h => by omega⟩
          case round =>
            clear f6
            obtain ⟨j, hj, rfl, hb6, hni⟩ := hrel
            obtain ⟨w6, rfl⟩ : ∃ w6, w6 = wr := ⟨_, rfl⟩
            have hs6 := hb6.size
            have bR6 := hb.trans ((ha.mono (by omega)).trans (hb6.mono (by omega)))
            have bW6 := hb3.trans (bR6.mono (by omega))
            by_cases hlt2 : j < N
            · obtain ⟨i, hi⟩ : ∃ i, f.code[j]? = some i := ⟨f.code[j]'(by have := HN.out; omega), List.getElem?_eq_getElem _⟩
              have hFw := hF.below (ha.trans (hb6.mono ha.size)) (B' := w6.heap.size) (by omega)
              obtain ⟨ib2, ioff2, hA2, hbl3, i0, i1, i2, i3, i4⟩ := hFw.kr.ins hi
              have HI := Lib.hid hi
              obtain ⟨o, a1, a2, a3, a4⟩ := i
              simp only at i0 i1 i2 i3 i4
              have HNI := Lib.hid hni
              have bi := hb6.alloc hb6.size (.cells #[.int .i64 o, .int .i64 a1, .int .i64 a2, .int .i64 a3, .int .i64 a4] 50)
              clear hi hni
              rw [hA2]
              by_cases h15 : o = 15
              · by_cases hq : a2 = (q : Int)
                · subst h15
                  subst hq
                  go_wp2_with fail
                  go_ret
                  exact ⟨rfl, bW6.alloc bW6.size _⟩
                · have hst := HNI.out.step HI.out (fun h => hq h.2)
                  have hqb : (a2 == (q : Int)) = false := by rw [beq_eq_false_iff_ne]; exact hq
                  have HST := Lib.hid hst
                  subst h15
                  clear hst
                  go_wp2_with fail
                  go_roundw
                  case rel => exact ⟨j + 1, by omega, by go_num, bi, HST.out⟩
                  case measure => simp [intOf]; omega
              · have hst := HNI.out.step HI.out (fun h => h15 h.1)
                have hob : (o == 15) = false := by rw [beq_eq_false_iff_ne]; exact h15
                have HST := Lib.hid hst
                clear hst
                go_wp2_with fail
                go_roundw
                case rel => exact ⟨j + 1, by omega, by go_num, bi, HST.out⟩
                case measure => simp [intOf]; omega
            · obtain rfl : j = N := by omega
              have hst := hno.step HF.out (by rw [HN.out]; exact hni)
              have HST := Lib.hid hst
              clear hst hni hno
              go_wp2_with fail
              go_roundw
              case rel => exact ⟨k + 1, by omega, by go_num, bR6, HST.out⟩
              case measure => simp [intOf]; omega
        · obtain rfl : k = q := by omega
          have hP := parts (m := k + 1) Hn.out HO.out (by omega) (fun n f h1 h2 => hno n f h1 h2)
          have hR := hP.checkR
          rw [show k + 1 - 1 = k from rfl] at hR hP
          have hl2 : (fns.take k).length = k := by rw [List.length_take, Hn.out]; omega
          have HL2 := Lib.hid hl2
          clear hP hl2 hno
          go_wp2_with fail
          refine (check_any ((hM.take k).below hbW hbW.size) HL2.out (hT.below hbW (Nat.le_refl _)) (by omega) (fun f hf => hsm f (List.mem_of_mem_take hf))).mono ?_
          rintro e w5 ⟨rfl, b5⟩
          rw [hR]
          simp only
          go_wp2_with fail
          go_ret
          exact ⟨rfl, hbW.trans (b5.mono hbW.size)⟩
    · simp only
      go_wp2_with fail
      go_ret
      exact ⟨rfl, hb3⟩
  · rw [decide_eq_false hf]
    simp only
    go_wp2_with fail
    go_ret
    exact ⟨rfl, hb2⟩
end Go.Proofs.YtoihoackmkapaaaDoor
