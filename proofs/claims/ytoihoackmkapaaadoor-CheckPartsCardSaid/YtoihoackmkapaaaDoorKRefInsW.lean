/- The walk of lintelref12.ins. -/
import Derived.Test.YtoihoackmkapaaaDoorKRefIns
namespace Go.Proofs.YtoihoackmkapaaaDoor
open Go.RowKit
set_option maxHeartbeats 8000000
set_option maxRecDepth 100000

theorem insD_front {fns : List FnT} {m : Nat} {f : FnT} {k : Nat} {i : InsT} (h : frontB f k i = false) : insD fns m f k i = false := by unfold insD; rw [h, Bool.false_and]
theorem insD_args {fns : List FnT} {m : Nat} {f : FnT} {k : Nat} {i : InsT} (h : argsD m f i = false) : insD fns m f k i = false := by unfold insD; rw [h]; simp
theorem insD_extra {fns : List FnT} {m : Nat} {f : FnT} {k : Nat} {i : InsT} (h : frontB f k i = true) (h2 : argsD m f i = true) : insD fns m f k i = extraD fns f i := by unfold insD; rw [h, h2]; rfl
theorem argsD_each {m : Nat} {f : FnT} {i : InsT} (h : argsD m f i = true) (h0 : i.1 ≠ 0) : argsB m f i = true := by
  have e := argD_ne (m := m) (f := f) h0
  simp only [argsD, argsB, allN, e] at h ⊢
  exact h
theorem args_cell (w : World) (a b c d : Int) (i : InsT) (hi : i.2 = (a, b, c, d)) (j : Nat) (hj : j < 4) : (w.alloc (.cells #[.int .i64 a, .int .i64 b, .int .i64 c, .int .i64 d] 3)).cell? ⟨w.heap.size, j, none⟩ = some (.int .i64 (argAt i j)) := by
  rw [cell_blockK (heap_alloc_last w _) j]
  obtain ⟨o, a', b', c', d'⟩ := i
  simp only [Prod.mk.injEq] at hi
  obtain ⟨rfl, rfl, rfl, rfl⟩ := hi
  match j, hj with
  | 0, _ => rfl
  | 1, _ => rfl
  | 2, _ => rfl
  | 3, _ => rfl

section
variable {w : World} {A : Option Addr} {m c k : Nat} {f : FnT} {fns : List FnT} {i : InsT}
theorem refins_any (hM : ModIn w w.heap.size A fns) (hlm : fns.length = m) (hF : FnIn w w.heap.size f) (hi : f.code[k]? = some i) (hm : m ≤ 1000) (hcl : f.code.length ≤ 1000) (hul : f.caps.length ≤ 1000) (hu : ∀ g ∈ fns, g.caps.length ≤ 1000) :
    Calls Tryd.prog 23 #[.agg #[.slice A m c], .agg (fnC f).toArray, .int .i64 k] w fun e w' => e = .returned (.bool (insD fns m f k i)) ∧ Below w.heap.size w w' := by
  obtain ⟨b, off, hA, hbl, d0, d1, d2, d3, d4⟩ := hF.kr.ins hi
  have hkn : k < f.code.length := (List.getElem?_eq_some_iff.1 hi).1
  obtain ⟨R, hR⟩ : ∃ R, insD fns m f k i = R := ⟨_, rfl⟩
  rw [hR]
  have hfr := insD_front (fns := fns) (m := m) (f := f) (k := k) (i := i)
  have har := insD_args (fns := fns) (m := m) (f := f) (k := k) (i := i)
  have hex := insD_extra (fns := fns) (m := m) (f := f) (k := k) (i := i)
  have hae := argsD_each (m := m) (f := f) (i := i)
  have hib := iter_bd (m := m) (f := f) (i := i)
  have hsb := step_bd (m := m) (f := f) (i := i)
  have hcb := clos_bd (m := m) (f := f) (i := i)
  have hrgm := hF.rg
  rw [hR] at hfr har hex
  obtain ⟨nk, hnk⟩ : ∃ x, f.code.length = x := ⟨_, rfl⟩
  have hfb : frontB f k i = (decide (0 ≤ i.1 ∧ i.1 ≤ 70) && (decide (k + 1 ≠ nk) || endsB i.1)) := by rw [← hnk]; rfl
  rw [hfb] at hfr hex
  rw [hnk] at hkn hcl
  have hwr : wrap64 ((nk : Int) - 1) = (nk : Int) - 1 := by unfold wrap64; omega
  obtain ⟨o, a1, a2, a3, a4⟩ := i
  have hargc := fun w j hj => args_cell w a1 a2 a3 a4 (o, a1, a2, a3, a4) rfl j hj
  simp only at d0 d1 d2 d3 d4 hfr hex hib hsb hcb hae
  simp only [fnC, hA, hnk]
  have hbm : (w.alloc (.cells #[.slice A m c] 24)).heap[w.heap.size]? = some (.cells #[.slice A m c] 24) := heap_alloc_new w _
  have hs1 : (w.alloc (.cells #[.slice A m c] 24)).heap.size = w.heap.size + 1 := by simp
  have hbf : ((w.alloc (.cells #[.slice A m c] 24)).alloc (.cells #[.string f.name, .int .i64 f.params, .bool f.rest, .bool f.arrow, .int .i64 f.regs, .slice f.cA f.consts.length f.cC, .slice (some ⟨b, off, none⟩) nk f.kC, .slice f.tA f.tries.length f.tC, .slice f.uA f.caps.length f.uC] 38)).heap[w.heap.size + 1]? = some (.cells #[.string f.name, .int .i64 f.params, .bool f.rest, .bool f.arrow, .int .i64 f.regs, .slice f.cA f.consts.length f.cC, .slice (some ⟨b, off, none⟩) nk f.kC, .slice f.tA f.tries.length f.tC, .slice f.uA f.caps.length f.uC] 38) := by rw [← hs1]; exact heap_alloc_new _ _
  have hs2 : ((w.alloc (.cells #[.slice A m c] 24)).alloc (.cells #[.string f.name, .int .i64 f.params, .bool f.rest, .bool f.arrow, .int .i64 f.regs, .slice f.cA f.consts.length f.cC, .slice (some ⟨b, off, none⟩) nk f.kC, .slice f.tA f.tries.length f.tC, .slice f.uA f.caps.length f.uC] 38)).heap.size = w.heap.size + 2 := by simp
  have hbi : (((w.alloc (.cells #[.slice A m c] 24)).alloc (.cells #[.string f.name, .int .i64 f.params, .bool f.rest, .bool f.arrow, .int .i64 f.regs, .slice f.cA f.consts.length f.cC, .slice (some ⟨b, off, none⟩) nk f.kC, .slice f.tA f.tries.length f.tC, .slice f.uA f.caps.length f.uC] 38)).alloc (.cells #[.int .i64 o, .int .i64 a1, .int .i64 a2, .int .i64 a3, .int .i64 a4] 50)).heap[w.heap.size + 2]? = some (.cells #[.int .i64 o, .int .i64 a1, .int .i64 a2, .int .i64 a3, .int .i64 a4] 50) := by rw [← hs2]; exact heap_alloc_new _ _
  have hb00 : Below w.heap.size w (((w.alloc (.cells #[.slice A m c] 24)).alloc (.cells #[.string f.name, .int .i64 f.params, .bool f.rest, .bool f.arrow, .int .i64 f.regs, .slice f.cA f.consts.length f.cC, .slice (some ⟨b, off, none⟩) nk f.kC, .slice f.tA f.tries.length f.tC, .slice f.uA f.caps.length f.uC] 38)).alloc (.cells #[.int .i64 o, .int .i64 a1, .int .i64 a2, .int .i64 a3, .int .i64 a4] 50)) := (((Below.refl _ _).alloc (Nat.le_refl _) _).alloc (by simp) _).alloc (by simp; omega) _
  have hsz0 : (((w.alloc (.cells #[.slice A m c] 24)).alloc (.cells #[.string f.name, .int .i64 f.params, .bool f.rest, .bool f.arrow, .int .i64 f.regs, .slice f.cA f.consts.length f.cC, .slice (some ⟨b, off, none⟩) nk f.kC, .slice f.tA f.tries.length f.tC, .slice f.uA f.caps.length f.uC] 38)).alloc (.cells #[.int .i64 o, .int .i64 a1, .int .i64 a2, .int .i64 a3, .int .i64 a4] 50)).heap.size = w.heap.size + 3 := by simp
  have hbm2 : (((w.alloc (.cells #[.slice A m c] 24)).alloc (.cells #[.string f.name, .int .i64 f.params, .bool f.rest, .bool f.arrow, .int .i64 f.regs, .slice f.cA f.consts.length f.cC, .slice (some ⟨b, off, none⟩) nk f.kC, .slice f.tA f.tries.length f.tC, .slice f.uA f.caps.length f.uC] 38)).alloc (.cells #[.int .i64 o, .int .i64 a1, .int .i64 a2, .int .i64 a3, .int .i64 a4] 50)).heap[w.heap.size]? = some (.cells #[.slice A m c] 24) := by rw [Lib.alloc_old _ _ _ (by simp; omega), Lib.alloc_old _ _ _ (by simp)]; exact hbm
  have hbf2 : (((w.alloc (.cells #[.slice A m c] 24)).alloc (.cells #[.string f.name, .int .i64 f.params, .bool f.rest, .bool f.arrow, .int .i64 f.regs, .slice f.cA f.consts.length f.cC, .slice (some ⟨b, off, none⟩) nk f.kC, .slice f.tA f.tries.length f.tC, .slice f.uA f.caps.length f.uC] 38)).alloc (.cells #[.int .i64 o, .int .i64 a1, .int .i64 a2, .int .i64 a3, .int .i64 a4] 50)).heap[w.heap.size + 1]? = some (.cells #[.string f.name, .int .i64 f.params, .bool f.rest, .bool f.arrow, .int .i64 f.regs, .slice f.cA f.consts.length f.cC, .slice (some ⟨b, off, none⟩) nk f.kC, .slice f.tA f.tries.length f.tC, .slice f.uA f.caps.length f.uC] 38) := by rw [Lib.alloc_old _ _ _ (by simp)]; exact hbf
  obtain ⟨w0, hw0⟩ : ∃ w0, ((w.alloc (.cells #[.slice A m c] 24)).alloc (.cells #[.string f.name, .int .i64 f.params, .bool f.rest, .bool f.arrow, .int .i64 f.regs, .slice f.cA f.consts.length f.cC, .slice (some ⟨b, off, none⟩) nk f.kC, .slice f.tA f.tries.length f.tC, .slice f.uA f.caps.length f.uC] 38)).alloc (.cells #[.int .i64 o, .int .i64 a1, .int .i64 a2, .int .i64 a3, .int .i64 a4] 50) = w0 := ⟨_, rfl⟩
  rw [hw0] at hbi hb00 hsz0 hbm2 hbf2
  have m0 := cell_blockK hbm2 0
  have f0 := cell_blockK hbf2 0
  have f1 := cell_blockK hbf2 1
  have f2 := cell_blockK hbf2 2
  have f3 := cell_blockK hbf2 3
  have f4 := cell_blockK hbf2 4
  have f5 := cell_blockK hbf2 5
  have f6 := cell_blockK hbf2 6
  have f7 := cell_blockK hbf2 7
  have f8 := cell_blockK hbf2 8
  have i0 := cell_blockK hbi 0
  have i1 := cell_blockK hbi 1
  have i2 := cell_blockK hbi 2
  have i3 := cell_blockK hbi 3
  have i4 := cell_blockK hbi 4
  simp at m0 f0 f1 f2 f3 f4 f5 f6 f7 f8 i0 i1 i2 i3 i4
  have hkn1 : (k : Int) < nk := by omega
  have HNKK := Lib.hid hnk
  have HFR := Lib.hid hfr
  have HAR := Lib.hid har
  have HEX := Lib.hid hex
  have HAE := Lib.hid hae
  have HIB := Lib.hid hib
  have HSB := Lib.hid hsb
  have HCB := Lib.hid hcb
  have HARG := Lib.hid hargc
  clear hfr har hex hR hfb hib hsb hcb hae hnk hs1 hs2 hbm hbf hargc
  go_enter Tryd.func23, Tryd.ntmps23
  by_cases g0 : o < 0
  · have hfin : R = false := HFR.out (by rw [decide_eq_false (by omega)]; rfl)
    subst hfin
    go_wp2_with fail
    go_ret
    exact ⟨rfl, hb00⟩
  by_cases g00 : 70 < o
  · have hfin : R = false := HFR.out (by rw [decide_eq_false (by omega)]; rfl)
    subst hfin
    go_wp2_with fail
    go_ret
    exact ⟨rfl, hb00⟩
  by_cases g1 : k + 1 = nk ∧ endsB o = false
  · have hfin : R = false := HFR.out (by rw [decide_eq_false (by omega : ¬ (k + 1 ≠ nk)), g1.2]; simp)
    subst hfin
    obtain ⟨g1, g2⟩ := g1
    have hq : ((k : Int) == (nk : Int) - 1) = true := by rw [beq_iff_eq]; omega
    clear g1
    go_wp2_with fail
    refine (refends_any o _).mono ?_
    rintro e w2 ⟨rfl, rfl⟩
    rw [g2]
    simp only
    go_wp2_with fail
    go_ret
    exact ⟨rfl, hb00⟩
  have hfront : (decide (0 ≤ o ∧ o ≤ 70) && (decide (k + 1 ≠ nk) || endsB o)) = true := by
    rw [decide_eq_true (by omega : 0 ≤ o ∧ o ≤ 70)]
    by_cases g2 : k + 1 = nk
    · cases g3 : endsB o with
      | true => simp
      | false => exact absurd ⟨g2, g3⟩ g1
    · simp [g2]
  have HF1 := Lib.hid hfront
  clear hfront
  by_cases g2 : k + 1 = nk
  · have g3 : endsB o = true := by
      cases hh : endsB o with
      | true => rfl
      | false => exact absurd ⟨g2, hh⟩ g1
    have hq : ((k : Int) == (nk : Int) - 1) = true := by rw [beq_iff_eq]; omega
    clear g1 g2
    go_wp2_with fail
    refine (refends_any o _).mono ?_
    rintro e w2 ⟨rfl, rfl⟩
    rw [g3]
    simp only
    go_wp2_with fail
    refine (refOps_any o _).mono ?_
    rintro e w3 ⟨rfl, b3⟩
    obtain ⟨L, hL⟩ : ∃ L, lettersOf o = L := ⟨_, rfl⟩
    have hLs := (letters_ok o).1
    have hLl := (letters_ok o).2
    rw [hL] at hLs hLl ⊢
    have HL := Lib.hid hL
    have HLL := Lib.hid hLl
    clear hL hLl hwr hq
    have hbW : Below w0.heap.size w0 w3 := b3
    have j0 := (hbW.cell (World.block_lt_of_cell? _ _ i0)).trans i0
    have j1 := (hbW.cell (World.block_lt_of_cell? _ _ i1)).trans i1
    have j2 := (hbW.cell (World.block_lt_of_cell? _ _ i2)).trans i2
    have j3 := (hbW.cell (World.block_lt_of_cell? _ _ i3)).trans i3
    have j4 := (hbW.cell (World.block_lt_of_cell? _ _ i4)).trans i4
    simp only
    go_wp2_with fail
    refine (refargs_any (o, a1, a2, a3, a4) _).mono ?_
    rintro e w4 ⟨rfl, hw4⟩
    have hs3 : (w3.alloc (.cells #[.int .i64 o, .int .i64 a1, .int .i64 a2, .int .i64 a3, .int .i64 a4] 50)).heap.size = w3.heap.size + 1 := by simp
    have hargw := HARG.out (w3.alloc (.cells #[.int .i64 o, .int .i64 a1, .int .i64 a2, .int .i64 a3, .int .i64 a4] 50))
    rw [hs3] at hargw
    have hw4' : (w3.alloc (.cells #[.int .i64 o, .int .i64 a1, .int .i64 a2, .int .i64 a3, .int .i64 a4] 50)).alloc (.cells #[.int .i64 a1, .int .i64 a2, .int .i64 a3, .int .i64 a4] 3) = w4 := hw4
    have b34 : Below w3.heap.size w3 w4 := by rw [← hw4']; exact ((Below.refl _ _).alloc (Nat.le_refl _) _).alloc (by simp) _
    rw [hw4'] at hargw
    clear hw4 hw4' hs3 j0 j1 j2 j3 j4
    have b04 : Below w0.heap.size w0 w4 := b3.trans (b34.mono b3.size)
    have bz4 : Below w.heap.size w w4 := hb00.trans (b04.mono (by omega))
    have HAC := Lib.hid hargw
    clear hargw
    simp only
    go_wp2_with fail
    obtain ⟨Z, hZ⟩ : ∃ Z, argsD m f (o, a1, a2, a3, a4) = Z := ⟨_, rfl⟩
    have HZ := Lib.hid hZ
    have hZ0 : allN (argD m f (o, a1, a2, a3, a4)) (4 - 0) 0 = Z := hZ
    have HZ0 := Lib.hid hZ0
    clear hZ hZ0
    go_loopw [46] (fun jv wr => ∃ j : Nat, j ≤ 4 ∧ jv = .int .i64 j ∧ allN (argD m f (o, a1, a2, a3, a4)) (4 - j) j = Z ∧ Below w4.heap.size w4 wr)
      (fun jv _ => 4 - (intOf jv).toNat)
    case atStart => exact ⟨0, Nat.zero_le _, rfl, HZ0.out, Below.refl _ _⟩
    case round =>
      obtain ⟨j, hj, rfl, hall, hbj⟩ := hrel
      have HALL := Lib.hid hall
      clear hall
      have hbW : Below w0.heap.size w0 wr := b04.trans (hbj.mono b04.size)
      have hbw : Below w.heap.size w wr := hb00.trans (hbW.mono (by omega))
      have hFr := hF.below hbw hbw.size
      have k_m0 := (hbW.cell (World.block_lt_of_cell? _ _ m0)).trans m0
      have k_f0 := (hbW.cell (World.block_lt_of_cell? _ _ f0)).trans f0
      have k_f1 := (hbW.cell (World.block_lt_of_cell? _ _ f1)).trans f1
      have k_f2 := (hbW.cell (World.block_lt_of_cell? _ _ f2)).trans f2
      have k_f3 := (hbW.cell (World.block_lt_of_cell? _ _ f3)).trans f3
      have k_f4 := (hbW.cell (World.block_lt_of_cell? _ _ f4)).trans f4
      have k_f5 := (hbW.cell (World.block_lt_of_cell? _ _ f5)).trans f5
      have k_f6 := (hbW.cell (World.block_lt_of_cell? _ _ f6)).trans f6
      have k_f7 := (hbW.cell (World.block_lt_of_cell? _ _ f7)).trans f7
      have k_f8 := (hbW.cell (World.block_lt_of_cell? _ _ f8)).trans f8
      have k_i0 := (hbW.cell (World.block_lt_of_cell? _ _ i0)).trans i0
      have k_i1 := (hbW.cell (World.block_lt_of_cell? _ _ i1)).trans i1
      have k_i2 := (hbW.cell (World.block_lt_of_cell? _ _ i2)).trans i2
      have k_i3 := (hbW.cell (World.block_lt_of_cell? _ _ i3)).trans i3
      have k_i4 := (hbW.cell (World.block_lt_of_cell? _ _ i4)).trans i4
      by_cases hlt : j < 4
      · have hac := HAC.out j hlt
        have hac2 := (hbj.cell (World.block_lt_of_cell? _ _ hac)).trans hac
        obtain ⟨n, hn⟩ : ∃ n, argAt (o, a1, a2, a3, a4) j = n := ⟨_, rfl⟩
        rw [hn] at hac2
        have HST := Lib.hid (allN_step (argD m f (o, a1, a2, a3, a4)) hlt)
        clear hac
        by_cases hjl : j < L.size
        · obtain ⟨x, hx⟩ : ∃ x, L[j]? = some x := ⟨L[j], getElem?_pos L j hjl⟩
          have hlet := HLL.out j x hx
          have hjl2 : (j : Int) < L.size := by omega
          have hi1 := fun w => run_index_str (P := Tryd.prog) Tryd.underlying9 L (j : Int) j rfl hjl w
          rw [hx, Option.getD_some] at hi1
          have hab := argD_some (m := m) (f := f) (i := (o, a1, a2, a3, a4)) (k := j) (b := x) (by rw [HL.out]; exact hx)
          rw [hn] at hab
          have HAB := Lib.hid hab
          have hop := fun w' h' => refoperand_any (w := w') (A := A) (m := m) (c := c) (f := f) (i := (o, a1, a2, a3, a4)) h' n x hlet
          simp only [fnC, insC, hA] at hop
          have HNKL : f.code.length = nk := HNKK.out
          rw [HNKL] at hop
          have HOP := Lib.hid hop
          clear hn hx hlet hab hop HNKL
          go_wp2_with fail
          refine wp_region_lin (fun w' => w' = wr.drew) [7, 8] (.block 0 (.block 1 (.block 2 (.block 3 (.block 4 (.block 5 (.block 6 (.loop (.scope (.seq (.label 7) (.block 8 (.skip)))))))))))) (by kernel_rfl) (by kernel_rfl) (by kernel_rfl) (by kernel_rfl) (by kernel_rfl) rfl ?_
          repeat
            (refine lin_light (A1 := ?_) rfl rfl rfl rfl rfl (fun w' hS K hK => ?_) ?_ ?_
             rotate_left
             · obtain rfl := hS; go_step; exact hK
             · rfl)
          try refine lin_late ?_
          refine lin_group ?_
          refine lin_heavy rfl rfl (fun K hK => ?_)
          go_step
          refine (HOP.out _ (hFr.below (Below.refl _ _).drew (Nat.le_refl _))).mono ?_
          rintro e w5 ⟨rfl, b5⟩
          have hb5 : Below w4.heap.size w4 w5 := hbj.drew.trans (b5.mono hbj.size)
          have hb5w : Below w.heap.size w w5 := hbw.drew.trans (b5.mono hbw.size)
          cases hres : kindD m f o x.toNat n with
          | true =>
            simp only
            refine hK.out _ _ trivial ?_
            clear hK K
            repeat
              (refine lin_light (A1 := ?_) rfl rfl rfl rfl rfl (fun w' hS K hK => ?_) ?_ ?_
               rotate_left
               · clear hS; go_step; exact hK
               · rfl)
            refine lin_end ?_
            go_wp2_with fail
            go_roundw
            case rel =>
              have hR3 : allN (argD m f (o, a1, a2, a3, a4)) (4 - (j + 1)) (j + 1) = Z := by rw [← HALL.out, HST.out, HAB.out, hres]; rfl
              first | exact ⟨j + 1, by omega, by go_num, hR3, hb5⟩ | ((repeat apply Exists.intro); exact ⟨⟨j + 1, by omega, by go_num, hR3, hb5⟩, rfl⟩)
            case measure => simp [intOf]; omega
          | false =>
            have hzf : Z = false := by rw [← HALL.out, HST.out, HAB.out, hres]; rfl
            have hfin : R = false := HAR.out (by rw [HZ.out]; exact hzf)
            subst hfin
            simp only
            refine hK.out _ _ trivial ?_
            clear hK K
            repeat
              (refine lin_light (A1 := ?_) rfl rfl rfl rfl rfl (fun w' hS K hK => ?_) ?_ ?_
               rotate_left
               · clear hS; go_step; exact hK
               · rfl)
            refine lin_end ?_
            go_wp2_with fail
            go_ret
            exact ⟨rfl, hb5w⟩
        · have hjl2 : (L.size : Int) ≤ j := by omega
          have hab := argD_none (m := m) (f := f) (i := (o, a1, a2, a3, a4)) (k := j) (by rw [HL.out]; exact getElem?_neg L j hjl)
          rw [hn] at hab
          have HAB := Lib.hid hab
          clear hab hn
          by_cases hn0 : n = 0
          · subst hn0
            go_wp2_with fail
            go_roundw
            case rel =>
              have hR3 : allN (argD m f (o, a1, a2, a3, a4)) (4 - (j + 1)) (j + 1) = Z := by rw [← HALL.out, HST.out, HAB.out]; rfl
              first | exact ⟨j + 1, by omega, by go_num, hR3, hbj⟩ | ((repeat apply Exists.intro); exact ⟨⟨j + 1, by omega, by go_num, hR3, hbj⟩, rfl⟩)
            case measure => simp [intOf]; omega
          · have hzf : Z = false := by rw [← HALL.out, HST.out, HAB.out, beq_eq_false_iff_ne.2 hn0]; rfl
            have hfin : R = false := HAR.out (by rw [HZ.out]; exact hzf)
            subst hfin
            go_wp2_with fail
            go_ret
            exact ⟨rfl, hbw⟩
      · have hzt : Z = true := by rw [← HALL.out, allN_end _ (by omega)]
        have hargs : argsD m f (o, a1, a2, a3, a4) = true := by rw [HZ.out]; exact hzt
        have HARGS := Lib.hid hargs
        have hRE := HEX.out HF1.out hargs
        have HRE := Lib.hid hRE
        clear hargs hRE
        obtain rfl : j = 4 := by omega
        by_cases p1 : o = 38
        · subst p1
          have hfin : R = regB f.regs (a1 + 1) := HRE.out
          have hbd := HIB.out (HAE.out HARGS.out (by decide)) rfl
          have hnw : a1 + 1 ≤ 9223372036854775807 := by omega
          have hnw2 : 0 ≤ a1 := hbd.1
          rw [regB_pos (by omega)] at hfin
          clear hbd
          by_cases p11 : f.regs ≤ a1 + 1
          · rw [decide_eq_false (by omega)] at hfin
            subst hfin
            go_wp2_with fail
            go_ret
            exact ⟨rfl, hbw⟩
          · rw [decide_eq_true (by omega)] at hfin
            subst hfin
            go_wp2_with fail
            go_ret
            exact ⟨rfl, hbw⟩
        by_cases p2 : o = 39
        · subst p2
          have hfin : R = regB f.regs (a2 + 1) := HRE.out
          have hbd := HSB.out (HAE.out HARGS.out (by decide)) rfl
          have hnw : a2 + 1 ≤ 9223372036854775807 := by omega
          have hnw2 : 0 ≤ a2 := hbd.1
          rw [regB_pos (by omega)] at hfin
          clear hbd
          by_cases p11 : f.regs ≤ a2 + 1
          · rw [decide_eq_false (by omega)] at hfin
            subst hfin
            go_wp2_with fail
            go_ret
            exact ⟨rfl, hbw⟩
          · rw [decide_eq_true (by omega)] at hfin
            subst hfin
            go_wp2_with fail
            go_ret
            exact ⟨rfl, hbw⟩
        by_cases p3 : o = 15
        · subst p3
          have hbd := HCB.out (HAE.out HARGS.out (by decide)) rfl
          obtain ⟨q, rfl⟩ : ∃ q : Nat, a2 = q := ⟨a2.toNat, by omega⟩
          obtain ⟨g, hg⟩ : ∃ g, fns[q]? = some g := ⟨fns[q]'(by omega), List.getElem?_eq_getElem _⟩
          have hfin : R = g.caps.all (capB f) := by
            have h1 : R = closB fns f (q : Int) := HRE.out
            rw [h1]
            unfold closB
            rw [Int.toNat_natCast, hg]
          have HFIN := Lib.hid hfin
          have hgm := List.mem_of_getElem? hg
          have hnu := hu g hgm
          have hMr := hM.below hbw hbw.size
          obtain ⟨b2, off2, hA2, _, _, _, _, _, _, _, _, _, q8⟩ := hMr.at_ hg
          have hur := (hMr.each g hgm).ur
          rw [hA2] at k_m0
          obtain ⟨nu, hnu2⟩ : ∃ x, g.caps.length = x := ⟨_, rfl⟩
          obtain ⟨UA, hUA⟩ : ∃ x, g.uA = x := ⟨_, rfl⟩
          rw [hnu2] at q8 hnu
          rw [hUA] at q8 hur
          have HNU := Lib.hid hnu2
          have hqm : (q : Int) < m := hbd.2
          have hall0 : (g.caps.drop 0).all (capB f) = R := by rw [HFIN.out]; rfl
          have HA0 := Lib.hid hall0
          clear hfin hg hnu2 hUA hall0 hbd
          go_wp2_with fail
          obtain ⟨W, hWd⟩ : ∃ W, wr = W := ⟨_, rfl⟩
          rw [hWd] at hbw hur k_f4 k_f8 ⊢
          clear hWd
          go_loopw [102] (fun iv wr => ∃ r : Nat, r ≤ nu ∧ iv = .int .i64 r ∧ (g.caps.drop r).all (capB f) = R ∧ Below W.heap.size W wr)
            (fun iv _ => nu - (intOf iv).toNat)
          case atStart => exact ⟨0, Nat.zero_le _, rfl, HA0.out, Below.refl _ _⟩
          case round =>
            obtain ⟨r, hr, rfl, hcall, hbr⟩ := hrel
            have HCALL := Lib.hid hcall
            clear hcall
            have hbz : Below w.heap.size w wr := hbw.trans (hbr.mono hbw.size)
            by_cases hlr : r < nu
            · obtain ⟨⟨up, un⟩, hcu⟩ : ∃ u, g.caps[r]? = some u := ⟨g.caps[r]'(by have := HNU.out; omega), List.getElem?_eq_getElem _⟩
              obtain ⟨b3', off3, rfl, _, v0, v1⟩ := (hur.below hbr (Nat.le_refl _)).cap hcu
              simp only at v0 v1
              have HSTC := Lib.hid (all_step (capB f) hcu)
              have hwn : (wr.alloc (.cells #[.bool up, .int .i64 un] 79)).heap[wr.heap.size]? = some (.cells #[.bool up, .int .i64 un] 79 (0, 0)) := heap_alloc_new wr _
              have hbn : Below W.heap.size W (wr.alloc (.cells #[.bool up, .int .i64 un] 79)) := hbr.alloc hbr.size _
              obtain ⟨wn, hwn'⟩ : ∃ wn, wr.alloc (.cells #[.bool up, .int .i64 un] 79) = wn := ⟨_, rfl⟩
              rw [hwn'] at hwn hbn
              have s0 := cell_blockK hwn 0
              have s1 := cell_blockK hwn 1
              simp at s0 s1
              have n4 := (hbn.cell (World.block_lt_of_cell? _ _ k_f4)).trans k_f4
              have n8 := (hbn.cell (World.block_lt_of_cell? _ _ k_f8)).trans k_f8
              have hbnz : Below w.heap.size w wn := hbw.trans (hbn.mono hbw.size)
              clear hcu
              by_cases u0 : un < 0
              · have hcb2 : capB f (up, un) = false := by unfold capB; simp only [regB_neg u0]; split <;> rfl
                have hfin : R = false := by rw [← HCALL.out, HSTC.out, hcb2]; rfl
                subst hfin
                clear hcb2
                go_wp2_with fail
                go_ret
                exact ⟨rfl, hbnz⟩
              have u0' : 0 ≤ un := by omega
              cases up with
              | true =>
                by_cases u1 : (f.caps.length : Int) ≤ un
                · have hcb2 : capB f (true, un) = false := by show regB f.caps.length un = false; rw [regB_pos u0', decide_eq_false (by omega)]
                  have hfin : R = false := by rw [← HCALL.out, HSTC.out, hcb2]; rfl
                  subst hfin
                  clear hcb2
                  go_wp2_with fail
                  go_ret
                  exact ⟨rfl, hbnz⟩
                · have hcb2 : capB f (true, un) = true := by show regB f.caps.length un = true; rw [regB_pos u0', decide_eq_true (by omega)]
                  have HCB2 := Lib.hid hcb2
                  clear hcb2
                  go_wp2_with fail
                  go_roundw
                  case rel =>
                    have hR3 : (g.caps.drop (r + 1)).all (capB f) = R := by rw [← HCALL.out, HSTC.out, HCB2.out]; rfl
                    first | exact ⟨r + 1, by omega, by go_num, hR3, hbn⟩ | ((repeat apply Exists.intro); exact ⟨⟨r + 1, by omega, by go_num, hR3, hbn⟩, rfl⟩)
                  case measure => simp [intOf]; omega
              | false =>
                by_cases u1 : f.regs ≤ un
                · have hcb2 : capB f (false, un) = false := by show regB f.regs un = false; rw [regB_pos u0', decide_eq_false (by omega)]
                  have hfin : R = false := by rw [← HCALL.out, HSTC.out, hcb2]; rfl
                  subst hfin
                  clear hcb2
                  go_wp2_with fail
                  go_ret
                  exact ⟨rfl, hbnz⟩
                · have hcb2 : capB f (false, un) = true := by show regB f.regs un = true; rw [regB_pos u0', decide_eq_true (by omega)]
                  have HCB2 := Lib.hid hcb2
                  clear hcb2
                  go_wp2_with fail
                  go_roundw
                  case rel =>
                    have hR3 : (g.caps.drop (r + 1)).all (capB f) = R := by rw [← HCALL.out, HSTC.out, HCB2.out]; rfl
                    first | exact ⟨r + 1, by omega, by go_num, hR3, hbn⟩ | ((repeat apply Exists.intro); exact ⟨⟨r + 1, by omega, by go_num, hR3, hbn⟩, rfl⟩)
                  case measure => simp [intOf]; omega
            · have hfin : R = true := by rw [← HCALL.out, all_end _ (by have := HNU.out; omega)]
              subst hfin
              go_wp2_with fail
              go_ret
              exact ⟨rfl, hbz⟩
        · have hfin : R = true := by
            rw [HRE.out]
            unfold extraD
            simp only [p1, p2, p3, if_false]
          subst hfin
          go_wp2_with fail
          go_ret
          exact ⟨rfl, hbw⟩
  · have hq : ((k : Int) == (nk : Int) - 1) = false := by rw [beq_eq_false_iff_ne]; omega
    clear g1 g2
    go_wp2_with fail
    refine (refOps_any o _).mono ?_
    rintro e w3 ⟨rfl, b3⟩
    obtain ⟨L, hL⟩ : ∃ L, lettersOf o = L := ⟨_, rfl⟩
    have hLs := (letters_ok o).1
    have hLl := (letters_ok o).2
    rw [hL] at hLs hLl ⊢
    have HL := Lib.hid hL
    have HLL := Lib.hid hLl
    clear hL hLl hwr hq
    have hbW : Below w0.heap.size w0 w3 := b3
    have j0 := (hbW.cell (World.block_lt_of_cell? _ _ i0)).trans i0
    have j1 := (hbW.cell (World.block_lt_of_cell? _ _ i1)).trans i1
    have j2 := (hbW.cell (World.block_lt_of_cell? _ _ i2)).trans i2
    have j3 := (hbW.cell (World.block_lt_of_cell? _ _ i3)).trans i3
    have j4 := (hbW.cell (World.block_lt_of_cell? _ _ i4)).trans i4
    simp only
    go_wp2_with fail
    refine (refargs_any (o, a1, a2, a3, a4) _).mono ?_
    rintro e w4 ⟨rfl, hw4⟩
    have hs3 : (w3.alloc (.cells #[.int .i64 o, .int .i64 a1, .int .i64 a2, .int .i64 a3, .int .i64 a4] 50)).heap.size = w3.heap.size + 1 := by simp
    have hargw := HARG.out (w3.alloc (.cells #[.int .i64 o, .int .i64 a1, .int .i64 a2, .int .i64 a3, .int .i64 a4] 50))
    rw [hs3] at hargw
    have hw4' : (w3.alloc (.cells #[.int .i64 o, .int .i64 a1, .int .i64 a2, .int .i64 a3, .int .i64 a4] 50)).alloc (.cells #[.int .i64 a1, .int .i64 a2, .int .i64 a3, .int .i64 a4] 3) = w4 := hw4
    have b34 : Below w3.heap.size w3 w4 := by rw [← hw4']; exact ((Below.refl _ _).alloc (Nat.le_refl _) _).alloc (by simp) _
    rw [hw4'] at hargw
    clear hw4 hw4' hs3 j0 j1 j2 j3 j4
    have b04 : Below w0.heap.size w0 w4 := b3.trans (b34.mono b3.size)
    have bz4 : Below w.heap.size w w4 := hb00.trans (b04.mono (by omega))
    have HAC := Lib.hid hargw
    clear hargw
    simp only
    go_wp2_with fail
    obtain ⟨Z, hZ⟩ : ∃ Z, argsD m f (o, a1, a2, a3, a4) = Z := ⟨_, rfl⟩
    have HZ := Lib.hid hZ
    have hZ0 : allN (argD m f (o, a1, a2, a3, a4)) (4 - 0) 0 = Z := hZ
    have HZ0 := Lib.hid hZ0
    clear hZ hZ0
    go_loopw [46] (fun jv wr => ∃ j : Nat, j ≤ 4 ∧ jv = .int .i64 j ∧ allN (argD m f (o, a1, a2, a3, a4)) (4 - j) j = Z ∧ Below w4.heap.size w4 wr)
      (fun jv _ => 4 - (intOf jv).toNat)
    case atStart => exact ⟨0, Nat.zero_le _, rfl, HZ0.out, Below.refl _ _⟩
    case round =>
      obtain ⟨j, hj, rfl, hall, hbj⟩ := hrel
      have HALL := Lib.hid hall
      clear hall
      have hbW : Below w0.heap.size w0 wr := b04.trans (hbj.mono b04.size)
      have hbw : Below w.heap.size w wr := hb00.trans (hbW.mono (by omega))
      have hFr := hF.below hbw hbw.size
      have k_m0 := (hbW.cell (World.block_lt_of_cell? _ _ m0)).trans m0
      have k_f0 := (hbW.cell (World.block_lt_of_cell? _ _ f0)).trans f0
      have k_f1 := (hbW.cell (World.block_lt_of_cell? _ _ f1)).trans f1
      have k_f2 := (hbW.cell (World.block_lt_of_cell? _ _ f2)).trans f2
      have k_f3 := (hbW.cell (World.block_lt_of_cell? _ _ f3)).trans f3
      have k_f4 := (hbW.cell (World.block_lt_of_cell? _ _ f4)).trans f4
      have k_f5 := (hbW.cell (World.block_lt_of_cell? _ _ f5)).trans f5
      have k_f6 := (hbW.cell (World.block_lt_of_cell? _ _ f6)).trans f6
      have k_f7 := (hbW.cell (World.block_lt_of_cell? _ _ f7)).trans f7
      have k_f8 := (hbW.cell (World.block_lt_of_cell? _ _ f8)).trans f8
      have k_i0 := (hbW.cell (World.block_lt_of_cell? _ _ i0)).trans i0
      have k_i1 := (hbW.cell (World.block_lt_of_cell? _ _ i1)).trans i1
      have k_i2 := (hbW.cell (World.block_lt_of_cell? _ _ i2)).trans i2
      have k_i3 := (hbW.cell (World.block_lt_of_cell? _ _ i3)).trans i3
      have k_i4 := (hbW.cell (World.block_lt_of_cell? _ _ i4)).trans i4
      by_cases hlt : j < 4
      · have hac := HAC.out j hlt
        have hac2 := (hbj.cell (World.block_lt_of_cell? _ _ hac)).trans hac
        obtain ⟨n, hn⟩ : ∃ n, argAt (o, a1, a2, a3, a4) j = n := ⟨_, rfl⟩
        rw [hn] at hac2
        have HST := Lib.hid (allN_step (argD m f (o, a1, a2, a3, a4)) hlt)
        clear hac
        by_cases hjl : j < L.size
        · obtain ⟨x, hx⟩ : ∃ x, L[j]? = some x := ⟨L[j], getElem?_pos L j hjl⟩
          have hlet := HLL.out j x hx
          have hjl2 : (j : Int) < L.size := by omega
          have hi1 := fun w => run_index_str (P := Tryd.prog) Tryd.underlying9 L (j : Int) j rfl hjl w
          rw [hx, Option.getD_some] at hi1
          have hab := argD_some (m := m) (f := f) (i := (o, a1, a2, a3, a4)) (k := j) (b := x) (by rw [HL.out]; exact hx)
          rw [hn] at hab
          have HAB := Lib.hid hab
          have hop := fun w' h' => refoperand_any (w := w') (A := A) (m := m) (c := c) (f := f) (i := (o, a1, a2, a3, a4)) h' n x hlet
          simp only [fnC, insC, hA] at hop
          have HNKL : f.code.length = nk := HNKK.out
          rw [HNKL] at hop
          have HOP := Lib.hid hop
          clear hn hx hlet hab hop HNKL
          go_wp2_with fail
          refine wp_region_lin (fun w' => w' = wr.drew) [7, 8] (.block 0 (.block 1 (.block 2 (.block 3 (.block 4 (.block 5 (.block 6 (.loop (.scope (.seq (.label 7) (.block 8 (.skip)))))))))))) (by kernel_rfl) (by kernel_rfl) (by kernel_rfl) (by kernel_rfl) (by kernel_rfl) rfl ?_
          repeat
            (refine lin_light (A1 := ?_) rfl rfl rfl rfl rfl (fun w' hS K hK => ?_) ?_ ?_
             rotate_left
             · obtain rfl := hS; go_step; exact hK
             · rfl)
          try refine lin_late ?_
          refine lin_group ?_
          refine lin_heavy rfl rfl (fun K hK => ?_)
          go_step
          refine (HOP.out _ (hFr.below (Below.refl _ _).drew (Nat.le_refl _))).mono ?_
          rintro e w5 ⟨rfl, b5⟩
          have hb5 : Below w4.heap.size w4 w5 := hbj.drew.trans (b5.mono hbj.size)
          have hb5w : Below w.heap.size w w5 := hbw.drew.trans (b5.mono hbw.size)
          cases hres : kindD m f o x.toNat n with
          | true =>
            simp only
            refine hK.out _ _ trivial ?_
            clear hK K
            repeat
              (refine lin_light (A1 := ?_) rfl rfl rfl rfl rfl (fun w' hS K hK => ?_) ?_ ?_
               rotate_left
               · clear hS; go_step; exact hK
               · rfl)
            refine lin_end ?_
            go_wp2_with fail
            go_roundw
            case rel =>
              have hR3 : allN (argD m f (o, a1, a2, a3, a4)) (4 - (j + 1)) (j + 1) = Z := by rw [← HALL.out, HST.out, HAB.out, hres]; rfl
              first | exact ⟨j + 1, by omega, by go_num, hR3, hb5⟩ | ((repeat apply Exists.intro); exact ⟨⟨j + 1, by omega, by go_num, hR3, hb5⟩, rfl⟩)
            case measure => simp [intOf]; omega
          | false =>
            have hzf : Z = false := by rw [← HALL.out, HST.out, HAB.out, hres]; rfl
            have hfin : R = false := HAR.out (by rw [HZ.out]; exact hzf)
            subst hfin
            simp only
            refine hK.out _ _ trivial ?_
            clear hK K
            repeat
              (refine lin_light (A1 := ?_) rfl rfl rfl rfl rfl (fun w' hS K hK => ?_) ?_ ?_
               rotate_left
               · clear hS; go_step; exact hK
               · rfl)
            refine lin_end ?_
            go_wp2_with fail
            go_ret
            exact ⟨rfl, hb5w⟩
        · have hjl2 : (L.size : Int) ≤ j := by omega
          have hab := argD_none (m := m) (f := f) (i := (o, a1, a2, a3, a4)) (k := j) (by rw [HL.out]; exact getElem?_neg L j hjl)
          rw [hn] at hab
          have HAB := Lib.hid hab
          clear hab hn
          by_cases hn0 : n = 0
          · subst hn0
            go_wp2_with fail
            go_roundw
            case rel =>
              have hR3 : allN (argD m f (o, a1, a2, a3, a4)) (4 - (j + 1)) (j + 1) = Z := by rw [← HALL.out, HST.out, HAB.out]; rfl
              first | exact ⟨j + 1, by omega, by go_num, hR3, hbj⟩ | ((repeat apply Exists.intro); exact ⟨⟨j + 1, by omega, by go_num, hR3, hbj⟩, rfl⟩)
            case measure => simp [intOf]; omega
          · have hzf : Z = false := by rw [← HALL.out, HST.out, HAB.out, beq_eq_false_iff_ne.2 hn0]; rfl
            have hfin : R = false := HAR.out (by rw [HZ.out]; exact hzf)
            subst hfin
            go_wp2_with fail
            go_ret
            exact ⟨rfl, hbw⟩
      · have hzt : Z = true := by rw [← HALL.out, allN_end _ (by omega)]
        have hargs : argsD m f (o, a1, a2, a3, a4) = true := by rw [HZ.out]; exact hzt
        have HARGS := Lib.hid hargs
        have hRE := HEX.out HF1.out hargs
        have HRE := Lib.hid hRE
        clear hargs hRE
        obtain rfl : j = 4 := by omega
        by_cases p1 : o = 38
        · subst p1
          have hfin : R = regB f.regs (a1 + 1) := HRE.out
          have hbd := HIB.out (HAE.out HARGS.out (by decide)) rfl
          have hnw : a1 + 1 ≤ 9223372036854775807 := by omega
          have hnw2 : 0 ≤ a1 := hbd.1
          rw [regB_pos (by omega)] at hfin
          clear hbd
          by_cases p11 : f.regs ≤ a1 + 1
          · rw [decide_eq_false (by omega)] at hfin
            subst hfin
            go_wp2_with fail
            go_ret
            exact ⟨rfl, hbw⟩
          · rw [decide_eq_true (by omega)] at hfin
            subst hfin
            go_wp2_with fail
            go_ret
            exact ⟨rfl, hbw⟩
        by_cases p2 : o = 39
        · subst p2
          have hfin : R = regB f.regs (a2 + 1) := HRE.out
          have hbd := HSB.out (HAE.out HARGS.out (by decide)) rfl
          have hnw : a2 + 1 ≤ 9223372036854775807 := by omega
          have hnw2 : 0 ≤ a2 := hbd.1
          rw [regB_pos (by omega)] at hfin
          clear hbd
          by_cases p11 : f.regs ≤ a2 + 1
          · rw [decide_eq_false (by omega)] at hfin
            subst hfin
            go_wp2_with fail
            go_ret
            exact ⟨rfl, hbw⟩
          · rw [decide_eq_true (by omega)] at hfin
            subst hfin
            go_wp2_with fail
            go_ret
            exact ⟨rfl, hbw⟩
        by_cases p3 : o = 15
        · subst p3
          have hbd := HCB.out (HAE.out HARGS.out (by decide)) rfl
          obtain ⟨q, rfl⟩ : ∃ q : Nat, a2 = q := ⟨a2.toNat, by omega⟩
          obtain ⟨g, hg⟩ : ∃ g, fns[q]? = some g := ⟨fns[q]'(by omega), List.getElem?_eq_getElem _⟩
          have hfin : R = g.caps.all (capB f) := by
            have h1 : R = closB fns f (q : Int) := HRE.out
            rw [h1]
            unfold closB
            rw [Int.toNat_natCast, hg]
          have HFIN := Lib.hid hfin
          have hgm := List.mem_of_getElem? hg
          have hnu := hu g hgm
          have hMr := hM.below hbw hbw.size
          obtain ⟨b2, off2, hA2, _, _, _, _, _, _, _, _, _, q8⟩ := hMr.at_ hg
          have hur := (hMr.each g hgm).ur
          rw [hA2] at k_m0
          obtain ⟨nu, hnu2⟩ : ∃ x, g.caps.length = x := ⟨_, rfl⟩
          obtain ⟨UA, hUA⟩ : ∃ x, g.uA = x := ⟨_, rfl⟩
          rw [hnu2] at q8 hnu
          rw [hUA] at q8 hur
          have HNU := Lib.hid hnu2
          have hqm : (q : Int) < m := hbd.2
          have hall0 : (g.caps.drop 0).all (capB f) = R := by rw [HFIN.out]; rfl
          have HA0 := Lib.hid hall0
          clear hfin hg hnu2 hUA hall0 hbd
          go_wp2_with fail
          obtain ⟨W, hWd⟩ : ∃ W, wr = W := ⟨_, rfl⟩
          rw [hWd] at hbw hur k_f4 k_f8 ⊢
          clear hWd
          go_loopw [102] (fun iv wr => ∃ r : Nat, r ≤ nu ∧ iv = .int .i64 r ∧ (g.caps.drop r).all (capB f) = R ∧ Below W.heap.size W wr)
            (fun iv _ => nu - (intOf iv).toNat)
          case atStart => exact ⟨0, Nat.zero_le _, rfl, HA0.out, Below.refl _ _⟩
          case round =>
            obtain ⟨r, hr, rfl, hcall, hbr⟩ := hrel
            have HCALL := Lib.hid hcall
            clear hcall
            have hbz : Below w.heap.size w wr := hbw.trans (hbr.mono hbw.size)
            by_cases hlr : r < nu
            · obtain ⟨⟨up, un⟩, hcu⟩ : ∃ u, g.caps[r]? = some u := ⟨g.caps[r]'(by have := HNU.out; omega), List.getElem?_eq_getElem _⟩
              obtain ⟨b3', off3, rfl, _, v0, v1⟩ := (hur.below hbr (Nat.le_refl _)).cap hcu
              simp only at v0 v1
              have HSTC := Lib.hid (all_step (capB f) hcu)
              have hwn : (wr.alloc (.cells #[.bool up, .int .i64 un] 79)).heap[wr.heap.size]? = some (.cells #[.bool up, .int .i64 un] 79 (0, 0)) := heap_alloc_new wr _
              have hbn : Below W.heap.size W (wr.alloc (.cells #[.bool up, .int .i64 un] 79)) := hbr.alloc hbr.size _
              obtain ⟨wn, hwn'⟩ : ∃ wn, wr.alloc (.cells #[.bool up, .int .i64 un] 79) = wn := ⟨_, rfl⟩
              rw [hwn'] at hwn hbn
              have s0 := cell_blockK hwn 0
              have s1 := cell_blockK hwn 1
              simp at s0 s1
              have n4 := (hbn.cell (World.block_lt_of_cell? _ _ k_f4)).trans k_f4
              have n8 := (hbn.cell (World.block_lt_of_cell? _ _ k_f8)).trans k_f8
              have hbnz : Below w.heap.size w wn := hbw.trans (hbn.mono hbw.size)
              clear hcu
              by_cases u0 : un < 0
              · have hcb2 : capB f (up, un) = false := by unfold capB; simp only [regB_neg u0]; split <;> rfl
                have hfin : R = false := by rw [← HCALL.out, HSTC.out, hcb2]; rfl
                subst hfin
                clear hcb2
                go_wp2_with fail
                go_ret
                exact ⟨rfl, hbnz⟩
              have u0' : 0 ≤ un := by omega
              cases up with
              | true =>
                by_cases u1 : (f.caps.length : Int) ≤ un
                · have hcb2 : capB f (true, un) = false := by show regB f.caps.length un = false; rw [regB_pos u0', decide_eq_false (by omega)]
                  have hfin : R = false := by rw [← HCALL.out, HSTC.out, hcb2]; rfl
                  subst hfin
                  clear hcb2
                  go_wp2_with fail
                  go_ret
                  exact ⟨rfl, hbnz⟩
                · have hcb2 : capB f (true, un) = true := by show regB f.caps.length un = true; rw [regB_pos u0', decide_eq_true (by omega)]
                  have HCB2 := Lib.hid hcb2
                  clear hcb2
                  go_wp2_with fail
                  go_roundw
                  case rel =>
                    have hR3 : (g.caps.drop (r + 1)).all (capB f) = R := by rw [← HCALL.out, HSTC.out, HCB2.out]; rfl
                    first | exact ⟨r + 1, by omega, by go_num, hR3, hbn⟩ | ((repeat apply Exists.intro); exact ⟨⟨r + 1, by omega, by go_num, hR3, hbn⟩, rfl⟩)
                  case measure => simp [intOf]; omega
              | false =>
                by_cases u1 : f.regs ≤ un
                · have hcb2 : capB f (false, un) = false := by show regB f.regs un = false; rw [regB_pos u0', decide_eq_false (by omega)]
                  have hfin : R = false := by rw [← HCALL.out, HSTC.out, hcb2]; rfl
                  subst hfin
                  clear hcb2
                  go_wp2_with fail
                  go_ret
                  exact ⟨rfl, hbnz⟩
                · have hcb2 : capB f (false, un) = true := by show regB f.regs un = true; rw [regB_pos u0', decide_eq_true (by omega)]
                  have HCB2 := Lib.hid hcb2
                  clear hcb2
                  go_wp2_with fail
                  go_roundw
                  case rel =>
                    have hR3 : (g.caps.drop (r + 1)).all (capB f) = R := by rw [← HCALL.out, HSTC.out, HCB2.out]; rfl
                    first | exact ⟨r + 1, by omega, by go_num, hR3, hbn⟩ | ((repeat apply Exists.intro); exact ⟨⟨r + 1, by omega, by go_num, hR3, hbn⟩, rfl⟩)
                  case measure => simp [intOf]; omega
            · have hfin : R = true := by rw [← HCALL.out, all_end _ (by have := HNU.out; omega)]
              subst hfin
              go_wp2_with fail
              go_ret
              exact ⟨rfl, hbz⟩
        · have hfin : R = true := by
            rw [HRE.out]
            unfold extraD
            simp only [p1, p2, p3, if_false]
          subst hfin
          go_wp2_with fail
          go_ret
          exact ⟨rfl, hbw⟩
end
end Go.Proofs.YtoihoackmkapaaaDoor
