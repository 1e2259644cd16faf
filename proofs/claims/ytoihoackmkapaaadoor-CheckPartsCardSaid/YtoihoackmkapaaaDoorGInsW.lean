/- The walk of checker.ins at lengths of any size. -/
import Derived.Test.YtoihoackmkapaaaDoorKInsW
namespace Go.Proofs.YtoihoackmkapaaaDoor.G
open Go.RowKit
set_option maxHeartbeats 8000000
set_option maxRecDepth 100000
section
variable {w : World} {cb mb : Nat} {A : Option Addr} {m c k : Nat} {at_ : Int} {f : FnT} {fns : List FnT} {i : InsT}
theorem ins_any (h : Chk w cb A m c at_ f) (hM : ModIn w w.heap.size A fns) (hlm : fns.length = m) (hF : FnIn w w.heap.size f) (hK : Kinds w mb) (hT : Tb w) (hi : f.code[k]? = some i) (_ : m ≤ 9223372036854775807) (hcl : f.code.length ≤ 9223372036854775807) (hu : ∀ g ∈ fns, g.caps.length ≤ 9223372036854775807) :
    Calls Tryd.prog 20 #[.pointer (some ⟨cb, 0, none⟩), .int .i64 k, .map (some mb)] w fun e w' => e = .returned (.bool (insB fns m f k i)) ∧ Below w.heap.size w w' := by
  obtain ⟨c0, c1, c2, c3, c4, c5, c6, c7, c8, c9, c10⟩ := h.cells
  obtain ⟨b, off, hA, hbl, d0, d1, d2, d3, d4⟩ := hF.kr.ins hi
  have hkn : k < f.code.length := (List.getElem?_eq_some_iff.1 hi).1
  obtain ⟨R, hR⟩ : ∃ R, insB fns m f k i = R := ⟨_, rfl⟩
  rw [hR]
  have hfr := insB_front (fns := fns) (m := m) (f := f) (k := k) (i := i)
  have har := insB_args (fns := fns) (m := m) (f := f) (k := k) (i := i)
  have hex := insB_extra (fns := fns) (m := m) (f := f) (k := k) (i := i)
  have hib := iter_bd (m := m) (f := f) (i := i)
  have hsb := step_bd (m := m) (f := f) (i := i)
  have hcb := clos_bd (m := m) (f := f) (i := i)
  have hix := index4 i.2.1 i.2.2.1 i.2.2.2.1 i.2.2.2.2
  have hrgm := hF.rg
  rw [hR] at hfr har hex
  obtain ⟨nk, hnk⟩ : ∃ x, f.code.length = x := ⟨_, rfl⟩
  have hfb : frontB f k i = (decide (0 ≤ i.1 ∧ i.1 ≤ 70) && (decide (k + 1 ≠ nk) || endsB i.1)) := by rw [← hnk]; rfl
  rw [hfb] at hfr hex
  rw [hnk, hA] at c8
  rw [hnk] at hkn hcl
  have hwr : wrap64 ((nk : Int) - 1) = (nk : Int) - 1 := by unfold wrap64; omega
  have HNKK := Lib.hid hnk
  clear hnk
  obtain ⟨o, a1, a2, a3, a4⟩ := i
  simp only at d0 d1 d2 d3 d4 hfr hex hib hsb hcb hix
  have hbx : (w.alloc (.cells #[.int .i64 o, .int .i64 a1, .int .i64 a2, .int .i64 a3, .int .i64 a4] 50)).heap[w.heap.size]? = some (.cells #[.int .i64 o, .int .i64 a1, .int .i64 a2, .int .i64 a3, .int .i64 a4] 50 (0, 0)) := heap_alloc_new w _
  have hb00 : Below w.heap.size w (w.alloc (.cells #[.int .i64 o, .int .i64 a1, .int .i64 a2, .int .i64 a3, .int .i64 a4] 50)) := (Below.refl _ _).alloc (Nat.le_refl _) _
  have hsz0 : (w.alloc (.cells #[.int .i64 o, .int .i64 a1, .int .i64 a2, .int .i64 a3, .int .i64 a4] 50)).heap.size = w.heap.size + 1 := by simp
  obtain ⟨w0, hw0⟩ : ∃ w0, w.alloc (.cells #[.int .i64 o, .int .i64 a1, .int .i64 a2, .int .i64 a3, .int .i64 a4] 50) = w0 := ⟨_, rfl⟩
  rw [hw0] at hbx hb00 hsz0
  have x0 := cell_blockK hbx 0
  simp at x0
  have e8 := (hb00.cell (World.block_lt_of_cell? _ _ c8)).trans c8
  have hT0 := hT.below hb00 (Nat.le_refl _)
  have hkn1 : (k : Int) < nk := by omega
  have HFR := Lib.hid hfr
  have HAR := Lib.hid har
  have HEX := Lib.hid hex
  have HIB := Lib.hid hib
  have HSB := Lib.hid hsb
  have HCB := Lib.hid hcb
  have HIX := Lib.hid hix
  clear hfr har hex hR hfb hib hsb hcb hix
  go_enter Tryd.func20, Tryd.ntmps20
  go_wp2_with fail
  refine (name_any o _ hT0).mono ?_
  rintro e w1 ⟨nm, rfl, hnm, b1⟩
  have hemp := eq_empty nm
  have b01 : Below w0.heap.size w0 w1 := b1
  have x0 := (b01.cell (World.block_lt_of_cell? _ _ x0)).trans x0
  have e8 := (b01.cell (World.block_lt_of_cell? _ _ e8)).trans e8
  have bz1 := hb00.trans (b01.mono (by omega))
  have HNM := Lib.hid hnm
  clear hnm hw0
  simp only
  by_cases g0 : o < 0 ∨ 70 < o
  · have hn0 : nm.size = 0 := HNM.out.2 g0
    have hfin : R = false := HFR.out (by rw [decide_eq_false (by omega)]; rfl)
    subst hfin
    simp only [hn0, decide_true] at hemp
    go_wp2_with fail
    go_ret
    exact ⟨rfl, bz1⟩
  have hn0 : ¬ nm.size = 0 := fun hh => g0 (HNM.out.1 hh)
  simp only [hn0, decide_false] at hemp
  by_cases g1 : k + 1 = nk ∧ endsB o = false
  · have hfin : R = false := HFR.out (by rw [decide_eq_false (by omega : ¬ (k + 1 ≠ nk)), g1.2]; simp)
    subst hfin
    obtain ⟨g1, g2⟩ := g1
    have hq : ((k : Int) == (nk : Int) - 1) = true := by rw [beq_iff_eq]; omega
    clear g1 hkn hkn1
    go_wp2_with fail
    refine (ends_any o _).mono ?_
    rintro e w2 ⟨rfl, rfl⟩
    rw [g2]
    simp only
    go_wp2_with fail
    go_ret
    exact ⟨rfl, bz1⟩
  have hfront : (decide (0 ≤ o ∧ o ≤ 70) && (decide (k + 1 ≠ nk) || endsB o)) = true := by
    rw [decide_eq_true (by omega : 0 ≤ o ∧ o ≤ 70)]
    by_cases g2 : k + 1 = nk
    · cases g3 : endsB o with
      | true => simp
      | false => exact absurd ⟨g2, g3⟩ g1
    · simp [g2]
  have HF1 := Lib.hid hfront
  clear hfront
  have cellA0 := cell_blockK hbx 0
  have cellA1 := cell_blockK hbx 1
  have cellA2 := cell_blockK hbx 2
  have cellA3 := cell_blockK hbx 3
  have cellA4 := cell_blockK hbx 4
  simp at cellA0 cellA1 cellA2 cellA3 cellA4
  have hT1 := hT0.below b01 (Nat.le_refl _)
  by_cases g2 : k + 1 = nk
  · have g3 : endsB o = true := by
      cases hh : endsB o with
      | true => rfl
      | false => exact absurd ⟨g2, hh⟩ g1
    have hq : ((k : Int) == (nk : Int) - 1) = true := by rw [beq_iff_eq]; omega
    clear g1 g2 hkn hkn1
    go_wp2_with fail
    refine (ends_any o _).mono ?_
    rintro e w2 ⟨rfl, rfl⟩
    rw [g3]
    simp only
    go_wp2_with fail
    refine (codeOps_any o _ hT1).mono ?_
    rintro e w3 ⟨rfl, b3⟩
    have x0 := (b3.cell (World.block_lt_of_cell? _ _ x0)).trans x0
    have y1 := ((b01.trans (b3.mono b01.size)).cell (World.block_lt_of_cell? _ _ cellA1)).trans cellA1
    have y2 := ((b01.trans (b3.mono b01.size)).cell (World.block_lt_of_cell? _ _ cellA2)).trans cellA2
    have y3 := ((b01.trans (b3.mono b01.size)).cell (World.block_lt_of_cell? _ _ cellA3)).trans cellA3
    have y4 := ((b01.trans (b3.mono b01.size)).cell (World.block_lt_of_cell? _ _ cellA4)).trans cellA4
    have bz3 := bz1.trans (b3.mono bz1.size)
    obtain ⟨L, hL⟩ : ∃ L, lettersOf o = L := ⟨_, rfl⟩
    have hLs := (letters_ok o).1
    have hLl := (letters_ok o).2
    rw [hL] at hLs hLl ⊢
    have HL := Lib.hid hL
    have HLL := Lib.hid hLl
    clear hL hLl
    simp only
    go_wp2_with fail
    refine (args_any (o, a1, a2, a3, a4) _).mono ?_
    rintro e w4 ⟨rfl, b4⟩
    have bz4 := bz3.trans (b4.mono bz3.size)
    have b04 : Below w0.heap.size w0 w4 := (b01.trans (b3.mono b01.size)).trans (b4.mono (by have := b01.size; have := b3.size; omega))
    clear x0 y1 y2 y3 y4
    simp only
    go_wp2_with fail
    obtain ⟨Z, hZ⟩ : ∃ Z, argsB m f (o, a1, a2, a3, a4) = Z := ⟨_, rfl⟩
    have HZ := Lib.hid hZ
    have hZ0 : allN (argB m f (o, a1, a2, a3, a4)) (4 - 0) 0 = Z := hZ
    have HZ0 := Lib.hid hZ0
    clear hZ hZ0 hemp hwr hq
    go_loopw [47] (fun jv wr => ∃ j : Nat, j ≤ 4 ∧ jv = .int .i64 j ∧ allN (argB m f (o, a1, a2, a3, a4)) (4 - j) j = Z ∧ Below w0.heap.size w0 wr)
      (fun jv _ => 4 - (intOf jv).toNat)
    case atStart => exact ⟨0, Nat.zero_le _, rfl, HZ0.out, b04⟩
    case round =>
      obtain ⟨j, hj, rfl, hall, hbj⟩ := hrel
      have HALL := Lib.hid hall
      clear hall
      have hbw : Below w.heap.size w wr := hb00.trans (hbj.mono (by omega))
      have hCr := h.below hbw (Nat.le_refl _)
      have hFr := hF.below hbw hbw.size
      by_cases hlt : j < 4
      · have hix := HIX.out j hlt (o, a1, a2, a3, a4) rfl wr
        obtain ⟨n, hn⟩ : ∃ n, argAt (o, a1, a2, a3, a4) j = n := ⟨_, rfl⟩
        rw [hn] at hix
        have HST := Lib.hid (allN_step (argB m f (o, a1, a2, a3, a4)) hlt)
        by_cases hjl : j < L.size
        · obtain ⟨x, hx⟩ : ∃ x, L[j]? = some x := ⟨L[j], getElem?_pos L j hjl⟩
          have hlet := HLL.out j x hx
          have hjl2 : (j : Int) < L.size := by omega
          have hi1 := run_index_str (P := Tryd.prog) Tryd.underlying9 L (j : Int) j rfl hjl wr
          rw [hx, Option.getD_some] at hi1
          have hab := argB_some (m := m) (f := f) (i := (o, a1, a2, a3, a4)) (k := j) (b := x) (by rw [HL.out]; exact hx)
          rw [hn] at hab
          have hKr := hK.below hbw hK.lt
          have HAB := Lib.hid hab
          have hx7 : x = 114 ∨ x = 107 ∨ x = 115 ∨ x = 116 ∨ x = 102 ∨ x = 117 ∨ x = 110 := by simpa [isLetter, or_assoc] using hlet
          clear hn hx hlet hab
          rcases hx7 with rfl | rfl | rfl | rfl | rfl | rfl | rfl
          · have hlk := run_lookupK hKr 114 0 (.func (.func 32) #[] #[]) (by kernel_rfl)
            have hi2 : (Instr.index 9 (.string L) (.int .i64 j)).run Tryd.prog wr = .ok (.int .u8 114) wr := hi1
            clear hi1
            go_wp2_with fail
            refine (register_any hCr n).mono ?_
            rintro e w5 ⟨rfl, rfl⟩
            have hkb : kindB m f (114 : UInt8).toNat n = regB f.regs n := rfl
            rw [← hkb]
            have HKB := Lib.hid HAB.out
            cases hres : kindB m f (114 : UInt8).toNat n with
            | true =>
              simp only
              go_wp2_with fail
              go_roundw
              case rel =>
                have hR3 : allN (argB m f (o, a1, a2, a3, a4)) (4 - (j + 1)) (j + 1) = Z := by rw [← HALL.out, HST.out, HKB.out, hres]; rfl
                first | exact ⟨j + 1, by omega, by go_num, hR3, hbj⟩ | ((repeat apply Exists.intro); exact ⟨⟨j + 1, by omega, by go_num, hR3, hbj⟩, rfl⟩)
              case measure => simp [intOf]; omega
            | false =>
              have hzf : Z = false := by rw [← HALL.out, HST.out, HKB.out, hres]; rfl
              have hfin : R = false := HAR.out (by rw [HZ.out]; exact hzf)
              subst hfin
              simp only
              go_wp2_with fail
              go_ret
              exact ⟨rfl, hbw⟩
          · have hlk := run_lookupK hKr 107 1 (.func (.func 33) #[] #[]) (by kernel_rfl)
            have hi2 : (Instr.index 9 (.string L) (.int .i64 j)).run Tryd.prog wr = .ok (.int .u8 107) wr := hi1
            clear hi1
            go_wp2_with fail
            refine (constant_any hCr n).mono ?_
            rintro e w5 ⟨rfl, rfl⟩
            have hkb : kindB m f (107 : UInt8).toNat n = regB f.consts.length n := rfl
            rw [← hkb]
            have HKB := Lib.hid HAB.out
            cases hres : kindB m f (107 : UInt8).toNat n with
            | true =>
              simp only
              go_wp2_with fail
              go_roundw
              case rel =>
                have hR3 : allN (argB m f (o, a1, a2, a3, a4)) (4 - (j + 1)) (j + 1) = Z := by rw [← HALL.out, HST.out, HKB.out, hres]; rfl
                first | exact ⟨j + 1, by omega, by go_num, hR3, hbj⟩ | ((repeat apply Exists.intro); exact ⟨⟨j + 1, by omega, by go_num, hR3, hbj⟩, rfl⟩)
              case measure => simp [intOf]; omega
            | false =>
              have hzf : Z = false := by rw [← HALL.out, HST.out, HKB.out, hres]; rfl
              have hfin : R = false := HAR.out (by rw [HZ.out]; exact hzf)
              subst hfin
              simp only
              go_wp2_with fail
              go_ret
              exact ⟨rfl, hbw⟩
          · have hlk := run_lookupK hKr 115 2 (.func (.func 34) #[] #[]) (by kernel_rfl)
            have hi2 : (Instr.index 9 (.string L) (.int .i64 j)).run Tryd.prog wr = .ok (.int .u8 115) wr := hi1
            clear hi1
            go_wp2_with fail
            refine (text_any hCr hFr n).mono ?_
            rintro e w5 ⟨rfl, rfl⟩
            have hkb : kindB m f (115 : UInt8).toNat n = textB f n := rfl
            rw [← hkb]
            have HKB := Lib.hid HAB.out
            cases hres : kindB m f (115 : UInt8).toNat n with
            | true =>
              simp only
              go_wp2_with fail
              go_roundw
              case rel =>
                have hR3 : allN (argB m f (o, a1, a2, a3, a4)) (4 - (j + 1)) (j + 1) = Z := by rw [← HALL.out, HST.out, HKB.out, hres]; rfl
                first | exact ⟨j + 1, by omega, by go_num, hR3, hbj⟩ | ((repeat apply Exists.intro); exact ⟨⟨j + 1, by omega, by go_num, hR3, hbj⟩, rfl⟩)
              case measure => simp [intOf]; omega
            | false =>
              have hzf : Z = false := by rw [← HALL.out, HST.out, HKB.out, hres]; rfl
              have hfin : R = false := HAR.out (by rw [HZ.out]; exact hzf)
              subst hfin
              simp only
              go_wp2_with fail
              go_ret
              exact ⟨rfl, hbw⟩
          · have hlk := run_lookupK hKr 116 3 (.func (.func 35) #[] #[]) (by kernel_rfl)
            have hi2 : (Instr.index 9 (.string L) (.int .i64 j)).run Tryd.prog wr = .ok (.int .u8 116) wr := hi1
            clear hi1
            go_wp2_with fail
            refine (target_any hCr n).mono ?_
            rintro e w5 ⟨rfl, rfl⟩
            have hkb : kindB m f (116 : UInt8).toNat n = regB f.code.length n := rfl
            rw [← hkb]
            have HKB := Lib.hid HAB.out
            cases hres : kindB m f (116 : UInt8).toNat n with
            | true =>
              simp only
              go_wp2_with fail
              go_roundw
              case rel =>
                have hR3 : allN (argB m f (o, a1, a2, a3, a4)) (4 - (j + 1)) (j + 1) = Z := by rw [← HALL.out, HST.out, HKB.out, hres]; rfl
                first | exact ⟨j + 1, by omega, by go_num, hR3, hbj⟩ | ((repeat apply Exists.intro); exact ⟨⟨j + 1, by omega, by go_num, hR3, hbj⟩, rfl⟩)
              case measure => simp [intOf]; omega
            | false =>
              have hzf : Z = false := by rw [← HALL.out, HST.out, HKB.out, hres]; rfl
              have hfin : R = false := HAR.out (by rw [HZ.out]; exact hzf)
              subst hfin
              simp only
              go_wp2_with fail
              go_ret
              exact ⟨rfl, hbw⟩
          · have hlk := run_lookupK hKr 102 4 (.func (.func 36) #[] #[]) (by kernel_rfl)
            have hi2 : (Instr.index 9 (.string L) (.int .i64 j)).run Tryd.prog wr = .ok (.int .u8 102) wr := hi1
            clear hi1
            go_wp2_with fail
            refine (function_any hCr n).mono ?_
            rintro e w5 ⟨rfl, rfl⟩
            have hkb : kindB m f (102 : UInt8).toNat n = fnB m n := rfl
            rw [← hkb]
            have HKB := Lib.hid HAB.out
            cases hres : kindB m f (102 : UInt8).toNat n with
            | true =>
              simp only
              go_wp2_with fail
              go_roundw
              case rel =>
                have hR3 : allN (argB m f (o, a1, a2, a3, a4)) (4 - (j + 1)) (j + 1) = Z := by rw [← HALL.out, HST.out, HKB.out, hres]; rfl
                first | exact ⟨j + 1, by omega, by go_num, hR3, hbj⟩ | ((repeat apply Exists.intro); exact ⟨⟨j + 1, by omega, by go_num, hR3, hbj⟩, rfl⟩)
              case measure => simp [intOf]; omega
            | false =>
              have hzf : Z = false := by rw [← HALL.out, HST.out, HKB.out, hres]; rfl
              have hfin : R = false := HAR.out (by rw [HZ.out]; exact hzf)
              subst hfin
              simp only
              go_wp2_with fail
              go_ret
              exact ⟨rfl, hbw⟩
          · have hlk := run_lookupK hKr 117 5 (.func (.func 37) #[] #[]) (by kernel_rfl)
            have hi2 : (Instr.index 9 (.string L) (.int .i64 j)).run Tryd.prog wr = .ok (.int .u8 117) wr := hi1
            clear hi1
            go_wp2_with fail
            refine (capture_any hCr n).mono ?_
            rintro e w5 ⟨rfl, rfl⟩
            have hkb : kindB m f (117 : UInt8).toNat n = regB f.caps.length n := rfl
            rw [← hkb]
            have HKB := Lib.hid HAB.out
            cases hres : kindB m f (117 : UInt8).toNat n with
            | true =>
              simp only
              go_wp2_with fail
              go_roundw
              case rel =>
                have hR3 : allN (argB m f (o, a1, a2, a3, a4)) (4 - (j + 1)) (j + 1) = Z := by rw [← HALL.out, HST.out, HKB.out, hres]; rfl
                first | exact ⟨j + 1, by omega, by go_num, hR3, hbj⟩ | ((repeat apply Exists.intro); exact ⟨⟨j + 1, by omega, by go_num, hR3, hbj⟩, rfl⟩)
              case measure => simp [intOf]; omega
            | false =>
              have hzf : Z = false := by rw [← HALL.out, HST.out, HKB.out, hres]; rfl
              have hfin : R = false := HAR.out (by rw [HZ.out]; exact hzf)
              subst hfin
              simp only
              go_wp2_with fail
              go_ret
              exact ⟨rfl, hbw⟩
          · have hlk := run_lookupK hKr 110 6 (.func (.func 38) #[] #[]) (by kernel_rfl)
            have hi2 : (Instr.index 9 (.string L) (.int .i64 j)).run Tryd.prog wr = .ok (.int .u8 110) wr := hi1
            clear hi1
            go_wp2_with fail
            refine (number_any hCr n).mono ?_
            rintro e w5 ⟨rfl, rfl⟩
            have hkb : kindB m f (110 : UInt8).toNat n = regB 2147483648 n := rfl
            rw [← hkb]
            have HKB := Lib.hid HAB.out
            cases hres : kindB m f (110 : UInt8).toNat n with
            | true =>
              simp only
              go_wp2_with fail
              go_roundw
              case rel =>
                have hR3 : allN (argB m f (o, a1, a2, a3, a4)) (4 - (j + 1)) (j + 1) = Z := by rw [← HALL.out, HST.out, HKB.out, hres]; rfl
                first | exact ⟨j + 1, by omega, by go_num, hR3, hbj⟩ | ((repeat apply Exists.intro); exact ⟨⟨j + 1, by omega, by go_num, hR3, hbj⟩, rfl⟩)
              case measure => simp [intOf]; omega
            | false =>
              have hzf : Z = false := by rw [← HALL.out, HST.out, HKB.out, hres]; rfl
              have hfin : R = false := HAR.out (by rw [HZ.out]; exact hzf)
              subst hfin
              simp only
              go_wp2_with fail
              go_ret
              exact ⟨rfl, hbw⟩
        · have hjl2 : (L.size : Int) ≤ j := by omega
          have hab := argB_none (m := m) (f := f) (i := (o, a1, a2, a3, a4)) (k := j) (by rw [HL.out]; exact getElem?_neg L j hjl)
          rw [hn] at hab
          have HAB := Lib.hid hab
          clear hab hn
          by_cases hn0 : n = 0
          · subst hn0
            go_wp2_with fail
            go_roundw
            case rel =>
              have hR3 : allN (argB m f (o, a1, a2, a3, a4)) (4 - (j + 1)) (j + 1) = Z := by rw [← HALL.out, HST.out, HAB.out]; rfl
              first | exact ⟨j + 1, by omega, by go_num, hR3, hbj⟩ | ((repeat apply Exists.intro); exact ⟨⟨j + 1, by omega, by go_num, hR3, hbj⟩, rfl⟩)
            case measure => simp [intOf]; omega
          · have hzf : Z = false := by rw [← HALL.out, HST.out, HAB.out, beq_eq_false_iff_ne.2 hn0]; rfl
            have hfin : R = false := HAR.out (by rw [HZ.out]; exact hzf)
            subst hfin
            go_wp2_with fail
            go_ret
            exact ⟨rfl, hbw⟩
      · have hzt : Z = true := by rw [← HALL.out, allN_end _ (by omega)]
        have hargs : argsB m f (o, a1, a2, a3, a4) = true := by rw [HZ.out]; exact hzt
        have HARGS := Lib.hid hargs
        have hRE := HEX.out HF1.out hargs
        have HRE := Lib.hid hRE
        clear hargs hRE
        have z0 := (hbj.cell (World.block_lt_of_cell? _ _ cellA0)).trans cellA0
        have z1 := (hbj.cell (World.block_lt_of_cell? _ _ cellA1)).trans cellA1
        have z2 := (hbj.cell (World.block_lt_of_cell? _ _ cellA2)).trans cellA2
        obtain rfl : j = 4 := by omega
        by_cases p0 : o = 0
        · subst p0
          have hfin : R = decide (a2 ≤ 4) := HRE.out
          subst hfin
          go_wp2_with fail
          go_ret
          exact ⟨rfl, hbw⟩
        by_cases p1 : o = 38
        · subst p1
          have hfin : R = regB f.regs (a1 + 1) := HRE.out
          have hbd := HIB.out HARGS.out rfl
          have hnw : a1 + 1 ≤ 9223372036854775807 := by omega
          have hnw2 : 0 ≤ a1 := hbd.1
          subst hfin
          clear hbd
          go_wp2_with fail
          refine (register_any hCr (a1 + 1)).mono ?_
          rintro e w5 ⟨rfl, rfl⟩
          simp only
          go_wp2_with fail
          go_ret
          exact ⟨rfl, hbw⟩
        by_cases p2 : o = 39
        · subst p2
          have hfin : R = regB f.regs (a2 + 1) := HRE.out
          have hbd := HSB.out HARGS.out rfl
          have hnw : a2 + 1 ≤ 9223372036854775807 := by omega
          have hnw2 : 0 ≤ a2 := hbd.1
          subst hfin
          clear hbd
          go_wp2_with fail
          refine (register_any hCr (a2 + 1)).mono ?_
          rintro e w5 ⟨rfl, rfl⟩
          simp only
          go_wp2_with fail
          go_ret
          exact ⟨rfl, hbw⟩
        by_cases p3 : o = 15
        · subst p3
          have hbd := HCB.out HARGS.out rfl
          obtain ⟨q, rfl⟩ : ∃ q : Nat, a2 = q := ⟨a2.toNat, by omega⟩
          obtain ⟨g, hg⟩ : ∃ g, fns[q]? = some g := ⟨fns[q]'(by omega), List.getElem?_eq_getElem _⟩
          have hfin : R = g.caps.all (capB f) := by
            have h1 : R = closB fns f (q : Int) := HRE.out
            rw [h1]
            unfold closB
            rw [Int.toNat_natCast, hg]
          have HFIN := Lib.hid hfin
          have hgm := List.mem_of_getElem? hg
          have hnu := hu g hgm
          have hMr := hM.below hbw hbw.size
          obtain ⟨b2, off2, hA2, _, _, _, _, _, _, _, _, _, q8⟩ := hMr.at_ hg
          have hur := (hMr.each g hgm).ur
          obtain ⟨f0, _, _, _, _, _, _, _, _, _, _⟩ := hCr.cells
          rw [hA2] at f0
          obtain ⟨nu, hnu2⟩ : ∃ x, g.caps.length = x := ⟨_, rfl⟩
          obtain ⟨UA, hUA⟩ : ∃ x, g.uA = x := ⟨_, rfl⟩
          rw [hnu2] at q8 hnu
          rw [hUA] at q8 hur
          have HNU := Lib.hid hnu2
          have hqm : (q : Int) < m := hbd.2
          have hall0 : (g.caps.drop 0).all (capB f) = R := by rw [HFIN.out]; rfl
          have HA0 := Lib.hid hall0
          clear hfin hg hnu2 hUA hall0 hbd
          go_wp2_with fail
          refine wp_region_lin (fun w' => w' = wr.drew) [] (.block 0 (.block 1 (.block 2 (.block 3 (.block 4 (.block 5 (.block 6 (.block 7 (.block 8 (.block 9 (.block 10 (.block 11 (.skip))))))))))))) (by kernel_rfl) (by kernel_rfl) (by kernel_rfl) (by kernel_rfl) (by kernel_rfl) rfl ?_
          repeat
            (refine lin_light (A1 := ?_) rfl rfl rfl rfl rfl (fun w' hS K hK => ?_) ?_ ?_
             rotate_left
             · obtain rfl := hS; go_step; exact hK
             · rfl)
          refine lin_end ?_
          go_wp2_with fail
          have hbwd : Below w.heap.size w wr.drew := hbw.drew
          obtain ⟨W, hWd⟩ : ∃ W, wr.drew = W := ⟨_, rfl⟩
          rw [hWd] at hbwd ⊢
          have hurW : Row W W.heap.size UA 2 (g.caps.map capC) := by rw [← hWd]; exact hur.below (Below.refl _ _).drew (Nat.le_refl _)
          clear hWd hur
          go_loopw [102] (fun iv wr => ∃ r : Nat, r ≤ nu ∧ iv = .int .i64 r ∧ (g.caps.drop r).all (capB f) = R ∧ Below W.heap.size W wr)
            (fun iv _ => nu - (intOf iv).toNat)
          case atStart => exact ⟨0, Nat.zero_le _, rfl, HA0.out, Below.refl _ _⟩
          case round =>
            obtain ⟨r, hr, rfl, hcall, hbr⟩ := hrel
            have HCALL := Lib.hid hcall
            clear hcall
            have hbz : Below w.heap.size w wr := hbwd.trans (hbr.mono hbwd.size)
            by_cases hlr : r < nu
            · obtain ⟨⟨up, un⟩, hcu⟩ : ∃ u, g.caps[r]? = some u := ⟨g.caps[r]'(by have := HNU.out; omega), List.getElem?_eq_getElem _⟩
              obtain ⟨b3, off3, rfl, _, v0, v1⟩ := (hurW.below hbr (Nat.le_refl _)).cap hcu
              simp only at v0 v1
              have HSTC := Lib.hid (all_step (capB f) hcu)
              have hwn : (wr.alloc (.cells #[.bool up, .int .i64 un] 79)).heap[wr.heap.size]? = some (.cells #[.bool up, .int .i64 un] 79 (0, 0)) := heap_alloc_new wr _
              have hbn : Below W.heap.size W (wr.alloc (.cells #[.bool up, .int .i64 un] 79)) := hbr.alloc hbr.size _
              obtain ⟨wn, hwn'⟩ : ∃ wn, wr.alloc (.cells #[.bool up, .int .i64 un] 79) = wn := ⟨_, rfl⟩
              rw [hwn'] at hwn hbn
              have s0 := cell_blockK hwn 0
              have s1 := cell_blockK hwn 1
              simp at s0 s1
              have hbnz : Below w.heap.size w wn := hbwd.trans (hbn.mono hbwd.size)
              have hCn := h.below hbnz (Nat.le_refl _)
              clear hcu
              cases up with
              | true =>
                go_wp2_with fail
                refine (capture_any hCn un).mono ?_
                rintro e w6 ⟨rfl, rfl⟩
                cases hres : regB f.caps.length un with
                | true =>
                  have hcb2 : capB f (true, un) = true := hres
                  have HCB2 := Lib.hid hcb2
                  simp only
                  go_wp2_with fail
                  go_roundw
                  case rel =>
                    have hR3 : (g.caps.drop (r + 1)).all (capB f) = R := by rw [← HCALL.out, HSTC.out, HCB2.out]; rfl
                    first | exact ⟨r + 1, by omega, by go_num, hR3, hbn⟩ | ((repeat apply Exists.intro); exact ⟨⟨r + 1, by omega, by go_num, hR3, hbn⟩, rfl⟩)
                  case measure => simp [intOf]; omega
                | false =>
                  have hcb2 : capB f (true, un) = false := hres
                  have hfin : R = false := by rw [← HCALL.out, HSTC.out, hcb2]; rfl
                  subst hfin
                  simp only
                  go_wp2_with fail
                  go_ret
                  exact ⟨rfl, hbnz⟩
              | false =>
                go_wp2_with fail
                refine (register_any hCn un).mono ?_
                rintro e w6 ⟨rfl, rfl⟩
                cases hres : regB f.regs un with
                | true =>
                  have hcb2 : capB f (false, un) = true := hres
                  have HCB2 := Lib.hid hcb2
                  simp only
                  go_wp2_with fail
                  go_roundw
                  case rel =>
                    have hR3 : (g.caps.drop (r + 1)).all (capB f) = R := by rw [← HCALL.out, HSTC.out, HCB2.out]; rfl
                    first | exact ⟨r + 1, by omega, by go_num, hR3, hbn⟩ | ((repeat apply Exists.intro); exact ⟨⟨r + 1, by omega, by go_num, hR3, hbn⟩, rfl⟩)
                  case measure => simp [intOf]; omega
                | false =>
                  have hcb2 : capB f (false, un) = false := hres
                  have hfin : R = false := by rw [← HCALL.out, HSTC.out, hcb2]; rfl
                  subst hfin
                  simp only
                  go_wp2_with fail
                  go_ret
                  exact ⟨rfl, hbnz⟩
            · have hfin : R = true := by rw [← HCALL.out, all_end _ (by have := HNU.out; omega)]
              subst hfin
              go_wp2_with fail
              go_ret
              exact ⟨rfl, hbz⟩
        · have hfin : R = true := by
            rw [HRE.out]
            unfold extraB
            simp only [p0, p1, p2, p3, if_false]
          subst hfin
          go_wp2_with fail
          go_ret
          exact ⟨rfl, hbw⟩
  · have hq : ((k : Int) == (nk : Int) - 1) = false := by rw [beq_eq_false_iff_ne]; omega
    clear g1 g2 hkn hkn1
    go_wp2_with fail
    refine (codeOps_any o _ hT1).mono ?_
    rintro e w3 ⟨rfl, b3⟩
    have x0 := (b3.cell (World.block_lt_of_cell? _ _ x0)).trans x0
    have y1 := ((b01.trans (b3.mono b01.size)).cell (World.block_lt_of_cell? _ _ cellA1)).trans cellA1
    have y2 := ((b01.trans (b3.mono b01.size)).cell (World.block_lt_of_cell? _ _ cellA2)).trans cellA2
    have y3 := ((b01.trans (b3.mono b01.size)).cell (World.block_lt_of_cell? _ _ cellA3)).trans cellA3
    have y4 := ((b01.trans (b3.mono b01.size)).cell (World.block_lt_of_cell? _ _ cellA4)).trans cellA4
    have bz3 := bz1.trans (b3.mono bz1.size)
    obtain ⟨L, hL⟩ : ∃ L, lettersOf o = L := ⟨_, rfl⟩
    have hLs := (letters_ok o).1
    have hLl := (letters_ok o).2
    rw [hL] at hLs hLl ⊢
    have HL := Lib.hid hL
    have HLL := Lib.hid hLl
    clear hL hLl
    simp only
    go_wp2_with fail
    refine (args_any (o, a1, a2, a3, a4) _).mono ?_
    rintro e w4 ⟨rfl, b4⟩
    have bz4 := bz3.trans (b4.mono bz3.size)
    have b04 : Below w0.heap.size w0 w4 := (b01.trans (b3.mono b01.size)).trans (b4.mono (by have := b01.size; have := b3.size; omega))
    clear x0 y1 y2 y3 y4
    simp only
    go_wp2_with fail
    obtain ⟨Z, hZ⟩ : ∃ Z, argsB m f (o, a1, a2, a3, a4) = Z := ⟨_, rfl⟩
    have HZ := Lib.hid hZ
    have hZ0 : allN (argB m f (o, a1, a2, a3, a4)) (4 - 0) 0 = Z := hZ
    have HZ0 := Lib.hid hZ0
    clear hZ hZ0 hemp hwr hq
    go_loopw [47] (fun jv wr => ∃ j : Nat, j ≤ 4 ∧ jv = .int .i64 j ∧ allN (argB m f (o, a1, a2, a3, a4)) (4 - j) j = Z ∧ Below w0.heap.size w0 wr)
      (fun jv _ => 4 - (intOf jv).toNat)
    case atStart => exact ⟨0, Nat.zero_le _, rfl, HZ0.out, b04⟩
    case round =>
      obtain ⟨j, hj, rfl, hall, hbj⟩ := hrel
      have HALL := Lib.hid hall
      clear hall
      have hbw : Below w.heap.size w wr := hb00.trans (hbj.mono (by omega))
      have hCr := h.below hbw (Nat.le_refl _)
      have hFr := hF.below hbw hbw.size
      by_cases hlt : j < 4
      · have hix := HIX.out j hlt (o, a1, a2, a3, a4) rfl wr
        obtain ⟨n, hn⟩ : ∃ n, argAt (o, a1, a2, a3, a4) j = n := ⟨_, rfl⟩
        rw [hn] at hix
        have HST := Lib.hid (allN_step (argB m f (o, a1, a2, a3, a4)) hlt)
        by_cases hjl : j < L.size
        · obtain ⟨x, hx⟩ : ∃ x, L[j]? = some x := ⟨L[j], getElem?_pos L j hjl⟩
          have hlet := HLL.out j x hx
          have hjl2 : (j : Int) < L.size := by omega
          have hi1 := run_index_str (P := Tryd.prog) Tryd.underlying9 L (j : Int) j rfl hjl wr
          rw [hx, Option.getD_some] at hi1
          have hab := argB_some (m := m) (f := f) (i := (o, a1, a2, a3, a4)) (k := j) (b := x) (by rw [HL.out]; exact hx)
          rw [hn] at hab
          have hKr := hK.below hbw hK.lt
          have HAB := Lib.hid hab
          have hx7 : x = 114 ∨ x = 107 ∨ x = 115 ∨ x = 116 ∨ x = 102 ∨ x = 117 ∨ x = 110 := by simpa [isLetter, or_assoc] using hlet
          clear hn hx hlet hab
          rcases hx7 with rfl | rfl | rfl | rfl | rfl | rfl | rfl
          · have hlk := run_lookupK hKr 114 0 (.func (.func 32) #[] #[]) (by kernel_rfl)
            have hi2 : (Instr.index 9 (.string L) (.int .i64 j)).run Tryd.prog wr = .ok (.int .u8 114) wr := hi1
            clear hi1
            go_wp2_with fail
            refine (register_any hCr n).mono ?_
            rintro e w5 ⟨rfl, rfl⟩
            have hkb : kindB m f (114 : UInt8).toNat n = regB f.regs n := rfl
            rw [← hkb]
            have HKB := Lib.hid HAB.out
            cases hres : kindB m f (114 : UInt8).toNat n with
            | true =>
              simp only
              go_wp2_with fail
              go_roundw
              case rel =>
                have hR3 : allN (argB m f (o, a1, a2, a3, a4)) (4 - (j + 1)) (j + 1) = Z := by rw [← HALL.out, HST.out, HKB.out, hres]; rfl
                first | exact ⟨j + 1, by omega, by go_num, hR3, hbj⟩ | ((repeat apply Exists.intro); exact ⟨⟨j + 1, by omega, by go_num, hR3, hbj⟩, rfl⟩)
              case measure => simp [intOf]; omega
            | false =>
              have hzf : Z = false := by rw [← HALL.out, HST.out, HKB.out, hres]; rfl
              have hfin : R = false := HAR.out (by rw [HZ.out]; exact hzf)
              subst hfin
              simp only
              go_wp2_with fail
              go_ret
              exact ⟨rfl, hbw⟩
          · have hlk := run_lookupK hKr 107 1 (.func (.func 33) #[] #[]) (by kernel_rfl)
            have hi2 : (Instr.index 9 (.string L) (.int .i64 j)).run Tryd.prog wr = .ok (.int .u8 107) wr := hi1
            clear hi1
            go_wp2_with fail
            refine (constant_any hCr n).mono ?_
            rintro e w5 ⟨rfl, rfl⟩
            have hkb : kindB m f (107 : UInt8).toNat n = regB f.consts.length n := rfl
            rw [← hkb]
            have HKB := Lib.hid HAB.out
            cases hres : kindB m f (107 : UInt8).toNat n with
            | true =>
              simp only
              go_wp2_with fail
              go_roundw
              case rel =>
                have hR3 : allN (argB m f (o, a1, a2, a3, a4)) (4 - (j + 1)) (j + 1) = Z := by rw [← HALL.out, HST.out, HKB.out, hres]; rfl
                first | exact ⟨j + 1, by omega, by go_num, hR3, hbj⟩ | ((repeat apply Exists.intro); exact ⟨⟨j + 1, by omega, by go_num, hR3, hbj⟩, rfl⟩)
              case measure => simp [intOf]; omega
            | false =>
              have hzf : Z = false := by rw [← HALL.out, HST.out, HKB.out, hres]; rfl
              have hfin : R = false := HAR.out (by rw [HZ.out]; exact hzf)
              subst hfin
              simp only
              go_wp2_with fail
              go_ret
              exact ⟨rfl, hbw⟩
          · have hlk := run_lookupK hKr 115 2 (.func (.func 34) #[] #[]) (by kernel_rfl)
            have hi2 : (Instr.index 9 (.string L) (.int .i64 j)).run Tryd.prog wr = .ok (.int .u8 115) wr := hi1
            clear hi1
            go_wp2_with fail
            refine (text_any hCr hFr n).mono ?_
            rintro e w5 ⟨rfl, rfl⟩
            have hkb : kindB m f (115 : UInt8).toNat n = textB f n := rfl
            rw [← hkb]
            have HKB := Lib.hid HAB.out
            cases hres : kindB m f (115 : UInt8).toNat n with
            | true =>
              simp only
              go_wp2_with fail
              go_roundw
              case rel =>
                have hR3 : allN (argB m f (o, a1, a2, a3, a4)) (4 - (j + 1)) (j + 1) = Z := by rw [← HALL.out, HST.out, HKB.out, hres]; rfl
                first | exact ⟨j + 1, by omega, by go_num, hR3, hbj⟩ | ((repeat apply Exists.intro); exact ⟨⟨j + 1, by omega, by go_num, hR3, hbj⟩, rfl⟩)
              case measure => simp [intOf]; omega
            | false =>
              have hzf : Z = false := by rw [← HALL.out, HST.out, HKB.out, hres]; rfl
              have hfin : R = false := HAR.out (by rw [HZ.out]; exact hzf)
              subst hfin
              simp only
              go_wp2_with fail
              go_ret
              exact ⟨rfl, hbw⟩
          · have hlk := run_lookupK hKr 116 3 (.func (.func 35) #[] #[]) (by kernel_rfl)
            have hi2 : (Instr.index 9 (.string L) (.int .i64 j)).run Tryd.prog wr = .ok (.int .u8 116) wr := hi1
            clear hi1
            go_wp2_with fail
            refine (target_any hCr n).mono ?_
            rintro e w5 ⟨rfl, rfl⟩
            have hkb : kindB m f (116 : UInt8).toNat n = regB f.code.length n := rfl
            rw [← hkb]
            have HKB := Lib.hid HAB.out
            cases hres : kindB m f (116 : UInt8).toNat n with
            | true =>
              simp only
              go_wp2_with fail
              go_roundw
              case rel =>
                have hR3 : allN (argB m f (o, a1, a2, a3, a4)) (4 - (j + 1)) (j + 1) = Z := by rw [← HALL.out, HST.out, HKB.out, hres]; rfl
                first | exact ⟨j + 1, by omega, by go_num, hR3, hbj⟩ | ((repeat apply Exists.intro); exact ⟨⟨j + 1, by omega, by go_num, hR3, hbj⟩, rfl⟩)
              case measure => simp [intOf]; omega
            | false =>
              have hzf : Z = false := by rw [← HALL.out, HST.out, HKB.out, hres]; rfl
              have hfin : R = false := HAR.out (by rw [HZ.out]; exact hzf)
              subst hfin
              simp only
              go_wp2_with fail
              go_ret
              exact ⟨rfl, hbw⟩
          · have hlk := run_lookupK hKr 102 4 (.func (.func 36) #[] #[]) (by kernel_rfl)
            have hi2 : (Instr.index 9 (.string L) (.int .i64 j)).run Tryd.prog wr = .ok (.int .u8 102) wr := hi1
            clear hi1
            go_wp2_with fail
            refine (function_any hCr n).mono ?_
            rintro e w5 ⟨rfl, rfl⟩
            have hkb : kindB m f (102 : UInt8).toNat n = fnB m n := rfl
            rw [← hkb]
            have HKB := Lib.hid HAB.out
            cases hres : kindB m f (102 : UInt8).toNat n with
            | true =>
              simp only
              go_wp2_with fail
              go_roundw
              case rel =>
                have hR3 : allN (argB m f (o, a1, a2, a3, a4)) (4 - (j + 1)) (j + 1) = Z := by rw [← HALL.out, HST.out, HKB.out, hres]; rfl
                first | exact ⟨j + 1, by omega, by go_num, hR3, hbj⟩ | ((repeat apply Exists.intro); exact ⟨⟨j + 1, by omega, by go_num, hR3, hbj⟩, rfl⟩)
              case measure => simp [intOf]; omega
            | false =>
              have hzf : Z = false := by rw [← HALL.out, HST.out, HKB.out, hres]; rfl
              have hfin : R = false := HAR.out (by rw [HZ.out]; exact hzf)
              subst hfin
              simp only
              go_wp2_with fail
              go_ret
              exact ⟨rfl, hbw⟩
          · have hlk := run_lookupK hKr 117 5 (.func (.func 37) #[] #[]) (by kernel_rfl)
            have hi2 : (Instr.index 9 (.string L) (.int .i64 j)).run Tryd.prog wr = .ok (.int .u8 117) wr := hi1
            clear hi1
            go_wp2_with fail
            refine (capture_any hCr n).mono ?_
            rintro e w5 ⟨rfl, rfl⟩
            have hkb : kindB m f (117 : UInt8).toNat n = regB f.caps.length n := rfl
            rw [← hkb]
            have HKB := Lib.hid HAB.out
            cases hres : kindB m f (117 : UInt8).toNat n with
            | true =>
              simp only
              go_wp2_with fail
              go_roundw
              case rel =>
                have hR3 : allN (argB m f (o, a1, a2, a3, a4)) (4 - (j + 1)) (j + 1) = Z := by rw [← HALL.out, HST.out, HKB.out, hres]; rfl
                first | exact ⟨j + 1, by omega, by go_num, hR3, hbj⟩ | ((repeat apply Exists.intro); exact ⟨⟨j + 1, by omega, by go_num, hR3, hbj⟩, rfl⟩)
              case measure => simp [intOf]; omega
            | false =>
              have hzf : Z = false := by rw [← HALL.out, HST.out, HKB.out, hres]; rfl
              have hfin : R = false := HAR.out (by rw [HZ.out]; exact hzf)
              subst hfin
              simp only
              go_wp2_with fail
              go_ret
              exact ⟨rfl, hbw⟩
          · have hlk := run_lookupK hKr 110 6 (.func (.func 38) #[] #[]) (by kernel_rfl)
            have hi2 : (Instr.index 9 (.string L) (.int .i64 j)).run Tryd.prog wr = .ok (.int .u8 110) wr := hi1
            clear hi1
            go_wp2_with fail
            refine (number_any hCr n).mono ?_
            rintro e w5 ⟨rfl, rfl⟩
            have hkb : kindB m f (110 : UInt8).toNat n = regB 2147483648 n := rfl
            rw [← hkb]
            have HKB := Lib.hid HAB.out
            cases hres : kindB m f (110 : UInt8).toNat n with
            | true =>
              simp only
              go_wp2_with fail
              go_roundw
              case rel =>
                have hR3 : allN (argB m f (o, a1, a2, a3, a4)) (4 - (j + 1)) (j + 1) = Z := by rw [← HALL.out, HST.out, HKB.out, hres]; rfl
                first | exact ⟨j + 1, by omega, by go_num, hR3, hbj⟩ | ((repeat apply Exists.intro); exact ⟨⟨j + 1, by omega, by go_num, hR3, hbj⟩, rfl⟩)
              case measure => simp [intOf]; omega
            | false =>
              have hzf : Z = false := by rw [← HALL.out, HST.out, HKB.out, hres]; rfl
              have hfin : R = false := HAR.out (by rw [HZ.out]; exact hzf)
              subst hfin
              simp only
              go_wp2_with fail
              go_ret
              exact ⟨rfl, hbw⟩
        · have hjl2 : (L.size : Int) ≤ j := by omega
          have hab := argB_none (m := m) (f := f) (i := (o, a1, a2, a3, a4)) (k := j) (by rw [HL.out]; exact getElem?_neg L j hjl)
          rw [hn] at hab
          have HAB := Lib.hid hab
          clear hab hn
          by_cases hn0 : n = 0
          · subst hn0
            go_wp2_with fail
            go_roundw
            case rel =>
              have hR3 : allN (argB m f (o, a1, a2, a3, a4)) (4 - (j + 1)) (j + 1) = Z := by rw [← HALL.out, HST.out, HAB.out]; rfl
              first | exact ⟨j + 1, by omega, by go_num, hR3, hbj⟩ | ((repeat apply Exists.intro); exact ⟨⟨j + 1, by omega, by go_num, hR3, hbj⟩, rfl⟩)
            case measure => simp [intOf]; omega
          · have hzf : Z = false := by rw [← HALL.out, HST.out, HAB.out, beq_eq_false_iff_ne.2 hn0]; rfl
            have hfin : R = false := HAR.out (by rw [HZ.out]; exact hzf)
            subst hfin
            go_wp2_with fail
            go_ret
            exact ⟨rfl, hbw⟩
      · have hzt : Z = true := by rw [← HALL.out, allN_end _ (by omega)]
        have hargs : argsB m f (o, a1, a2, a3, a4) = true := by rw [HZ.out]; exact hzt
        have HARGS := Lib.hid hargs
        have hRE := HEX.out HF1.out hargs
        have HRE := Lib.hid hRE
        clear hargs hRE
        have z0 := (hbj.cell (World.block_lt_of_cell? _ _ cellA0)).trans cellA0
        have z1 := (hbj.cell (World.block_lt_of_cell? _ _ cellA1)).trans cellA1
        have z2 := (hbj.cell (World.block_lt_of_cell? _ _ cellA2)).trans cellA2
        obtain rfl : j = 4 := by omega
        by_cases p0 : o = 0
        · subst p0
          have hfin : R = decide (a2 ≤ 4) := HRE.out
          subst hfin
          go_wp2_with fail
          go_ret
          exact ⟨rfl, hbw⟩
        by_cases p1 : o = 38
        · subst p1
          have hfin : R = regB f.regs (a1 + 1) := HRE.out
          have hbd := HIB.out HARGS.out rfl
          have hnw : a1 + 1 ≤ 9223372036854775807 := by omega
          have hnw2 : 0 ≤ a1 := hbd.1
          subst hfin
          clear hbd
          go_wp2_with fail
          refine (register_any hCr (a1 + 1)).mono ?_
          rintro e w5 ⟨rfl, rfl⟩
          simp only
          go_wp2_with fail
          go_ret
          exact ⟨rfl, hbw⟩
        by_cases p2 : o = 39
        · subst p2
          have hfin : R = regB f.regs (a2 + 1) := HRE.out
          have hbd := HSB.out HARGS.out rfl
          have hnw : a2 + 1 ≤ 9223372036854775807 := by omega
          have hnw2 : 0 ≤ a2 := hbd.1
          subst hfin
          clear hbd
          go_wp2_with fail
          refine (register_any hCr (a2 + 1)).mono ?_
          rintro e w5 ⟨rfl, rfl⟩
          simp only
          go_wp2_with fail
          go_ret
          exact ⟨rfl, hbw⟩
        by_cases p3 : o = 15
        · subst p3
          have hbd := HCB.out HARGS.out rfl
          obtain ⟨q, rfl⟩ : ∃ q : Nat, a2 = q := ⟨a2.toNat, by omega⟩
          obtain ⟨g, hg⟩ : ∃ g, fns[q]? = some g := ⟨fns[q]'(by omega), List.getElem?_eq_getElem _⟩
          have hfin : R = g.caps.all (capB f) := by
            have h1 : R = closB fns f (q : Int) := HRE.out
            rw [h1]
            unfold closB
            rw [Int.toNat_natCast, hg]
          have HFIN := Lib.hid hfin
          have hgm := List.mem_of_getElem? hg
          have hnu := hu g hgm
          have hMr := hM.below hbw hbw.size
          obtain ⟨b2, off2, hA2, _, _, _, _, _, _, _, _, _, q8⟩ := hMr.at_ hg
          have hur := (hMr.each g hgm).ur
          obtain ⟨f0, _, _, _, _, _, _, _, _, _, _⟩ := hCr.cells
          rw [hA2] at f0
          obtain ⟨nu, hnu2⟩ : ∃ x, g.caps.length = x := ⟨_, rfl⟩
          obtain ⟨UA, hUA⟩ : ∃ x, g.uA = x := ⟨_, rfl⟩
          rw [hnu2] at q8 hnu
          rw [hUA] at q8 hur
          have HNU := Lib.hid hnu2
          have hqm : (q : Int) < m := hbd.2
          have hall0 : (g.caps.drop 0).all (capB f) = R := by rw [HFIN.out]; rfl
          have HA0 := Lib.hid hall0
          clear hfin hg hnu2 hUA hall0 hbd
          go_wp2_with fail
          refine wp_region_lin (fun w' => w' = wr.drew) [] (.block 0 (.block 1 (.block 2 (.block 3 (.block 4 (.block 5 (.block 6 (.block 7 (.block 8 (.block 9 (.block 10 (.block 11 (.skip))))))))))))) (by kernel_rfl) (by kernel_rfl) (by kernel_rfl) (by kernel_rfl) (by kernel_rfl) rfl ?_
          repeat
            (refine lin_light (A1 := ?_) rfl rfl rfl rfl rfl (fun w' hS K hK => ?_) ?_ ?_
             rotate_left
             · obtain rfl := hS; go_step; exact hK
             · rfl)
          refine lin_end ?_
          go_wp2_with fail
          have hbwd : Below w.heap.size w wr.drew := hbw.drew
          obtain ⟨W, hWd⟩ : ∃ W, wr.drew = W := ⟨_, rfl⟩
          rw [hWd] at hbwd ⊢
          have hurW : Row W W.heap.size UA 2 (g.caps.map capC) := by rw [← hWd]; exact hur.below (Below.refl _ _).drew (Nat.le_refl _)
          clear hWd hur
          go_loopw [102] (fun iv wr => ∃ r : Nat, r ≤ nu ∧ iv = .int .i64 r ∧ (g.caps.drop r).all (capB f) = R ∧ Below W.heap.size W wr)
            (fun iv _ => nu - (intOf iv).toNat)
          case atStart => exact ⟨0, Nat.zero_le _, rfl, HA0.out, Below.refl _ _⟩
          case round =>
            obtain ⟨r, hr, rfl, hcall, hbr⟩ := hrel
            have HCALL := Lib.hid hcall
            clear hcall
            have hbz : Below w.heap.size w wr := hbwd.trans (hbr.mono hbwd.size)
            by_cases hlr : r < nu
            · obtain ⟨⟨up, un⟩, hcu⟩ : ∃ u, g.caps[r]? = some u := ⟨g.caps[r]'(by have := HNU.out; omega), List.getElem?_eq_getElem _⟩
              obtain ⟨b3, off3, rfl, _, v0, v1⟩ := (hurW.below hbr (Nat.le_refl _)).cap hcu
              simp only at v0 v1
              have HSTC := Lib.hid (all_step (capB f) hcu)
              have hwn : (wr.alloc (.cells #[.bool up, .int .i64 un] 79)).heap[wr.heap.size]? = some (.cells #[.bool up, .int .i64 un] 79 (0, 0)) := heap_alloc_new wr _
              have hbn : Below W.heap.size W (wr.alloc (.cells #[.bool up, .int .i64 un] 79)) := hbr.alloc hbr.size _
              obtain ⟨wn, hwn'⟩ : ∃ wn, wr.alloc (.cells #[.bool up, .int .i64 un] 79) = wn := ⟨_, rfl⟩
              rw [hwn'] at hwn hbn
              have s0 := cell_blockK hwn 0
              have s1 := cell_blockK hwn 1
              simp at s0 s1
              have hbnz : Below w.heap.size w wn := hbwd.trans (hbn.mono hbwd.size)
              have hCn := h.below hbnz (Nat.le_refl _)
              clear hcu
              cases up with
              | true =>
                go_wp2_with fail
                refine (capture_any hCn un).mono ?_
                rintro e w6 ⟨rfl, rfl⟩
                cases hres : regB f.caps.length un with
                | true =>
                  have hcb2 : capB f (true, un) = true := hres
                  have HCB2 := Lib.hid hcb2
                  simp only
                  go_wp2_with fail
                  go_roundw
                  case rel =>
                    have hR3 : (g.caps.drop (r + 1)).all (capB f) = R := by rw [← HCALL.out, HSTC.out, HCB2.out]; rfl
                    first | exact ⟨r + 1, by omega, by go_num, hR3, hbn⟩ | ((repeat apply Exists.intro); exact ⟨⟨r + 1, by omega, by go_num, hR3, hbn⟩, rfl⟩)
                  case measure => simp [intOf]; omega
                | false =>
                  have hcb2 : capB f (true, un) = false := hres
                  have hfin : R = false := by rw [← HCALL.out, HSTC.out, hcb2]; rfl
                  subst hfin
                  simp only
                  go_wp2_with fail
                  go_ret
                  exact ⟨rfl, hbnz⟩
              | false =>
                go_wp2_with fail
                refine (register_any hCn un).mono ?_
                rintro e w6 ⟨rfl, rfl⟩
                cases hres : regB f.regs un with
                | true =>
                  have hcb2 : capB f (false, un) = true := hres
                  have HCB2 := Lib.hid hcb2
                  simp only
                  go_wp2_with fail
                  go_roundw
                  case rel =>
                    have hR3 : (g.caps.drop (r + 1)).all (capB f) = R := by rw [← HCALL.out, HSTC.out, HCB2.out]; rfl
                    first | exact ⟨r + 1, by omega, by go_num, hR3, hbn⟩ | ((repeat apply Exists.intro); exact ⟨⟨r + 1, by omega, by go_num, hR3, hbn⟩, rfl⟩)
                  case measure => simp [intOf]; omega
                | false =>
                  have hcb2 : capB f (false, un) = false := hres
                  have hfin : R = false := by rw [← HCALL.out, HSTC.out, hcb2]; rfl
                  subst hfin
                  simp only
                  go_wp2_with fail
                  go_ret
                  exact ⟨rfl, hbnz⟩
            · have hfin : R = true := by rw [← HCALL.out, all_end _ (by have := HNU.out; omega)]
              subst hfin
              go_wp2_with fail
              go_ret
              exact ⟨rfl, hbz⟩
        · have hfin : R = true := by
            rw [HRE.out]
            unfold extraB
            simp only [p0, p1, p2, p3, if_false]
          subst hfin
          go_wp2_with fail
          go_ret
          exact ⟨rfl, hbw⟩
end
end Go.Proofs.YtoihoackmkapaaaDoor.G
