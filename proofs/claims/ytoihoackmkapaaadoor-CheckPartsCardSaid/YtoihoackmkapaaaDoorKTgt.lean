/- An instruction's target: check.target, lintelref12.has and Target. -/
import Derived.Test.YtoihoackmkapaaaDoorKIns
import Derived.Test.YtoihoackmkapaaaDoorKEntry
import Derived.Lib.OthersKept
import Derived.WalkSmall
namespace Go.Proofs.YtoihoackmkapaaaDoor
open Go.RowKit
set_option maxHeartbeats 4000000
set_option maxRecDepth 100000

/-- the first place of letter 't' from place p on -/
def tIx (L : ByteArray) : Nat → Nat → Option Nat
  | 0, _ => none
  | g + 1, p => if L[p]? = some 116 then some p else tIx L g (p + 1)
theorem tIx_step (L : ByteArray) {p : Nat} (h : p < L.size) : tIx L (L.size - p) p = if L[p]? = some 116 then some p else tIx L (L.size - (p + 1)) (p + 1) := by
  rw [show L.size - p = (L.size - (p + 1)) + 1 by omega]
  rfl
theorem tIx_end (L : ByteArray) {p : Nat} (h : L.size ≤ p) : tIx L (L.size - p) p = none := by
  rw [show L.size - p = 0 by omega]
  rfl
/-- an instruction's target, if it has one -/
def tgtOf (i : InsT) : Option Int := (tIx (lettersOf i.1) (lettersOf i.1).size 0).map (argAt i)

theorem letter_ascii {b : UInt8} (h : isLetter b = true) : b.toNat < 128 := by
  unfold isLetter at h
  simp only [Bool.or_eq_true, beq_iff_eq] at h
  rcases h with (((((rfl | rfl) | rfl) | rfl) | rfl) | rfl) | rfl <;> decide
theorem index_arr (a1 a2 a3 a4 : Int) (w : World) :
    (Instr.index 76 (.agg #[.int .i64 a1, .int .i64 a2, .int .i64 a3, .int .i64 a4]) (.int .i64 0)).run Tryd.prog w = .ok (.int .i64 a1) w ∧
    (Instr.index 76 (.agg #[.int .i64 a1, .int .i64 a2, .int .i64 a3, .int .i64 a4]) (.int .i64 1)).run Tryd.prog w = .ok (.int .i64 a2) w ∧
    (Instr.index 76 (.agg #[.int .i64 a1, .int .i64 a2, .int .i64 a3, .int .i64 a4]) (.int .i64 2)).run Tryd.prog w = .ok (.int .i64 a3) w ∧
    (Instr.index 76 (.agg #[.int .i64 a1, .int .i64 a2, .int .i64 a3, .int .i64 a4]) (.int .i64 3)).run Tryd.prog w = .ok (.int .i64 a4) w :=
  ⟨by kernel_rfl, by kernel_rfl, by kernel_rfl, by kernel_rfl⟩
section
variable {w : World}
theorem target12_any (i : InsT) (hT : Tb w) :
    Calls Tryd.prog 30 #[.agg (insC i).toArray] w fun e w' => e = .returned (.tuple #[.int .i64 ((tgtOf i).getD 0), .bool (tgtOf i).isSome]) ∧ Below w.heap.size w w' := by
  obtain ⟨o, a1, a2, a3, a4⟩ := i
  obtain ⟨Z, hZ⟩ : ∃ Z, tgtOf (o, a1, a2, a3, a4) = Z := ⟨_, rfl⟩
  rw [hZ]
  have HZ := Lib.hid hZ
  clear hZ
  simp only [insC]
  have c0 : (w.alloc (.cells #[.int .i64 o, .int .i64 a1, .int .i64 a2, .int .i64 a3, .int .i64 a4] 50)).heap[w.heap.size]? = some (.cells #[.int .i64 o, .int .i64 a1, .int .i64 a2, .int .i64 a3, .int .i64 a4] 50 (0, 0)) := heap_alloc_new w _
  have hb0 : Below w.heap.size w (w.alloc (.cells #[.int .i64 o, .int .i64 a1, .int .i64 a2, .int .i64 a3, .int .i64 a4] 50)) := (Below.refl _ _).alloc (Nat.le_refl _) _
  have hz0 : (w.alloc (.cells #[.int .i64 o, .int .i64 a1, .int .i64 a2, .int .i64 a3, .int .i64 a4] 50)).heap.size = w.heap.size + 1 := by simp
  obtain ⟨w0, hw0⟩ : ∃ w0, w.alloc (.cells #[.int .i64 o, .int .i64 a1, .int .i64 a2, .int .i64 a3, .int .i64 a4] 50) = w0 := ⟨_, rfl⟩
  rw [hw0] at c0 hb0 hz0
  have i0 := cell_blockK c0 0
  have i1 := cell_blockK c0 1
  have i2 := cell_blockK c0 2
  have i3 := cell_blockK c0 3
  have i4 := cell_blockK c0 4
  simp at i0 i1 i2 i3 i4
  clear c0
  go_enter Tryd.func30, Tryd.ntmps30
  go_wp2_with fail
  refine (codeOps_any o _ (hT.below hb0 (Nat.le_refl _))).mono ?_
  rintro e w2 ⟨rfl, b2⟩
  obtain ⟨L, hL⟩ : ∃ L, lettersOf o = L := ⟨_, rfl⟩
  have hLs := (letters_ok o).1
  have hLl := (letters_ok o).2
  rw [hL] at hLs hLl ⊢
  have hZ2 : (tIx L (L.size - 0) 0).map (argAt (o, a1, a2, a3, a4)) = Z := by rw [← HZ.out]; unfold tgtOf; simp only [hL]; rfl
  have HLL := Lib.hid hLl
  clear hL hLl hw0
  obtain ⟨X, hX⟩ : ∃ X, tIx L (L.size - 0) 0 = X := ⟨_, rfl⟩
  rw [hX] at hZ2
  have HX := Lib.hid hX
  have HZX := Lib.hid hZ2
  clear hX hZ2
  have hz2 := b2.size
  have hb2 := hb0.trans (b2.mono (by omega))
  have hit0 := World.iter_heap w2 L 0
  have hbi0 : Below w2.heap.size w2 (w2.iter L 0) := (Below.refl _ _).alloc (Nat.le_refl _) _
  simp only
  go_wp2_with fail
  go_loopw [] (fun wr => ∃ p : Nat, p ≤ L.size ∧ wr.heap[w2.heap.size]? = some (.stringIter L p) ∧ Below w2.heap.size w2 wr ∧ tIx L (L.size - p) p = X)
    (fun wr => L.size - wr.iterPos w2.heap.size)
  case atStart => exact ⟨0, Nat.zero_le _, hit0, hbi0, HX.out⟩
  case round =>
    obtain ⟨p, hp, hit, hb, hx0⟩ := hrel
    have HXP := Lib.hid hx0
    clear hx0
    have hbW : Below w0.heap.size w0 wr := b2.trans (hb.mono b2.size)
    have hbw : Below w.heap.size w wr := hb0.trans (hbW.mono (by omega))
    have k_i0 := (hbW.cell (World.block_lt_of_cell? _ _ i0)).trans i0
    have k_i1 := (hbW.cell (World.block_lt_of_cell? _ _ i1)).trans i1
    have k_i2 := (hbW.cell (World.block_lt_of_cell? _ _ i2)).trans i2
    have k_i3 := (hbW.cell (World.block_lt_of_cell? _ _ i3)).trans i3
    have k_i4 := (hbW.cell (World.block_lt_of_cell? _ _ i4)).trans i4
    by_cases hlt : p < L.size
    · skip
      obtain ⟨x, hx⟩ : ∃ x, L[p]? = some x := ⟨L[p], getElem?_pos L p hlt⟩
      have hlet := HLL.out p x hx
      have hxv : L[p] = x := by have := getElem?_pos L p hlt; rw [hx] at this; injection this with this; exact this.symm
      have hasc : (L[p]'hlt).toNat < 128 := by rw [hxv]; exact letter_ascii hlet
      have hnx : ∀ ty, (Instr.next (.pointer (some ⟨w2.heap.size, 0, none⟩)) true ty).run Tryd.prog wr = _ := fun ty => Lib.run_next_ascii_at wr w2.heap.size L p ty hit hlt hasc
      simp only [hxv] at hnx
      have hit2 := Lib.iterAt_heap wr w2.heap.size L p (p + 1) hit
      have hbi2 := Lib.below_iterAt hb (k := w2.heap.size) (Nat.le_refl _) L (p + 1)
      have HST := Lib.hid (tIx_step L hlt)
      obtain ⟨W, hW⟩ : ∃ W, wr.iterAt w2.heap.size L (p + 1) = W := ⟨_, rfl⟩
      rw [hW] at hnx hit2 hbi2
      have hbW2 : Below w0.heap.size w0 W := b2.trans (hbi2.mono b2.size)
      have hbw2 : Below w.heap.size w W := hb0.trans (hbW2.mono (by omega))
      have l_i0 := (hbW2.cell (World.block_lt_of_cell? _ _ i0)).trans i0
      have l_i1 := (hbW2.cell (World.block_lt_of_cell? _ _ i1)).trans i1
      have l_i2 := (hbW2.cell (World.block_lt_of_cell? _ _ i2)).trans i2
      have l_i3 := (hbW2.cell (World.block_lt_of_cell? _ _ i3)).trans i3
      have l_i4 := (hbW2.cell (World.block_lt_of_cell? _ _ i4)).trans i4
      clear hasc hlet
      by_cases hc : x = 116
      · subst hc
        have hXp : X = some p := by rw [← HXP.out, HST.out, if_pos hx]
        have hZp : Z = some (argAt (o, a1, a2, a3, a4) p) := by rw [← HZX.out, hXp]; rfl
        subst hZp
        clear hx hxv hXp
        have hp4 : p < 4 := by omega
        go_wp2_with fail
        refine (args_any (o, a1, a2, a3, a4) _).mono ?_
        rintro e w3 ⟨rfl, b3⟩
        obtain ⟨x0, x1, x2, x3⟩ := index_arr a1 a2 a3 a4 w3
        simp only
        obtain rfl | rfl | rfl | rfl : p = 0 ∨ p = 1 ∨ p = 2 ∨ p = 3 := by omega
        all_goals
          go_wp2_with fail
          go_ret2
          exact ⟨rfl, hbw2.trans (b3.mono hbw2.size)⟩
      · have hne : ((x.toNat : Int) == 116) = false := by
          rw [beq_eq_false_iff_ne]
          intro h
          exact hc (by apply UInt8.toNat.inj; show x.toNat = 116; omega)
        have hR2 : tIx L (L.size - (p + 1)) (p + 1) = X := by rw [← HXP.out, HST.out, if_neg (by rw [hx]; simpa using hc)]
        clear hx hxv
        go_wp2_with fail
        go_roundw
        case rel => exact ⟨p + 1, by omega, hit2, hbi2, hR2⟩
        case measure => rw [iterPos_of hit2, iterPos_of hit]; omega
    · have hnx : ∀ ty, (Instr.next (.pointer (some ⟨w2.heap.size, 0, none⟩)) true ty).run Tryd.prog wr = _ := fun ty => Lib.run_next_end_at wr w2.heap.size L p ty hit hlt
      have hXp : X = none := by rw [← HXP.out, tIx_end L (by omega)]
      have hZp : Z = none := by rw [← HZX.out, hXp]; rfl
      subst hZp
      go_wp2_with fail
      go_ret2
      exact ⟨rfl, hbw⟩
theorem has_any (i : InsT) :
    Calls Tryd.prog 27 #[.agg (insC i).toArray] w fun e w' => e = .returned (.bool (tgtOf i).isSome) ∧ Below w.heap.size w w' := by
  obtain ⟨o, a1, a2, a3, a4⟩ := i
  obtain ⟨Z, hZ⟩ : ∃ Z, tgtOf (o, a1, a2, a3, a4) = Z := ⟨_, rfl⟩
  rw [hZ]
  have HZ := Lib.hid hZ
  clear hZ
  simp only [insC]
  have c0 : (w.alloc (.cells #[.int .i64 o, .int .i64 a1, .int .i64 a2, .int .i64 a3, .int .i64 a4] 50)).heap[w.heap.size]? = some (.cells #[.int .i64 o, .int .i64 a1, .int .i64 a2, .int .i64 a3, .int .i64 a4] 50 (0, 0)) := heap_alloc_new w _
  have hb0 : Below w.heap.size w (w.alloc (.cells #[.int .i64 o, .int .i64 a1, .int .i64 a2, .int .i64 a3, .int .i64 a4] 50)) := (Below.refl _ _).alloc (Nat.le_refl _) _
  have hz0 : (w.alloc (.cells #[.int .i64 o, .int .i64 a1, .int .i64 a2, .int .i64 a3, .int .i64 a4] 50)).heap.size = w.heap.size + 1 := by simp
  obtain ⟨w0, hw0⟩ : ∃ w0, w.alloc (.cells #[.int .i64 o, .int .i64 a1, .int .i64 a2, .int .i64 a3, .int .i64 a4] 50) = w0 := ⟨_, rfl⟩
  rw [hw0] at c0 hb0 hz0
  have i0 := cell_blockK c0 0
  have i1 := cell_blockK c0 1
  have i2 := cell_blockK c0 2
  have i3 := cell_blockK c0 3
  have i4 := cell_blockK c0 4
  simp at i0 i1 i2 i3 i4
  clear c0
  go_enter Tryd.func27, Tryd.ntmps27
  go_wp2_with fail
  refine (refOps_any o _).mono ?_
  rintro e w2 ⟨rfl, b2⟩
  obtain ⟨L, hL⟩ : ∃ L, lettersOf o = L := ⟨_, rfl⟩
  have hLs := (letters_ok o).1
  have hLl := (letters_ok o).2
  rw [hL] at hLs hLl ⊢
  have hZ2 : (tIx L (L.size - 0) 0).map (argAt (o, a1, a2, a3, a4)) = Z := by rw [← HZ.out]; unfold tgtOf; simp only [hL]; rfl
  have HLL := Lib.hid hLl
  clear hL hLl hw0
  obtain ⟨X, hX⟩ : ∃ X, tIx L (L.size - 0) 0 = X := ⟨_, rfl⟩
  rw [hX] at hZ2
  have HX := Lib.hid hX
  have HZX := Lib.hid hZ2
  clear hX hZ2
  have hz2 := b2.size
  have hb2 := hb0.trans (b2.mono (by omega))
  have hit0 := World.iter_heap w2 L 0
  have hbi0 : Below w2.heap.size w2 (w2.iter L 0) := (Below.refl _ _).alloc (Nat.le_refl _) _
  simp only
  go_wp2_with fail
  go_loopw [] (fun wr => ∃ p : Nat, p ≤ L.size ∧ wr.heap[w2.heap.size]? = some (.stringIter L p) ∧ Below w2.heap.size w2 wr ∧ tIx L (L.size - p) p = X)
    (fun wr => L.size - wr.iterPos w2.heap.size)
  case atStart => exact ⟨0, Nat.zero_le _, hit0, hbi0, HX.out⟩
  case round =>
    obtain ⟨p, hp, hit, hb, hx0⟩ := hrel
    have HXP := Lib.hid hx0
    clear hx0
    have hbW : Below w0.heap.size w0 wr := b2.trans (hb.mono b2.size)
    have hbw : Below w.heap.size w wr := hb0.trans (hbW.mono (by omega))
    have k_i0 := (hbW.cell (World.block_lt_of_cell? _ _ i0)).trans i0
    have k_i1 := (hbW.cell (World.block_lt_of_cell? _ _ i1)).trans i1
    have k_i2 := (hbW.cell (World.block_lt_of_cell? _ _ i2)).trans i2
    have k_i3 := (hbW.cell (World.block_lt_of_cell? _ _ i3)).trans i3
    have k_i4 := (hbW.cell (World.block_lt_of_cell? _ _ i4)).trans i4
    by_cases hlt : p < L.size
    · skip
      obtain ⟨x, hx⟩ : ∃ x, L[p]? = some x := ⟨L[p], getElem?_pos L p hlt⟩
      have hlet := HLL.out p x hx
      have hxv : L[p] = x := by have := getElem?_pos L p hlt; rw [hx] at this; injection this with this; exact this.symm
      have hasc : (L[p]'hlt).toNat < 128 := by rw [hxv]; exact letter_ascii hlet
      have hnx : ∀ ty, (Instr.next (.pointer (some ⟨w2.heap.size, 0, none⟩)) true ty).run Tryd.prog wr = _ := fun ty => Lib.run_next_ascii_at wr w2.heap.size L p ty hit hlt hasc
      simp only [hxv] at hnx
      have hit2 := Lib.iterAt_heap wr w2.heap.size L p (p + 1) hit
      have hbi2 := Lib.below_iterAt hb (k := w2.heap.size) (Nat.le_refl _) L (p + 1)
      have HST := Lib.hid (tIx_step L hlt)
      obtain ⟨W, hW⟩ : ∃ W, wr.iterAt w2.heap.size L (p + 1) = W := ⟨_, rfl⟩
      rw [hW] at hnx hit2 hbi2
      have hbW2 : Below w0.heap.size w0 W := b2.trans (hbi2.mono b2.size)
      have hbw2 : Below w.heap.size w W := hb0.trans (hbW2.mono (by omega))
      have l_i0 := (hbW2.cell (World.block_lt_of_cell? _ _ i0)).trans i0
      have l_i1 := (hbW2.cell (World.block_lt_of_cell? _ _ i1)).trans i1
      have l_i2 := (hbW2.cell (World.block_lt_of_cell? _ _ i2)).trans i2
      have l_i3 := (hbW2.cell (World.block_lt_of_cell? _ _ i3)).trans i3
      have l_i4 := (hbW2.cell (World.block_lt_of_cell? _ _ i4)).trans i4
      clear hasc hlet
      have hi1 := fun w => run_index_str (P := Tryd.prog) Tryd.underlying9 L (p : Int) p rfl hlt w
      rw [hx, Option.getD_some] at hi1
      have hlt2 : (p : Int) < L.size := by omega
      by_cases hc : x = 116
      · subst hc
        have hXp : X = some p := by rw [← HXP.out, HST.out, if_pos hx]
        have hZp : Z = some (argAt (o, a1, a2, a3, a4) p) := by rw [← HZX.out, hXp]; rfl
        subst hZp
        clear hx hxv hXp
        go_wp2_with fail
        go_ret
        exact ⟨rfl, hbw2⟩
      · have hne : ((x.toNat : Int) == 116) = false := by
          rw [beq_eq_false_iff_ne]
          intro h
          exact hc (by apply UInt8.toNat.inj; show x.toNat = 116; omega)
        have hR2 : tIx L (L.size - (p + 1)) (p + 1) = X := by rw [← HXP.out, HST.out, if_neg (by rw [hx]; simpa using hc)]
        clear hx hxv
        go_wp2_with fail
        go_roundw
        case rel => exact ⟨p + 1, by omega, hit2, hbi2, hR2⟩
        case measure => rw [iterPos_of hit2, iterPos_of hit]; omega
    · have hnx : ∀ ty, (Instr.next (.pointer (some ⟨w2.heap.size, 0, none⟩)) true ty).run Tryd.prog wr = _ := fun ty => Lib.run_next_end_at wr w2.heap.size L p ty hit hlt
      have hXp : X = none := by rw [← HXP.out, tIx_end L (by omega)]
      have hZp : Z = none := by rw [← HZX.out, hXp]; rfl
      subst hZp
      go_wp2_with fail
      go_ret
      exact ⟨rfl, hbw⟩
theorem Target_any (i : InsT) :
    Calls Tryd.prog 28 #[.agg (insC i).toArray] w fun e w' => e = .returned (.int .i64 ((tgtOf i).getD (-1))) ∧ Below w.heap.size w w' := by
  obtain ⟨o, a1, a2, a3, a4⟩ := i
  obtain ⟨Z, hZ⟩ : ∃ Z, tgtOf (o, a1, a2, a3, a4) = Z := ⟨_, rfl⟩
  rw [hZ]
  have HZ := Lib.hid hZ
  clear hZ
  simp only [insC]
  have c0 : (w.alloc (.cells #[.int .i64 o, .int .i64 a1, .int .i64 a2, .int .i64 a3, .int .i64 a4] 50)).heap[w.heap.size]? = some (.cells #[.int .i64 o, .int .i64 a1, .int .i64 a2, .int .i64 a3, .int .i64 a4] 50 (0, 0)) := heap_alloc_new w _
  have hb0 : Below w.heap.size w (w.alloc (.cells #[.int .i64 o, .int .i64 a1, .int .i64 a2, .int .i64 a3, .int .i64 a4] 50)) := (Below.refl _ _).alloc (Nat.le_refl _) _
  have hz0 : (w.alloc (.cells #[.int .i64 o, .int .i64 a1, .int .i64 a2, .int .i64 a3, .int .i64 a4] 50)).heap.size = w.heap.size + 1 := by simp
  obtain ⟨w0, hw0⟩ : ∃ w0, w.alloc (.cells #[.int .i64 o, .int .i64 a1, .int .i64 a2, .int .i64 a3, .int .i64 a4] 50) = w0 := ⟨_, rfl⟩
  rw [hw0] at c0 hb0 hz0
  have i0 := cell_blockK c0 0
  have i1 := cell_blockK c0 1
  have i2 := cell_blockK c0 2
  have i3 := cell_blockK c0 3
  have i4 := cell_blockK c0 4
  simp at i0 i1 i2 i3 i4
  clear c0
  go_enter Tryd.func28, Tryd.ntmps28
  go_wp2_with fail
  refine (refOps_any o _).mono ?_
  rintro e w2 ⟨rfl, b2⟩
  obtain ⟨L, hL⟩ : ∃ L, lettersOf o = L := ⟨_, rfl⟩
  have hLs := (letters_ok o).1
  have hLl := (letters_ok o).2
  rw [hL] at hLs hLl ⊢
  have hZ2 : (tIx L (L.size - 0) 0).map (argAt (o, a1, a2, a3, a4)) = Z := by rw [← HZ.out]; unfold tgtOf; simp only [hL]; rfl
  have HLL := Lib.hid hLl
  clear hL hLl hw0
  obtain ⟨X, hX⟩ : ∃ X, tIx L (L.size - 0) 0 = X := ⟨_, rfl⟩
  rw [hX] at hZ2
  have HX := Lib.hid hX
  have HZX := Lib.hid hZ2
  clear hX hZ2
  have hz2 := b2.size
  have hb2 := hb0.trans (b2.mono (by omega))
  have hit0 := World.iter_heap w2 L 0
  have hbi0 : Below w2.heap.size w2 (w2.iter L 0) := (Below.refl _ _).alloc (Nat.le_refl _) _
  simp only
  go_wp2_with fail
  go_loopw [] (fun wr => ∃ p : Nat, p ≤ L.size ∧ wr.heap[w2.heap.size]? = some (.stringIter L p) ∧ Below w2.heap.size w2 wr ∧ tIx L (L.size - p) p = X)
    (fun wr => L.size - wr.iterPos w2.heap.size)
  case atStart => exact ⟨0, Nat.zero_le _, hit0, hbi0, HX.out⟩
  case round =>
    obtain ⟨p, hp, hit, hb, hx0⟩ := hrel
    have HXP := Lib.hid hx0
    clear hx0
    have hbW : Below w0.heap.size w0 wr := b2.trans (hb.mono b2.size)
    have hbw : Below w.heap.size w wr := hb0.trans (hbW.mono (by omega))
    have k_i0 := (hbW.cell (World.block_lt_of_cell? _ _ i0)).trans i0
    have k_i1 := (hbW.cell (World.block_lt_of_cell? _ _ i1)).trans i1
    have k_i2 := (hbW.cell (World.block_lt_of_cell? _ _ i2)).trans i2
    have k_i3 := (hbW.cell (World.block_lt_of_cell? _ _ i3)).trans i3
    have k_i4 := (hbW.cell (World.block_lt_of_cell? _ _ i4)).trans i4
    by_cases hlt : p < L.size
    · skip
      obtain ⟨x, hx⟩ : ∃ x, L[p]? = some x := ⟨L[p], getElem?_pos L p hlt⟩
      have hlet := HLL.out p x hx
      have hxv : L[p] = x := by have := getElem?_pos L p hlt; rw [hx] at this; injection this with this; exact this.symm
      have hasc : (L[p]'hlt).toNat < 128 := by rw [hxv]; exact letter_ascii hlet
      have hnx : ∀ ty, (Instr.next (.pointer (some ⟨w2.heap.size, 0, none⟩)) true ty).run Tryd.prog wr = _ := fun ty => Lib.run_next_ascii_at wr w2.heap.size L p ty hit hlt hasc
      simp only [hxv] at hnx
      have hit2 := Lib.iterAt_heap wr w2.heap.size L p (p + 1) hit
      have hbi2 := Lib.below_iterAt hb (k := w2.heap.size) (Nat.le_refl _) L (p + 1)
      have HST := Lib.hid (tIx_step L hlt)
      obtain ⟨W, hW⟩ : ∃ W, wr.iterAt w2.heap.size L (p + 1) = W := ⟨_, rfl⟩
      rw [hW] at hnx hit2 hbi2
      have hbW2 : Below w0.heap.size w0 W := b2.trans (hbi2.mono b2.size)
      have hbw2 : Below w.heap.size w W := hb0.trans (hbW2.mono (by omega))
      have l_i0 := (hbW2.cell (World.block_lt_of_cell? _ _ i0)).trans i0
      have l_i1 := (hbW2.cell (World.block_lt_of_cell? _ _ i1)).trans i1
      have l_i2 := (hbW2.cell (World.block_lt_of_cell? _ _ i2)).trans i2
      have l_i3 := (hbW2.cell (World.block_lt_of_cell? _ _ i3)).trans i3
      have l_i4 := (hbW2.cell (World.block_lt_of_cell? _ _ i4)).trans i4
      clear hasc hlet
      have hi1 := fun w => run_index_str (P := Tryd.prog) Tryd.underlying9 L (p : Int) p rfl hlt w
      rw [hx, Option.getD_some] at hi1
      have hlt2 : (p : Int) < L.size := by omega
      by_cases hc : x = 116
      · subst hc
        have hXp : X = some p := by rw [← HXP.out, HST.out, if_pos hx]
        have hZp : Z = some (argAt (o, a1, a2, a3, a4) p) := by rw [← HZX.out, hXp]; rfl
        subst hZp
        clear hx hxv hXp
        have hp4 : p < 4 := by omega
        go_wp2_with fail
        refine (refargs_any (o, a1, a2, a3, a4) _).mono ?_
        rintro e w3 ⟨rfl, hw3⟩
        have hs3 : (W.alloc (.cells (insC (o, a1, a2, a3, a4)).toArray 50)).heap.size = W.heap.size + 1 := by simp
        have c3 : w3.heap[W.heap.size + 1]? = some (.cells #[.int .i64 a1, .int .i64 a2, .int .i64 a3, .int .i64 a4] 3 (0, 0)) := by rw [← hw3, ← hs3]; exact heap_alloc_new _ _
        have b3 : Below W.heap.size W w3 := by rw [← hw3]; exact ((Below.refl _ _).alloc (Nat.le_refl _) _).alloc (by simp) _
        have j0 := cell_blockK c3 0
        have j1 := cell_blockK c3 1
        have j2 := cell_blockK c3 2
        have j3 := cell_blockK c3 3
        simp at j0 j1 j2 j3
        clear hw3 hs3 c3
        simp only
        obtain rfl | rfl | rfl | rfl : p = 0 ∨ p = 1 ∨ p = 2 ∨ p = 3 := by omega
        all_goals
          go_wp2_with fail
          go_ret
          exact ⟨rfl, hbw2.trans (b3.mono hbw2.size)⟩
      · have hne : ((x.toNat : Int) == 116) = false := by
          rw [beq_eq_false_iff_ne]
          intro h
          exact hc (by apply UInt8.toNat.inj; show x.toNat = 116; omega)
        have hR2 : tIx L (L.size - (p + 1)) (p + 1) = X := by rw [← HXP.out, HST.out, if_neg (by rw [hx]; simpa using hc)]
        clear hx hxv
        go_wp2_with fail
        go_roundw
        case rel => exact ⟨p + 1, by omega, hit2, hbi2, hR2⟩
        case measure => rw [iterPos_of hit2, iterPos_of hit]; omega
    · have hnx : ∀ ty, (Instr.next (.pointer (some ⟨w2.heap.size, 0, none⟩)) true ty).run Tryd.prog wr = _ := fun ty => Lib.run_next_end_at wr w2.heap.size L p ty hit hlt
      have hXp : X = none := by rw [← HXP.out, tIx_end L (by omega)]
      have hZp : Z = none := by rw [← HZX.out, hXp]; rfl
      subst hZp
      go_wp2_with fail
      go_ret
      exact ⟨rfl, hbw⟩
end
end Go.Proofs.YtoihoackmkapaaaDoor
