/- The walks of Check on both sides: what the document takes passes the checker. -/
import Derived.Test.YtgnpgdjjdhlhaaaDoorTBody
import Derived.Test.YtgnpgdjjdhlhaaaDoorTDeep
import Derived.Test.YtgnpgdjjdhlhaaaDoorTFields
import Derived.Test.YtgnpgdjjdhlhaaaDoorTTextC
import Derived.Test.YtgnpgdjjdhlhaaaDoorTShape0
import Derived.Test.YtgnpgdjjdhlhaaaDoorTShape1
import Derived.Test.YtgnpgdjjdhlhaaaDoorTShape2
import Derived.Test.YtgnpgdjjdhlhaaaDoorTShape3
import Derived.Test.YtgnpgdjjdhlhaaaDoorTMore0
import Derived.Test.YtgnpgdjjdhlhaaaDoorTMore1
import Derived.Test.YtgnpgdjjdhlhaaaDoorTMore2
import Derived.Test.YtgnpgdjjdhlhaaaDoorTMore3
import Derived.Test.YtgnpgdjjdhlhaaaDoorTMore4
import Derived.Test.YtgnpgdjjdhlhaaaDoorTObj
import Derived.Test.YtgnpgdjjdhlhaaaDoorTMoreS
import Derived.Test.YtgnpgdjjdhlhaaaDoorTTryR
import Derived.Test.YtgnpgdjjdhlhaaaDoorTLaw
import Derived.Test.YtgnpgdjjdhlhaaaDoorTCheck
namespace Go.Proofs.YtgnpgdjjdhlhaaaDoor
open Go.RowKit
set_option maxHeartbeats 4000000
set_option maxRecDepth 100000
attribute [local go_sem] Oper.semAt_some store_floatK

theorem Dp.init {w : World} {b N c : Nat} {D : List Nat} (h : Dp w b N (D ++ [c])) : Dp w b N D := by
  obtain ⟨cs, h1, h2, h3⟩ := h.block
  exact ⟨cs, h1, h2, fun k d hk => h3 k d (by rw [List.getElem?_append_left (List.getElem?_eq_some_iff.1 hk).1]; exact hk)⟩
theorem refdeep_any {w : World} {A : Option Addr} {n c : Nat} {l : List Nd} (h : Nds w w.heap.size A l) (hn : l.length = n) (hK : KidsOk l n) :
    Calls Tryd.prog 16 #[.slice A n c] w fun e w' => e = .returned (.int .i64 (deepB l : Nat)) ∧ Below w.heap.size w w' := by
  have hs := h.small.1
  rw [hn] at hs
  have Hn := Lib.hid hn
  have HK := Lib.hid hK
  clear hn hK
  have hmk := make_intsK w (n : Int) (by omega)
  rw [Int.toNat_natCast] at hmk
  have hd0 := Dp.new w n
  have hb0 : Below w.heap.size w (w.alloc (.cells (List.replicate n (Value.int .i64 0)).toArray 3)) := (Below.refl _ _).alloc (Nat.le_refl _) _
  obtain ⟨w0, hw0⟩ : ∃ w0, w.alloc (.cells (List.replicate n (Value.int .i64 0)).toArray 3) = w0 := ⟨_, rfl⟩
  rw [hw0] at hd0 hb0 hmk
  go_enter Tryd.func16, Tryd.ntmps16
  go_wp2_with fail
  go_loopw [13] (fun i wr => ∃ (k : Nat) (D : List Nat), k ≤ n ∧ i = .int .i64 k ∧ D.length = k ∧ (∀ d ∈ D, d ≤ k) ∧ deepGo l [] = deepGo (l.drop k) D ∧ Below w.heap.size w wr ∧ Dp wr w.heap.size n D) (fun i _ => n - (intOf i).toNat)
  case atStart => exact ⟨0, [], Nat.zero_le _, rfl, rfl, fun d hd => (by cases hd), rfl, hb0, hd0⟩
  case round =>
    obtain ⟨k, D, hk, rfl, hDl, hDb, hgo, hb, hD⟩ := hrel
    have HGO := Lib.hid hgo
    have HDL := Lib.hid hDl
    have HDB := Lib.hid hDb
    clear hgo hDl hDb
    by_cases hlt : k < n
    · obtain ⟨x, hx⟩ : ∃ x, l[k]? = some x := ⟨l[k]'(by have := Hn.out; omega), List.getElem?_eq_getElem _⟩
      have hxm := List.mem_of_getElem? hx
      obtain ⟨b, off, rfl, hbl, d0, d1, d2, d3, d4, d5⟩ := (h.below hb hb.size).rows.nd hx
      have hks := h.small.2 x hxm
      have HKR := Lib.hid (h.each x hxm)
      have HAT := Lib.hid (deepGo_at (D := D) hx)
      have HIN := Lib.hid (HK.out k x hlt hx)
      clear hx
      obtain ⟨kn, hkn⟩ : ∃ m, x.kids.length = m := ⟨_, rfl⟩
      rw [hkn] at d4 hks
      have HKN := Lib.hid hkn
      clear hkn
      obtain ⟨wf, rfl⟩ : ∃ wf, wf = wr := ⟨_, rfl⟩
      have ba : Below wf.heap.size wf (wf.alloc (.cells #[.int .i64 x.kind, .string x.text, .string x.str, .float .f64 x.num, .slice x.kA kn x.kC, .int .i64 x.at_] 39)) := (Below.refl _ _).alloc (Nat.le_refl _) _
      have za := heap_alloc_new wf (.cells #[.int .i64 x.kind, .string x.text, .string x.str, .float .f64 x.num, .slice x.kA kn x.kC, .int .i64 x.at_] 39)
      obtain ⟨w1, hw1⟩ : ∃ w1, wf.alloc (.cells #[.int .i64 x.kind, .string x.text, .string x.str, .float .f64 x.num, .slice x.kA kn x.kC, .int .i64 x.at_] 39) = w1 := ⟨_, rfl⟩
      rw [hw1] at ba za
      have hb1 := hb.trans (ba.mono hb.size)
      have hD1 := hD.keep (ba.block _ hD.lt)
      have hlo : w.heap.size ≠ wf.heap.size := by have := hD.lt; omega
      obtain ⟨ov, hov⟩ := hD1.room (k := k) (by omega)
      have hfr := hD1.free k
      have hD2 := hD1.set HDL.out (by omega) 1
      have z2 : (w1.setCell ⟨w.heap.size, k, none⟩ (.int .i64 ((1 : Nat) : Int))).heap[wf.heap.size]? = _ := (Below.heap_setCell _ _ _ _ (by simpa using hlo.symm)).trans za
      have hb2 : Below w.heap.size w (w1.setCell ⟨w.heap.size, k, none⟩ (.int .i64 ((1 : Nat) : Int))) := hb1.setCell (p := ⟨w.heap.size, k, none⟩) (Nat.le_refl _) _
      have h11 : ((1 : Nat) : Int) = 1 := rfl
      rw [h11] at hD2 z2 hb2
      obtain ⟨w2, hw2⟩ : ∃ w2, w1.setCell ⟨w.heap.size, k, none⟩ (.int .i64 1) = w2 := ⟨_, rfl⟩
      rw [hw2] at hD2 z2 hb2
      have e4 := cell_blockK z2 4
      simp at e4
      clear h11 za z2
      go_wp2_with fail
      go_loopw [24] (fun i wq => ∃ (j d : Nat), j ≤ kn ∧ i = .int .i64 j ∧ d ≤ k ∧ Below w.heap.size w wq ∧ Dp wq w.heap.size n (D ++ [d + 1]) ∧ dmax D k x.kids 0 = dmax D k (x.kids.drop j) d) (fun i _ => kn - (intOf i).toNat)
      case atStart => exact ⟨0, 0, Nat.zero_le _, rfl, Nat.zero_le _, hb2, hD2, rfl⟩
      case round =>
        clear hb2 hD2 hw2 hb1 hD1 hw1 ba e4 hov hfr hD hb d0 d1 d2 d3 d4 d5
        obtain ⟨j, d, hj, rfl, hdk, hb3, hD3, hdm⟩ := hrel
        have HDM := Lib.hid hdm
        clear hdm
        by_cases hjt : j < kn
        · obtain ⟨y, hy⟩ : ∃ y, x.kids[j]? = some y := ⟨x.kids[j]'(by have := HKN.out; omega), List.getElem?_eq_getElem _⟩
          obtain ⟨b2, off2, hkA, _, hc⟩ := (HKR.out.below hb3 hb3.size).kid hy
          have HDA := Lib.hid (dmax_at (D := D) (n := k) (d := d) hy)
          have hin := HIN.out y (List.mem_of_getElem? hy)
          clear hy
          rw [hkA]
          obtain ⟨q, rfl⟩ : ∃ q : Nat, y = q := ⟨y.toNat, by omega⟩
          obtain ⟨e, he⟩ : ∃ e, D[q]? = some e := ⟨D[q]'(by have := HDL.out; omega), List.getElem?_eq_getElem _⟩
          have hce := hD3.init.get he
          have hek := HDB.out e (List.mem_of_getElem? he)
          have hcd := hD3.get (k := k) (d := d + 1) (by rw [List.getElem?_append_right (by rw [HDL.out]; exact Nat.le_refl _), HDL.out, Nat.sub_self]; rfl)
          have hqk : q < k := by omega
          have hfin : dmax D k x.kids 0 = dmax D k (x.kids.drop (j + 1)) (max d e) := by
            rw [HDM.out, HDA.out, if_pos hin, Int.toNat_natCast, List.getD_eq_getElem?_getD, he]
            rfl
          have HFIN := Lib.hid hfin
          have hb4 := hb3.drew
          have hD4 : Dp wr.drew w.heap.size n (D ++ [d + 1]) := hD3.keep rfl
          rw [show ((d + 1 : Nat) : Int) = (d : Int) + 1 from by omega] at hcd
          have hcd' : wr.drew.cell? ⟨w.heap.size, k, none⟩ = some (.int .i64 ((d : Int) + 1)) := hcd
          have hce' : wr.drew.cell? ⟨w.heap.size, q, none⟩ = some (.int .i64 (e : Nat)) := hce
          have hfr := hD4.free k
          clear he hfin
          go_wp2_with fail
          refine wp_region_lin (fun w' => w'.cell? ⟨w.heap.size, q, none⟩ = some (.int .i64 (e : Nat)) ∧ w'.cell? ⟨w.heap.size, k, none⟩ = some (.int .i64 ((d : Int) + 1))) [] (.block 0 (.block 1 (.block 2 (.block 3 (.block 4 (.block 5 (.block 6 (.block 7 (.block 8 (.block 9 (.block 10 (.block 11 (.block 12 (.block 13 (.block 14 (.block 15 (.block 16 (.block 17 (.block 18 (.skip)))))))))))))))))))) (by kernel_rfl) (by kernel_rfl) (by kernel_rfl) (by kernel_rfl) (by kernel_rfl) ⟨hce, hcd⟩ ?_
          repeat
            (refine lin_light (A1 := ?_) rfl rfl rfl rfl rfl (fun w' hS K hK => ?_) ?_ ?_
             rotate_left
             · obtain ⟨s0, s1⟩ := hS; go_step; exact hK
             · rfl)
          refine lin_end ?_
          clear hce hcd
          by_cases hgt : e > d
          · have hmx : max d e = e := by omega
            rw [hmx] at HFIN
            have hD5 := hD4.init.set HDL.out (by omega) (e + 1)
            have hb5 : Below w.heap.size w (wr.drew.setCell ⟨w.heap.size, k, none⟩ (.int .i64 ((e : Int) + 1))) := hb4.setCell (p := ⟨w.heap.size, k, none⟩) (Nat.le_refl _) _
            rw [show ((e + 1 : Nat) : Int) = (e : Int) + 1 from by omega] at hD5
            go_wp2_with fail
            go_roundw
            case rel => exact ⟨j + 1, e, by omega, by go_num, hek, hb5, hD5, HFIN.out⟩
            case measure => simp [intOf] <;> omega
          · have hmx : max d e = d := by omega
            rw [hmx] at HFIN
            go_wp2_with fail
            go_roundw
            case rel => exact ⟨j + 1, d, by omega, by go_num, hdk, hb4, hD4, HFIN.out⟩
            case measure => simp [intOf] <;> omega
        · obtain rfl : j = kn := by omega
          have hfin : dmax D k x.kids 0 = d := by rw [HDM.out, List.drop_of_length_le (by have := HKN.out; omega)]; rfl
          have hgo2 : deepGo l [] = deepGo (l.drop (k + 1)) (D ++ [d + 1]) := by rw [HGO.out, HAT.out, HDL.out, hfin]
          have HG2 := Lib.hid hgo2
          clear hgo2 hfin
          go_wp2_with fail
          go_roundw
          case rel => exact ⟨k + 1, D ++ [d + 1], by omega, by go_num, by simp [HDL.out], fun e he => (by
            rcases List.mem_append.1 he with he | he
            · have := HDB.out e he; omega
            · simp at he; omega), HG2.out, hb3, hD3⟩
          case measure => simp [intOf] <;> omega
    · obtain rfl : k = n := by omega
      have hfin : D.getLastD 0 = deepB l := by unfold deepB; rw [HGO.out, List.drop_of_length_le (by have := Hn.out; omega)]; rfl
      by_cases hk0 : k = 0
      · subst hk0
        obtain rfl := List.length_eq_zero_iff.1 HDL.out
        have hfin2 : deepB l = 0 := hfin.symm
        have HF2 := Lib.hid hfin2
        clear hfin hfin2
        go_wp2_with fail
        go_ret
        exact ⟨by rw [HF2.out]; rfl, hb⟩
      · obtain ⟨q, rfl⟩ : ∃ q, k = q + 1 := ⟨k - 1, by omega⟩
        have hD6 : D[q]? = some (deepB l) := by
          rw [← hfin, List.getLastD_eq_getLast?, List.getLast?_eq_getElem?, HDL.out, Nat.add_sub_cancel, List.getElem?_eq_getElem (by have := HDL.out; omega)]
          rfl
        have hc := hD.get hD6
        obtain ⟨v, hv⟩ : ∃ v, deepB l = v := ⟨_, rfl⟩
        rw [hv] at hc
        have HV := Lib.hid hv
        clear hfin hD6 hv
        have hq0 : ((q : Int) + 1 == 0) = false := by rw [beq_eq_false_iff_ne]; omega
        go_wp2_with fail
        go_ret
        exact ⟨by rw [HV.out]; rfl, hb⟩
end Go.Proofs.YtgnpgdjjdhlhaaaDoor

namespace Go.Proofs.YtgnpgdjjdhlhaaaDoor
open Go.RowKit
set_option maxHeartbeats 4000000
set_option maxRecDepth 100000
attribute [local go_sem] Oper.semAt_some store_floatK

section
variable {w : World} {A : Option Addr} {n c cb : Nat} {l : List Nd}
theorem node_ok (hC : Ck w cb A n c) (hN : Nds w w.heap.size A l) (hn : l.length = n) {i k : Nat} {x : Nd} (hx : l[i]? = some x) (hxk : x.kind = (k : Nat)) (hk1 : 1 ≤ k) (hk : k < 57) (hf : fieldsB x = true) (hs2 : x.str.size ≤ 1048576)
    (htext : ∀ w', Below w.heap.size w w' → Calls Tryd.prog 36 #[.pointer (some ⟨cb, 0, none⟩), nV x] w' fun e w'' => e = .returned (.bool true) ∧ Below w'.heap.size w' w'')
    (hkids : ∀ w', Below w.heap.size w w' → Calls Tryd.prog 37 #[.pointer (some ⟨cb, 0, none⟩), .slice x.kA x.kids.length x.kC, .string (ruleK k)] w' fun e w'' => e = .returned (.bool true) ∧ Below w'.heap.size w' w'')
    (hmore : ∀ w', Below w.heap.size w w' → Calls Tryd.prog 38 #[.pointer (some ⟨cb, 0, none⟩), nV x] w' fun e w'' => e = .returned (.bool true) ∧ Below w'.heap.size w' w'') :
    Calls Tryd.prog 23 #[.pointer (some ⟨cb, 0, none⟩), .int .i64 (i : Nat)] w fun e w' => e = .returned (.bool true) ∧ Below w.heap.size w w' := by
  have hs := hN.small.1
  rw [hn] at hs
  have hi2 : i < n := by rw [← hn]; exact (List.getElem?_eq_some_iff.1 hx).1
  have hl := hC.l
  have hrule := hC.rule (rulesC_at hk).2
  rw [show 2 * k + 1 + 1 = 1 + k * 2 + 1 by omega] at hrule
  have hsgn := signbit_any x.num
  have hem := empty_dec (s := x.str)
  unfold fieldsB at hf
  simp only [Bool.and_eq_true] at hf
  obtain ⟨⟨⟨f1, f2⟩, f3⟩, f4⟩ := hf
  have fat : ¬ (x.at_ < 0) := by simpa using f2
  have fev : x.str.size % 2 = 0 := by simpa using f3
  have fsgn : sgnB x.num = false := by
    split at f4
    · simp only [Bool.and_eq_true, Bool.not_eq_true'] at f4; exact f4.1.2
    · simp only [Bool.and_eq_true, Bool.not_eq_true'] at f4; exact f4.1.2
  rw [fsgn] at hsgn
  have fnum : (k = 1 → (FloatKind.f64.format.order x.num 0 == some Ordering.gt || FloatKind.f64.format.order x.num 0 == some Ordering.eq) = true) ∧ (k ≠ 1 → (FloatKind.f64.format.order x.num 0 != some Ordering.eq) = false) := by
    constructor
    · rintro rfl
      rw [hxk, if_pos (by rfl)] at f4
      simp only [Bool.and_eq_true] at f4
      exact f4.1.1.2
    · intro h
      rw [hxk, if_neg (by rw [beq_iff_eq]; omega)] at f4
      simp only [Bool.and_eq_true] at f4
      have f5 : (FloatKind.f64.format.order x.num 0 == some Ordering.eq) = true := f4.1.1
      rw [bne, f5]; rfl
  have fstr : k ≠ 2 → decide (x.str.size = 0) = true := fun h => by
    rw [hxk] at f1
    have : ((k : Int) == 2) = false := by rw [beq_eq_false_iff_ne]; omega
    rw [this, Bool.false_or] at f1
    exact f1
  obtain ⟨b, off, rfl, hbl, d0, d1, d2, d3, d4, d5⟩ := hN.rows.nd hx
  have y1 := heap_alloc_new w (.cells (nCells x) 39)
  have b1 : Below w.heap.size w (w.alloc (.cells (nCells x) 39)) := (Below.refl _ _).alloc (Nat.le_refl _) _
  obtain ⟨kn, hkn⟩ : ∃ m, x.kids.length = m := ⟨_, rfl⟩
  obtain ⟨m, hm⟩ : ∃ m, x.str.size = m := ⟨_, rfl⟩
  unfold nV at htext hmore
  unfold nCells at y1 b1
  rw [hkn] at htext hmore hkids d4 y1 b1
  rw [hxk] at htext hmore d0 y1 b1
  rw [hm] at fev hs2
  obtain ⟨bb, hbb⟩ : ∃ b, x.num = b := ⟨_, rfl⟩
  rw [hbb] at htext hmore d3 y1 b1 fnum hsgn
  obtain ⟨vf, ef⟩ : ∃ v, decide (x.str.size = 0) = v := ⟨_, rfl⟩
  rw [ef] at hem fstr
  have HTEXT := Lib.hid htext
  have HKIDS := Lib.hid hkids
  have HMORE := Lib.hid hmore
  have HSGN := Lib.hid hsgn
  obtain ⟨rk, hrk⟩ : ∃ s, ruleK k = s := ⟨_, rfl⟩
  rw [hrk] at hrule HKIDS
  have hrule1 : ∀ w', Below w.heap.size w w' → w'.cell? ⟨cb, 1 + k * 2 + 1, none⟩ = some (.string rk) := fun w' hb => (hb.cell (World.block_lt_of_cell? _ _ hrule)).trans hrule
  clear htext hkids hmore hsgn f1 f2 f3 f4 fsgn ef hx hn hN hC hbb hkn hrk hrule
  obtain ⟨w1, hw1⟩ : ∃ w1, w.alloc (.cells #[.int .i64 (k : Nat), .string x.text, .string x.str, .float .f64 bb, .slice x.kA kn x.kC, .int .i64 x.at_] 39) = w1 := ⟨_, rfl⟩
  rw [hw1] at y1 b1
  have l1 := (Array.getElem?_eq_some_iff.1 y1).1
  have hF : ∀ w', Below w1.heap.size w1 w' → w'.cell? ⟨w.heap.size, 0, none⟩ = some (.int .i64 (k : Nat)) ∧ w'.cell? ⟨w.heap.size, 1, none⟩ = some (.string x.text) ∧ w'.cell? ⟨w.heap.size, 2, none⟩ = some (.string x.str) ∧ w'.cell? ⟨w.heap.size, 3, none⟩ = some (.float .f64 bb) ∧ w'.cell? ⟨w.heap.size, 4, none⟩ = some (.slice x.kA kn x.kC) ∧ w'.cell? ⟨w.heap.size, 5, none⟩ = some (.int .i64 x.at_) ∧ w'.cell? ⟨cb, 1 + k * 2 + 1, none⟩ = some (.string rk) ∧ Below w.heap.size w w' := fun w' hb => by
    have hz := (hb.block _ l1).trans y1
    have e0 := cell_blockK hz 0
    have e1 := cell_blockK hz 1
    have e2 := cell_blockK hz 2
    have e3 := cell_blockK hz 3
    have e4 := cell_blockK hz 4
    have e5 := cell_blockK hz 5
    simp at e0 e1 e2 e3 e4 e5
    have hb0 := b1.trans (hb.mono (Nat.le_of_lt l1))
    exact ⟨e0, e1, e2, e3, e4, e5, hrule1 _ hb0, hb0⟩
  have HF := Lib.hid hF
  clear hF hrule1 y1
  have e3 : Int.tmod (m : Int) 2 = 0 := by rw [Int.tmod_eq_emod_of_nonneg (by omega)]; omega
  have hk57 : ¬ ((k : Int) ≥ 57) := by omega
  have hk01 : ¬ ((k : Int) < 1) := by omega
  have hk56 : (k : Int) < 57 := by omega
  have hrest : ∀ (w2 : World), Below w1.heap.size w1 w2 → True := fun _ _ => trivial
  clear hrest fev
  obtain ⟨t0, t1, t2, t3, t4, t5, t6, t7⟩ := HF.out w1 (Below.refl _ _)
  have hcase : (k = 1 ∨ k = 2) ∨ (k ≠ 1 ∧ k ≠ 2) := by omega
  go_enter Tryd.func23, Tryd.ntmps23
  have hcast : ∀ c : Nat, ((k : Int) == (c : Nat)) = decide (k = c) := fun c => by
    by_cases h : k = c
    · rw [decide_eq_true h, h]; exact beq_self_eq_true _
    · rw [decide_eq_false h, beq_eq_false_iff_ne]; omega
  have c1 : ((k : Int) == 1) = decide (k = 1) := hcast 1
  have c2 : ((k : Int) == 2) = decide (k = 2) := hcast 2
  clear hcast
  rcases hcase with (hk1 | hk2) | ⟨hn1, hn2⟩
  · obtain rfl : vf = true := fstr (by omega)
    have fn := fnum.1 hk1
    have g1 : ((k : Int) == 1) = true := by rw [c1]; exact decide_eq_true hk1
    have g1' : ((k : Int) != 1) = false := by rw [bne, g1]; rfl
    have g2 : ((k : Int) == 2) = false := by rw [c2]; exact decide_eq_false (by omega)
    have g2' : ((k : Int) != 2) = true := by rw [bne, g2]; rfl
    clear fnum fstr c1 c2 hk1
    go_wp2_with fail
    refine (HSGN.out _).mono ?_
    rintro e w2 ⟨rfl, hw2⟩
    obtain rfl : w1 = w2 := hw2.symm
    clear hw2
    simp only
    go_wp2_with fail
    clear t0 t1 t2 t3 t4 t5 t6 t7
    refine wp_region_lin (fun w' => Below w1.heap.size w1 w') [22] (.block 0 (.block 1 (.scope (.seq (.label 2) (.block 3 (.block 4 (.block 5 (.block 6 (.block 7 (.block 8 (.block 9 (.block 10 (.block 11 (.block 12 (.block 13 (.block 14 (.scope (.seq (.label 15) (.block 16 (.block 17 (.block 18 (.block 19 (.scope (.seq (.label 20) (.block 21 (.loop (.block 22 (.skip)))))))))))))))))))))))))))) (by kernel_rfl) (by kernel_rfl) (by kernel_rfl) (by kernel_rfl) (by kernel_rfl) (Below.refl _ _).drew ?_
    repeat
      (refine lin_light (A1 := ?_) rfl rfl rfl rfl rfl (fun w' hS K hK => ?_) ?_ ?_
       rotate_left
       · have hF := HF.out _ hS; obtain ⟨_, _, _, _, _, _, _, _⟩ := hF; go_step; exact hK
       · rfl)
    refine lin_group ?_
    refine lin_heavy rfl rfl (fun K hK => ?_)
    go_step
    refine (HTEXT.out _ (HF.out _ (Below.refl _ _).drew).2.2.2.2.2.2.2).mono ?_
    rintro e w3 ⟨rfl, b3⟩
    have hb3 : Below w1.heap.size w1 w3 := (Below.refl _ _).drew.trans b3
    simp only
    refine hK.out _ _ hb3 ?_
    clear hK K
    repeat
      (refine lin_light (A1 := ?_) rfl rfl rfl rfl rfl (fun w' hS K hK => ?_) ?_ ?_
       rotate_left
       · have hF := HF.out _ hS; obtain ⟨_, _, _, _, _, _, _, _⟩ := hF; go_step; exact hK
       · rfl)
    refine lin_group ?_
    refine lin_heavy rfl rfl (fun K hK => ?_)
    go_step
    refine (HKIDS.out _ (HF.out _ hb3).2.2.2.2.2.2.2).mono ?_
    rintro e w4 ⟨rfl, b4⟩
    have hb4 : Below w1.heap.size w1 w4 := hb3.trans (b4.mono hb3.size)
    simp only
    refine hK.out _ _ hb4 ?_
    clear hK K
    repeat
      (refine lin_light (A1 := ?_) rfl rfl rfl rfl rfl (fun w' hS K hK => ?_) ?_ ?_
       rotate_left
       · have hF := HF.out _ hS; obtain ⟨_, _, _, _, _, _, _, _⟩ := hF; go_step; exact hK
       · rfl)
    refine lin_group ?_
    refine lin_heavy rfl rfl (fun K hK => ?_)
    go_step
    refine (HMORE.out _ (HF.out _ hb4).2.2.2.2.2.2.2).mono ?_
    rintro e w5 ⟨rfl, b5⟩
    have hb5 : Below w1.heap.size w1 w5 := hb4.trans (b5.mono hb4.size)
    simp only
    refine hK.out _ _ hb5 ?_
    clear hK K
    try refine lin_late ?_
    repeat
      (refine lin_light (A1 := ?_) rfl rfl rfl rfl rfl (fun w' hS K hK => ?_) ?_ ?_
       rotate_left
       · clear hS; go_step; exact hK
       · rfl)
    refine lin_end ?_
    go_wp2_with fail
    go_ret
    exact ⟨rfl, (HF.out _ hb5).2.2.2.2.2.2.2⟩
  · have fn := fnum.2 (by omega)
    have g1 : ((k : Int) == 1) = false := by rw [c1]; exact decide_eq_false (by omega)
    have g1' : ((k : Int) != 1) = true := by rw [bne, g1]; rfl
    have g2 : ((k : Int) == 2) = true := by rw [c2]; exact decide_eq_true hk2
    have g2' : ((k : Int) != 2) = false := by rw [bne, g2]; rfl
    clear fnum fstr c1 c2 hk2
    cases vf
    all_goals
      go_wp2_with fail
      refine (HSGN.out _).mono ?_
      rintro e w2 ⟨rfl, hw2⟩
      obtain rfl : w1 = w2 := hw2.symm
      clear hw2
      simp only
      go_wp2_with fail
      clear t0 t1 t2 t3 t4 t5 t6 t7
      refine wp_region_lin (fun w' => Below w1.heap.size w1 w') [22] (.block 0 (.block 1 (.scope (.seq (.label 2) (.block 3 (.block 4 (.block 5 (.block 6 (.block 7 (.block 8 (.block 9 (.block 10 (.block 11 (.block 12 (.block 13 (.block 14 (.scope (.seq (.label 15) (.block 16 (.block 17 (.block 18 (.block 19 (.scope (.seq (.label 20) (.block 21 (.loop (.block 22 (.skip)))))))))))))))))))))))))))) (by kernel_rfl) (by kernel_rfl) (by kernel_rfl) (by kernel_rfl) (by kernel_rfl) (Below.refl _ _).drew ?_
      repeat
        (refine lin_light (A1 := ?_) rfl rfl rfl rfl rfl (fun w' hS K hK => ?_) ?_ ?_
         rotate_left
         · have hF := HF.out _ hS; obtain ⟨_, _, _, _, _, _, _, _⟩ := hF; go_step; exact hK
         · rfl)
      refine lin_group ?_
      refine lin_heavy rfl rfl (fun K hK => ?_)
      go_step
      refine (HTEXT.out _ (HF.out _ (Below.refl _ _).drew).2.2.2.2.2.2.2).mono ?_
      rintro e w3 ⟨rfl, b3⟩
      have hb3 : Below w1.heap.size w1 w3 := (Below.refl _ _).drew.trans b3
      simp only
      refine hK.out _ _ hb3 ?_
      clear hK K
      repeat
        (refine lin_light (A1 := ?_) rfl rfl rfl rfl rfl (fun w' hS K hK => ?_) ?_ ?_
         rotate_left
         · have hF := HF.out _ hS; obtain ⟨_, _, _, _, _, _, _, _⟩ := hF; go_step; exact hK
         · rfl)
      refine lin_group ?_
      refine lin_heavy rfl rfl (fun K hK => ?_)
      go_step
      refine (HKIDS.out _ (HF.out _ hb3).2.2.2.2.2.2.2).mono ?_
      rintro e w4 ⟨rfl, b4⟩
      have hb4 : Below w1.heap.size w1 w4 := hb3.trans (b4.mono hb3.size)
      simp only
      refine hK.out _ _ hb4 ?_
      clear hK K
      repeat
        (refine lin_light (A1 := ?_) rfl rfl rfl rfl rfl (fun w' hS K hK => ?_) ?_ ?_
         rotate_left
         · have hF := HF.out _ hS; obtain ⟨_, _, _, _, _, _, _, _⟩ := hF; go_step; exact hK
         · rfl)
      refine lin_group ?_
      refine lin_heavy rfl rfl (fun K hK => ?_)
      go_step
      refine (HMORE.out _ (HF.out _ hb4).2.2.2.2.2.2.2).mono ?_
      rintro e w5 ⟨rfl, b5⟩
      have hb5 : Below w1.heap.size w1 w5 := hb4.trans (b5.mono hb4.size)
      simp only
      refine hK.out _ _ hb5 ?_
      clear hK K
      try refine lin_late ?_
      repeat
        (refine lin_light (A1 := ?_) rfl rfl rfl rfl rfl (fun w' hS K hK => ?_) ?_ ?_
         rotate_left
         · clear hS; go_step; exact hK
         · rfl)
      refine lin_end ?_
      go_wp2_with fail
      go_ret
      exact ⟨rfl, (HF.out _ hb5).2.2.2.2.2.2.2⟩
  · obtain rfl : vf = true := fstr hn2
    have fn := fnum.2 hn1
    have g1 : ((k : Int) == 1) = false := by rw [c1]; exact decide_eq_false hn1
    have g1' : ((k : Int) != 1) = true := by rw [bne, g1]; rfl
    have g2 : ((k : Int) == 2) = false := by rw [c2]; exact decide_eq_false hn2
    have g2' : ((k : Int) != 2) = true := by rw [bne, g2]; rfl
    clear fnum fstr c1 c2 hn1 hn2
    go_wp2_with fail
    refine (HSGN.out _).mono ?_
    rintro e w2 ⟨rfl, hw2⟩
    obtain rfl : w1 = w2 := hw2.symm
    clear hw2
    simp only
    go_wp2_with fail
    clear t0 t1 t2 t3 t4 t5 t6 t7
    refine wp_region_lin (fun w' => Below w1.heap.size w1 w') [22] (.block 0 (.block 1 (.scope (.seq (.label 2) (.block 3 (.block 4 (.block 5 (.block 6 (.block 7 (.block 8 (.block 9 (.block 10 (.block 11 (.block 12 (.block 13 (.block 14 (.scope (.seq (.label 15) (.block 16 (.block 17 (.block 18 (.block 19 (.scope (.seq (.label 20) (.block 21 (.loop (.block 22 (.skip)))))))))))))))))))))))))))) (by kernel_rfl) (by kernel_rfl) (by kernel_rfl) (by kernel_rfl) (by kernel_rfl) (Below.refl _ _).drew ?_
    repeat
      (refine lin_light (A1 := ?_) rfl rfl rfl rfl rfl (fun w' hS K hK => ?_) ?_ ?_
       rotate_left
       · have hF := HF.out _ hS; obtain ⟨_, _, _, _, _, _, _, _⟩ := hF; go_step; exact hK
       · rfl)
    refine lin_group ?_
    refine lin_heavy rfl rfl (fun K hK => ?_)
    go_step
    refine (HTEXT.out _ (HF.out _ (Below.refl _ _).drew).2.2.2.2.2.2.2).mono ?_
    rintro e w3 ⟨rfl, b3⟩
    have hb3 : Below w1.heap.size w1 w3 := (Below.refl _ _).drew.trans b3
    simp only
    refine hK.out _ _ hb3 ?_
    clear hK K
    repeat
      (refine lin_light (A1 := ?_) rfl rfl rfl rfl rfl (fun w' hS K hK => ?_) ?_ ?_
       rotate_left
       · have hF := HF.out _ hS; obtain ⟨_, _, _, _, _, _, _, _⟩ := hF; go_step; exact hK
       · rfl)
    refine lin_group ?_
    refine lin_heavy rfl rfl (fun K hK => ?_)
    go_step
    refine (HKIDS.out _ (HF.out _ hb3).2.2.2.2.2.2.2).mono ?_
    rintro e w4 ⟨rfl, b4⟩
    have hb4 : Below w1.heap.size w1 w4 := hb3.trans (b4.mono hb3.size)
    simp only
    refine hK.out _ _ hb4 ?_
    clear hK K
    repeat
      (refine lin_light (A1 := ?_) rfl rfl rfl rfl rfl (fun w' hS K hK => ?_) ?_ ?_
       rotate_left
       · have hF := HF.out _ hS; obtain ⟨_, _, _, _, _, _, _, _⟩ := hF; go_step; exact hK
       · rfl)
    refine lin_group ?_
    refine lin_heavy rfl rfl (fun K hK => ?_)
    go_step
    refine (HMORE.out _ (HF.out _ hb4).2.2.2.2.2.2.2).mono ?_
    rintro e w5 ⟨rfl, b5⟩
    have hb5 : Below w1.heap.size w1 w5 := hb4.trans (b5.mono hb4.size)
    simp only
    refine hK.out _ _ hb5 ?_
    clear hK K
    try refine lin_late ?_
    repeat
      (refine lin_light (A1 := ?_) rfl rfl rfl rfl rfl (fun w' hS K hK => ?_) ?_ ?_
       rotate_left
       · clear hS; go_step; exact hK
       · rfl)
    refine lin_end ?_
    go_wp2_with fail
    go_ret
    exact ⟨rfl, (HF.out _ hb5).2.2.2.2.2.2.2⟩
end
end Go.Proofs.YtgnpgdjjdhlhaaaDoor

namespace Go.Proofs.YtgnpgdjjdhlhaaaDoor
open Go.RowKit
set_option maxHeartbeats 4000000
set_option maxRecDepth 100000

section
variable {w : World} {A : Option Addr} {n c f : Nat} {l : List Nd}
theorem nat_of {i : Nat} {y : Int} (h : 0 ≤ y ∧ y < (i : Int)) : ∃ q : Nat, y = q := ⟨y.toNat, by omega⟩
theorem no_says {P : Program} {g : Nat} {args : Array Value} {X : Prop} (h : Calls P g args w fun e w' => e = .returned (.bool false) ∧ Below w.heap.size w w') : Calls P g args w fun e w' => ∃ v, e = .returned (.bool v) ∧ Below w.heap.size w w' ∧ (v = true → X) :=
  h.mono fun _ _ h => ⟨false, h.1, h.2, fun h => by cases h⟩
theorem refmore_says (hN : Nds w w.heap.size A l) (hn : l.length = n) {i : Nat} {x : Nd} (hx : l[i]? = some x) (hK : KidsOk l (i + 1)) (hif : i < f) : MoreSays w A n c l f i x := by
  intro w' A' c' hb hr hca
  have hN' := hN.below hb hb.size
  have hin := hK i x (by omega) hx
  by_cases h30 : x.kind = 30
  · refine (more_params (c := c) hN' hn hx h30 hr hca).mono ?_
    rintro e w2 ⟨rfl, h2⟩
    refine ⟨_, rfl, h2, fun h => ?_⟩
    rw [h30]
    exact h
  by_cases h33 : x.kind = 33 ∨ x.kind = 34
  · refine (more_let (c := c) hN' hn hx h33 rfl hr hca).mono ?_
    rintro e w2 ⟨rfl, h2⟩
    refine ⟨_, rfl, h2, fun h => ?_⟩
    rw [Bool.and_eq_true, decide_eq_true_eq] at h
    obtain ⟨h3, h4⟩ := h
    match hk : x.kids with
    | [] => rw [hk] at h4; simp at h4
    | a :: r =>
      unfold ksOf at h3
      rw [hk] at h3
      rcases h33 with e | e <;> rw [e] <;> exact h3
  by_cases h48 : x.kind = 48
  · match hk : x.kids with
    | [a, b, d] =>
      have h3 : ksOf l x = [kindAt l a, kindAt l b, kindAt l d] := by unfold ksOf; rw [hk]; rfl
      have := more_try3 (c := c) hN' hn hx h48 h3 hr hca
      rw [hk] at this
      refine Calls.mono this ?_
      rintro e w2 ⟨rfl, h2⟩
      refine ⟨_, rfl, h2, fun h => ?_⟩
      rw [h48]
      exact h
    | [] => refine no_says ?_; have := more_tryN (c := c) hN' hn hx h48 (by rw [hk]; decide) hr hca; rw [hk] at this; exact this
    | [a] => refine no_says ?_; have := more_tryN (c := c) hN' hn hx h48 (by rw [hk]; simp) hr hca; rw [hk] at this; exact this
    | [a, b] => refine no_says ?_; have := more_tryN (c := c) hN' hn hx h48 (by rw [hk]; simp) hr hca; rw [hk] at this; exact this
    | a :: b :: d :: e :: r => refine no_says ?_; have := more_tryN (c := c) hN' hn hx h48 (by rw [hk]; simp) hr hca; rw [hk] at this; exact this
  have g30 : (x.kind == 30) = false := by rw [beq_eq_false_iff_ne]; exact h30
  have g33 : (x.kind == 33) = false := by rw [beq_eq_false_iff_ne]; exact fun e => h33 (.inl e)
  have g34 : (x.kind == 34) = false := by rw [beq_eq_false_iff_ne]; exact fun e => h33 (.inr e)
  have g48 : (x.kind == 48) = false := by rw [beq_eq_false_iff_ne]; exact h48
  match hk : x.kids with
  | [] => have := more_0 (c := c) hN' hn hx hK hif hk g30 g33 g34 g48 hr hca; rw [hk] at this; exact this
  | [a] =>
    obtain ⟨qa, rfl⟩ := nat_of (hin a (by rw [hk]; simp))
    have := more_1 (c := c) hN' hn hx hK hif hk g30 g33 g34 g48 hr hca; rw [hk] at this; exact this
  | [a, b] =>
    obtain ⟨qa, rfl⟩ := nat_of (hin a (by rw [hk]; simp))
    obtain ⟨qb, rfl⟩ := nat_of (hin b (by rw [hk]; simp))
    have := more_2 (c := c) hN' hn hx hK hif hk g30 g33 g34 g48 hr hca; rw [hk] at this; exact this
  | [a, b, d] =>
    obtain ⟨qa, rfl⟩ := nat_of (hin a (by rw [hk]; simp))
    obtain ⟨qb, rfl⟩ := nat_of (hin b (by rw [hk]; simp))
    obtain ⟨qd, rfl⟩ := nat_of (hin d (by rw [hk]; simp))
    have := more_3 (c := c) hN' hn hx hK hif hk g30 g33 g34 g48 hr hca; rw [hk] at this; exact this
  | a :: b :: d :: e :: r =>
    obtain ⟨qa, rfl⟩ := nat_of (hin a (by rw [hk]; simp))
    obtain ⟨qb, rfl⟩ := nat_of (hin b (by rw [hk]; simp))
    obtain ⟨qd, rfl⟩ := nat_of (hin d (by rw [hk]; simp))
    obtain ⟨qe, rfl⟩ := nat_of (hin e (by rw [hk]; simp))
    have := more_4 (c := c) hN' hn hx hK hif hk g30 g33 g34 g48 hr hca; rw [hk] at this; exact this
theorem refshape_any (hN : Nds w w.heap.size A l) (hn : l.length = n) {i : Nat} {x : Nd} (hx : l[i]? = some x) (hK : KidsOk l (i + 1)) (hU : FuncOk l i) (hif : i < f) :
    Calls Tryd.prog 15 #[.slice A n c, .int .i64 (i : Nat)] w fun e w' => ∃ v, e = .returned (.bool v) ∧ Below w.heap.size w w' ∧ (v = true → shQ l f x.kind x.kids x.text) := by
  have hin := hK i x (by omega) hx
  have hmore := refmore_says (c := c) (f := f) hN hn hx hK hif
  by_cases h9 : x.kind = 9
  · refine (shape_obj hN hn hx hK h9).mono ?_
    rintro e w2 ⟨rfl, h2⟩
    refine ⟨_, rfl, h2, fun h => .inl ?_⟩
    rw [h9]
    exact h
  by_cases h11 : x.kind = 11 ∨ x.kind = 12
  · by_cases h2 : x.kids.length = 2
    · match hk : x.kids, h2 with
      | [a, b], _ =>
        obtain ⟨qa, rfl⟩ := nat_of (hin a (by rw [hk]; simp))
        obtain ⟨qb, rfl⟩ := nat_of (hin b (by rw [hk]; simp))
        refine (shape_get hN hn hx hK hU h11 hk).mono ?_
        rintro e w2 ⟨v, h1, h2, h3⟩
        rw [hk] at h3
        exact ⟨v, h1, h2, fun h => .inl (h3 h)⟩
    · refine (shape_get_no hN hn hx hK h11 h2).mono ?_
      rintro e w2 ⟨v, h1, h2, h3⟩
      exact ⟨v, h1, h2, fun h => .inl (h3 h)⟩
  have g9 : (x.kind == 9) = false := by rw [beq_eq_false_iff_ne]; exact h9
  have g11 : (x.kind == 11) = false := by rw [beq_eq_false_iff_ne]; exact fun e => h11 (.inl e)
  have g12 : (x.kind == 12) = false := by rw [beq_eq_false_iff_ne]; exact fun e => h11 (.inr e)
  match hk : x.kids with
  | [] => have := shape_0 hN hn hx hK hk g9 g11 g12 hmore; rw [hk] at this; exact this
  | [a] => have := shape_1 hN hn hx hK hk g9 g11 g12 hmore; rw [hk] at this; exact this
  | [a, b] => have := shape_2 hN hn hx hK hk g9 g11 g12 hmore; rw [hk] at this; exact this
  | a :: b :: d :: r => have := shape_3 hN hn hx hK hk g9 g11 g12 hmore; rw [hk] at this; exact this
end
end Go.Proofs.YtgnpgdjjdhlhaaaDoor

namespace Go.Proofs.YtgnpgdjjdhlhaaaDoor
open Go.RowKit
set_option maxHeartbeats 4000000
set_option maxRecDepth 100000

section
variable {l : List Nd} {f : Nat} {qs : List Int} {t : ByteArray}
theorem shQ_range {k : Int} (h : shQ l f k qs t) : ∃ kn : Nat, k = (kn : Nat) ∧ 1 ≤ kn ∧ kn < 57 := by
  have hk : ∀ m : Nat, k.toNat = m → 1 ≤ m → m < 57 → ∃ kn : Nat, k = (kn : Nat) ∧ 1 ≤ kn ∧ kn < 57 := fun m h1 h2 h3 => ⟨m, by omega, h2, h3⟩
  rcases h with h | h
  · unfold sh1 at h
    split at h
    all_goals first
      | (exact absurd h (by decide); done)
      | exact hk _ ‹_› (by decide) (by decide)
  · unfold moreK at h
    split at h
    all_goals first
      | (exact absurd h (by decide); done)
      | exact hk _ ‹_› (by decide) (by decide)
/-- what holds of a node that the document takes -/
structure GoodN (l : List Nd) (f : Nat) (x : Nd) : Prop where
  fields : fieldsB x = true
  shape : shQ l f x.kind x.kids x.text
theorem GoodN.func {x : Nd} (h : GoodN l f x) (hk : x.kind = 13) : ∃ p, x.kids[0]? = some p := by
  have h2 := h.shape
  rw [hk] at h2
  rcases h2 with h2 | h2
  · match hq : x.kids with
    | [] => rw [hq] at h2; cases h2
    | a :: r => exact ⟨a, rfl⟩
  · exact absurd (show (false : Bool) = true from h2) (by decide)
theorem GoodN.lab {x : Nd} (h : GoodN l f x) (hk : x.kind = 52) : x.kids.length = 1 := by
  have h2 := h.shape
  rw [hk] at h2
  rcases h2 with h2 | h2
  · exfalso
    match hq : x.kids, h2 with
    | [], h2 => cases h2
    | [a], h2 => cases h2
    | [a, b], h2 => cases h2
    | [a, b, d], h2 => cases h2
    | a :: b :: d :: e :: r, h2 => cases h2
  · match hq : x.kids with
    | [] => rw [hq] at h2; cases h2
    | [a] => rfl
    | a :: b :: r => rw [hq] at h2; exact absurd h2 (by simp [moreK])
end
end Go.Proofs.YtgnpgdjjdhlhaaaDoor

namespace Go.Proofs.YtgnpgdjjdhlhaaaDoor
open Go.RowKit
set_option maxHeartbeats 4000000
set_option maxRecDepth 100000
attribute [local go_sem] Oper.semAt_some store_floatK

/-- what holds of nodes that the document takes -/
structure RefOk (l : List Nd) : Prop where
  good : ∀ (i : Nat) (x : Nd), l[i]? = some x → GoodN l l.length x
  check : checkT (fun _ => true) l = (0, 0)
def PostC (w : World) (l : List Nd) (e : Ending) (w' : World) : Prop := ∃ a b : Int, e = .returned (.tuple #[.int .i64 a, .int .i64 b]) ∧ Below w.heap.size w w' ∧ (b = 0 → RefOk l)
theorem PostC.bad {w w' : World} {l : List Nd} {e : Ending} (a b : Int) (h1 : e = .returned (.tuple #[.int .i64 a, .int .i64 b])) (h2 : Below w.heap.size w w') (hb : b ≠ 0) : PostC w l e w' := ⟨a, b, h1, h2, fun h => absurd h hb⟩
theorem PostC.ok {w w' : World} {l : List Nd} {e : Ending} (a : Int) (h1 : e = .returned (.tuple #[.int .i64 a, .int .i64 0])) (h2 : Below w.heap.size w w') (h : RefOk l) : PostC w l e w' := ⟨a, 0, h1, h2, fun _ => h⟩
theorem any_at {f : Int → Bool} {l : List Int} {k : Nat} {x : Int} (h : l[k]? = some x) : (l.drop k).any f = (f x || (l.drop (k + 1)).any f) := by
  rw [List.drop_eq_getElem_cons (List.getElem?_eq_some_iff.1 h).1, (List.getElem?_eq_some_iff.1 h).2]
  rfl
theorem refcheck_any {w : World} {A : Option Addr} {n c : Nat} {l : List Nd} (hN : Nds w w.heap.size A l) (hn : l.length = n) (htx : ∀ x ∈ l, x.text.size ≤ 1048576 ∧ x.str.size ≤ 1048576) :
    Calls Tryd.prog 7 #[.slice A n c] w fun e w' => PostC w l e w' := by
  have hs := hN.small.1
  rw [hn] at hs
  have Hn := Lib.hid hn
  have HTX := Lib.hid htx
  have hmk := make_boolsK w n (by omega)
  have b3 : Below w.heap.size w (w.alloc (.cells ((List.replicate n false).map Value.bool).toArray 4)) := (Below.refl _ _).alloc (Nat.le_refl _) _
  have z3 : Us (w.alloc (.cells ((List.replicate n false).map Value.bool).toArray 4)) w.heap.size (List.replicate n false) := heap_alloc_new w _
  obtain ⟨w3, hw3⟩ : ∃ w3, w.alloc (.cells ((List.replicate n false).map Value.bool).toArray 4) = w3 := ⟨_, rfl⟩
  rw [hw3] at b3 z3 hmk
  clear hn htx
  go_enter Tryd.func7, Tryd.ntmps7
  go_wp2_with fail
  go_loopw [22] (fun i wr => ∃ (k : Nat) (u : List Bool), k ≤ n ∧ i = .int .i64 k ∧ u.length = n ∧ chk1 (fun _ => true) l 0 (List.replicate n false) = chk1 (fun _ => true) (l.drop k) k u ∧ (∀ m y, m < k → l[m]? = some y → y.kids.any (badKid m) = false ∧ GoodN l n y) ∧ Below w.heap.size w wr ∧ Us wr w.heap.size u) (fun i _ => n - (intOf i).toNat)
  case atStart => exact ⟨0, _, Nat.zero_le _, rfl, by simp, rfl, fun m y hm => by omega, b3, z3⟩
  case round =>
    obtain ⟨k, u, hk, rfl, hul, hgo, hpre, hb, hus⟩ := hrel
    have HGO := Lib.hid hgo
    have HPRE := Lib.hid hpre
    have HUL := Lib.hid hul
    clear hgo hpre hul hmk hw3 b3 z3
    by_cases hlt : k < n
    · obtain ⟨x, hx⟩ : ∃ x, l[k]? = some x := ⟨l[k]'(by have := Hn.out; omega), List.getElem?_eq_getElem _⟩
      have hxm := List.mem_of_getElem? hx
      obtain ⟨b, off, hA, hbl, d0, d1, d2, d3, d4, d5⟩ := (hN.below hb hb.size).rows.nd hx
      have hks := hN.small.2 x hxm
      have HKR := Lib.hid (hN.each x hxm)
      have HAT := Lib.hid (chk1_at (ok := fun _ => true) (u := u) hx)
      have HX := Lib.hid hx
      have htx2 := HTX.out x hxm
      have hfld := fun w' => fields_ok (w := w') x htx2.1 htx2.2
      subst hA
      have hnV : Value.agg #[.int .i64 x.kind, .string x.text, .string x.str, .float .f64 x.num, .slice x.kA x.kids.length x.kC, .int .i64 x.at_] = nV x := rfl
      have HNV := Lib.hid hnV
      obtain ⟨kn, hkn⟩ : ∃ m, x.kids.length = m := ⟨_, rfl⟩
      unfold nV at hfld
      rw [hkn] at d4 hks hfld
      have HFLD := Lib.hid hfld
      have HKN := Lib.hid hkn
      clear hx hkn hfld htx2 hnV
      obtain ⟨wf, rfl⟩ : ∃ wf, wf = wr := ⟨_, rfl⟩
      have b4 : Below wf.heap.size wf (wf.alloc (.cells #[.int .i64 x.kind, .string x.text, .string x.str, .float .f64 x.num, .slice x.kA kn x.kC, .int .i64 x.at_] 39)) := (Below.refl _ _).alloc (Nat.le_refl _) _
      have z4 := heap_alloc_new wf (.cells #[.int .i64 x.kind, .string x.text, .string x.str, .float .f64 x.num, .slice x.kA kn x.kC, .int .i64 x.at_] 39)
      obtain ⟨w4, hw4⟩ : ∃ w4, wf.alloc (.cells #[.int .i64 x.kind, .string x.text, .string x.str, .float .f64 x.num, .slice x.kA kn x.kC, .int .i64 x.at_] 39) = w4 := ⟨_, rfl⟩
      rw [hw4] at b4 z4
      have l4 := (Array.getElem?_eq_some_iff.1 z4).1
      have e0 := cell_blockK z4 0
      have e1 := cell_blockK z4 1
      have e2 := cell_blockK z4 2
      have e3 := cell_blockK z4 3
      have e4 := cell_blockK z4 4
      have e5 := cell_blockK z4 5
      simp at e0 e1 e2 e3 e4 e5
      have hb4 := hb.trans (b4.mono hb.size)
      have hus4 := hus.keep (b4.block _ hus.lt)
      clear d0 d1 d2 d3 d4 d5
      have dd := (hN.below hb hb.size).rows.nd HX.out
      obtain ⟨b', off', hA', _, d0, d1, d2, d3, d4, d5⟩ := dd
      cases hA'
      rw [HKN.out] at d4
      go_wp2_with fail
      go_loopw [30] (fun i wq => ∃ (j : Nat), j ≤ kn ∧ i = .int .i64 j ∧ wq = w4 ∧ x.kids.any (badKid k) = (x.kids.drop j).any (badKid k)) (fun i _ => kn - (intOf i).toNat)
      case atStart => exact ⟨0, Nat.zero_le _, rfl, rfl, rfl⟩
      case round =>
        obtain ⟨j, hj, rfl, rfl, hany⟩ := hrel
        have HANY := Lib.hid hany
        clear hany
        by_cases hjt : j < kn
        · obtain ⟨y, hy⟩ : ∃ y, x.kids[j]? = some y := ⟨x.kids[j]'(by have := HKN.out; omega), List.getElem?_eq_getElem _⟩
          obtain ⟨b2, off2, hkA, _, hc⟩ := (HKR.out.below hb4 hb4.size).kid hy
          have HAA := Lib.hid (any_at (f := badKid k) hy)
          clear hy
          by_cases hgood : 0 ≤ y ∧ y < (k : Int)
          · have hfin : x.kids.any (badKid k) = (x.kids.drop (j + 1)).any (badKid k) := by
              rw [HANY.out, HAA.out]
              have : badKid k y = false := by unfold badKid; rw [decide_eq_false (by omega), decide_eq_false (by omega)]; rfl
              rw [this, Bool.false_or]
            have HFIN := Lib.hid hfin
            have y0 : ¬ (y < 0) := by omega
            have y1 : ¬ (y ≥ (k : Int)) := by omega
            clear hfin
            rw [hkA] at e4 hw4 ⊢
            go_wp2_with fail
            go_roundw
            case rel => exact ⟨j + 1, by omega, by go_num, trivial, HFIN.out⟩
            case measure => simp [intOf] <;> omega
          · rw [hkA] at e4 hw4 ⊢
            by_cases y0 : y < 0
            · go_wp2_with fail
              go_ret2
              exact PostC.bad _ 60 rfl hb4 (by decide)
            · have y1 : y ≥ (k : Int) := by omega
              go_wp2_with fail
              go_ret2
              exact PostC.bad _ 60 rfl hb4 (by decide)
        · obtain rfl : kn = j := by omega
          have hbad : x.kids.any (badKid k) = false := by rw [HANY.out, List.drop_of_length_le (by have := HKN.out; omega)]; rfl
          have HBAD := Lib.hid hbad
          clear hbad
          have hKo : KidsOk l (k + 1) := fun i y hi hy v hv => by
            by_cases hik : i = k
            · subst hik
              obtain rfl : x = y := Option.some.inj (HX.out.symm.trans hy)
              obtain ⟨q, hq⟩ := List.getElem?_of_mem hv
              have := badKid_not HBAD.out hq
              omega
            · obtain ⟨q, hq⟩ := List.getElem?_of_mem hv
              have := badKid_not (HPRE.out i y (by omega) hy).1 hq
              omega
          have hU : FuncOk l k := fun i y hi hy h13 => (HPRE.out i y hi hy).2.func h13
          have HKO := Lib.hid hKo
          have HUU := Lib.hid hU
          clear hKo hU
          go_wp2_with fail
          refine (HFLD.out _).mono ?_
          rintro e w5 ⟨rfl, b5⟩
          have hb5 := hb4.trans (b5.mono hb4.size)
          have e45 := (b5.cell (World.block_lt_of_cell? _ _ e4)).trans e4
          have hus5 := hus4.keep (b5.block _ hus4.lt)
          cases hfb : fieldsB x with
          | false =>
            clear hfb
            simp only
            go_wp2_with fail
            go_ret2
            exact PostC.bad _ 60 rfl hb5 (by decide)
          | true =>
            have HFB := Lib.hid hfb
            clear hfb
            have hshape := refshape_any (c := c) (f := n) (hN.below hb5 hb5.size) Hn.out HX.out HKO.out HUU.out hlt
            have HSHAPE := Lib.hid hshape
            clear hshape e0 e1 e2 e3 e4 e5 hw4 d0 d1 d2 d3 d4 d5 z4 b4 l4
            simp only
            go_wp2_with fail
            refine HSHAPE.out.mono ?_
            rintro e w6 ⟨v, rfl, b6, hq⟩
            have hb6 := hb5.trans (b6.mono hb5.size)
            have e46 := (b6.cell (World.block_lt_of_cell? _ _ e45)).trans e45
            have hus6 := hus5.keep (b6.block _ hus5.lt)
            have HQ := Lib.hid hq
            clear hq e45
            cases v with
            | false =>
              simp only
              go_wp2_with fail
              go_ret2
              exact PostC.bad _ 60 rfl hb6 (by decide)
            | true =>
              simp only
              go_wp2_with fail
              go_loopw [56] (fun i wq => ∃ (j : Nat) (u' : List Bool), j ≤ kn ∧ i = .int .i64 j ∧ u'.length = n ∧ mark x.kids u = mark (x.kids.drop j) u' ∧ Below w.heap.size w wq ∧ Us wq w.heap.size u') (fun i _ => kn - (intOf i).toNat)
              case atStart => exact ⟨0, u, Nat.zero_le _, rfl, HUL.out, rfl, hb6, hus6⟩
              case round =>
                clear hb6 hus6 e46 b6 b5 hb5 hus5 hb4 hus4 hus hb
                obtain ⟨j, u', hj, rfl, hul', hmk', hbq, husq⟩ := hrel
                have HMK := Lib.hid hmk'
                have HUL' := Lib.hid hul'
                clear hmk' hul'
                by_cases hjt : j < kn
                · obtain ⟨y, hy⟩ : ∃ y, x.kids[j]? = some y := ⟨x.kids[j]'(by have := HKN.out; omega), List.getElem?_eq_getElem _⟩
                  obtain ⟨b2, off2, hkA, _, hc⟩ := (HKR.out.below hbq hbq.size).kid hy
                  have HMA := Lib.hid (mark_at (u := u') hy)
                  obtain ⟨hy0, hyk⟩ := badKid_not HBAD.out hy
                  clear hy
                  rw [hkA]
                  obtain ⟨q, rfl⟩ : ∃ q : Nat, y = q := ⟨y.toNat, by omega⟩
                  have hqn : q < n := by omega
                  have hcu := husq.get (k := q) (by have := HUL'.out; omega)
                  have hfu := husq.free q
                  cases hu : u'.getD q false with
                  | true =>
                    rw [hu] at hcu
                    clear hu
                    go_wp2_with fail
                    go_ret2
                    exact PostC.bad _ 60 rfl hbq (by decide)
                  | false =>
                    rw [hu] at hcu
                    have hfin : mark x.kids u = mark (x.kids.drop (j + 1)) (u'.set q true) := by rw [HMK.out, HMA.out, Int.toNat_natCast, hu]; rfl
                    have HFIN := Lib.hid hfin
                    clear hfin hu
                    have husr := husq.set q true
                    have hbr : Below w.heap.size w (wr.setCell ⟨w.heap.size, q, none⟩ (.bool true)) := hbq.setCell (p := ⟨w.heap.size, q, none⟩) (Nat.le_refl _) _
                    go_wp2_with fail
                    go_roundw
                    case rel => exact ⟨j + 1, u'.set q true, by omega, by go_num, by rw [List.length_set]; exact HUL'.out, HFIN.out, hbr, husr⟩
                    case measure => simp [intOf] <;> omega
                · obtain rfl : j = kn := by omega
                  have hfin : mark x.kids u = some u' := by rw [HMK.out, List.drop_of_length_le (by have := HKN.out; omega)]; rfl
                  have hgo2 : chk1 (fun _ => true) l 0 (List.replicate n false) = chk1 (fun _ => true) (l.drop (k + 1)) (k + 1) u' := by rw [HGO.out, HAT.out, HBAD.out, hfin]; rfl
                  have HG2 := Lib.hid hgo2
                  clear hgo2 hfin
                  go_wp2_with fail
                  go_roundw
                  case rel => exact ⟨k + 1, u', by omega, by go_num, HUL'.out, HG2.out, fun m y hm hy => (by
                    by_cases hmk : m < k
                    · exact HPRE.out m y hmk hy
                    · obtain rfl : m = k := by omega
                      obtain rfl : x = y := Option.some.inj (HX.out.symm.trans hy)
                      exact ⟨HBAD.out, HFB.out, by first | exact HQ.out rfl | exact HQ.out trivial⟩), hbq, husq⟩
                  case measure => simp [intOf] <;> omega
    · obtain rfl : k = n := by omega
      have hT := checkT_inr (u := u) Hn.out (by rw [HGO.out, List.drop_of_length_le (by have := Hn.out; omega)]; rfl)
      have HT := Lib.hid hT
      clear hT
      by_cases hn0 : k = 0
      · subst hn0
        go_wp2_with fail
        go_ret2
        exact PostC.bad _ 60 rfl hb (by decide)
      · go_wp2_with fail
        go_loopw [78] (fun i wq => ∃ (j : Nat), j ≤ k ∧ i = .int .i64 j ∧ chk2 u ((k : Int) - 1) l 0 = chk2 u ((k : Int) - 1) (l.drop j) j ∧ Below w.heap.size w wq ∧ Us wq w.heap.size u) (fun i _ => k - (intOf i).toNat)
        case atStart => exact ⟨0, Nat.zero_le _, rfl, rfl, hb, hus⟩
        case round =>
          obtain ⟨j, hj, rfl, h2, hbq, husq⟩ := hrel
          have H2 := Lib.hid h2
          clear h2
          by_cases hjt : j < k
          · obtain ⟨x, hx⟩ : ∃ x, l[j]? = some x := ⟨l[j]'(by have := Hn.out; omega), List.getElem?_eq_getElem _⟩
            have hxm := List.mem_of_getElem? hx
            obtain ⟨b, off, rfl, hbl, d0, d1, d2, d3, d4, d5⟩ := (hN.below hbq hbq.size).rows.nd hx
            have HAT := Lib.hid (chk2_at (u := u) (last := (k : Int) - 1) hx)
            clear hx
            obtain ⟨kn, hkn⟩ : ∃ m, x.kids.length = m := ⟨_, rfl⟩
            rw [hkn] at d4
            clear hkn
            have ba : Below wr.heap.size wr (wr.alloc (.cells #[.int .i64 x.kind, .string x.text, .string x.str, .float .f64 x.num, .slice x.kA kn x.kC, .int .i64 x.at_] 39)) := (Below.refl _ _).alloc (Nat.le_refl _) _
            have za := heap_alloc_new wr (.cells #[.int .i64 x.kind, .string x.text, .string x.str, .float .f64 x.num, .slice x.kA kn x.kC, .int .i64 x.at_] 39)
            obtain ⟨wa, hwa⟩ : ∃ wa, wr.alloc (.cells #[.int .i64 x.kind, .string x.text, .string x.str, .float .f64 x.num, .slice x.kA kn x.kC, .int .i64 x.at_] 39) = wa := ⟨_, rfl⟩
            rw [hwa] at ba za
            have e0 := cell_blockK za 0
            simp at e0
            have hba := hbq.trans (ba.mono hbq.size)
            have husa := husq.keep (ba.block _ husq.lt)
            have hcu := husa.get (k := j) (by have := HUL.out; omega)
            obtain ⟨uj, huj⟩ : ∃ v, u.getD j false = v := ⟨_, rfl⟩
            rw [huj] at hcu
            have HUJ := Lib.hid huj
            clear huj
            obtain ⟨v55, h55⟩ : ∃ v, (x.kind == 55) = v := ⟨_, rfl⟩
            obtain ⟨vl, hl⟩ : ∃ v, ((j : Int) == (k : Int) - 1) = v := ⟨_, rfl⟩
            have hl' : ((j : Int) != (k : Int) - 1) = !vl := by rw [bne, hl]
            have H55 := Lib.hid h55
            have HL := Lib.hid hl
            cases v55 <;> cases vl <;> cases uj
            all_goals first
              | (have hfin : bad2 u ((k : Int) - 1) j x = true := by unfold bad2; rw [HUJ.out, beqd, beqd, HL.out, H55.out]; rfl
                 clear hfin
                 go_wp2_with fail
                 go_ret2
                 exact PostC.bad _ 60 rfl hba (by decide))
              | (have hfin : bad2 u ((k : Int) - 1) j x = false := by unfold bad2; rw [HUJ.out, beqd, beqd, HL.out, H55.out]; rfl
                 have hfin2 : chk2 u ((k : Int) - 1) l 0 = chk2 u ((k : Int) - 1) (l.drop (j + 1)) (j + 1) := by rw [H2.out, HAT.out, hfin]; rfl
                 have HFIN := Lib.hid hfin2
                 clear hfin hfin2
                 go_wp2_with fail
                 go_roundw
                 case rel => exact ⟨j + 1, by omega, by go_num, HFIN.out, hba, husa⟩
                 case measure => simp [intOf] <;> omega)
          · obtain rfl : j = k := by omega
            have hfin : chk2 u ((j : Int) - 1) l 0 = true := by rw [H2.out, List.drop_of_length_le (by have := Hn.out; omega)]; rfl
            have HF2 := Lib.hid hfin
            clear hfin
            have hKo : KidsOk l j := fun i y hi hy v hv => by
              obtain ⟨q, hq⟩ := List.getElem?_of_mem hv
              have := badKid_not (HPRE.out i y hi hy).1 hq
              omega
            go_wp2_with fail
            refine (refdeep_any (hN.below hbq hbq.size) Hn.out hKo).mono ?_
            rintro e wd ⟨rfl, bd⟩
            have hbd := hbq.trans (bd.mono hbq.size)
            obtain ⟨dv, hdv⟩ : ∃ m, deepB l = m := ⟨_, rfl⟩
            rw [hdv]
            by_cases hd : dv > 200
            · clear hdv hKo
              simp only
              go_wp2_with fail
              go_ret2
              exact PostC.bad _ 61 rfl hbd (by decide)
            · have hfin : checkT (fun _ => true) l = (0, 0) := by rw [HT.out, if_neg hn0, HF2.out, hdv]; simp [hd]
              have HFIN := Lib.hid hfin
              clear hfin hdv hKo
              simp only
              go_wp2_with fail
              go_ret2
              exact PostC.ok _ rfl hbd ⟨fun i x hx => by
                rw [Hn.out]
                exact (HPRE.out i x (by rw [← Hn.out]; exact (List.getElem?_eq_some_iff.1 hx).1) hx).2, HFIN.out⟩
end Go.Proofs.YtgnpgdjjdhlhaaaDoor

namespace Go.Proofs.YtgnpgdjjdhlhaaaDoor
open Go.RowKit
set_option maxHeartbeats 4000000
set_option maxRecDepth 100000

section
variable {l : List Nd} {f : Nat} {qs : List Int} {t : ByteArray}
theorem lawq_1 (h : shQ l f 1 qs t) : kidsT (fitsB l f) (tok 1) qs = true := by
  rcases h with h | h
  · exact law_1 h
  · exfalso; revert h; unfold moreK; split <;> simp_all
theorem lawq_2 (h : shQ l f 2 qs t) : kidsT (fitsB l f) (tok 2) qs = true := by
  rcases h with h | h
  · exact law_2 h
  · exfalso; revert h; unfold moreK; split <;> simp_all
theorem lawq_3 (h : shQ l f 3 qs t) : kidsT (fitsB l f) (tok 3) qs = true := by
  rcases h with h | h
  · exact law_3 h
  · exfalso; revert h; unfold moreK; split <;> simp_all
theorem lawq_4 (h : shQ l f 4 qs t) : kidsT (fitsB l f) (tok 4) qs = true := by
  rcases h with h | h
  · exact law_4 h
  · exfalso; revert h; unfold moreK; split <;> simp_all
theorem lawq_5 (h : shQ l f 5 qs t) : kidsT (fitsB l f) (tok 5) qs = true := by
  rcases h with h | h
  · exact law_5 h
  · exfalso; revert h; unfold moreK; split <;> simp_all
theorem lawq_6 (h : shQ l f 6 qs t) : kidsT (fitsB l f) (tok 6) qs = true := by
  rcases h with h | h
  · exact law_6 h
  · exfalso; revert h; unfold moreK; split <;> simp_all
theorem lawq_7 (h : shQ l f 7 qs t) : kidsT (fitsB l f) (tok 7) qs = true := by
  rcases h with h | h
  · exact law_7 h
  · exfalso; revert h; unfold moreK; split <;> simp_all
theorem lawq_8 (h : shQ l f 8 qs t) : kidsT (fitsB l f) (tok 8) qs = true := by
  rcases h with h | h
  · exact law_8 h
  · exfalso; revert h; unfold moreK; split <;> simp_all
theorem lawq_9 (h : shQ l f 9 qs t) : kidsT (fitsB l f) (tok 9) qs = true := by
  rcases h with h | h
  · exact law_9 h
  · exfalso; revert h; unfold moreK; split <;> simp_all
theorem lawq_10 (h : shQ l f 10 qs t) : kidsT (fitsB l f) (tok 10) qs = true := by
  rcases h with h | h
  · exact law_10 h
  · exfalso; revert h; unfold moreK; split <;> simp_all
theorem lawq_11 (h : shQ l f 11 qs t) : kidsT (fitsB l f) (tok 11) qs = true := by
  rcases h with h | h
  · exact law_11 h
  · exfalso; revert h; unfold moreK; split <;> simp_all
theorem lawq_12 (h : shQ l f 12 qs t) : kidsT (fitsB l f) (tok 12) qs = true := by
  rcases h with h | h
  · exact law_12 h
  · exfalso; revert h; unfold moreK; split <;> simp_all
theorem lawq_13 (h : shQ l f 13 qs t) : kidsT (fitsB l f) (tok 13) qs = true := by
  rcases h with h | h
  · exact law_13 h
  · exfalso; revert h; unfold moreK; split <;> simp_all
theorem lawq_14 (h : shQ l f 14 qs t) : kidsT (fitsB l f) (tok 14) qs = true := by
  rcases h with h | h
  · exact law_14 h
  · exfalso; revert h; unfold moreK; split <;> simp_all
theorem lawq_15 (h : shQ l f 15 qs t) : kidsT (fitsB l f) (tok 15) qs = true := by
  rcases h with h | h
  · exact law_15 h
  · exfalso; revert h; unfold moreK; split <;> simp_all
theorem lawq_16 (h : shQ l f 16 qs t) : kidsT (fitsB l f) (tok 16) qs = true := by
  rcases h with h | h
  · exact law_16 h
  · exfalso; revert h; unfold moreK; split <;> simp_all
theorem lawq_17 (h : shQ l f 17 qs t) : kidsT (fitsB l f) (tok 17) qs = true := by
  rcases h with h | h
  · exact law_17 h
  · exfalso; revert h; unfold moreK; split <;> simp_all
theorem lawq_18 (h : shQ l f 18 qs t) : kidsT (fitsB l f) (tok 18) qs = true := by
  rcases h with h | h
  · exact law_18 h
  · exfalso; revert h; unfold moreK; split <;> simp_all
theorem lawq_19 (h : shQ l f 19 qs t) : kidsT (fitsB l f) (tok 19) qs = true := by
  rcases h with h | h
  · exact law_19 h
  · exfalso; revert h; unfold moreK; split <;> simp_all
theorem lawq_20 (h : shQ l f 20 qs t) : kidsT (fitsB l f) (tok 20) qs = true := by
  rcases h with h | h
  · exact law_20 h
  · exfalso; revert h; unfold moreK; split <;> simp_all
theorem lawq_21 (h : shQ l f 21 qs t) : kidsT (fitsB l f) (tok 21) qs = true := by
  rcases h with h | h
  · exact law_21 h
  · exfalso; revert h; unfold moreK; split <;> simp_all
theorem lawq_22 (h : shQ l f 22 qs t) : kidsT (fitsB l f) (tok 22) qs = true := by
  rcases h with h | h
  · exact law_22 h
  · exfalso; revert h; unfold moreK; split <;> simp_all
theorem lawq_23 (h : shQ l f 23 qs t) : kidsT (fitsB l f) (tok 23) qs = true := by
  rcases h with h | h
  · exact law_23 h
  · exfalso; revert h; unfold moreK; split <;> simp_all
theorem lawq_24 (h : shQ l f 24 qs t) : kidsT (fitsB l f) (tok 24) qs = true := by
  rcases h with h | h
  · exact law_24 h
  · exfalso; revert h; unfold moreK; split <;> simp_all
theorem lawq_25 (h : shQ l f 25 qs t) : kidsT (fitsB l f) (tok 25) qs = true := by
  rcases h with h | h
  · exact law_25 h
  · exfalso; revert h; unfold moreK; split <;> simp_all
theorem lawq_26 (h : shQ l f 26 qs t) : kidsT (fitsB l f) (tok 26) qs = true := by
  rcases h with h | h
  · exact law_26 h
  · exfalso; revert h; unfold moreK; split <;> simp_all
theorem lawq_27 (h : shQ l f 27 qs t) : kidsT (fitsB l f) (tok 27) qs = true := by
  rcases h with h | h
  · exact law_27 h
  · exfalso; revert h; unfold moreK; split <;> simp_all
theorem lawq_29 (h : shQ l f 29 qs t) : kidsT (fitsB l f) (tok 29) qs = true := by
  rcases h with h | h
  · exact law_29 h
  · exfalso; revert h; unfold moreK; split <;> simp_all
theorem lawq_30 (h : shQ l f 30 qs t) : kidsT (fitsB l f) (tok 30) qs = true := by
  rcases h with h | h
  · exfalso; revert h; unfold sh1; split <;> simp_all
  · exact law_30 h
theorem lawq_31 (h : shQ l f 31 qs t) : kidsT (fitsB l f) (tok 31) qs = true := by
  rcases h with h | h
  · exact law_31 h
  · exfalso; revert h; unfold moreK; split <;> simp_all
theorem lawq_32 (h : shQ l f 32 qs t) : kidsT (fitsB l f) (tok 32) qs = true := by
  rcases h with h | h
  · exfalso; revert h; unfold sh1; split <;> simp_all
  · exact law_32 h
theorem lawq_33 (h : shQ l f 33 qs t) : kidsT (fitsB l f) (tok 33) qs = true := by
  rcases h with h | h
  · exfalso; revert h; unfold sh1; split <;> simp_all
  · exact law_33 h
theorem lawq_34 (h : shQ l f 34 qs t) : kidsT (fitsB l f) (tok 34) qs = true := by
  rcases h with h | h
  · exfalso; revert h; unfold sh1; split <;> simp_all
  · exact law_34 h
theorem lawq_35 (h : shQ l f 35 qs t) : kidsT (fitsB l f) (tok 35) qs = true := by
  rcases h with h | h
  · exfalso; revert h; unfold sh1; split <;> simp_all
  · exact law_35 h
theorem lawq_36 (h : shQ l f 36 qs t) : kidsT (fitsB l f) (tok 36) qs = true := by
  rcases h with h | h
  · exact law_36 h
  · exfalso; revert h; unfold moreK; split <;> simp_all
theorem lawq_37 (h : shQ l f 37 qs t) : kidsT (fitsB l f) (tok 37) qs = true := by
  rcases h with h | h
  · exact law_37 h
  · exfalso; revert h; unfold moreK; split <;> simp_all
theorem lawq_38 (h : shQ l f 38 qs t) : kidsT (fitsB l f) (tok 38) qs = true := by
  rcases h with h | h
  · exfalso; revert h; unfold sh1; split <;> simp_all
  · exact law_38 h
theorem lawq_39 (h : shQ l f 39 qs t) : kidsT (fitsB l f) (tok 39) qs = true := by
  rcases h with h | h
  · exfalso; revert h; unfold sh1; split <;> simp_all
  · exact law_39 h
theorem lawq_40 (h : shQ l f 40 qs t) : kidsT (fitsB l f) (tok 40) qs = true := by
  rcases h with h | h
  · exfalso; revert h; unfold sh1; split <;> simp_all
  · exact law_40 h
theorem lawq_41 (h : shQ l f 41 qs t) : kidsT (fitsB l f) (tok 41) qs = true := by
  rcases h with h | h
  · exfalso; revert h; unfold sh1; split <;> simp_all
  · exact law_41 h
theorem lawq_42 (h : shQ l f 42 qs t) : kidsT (fitsB l f) (tok 42) qs = true := by
  rcases h with h | h
  · exfalso; revert h; unfold sh1; split <;> simp_all
  · exact law_42 h
theorem lawq_43 (h : shQ l f 43 qs t) : kidsT (fitsB l f) (tok 43) qs = true := by
  rcases h with h | h
  · exfalso; revert h; unfold sh1; split <;> simp_all
  · exact law_43 h
theorem lawq_44 (h : shQ l f 44 qs t) : kidsT (fitsB l f) (tok 44) qs = true := by
  rcases h with h | h
  · exact law_44 h
  · exfalso; revert h; unfold moreK; split <;> simp_all
theorem lawq_45 (h : shQ l f 45 qs t) : kidsT (fitsB l f) (tok 45) qs = true := by
  rcases h with h | h
  · exact law_45 h
  · exfalso; revert h; unfold moreK; split <;> simp_all
theorem lawq_46 (h : shQ l f 46 qs t) : kidsT (fitsB l f) (tok 46) qs = true := by
  rcases h with h | h
  · exfalso; revert h; unfold sh1; split <;> simp_all
  · exact law_46 h
theorem lawq_47 (h : shQ l f 47 qs t) : kidsT (fitsB l f) (tok 47) qs = true := by
  rcases h with h | h
  · exact law_47 h
  · exfalso; revert h; unfold moreK; split <;> simp_all
theorem lawq_48 (h : shQ l f 48 qs t) : kidsT (fitsB l f) (tok 48) qs = true := by
  rcases h with h | h
  · exfalso; revert h; unfold sh1; split <;> simp_all
  · exact law_48 h
theorem lawq_49 (h : shQ l f 49 qs t) : kidsT (fitsB l f) (tok 49) qs = true := by
  rcases h with h | h
  · exfalso; revert h; unfold sh1; split <;> simp_all
  · exact (law_49 h).1
theorem lawq_50 (h : shQ l f 50 qs t) : kidsT (fitsB l f) (tok 50) qs = true := by
  rcases h with h | h
  · exfalso; revert h; unfold sh1; split <;> simp_all
  · exact law_50 h
theorem lawq_51 (h : shQ l f 51 qs t) : kidsT (fitsB l f) (tok 51) qs = true := by
  rcases h with h | h
  · exfalso; revert h; unfold sh1; split <;> simp_all
  · exact law_51 h
theorem lawq_52 (h : shQ l f 52 qs t) : kidsT (fitsB l f) (tok 52) qs = true := by
  rcases h with h | h
  · exfalso; revert h; unfold sh1; split <;> simp_all
  · exact law_52 h
theorem lawq_53 (h : shQ l f 53 qs t) : kidsT (fitsB l f) (tok 53) qs = true := by
  rcases h with h | h
  · exact law_53 h
  · exfalso; revert h; unfold moreK; split <;> simp_all
theorem lawq_54 (h : shQ l f 54 qs t) : kidsT (fitsB l f) (tok 54) qs = true := by
  rcases h with h | h
  · exact law_54 h
  · exfalso; revert h; unfold moreK; split <;> simp_all
theorem lawq_55 (h : shQ l f 55 qs t) : kidsT (fitsB l f) (tok 55) qs = true := by
  rcases h with h | h
  · exfalso; revert h; unfold sh1; split <;> simp_all
  · exact law_55 h
theorem lawq_56 (h : shQ l f 56 qs t) : kidsT (fitsB l f) (tok 56) qs = true := by
  rcases h with h | h
  · exact law_56 h
  · exfalso; revert h; unfold moreK; split <;> simp_all
theorem lawq {k : Nat} (h1 : 1 ≤ k) (h2 : k < 57) (h28 : k ≠ 28) (h : shQ l f (k : Nat) qs t) : kidsT (fitsB l f) (tok k) qs = true := by
  match k, h1, h2, h28, h with
  | 1, _, _, _, h => exact lawq_1 h
  | 2, _, _, _, h => exact lawq_2 h
  | 3, _, _, _, h => exact lawq_3 h
  | 4, _, _, _, h => exact lawq_4 h
  | 5, _, _, _, h => exact lawq_5 h
  | 6, _, _, _, h => exact lawq_6 h
  | 7, _, _, _, h => exact lawq_7 h
  | 8, _, _, _, h => exact lawq_8 h
  | 9, _, _, _, h => exact lawq_9 h
  | 10, _, _, _, h => exact lawq_10 h
  | 11, _, _, _, h => exact lawq_11 h
  | 12, _, _, _, h => exact lawq_12 h
  | 13, _, _, _, h => exact lawq_13 h
  | 14, _, _, _, h => exact lawq_14 h
  | 15, _, _, _, h => exact lawq_15 h
  | 16, _, _, _, h => exact lawq_16 h
  | 17, _, _, _, h => exact lawq_17 h
  | 18, _, _, _, h => exact lawq_18 h
  | 19, _, _, _, h => exact lawq_19 h
  | 20, _, _, _, h => exact lawq_20 h
  | 21, _, _, _, h => exact lawq_21 h
  | 22, _, _, _, h => exact lawq_22 h
  | 23, _, _, _, h => exact lawq_23 h
  | 24, _, _, _, h => exact lawq_24 h
  | 25, _, _, _, h => exact lawq_25 h
  | 26, _, _, _, h => exact lawq_26 h
  | 27, _, _, _, h => exact lawq_27 h
  | 28, _, _, h28, _ => exact absurd rfl h28
  | 29, _, _, _, h => exact lawq_29 h
  | 30, _, _, _, h => exact lawq_30 h
  | 31, _, _, _, h => exact lawq_31 h
  | 32, _, _, _, h => exact lawq_32 h
  | 33, _, _, _, h => exact lawq_33 h
  | 34, _, _, _, h => exact lawq_34 h
  | 35, _, _, _, h => exact lawq_35 h
  | 36, _, _, _, h => exact lawq_36 h
  | 37, _, _, _, h => exact lawq_37 h
  | 38, _, _, _, h => exact lawq_38 h
  | 39, _, _, _, h => exact lawq_39 h
  | 40, _, _, _, h => exact lawq_40 h
  | 41, _, _, _, h => exact lawq_41 h
  | 42, _, _, _, h => exact lawq_42 h
  | 43, _, _, _, h => exact lawq_43 h
  | 44, _, _, _, h => exact lawq_44 h
  | 45, _, _, _, h => exact lawq_45 h
  | 46, _, _, _, h => exact lawq_46 h
  | 47, _, _, _, h => exact lawq_47 h
  | 48, _, _, _, h => exact lawq_48 h
  | 49, _, _, _, h => exact lawq_49 h
  | 50, _, _, _, h => exact lawq_50 h
  | 51, _, _, _, h => exact lawq_51 h
  | 52, _, _, _, h => exact lawq_52 h
  | 53, _, _, _, h => exact lawq_53 h
  | 54, _, _, _, h => exact lawq_54 h
  | 55, _, _, _, h => exact lawq_55 h
  | 56, _, _, _, h => exact lawq_56 h
theorem only_more {k : Int} (h : shQ l f k qs t) (hk : k = 28 ∨ k = 48 ∨ k = 49) : moreK l f k qs t = true := by
  rcases h with h | h
  · exfalso
    rcases hk with rfl | rfl | rfl <;> (revert h; unfold sh1; split <;> simp_all)
  · exact h
end
section
variable {w : World} {A : Option Addr} {n c : Nat} {l : List Nd}
theorem node_all (hN : Nds w w.heap.size A l) (hn : l.length = n) (hg : ∀ (i : Nat) (x : Nd), l[i]? = some x → GoodN l n x) (hK : ∀ (i : Nat) (x : Nd), l[i]? = some x → x.kids.any (badKid i) = false) (hcap : ∀ x ∈ l, x.kids.length ≤ x.kC) (htx : ∀ x ∈ l, x.text.size ≤ 1048576 ∧ x.str.size ≤ 1048576) (hT : Tb w) (hm : Mx w)
    (i : Nat) (x : Nd) (hx : l[i]? = some x) (w' : World) (cb : Nat) (hb : Below w.heap.size w w') (hC : Ck w' cb A n c) :
    Calls Tryd.prog 23 #[.pointer (some ⟨cb, 0, none⟩), .int .i64 (i : Nat)] w' fun e w'' => e = .returned (.bool true) ∧ Below w'.heap.size w' w'' := by
  have hxm := List.mem_of_getElem? hx
  have g := hg i x hx
  obtain ⟨k, hxk, hk1, hk⟩ := shQ_range g.shape
  have hN' := hN.below hb hb.size
  have hKo : KidsOk l n := fun j y hj hy v hv => by
    obtain ⟨q, hq⟩ := List.getElem?_of_mem hv
    have := badKid_not (hK j y hy) hq
    omega
  have hi2 : i < n := by rw [← hn]; exact (List.getElem?_eq_some_iff.1 hx).1
  have hKi : KidsOk l i := fun j y hj hy v hv => hKo j y (by omega) hy v hv
  have hU : FuncOk l i := fun j y hj hy h13 => (hg j y hy).func h13
  have hL : LabOk l i := fun j y hj hy h52 => (hg j y hy).lab h52
  have hin := hKo i x hi2 hx
  have htxt : textB x.kind x.text = true := by
    have hf := g.fields
    unfold fieldsB at hf
    simp only [Bool.and_eq_true] at hf
    have h4 := hf.2
    split at h4
    · rename_i h1
      simp only [Bool.and_eq_true] at h4
      have : x.kind = 1 := by simpa using h1
      rw [this]
      exact h4.2
    · simp only [Bool.and_eq_true] at h4
      exact h4.2
  refine node_ok hC hN' hn hx hxk hk1 hk g.fields (htx x hxm).2 (fun w2 hb2 => ?_) (fun w2 hb2 => ?_) (fun w2 hb2 => ?_)
  · have h := checktext_any hk1 hk (hC.below hb2) ((hT.below hb (Nat.le_refl _)).below hb2 (Nat.le_refl _)) ((hm.below hb).below hb2) x hxk (htx x hxm).1
    rw [htxt] at h
    exact h
  · have hN2 := hN'.below hb2 hb2.size
    by_cases h28 : k = 28
    · subst h28
      have h := only_more g.shape (.inl hxk)
      rw [hxk] at h
      have h : (decide (x.kids.length % 2 = 1) && tmplB 0 (x.kids.map (kindAt l))) = true := h
      rw [Bool.and_eq_true, decide_eq_true_eq] at h
      rw [rule28]
      refine (kids_tmpl (hC.below hb2) hN2 hn rfl (hN.small.2 x hxm) (hN2.each x hxm) (fun y hy => by have := hin y hy; omega) h.1 h.2).mono ?_
      rintro e w3 ⟨rfl, rfl⟩
      exact ⟨rfl, Below.refl _ _⟩
    · obtain ⟨h1, h2, h3⟩ := tok_of hk h28
      have hq := g.shape
      rw [hxk] at hq
      have h := kids_any (f := n) (hC.below hb2) hN2 hn hKi hL hU (by omega) (by omega) rfl (hN.small.2 x hxm) (hcap x hxm) (hN2.each x hxm) (fun y hy => hin y hy) h2 h3 h1
      rw [lawq hk1 hk h28 hq] at h
      exact h
  · have hN2 := hN'.below hb2 hb2.size
    by_cases h48 : k = 48
    · subst h48
      have h := only_more g.shape (.inr (.inl hxk))
      rw [hxk] at h
      match hqs : x.kids with
      | [a, b, d] =>
        rw [hqs] at h
        have h : ((kindAt l a == 32) && ((kindAt l b == 32) || (kindAt l b == 54)) && ((kindAt l d == 32) || (kindAt l d == 54)) && ((kindAt l b == 32) == !decide (x.text.size = 0)) && ((kindAt l b == 32) || (kindAt l d == 32))) = true := h
        rw [Bool.and_eq_true, Bool.and_eq_true] at h
        have ha := hin a (by rw [hqs]; simp)
        have hb0 := hin b (by rw [hqs]; simp)
        have hd0 := hin d (by rw [hqs]; simp)
        obtain ⟨qa, rfl⟩ : ∃ q : Nat, a = q := ⟨a.toNat, by omega⟩
        obtain ⟨qb, rfl⟩ : ∃ q : Nat, b = q := ⟨b.toNat, by omega⟩
        obtain ⟨qd, rfl⟩ : ∃ q : Nat, d = q := ⟨d.toNat, by omega⟩
        exact more_try (hC.below hb2) hN2 hn x hxk (hN2.each x hxm) hqs (by omega) (by omega) (eq_of_beq h.1.2) h.2
      | [] => rw [hqs] at h; exact absurd h (by simp [moreK])
      | [a] => rw [hqs] at h; exact absurd h (by simp [moreK])
      | [a, b] => rw [hqs] at h; exact absurd h (by simp [moreK])
      | a :: b :: d :: e :: r => rw [hqs] at h; exact absurd h (by simp [moreK])
    · by_cases h49 : k = 49
      · subst h49
        have h := only_more g.shape (.inr (.inr hxk))
        rw [hxk] at h
        exact more_switch (hC.below hb2) hN2 hn x hxk (hN.small.2 x hxm) (hN2.each x hxm) (fun y hy => by have := hin y hy; omega) (law_49 h).2
      · exact more_other x hxk h48 h49
end
end Go.Proofs.YtgnpgdjjdhlhaaaDoor
