/- What a node's Text and its other fields are: the document's. -/
import Derived.Test.YtgnpgdjjdhlhaaaDoorTNamesV
import Derived.Test.YtgnpgdjjdhlhaaaDoorTNums
namespace Go.Proofs.YtgnpgdjjdhlhaaaDoor
open Go.RowKit
set_option maxHeartbeats 4000000
set_option maxRecDepth 100000
attribute [local go_sem] Oper.semAt_some store_floatK

def kName (k : Int) : Bool := (k == 6) || (k == 31) || (k == 35) || (k == 52) || (k == 53)
def kMay (k : Int) : Bool := (k == 13) || (k == 44) || (k == 45) || (k == 48)
def kOp (k : Int) : Bool := (k == 19) || (k == 20) || (k == 21) || (k == 22) || (k == 26)
/-- a node's Text is as its kind wants it -/
def textB (k : Int) (s : ByteArray) : Bool :=
  if kName k then nameU s.data.toList
  else if kMay k then decide (s.size = 0) || nameU s.data.toList
  else if k == 17 then nameU s.data.toList || wordU s.data.toList
  else if kOp k then (opsOf k).any (fun x => x == s)
  else decide (s.size = 0)
theorem kName_of {k : Int} (h : kName k = true) : k = 6 ∨ k = 31 ∨ k = 35 ∨ k = 52 ∨ k = 53 := by
  unfold kName at h; simp only [Bool.or_eq_true, beq_iff_eq] at h; omega
theorem kMay_of {k : Int} (h : kMay k = true) : k = 13 ∨ k = 44 ∨ k = 45 ∨ k = 48 := by
  unfold kMay at h; simp only [Bool.or_eq_true, beq_iff_eq] at h; omega
theorem kOp_of {k : Int} (h : kOp k = true) : k = 19 ∨ k = 20 ∨ k = 21 ∨ k = 22 ∨ k = 26 := by
  unfold kOp at h; simp only [Bool.or_eq_true, beq_iff_eq] at h; omega
theorem empty_dec {s : ByteArray} : s.toList.isEmpty = decide (s.size = 0) := by
  by_cases h : s.size = 0
  · rw [ba_nil h, ByteArray.toList_eq]; rfl
  · rw [(ba_empty h).1, decide_eq_false h]
abbrev nCells (x : Nd) : Array Value := #[.int .i64 x.kind, .string x.text, .string x.str, .float .f64 x.num, .slice x.kA x.kids.length x.kC, .int .i64 x.at_]
section
variable {w : World}
theorem reftext_any (x : Nd) (hs : x.text.size ≤ 1048576) : Calls Tryd.prog 26 #[nV x] w fun e w' => e = .returned (.bool (textB x.kind x.text)) ∧ Below w.heap.size w w' := by
  have y1 := heap_alloc_new w (.cells (nCells x) 39)
  have b1 : Below w.heap.size w (w.alloc (.cells (nCells x) 39)) := (Below.refl _ _).alloc (Nat.le_refl _) _
  have hnm := refname_any x.text hs
  have hwd := refword_any x.text
  have hro := fun w' => refoperators_any x.kind w'
  have hof := (ops_full x.kind).2
  have hem := empty_dec (s := x.text)
  obtain ⟨k, hk⟩ : ∃ k, x.kind = k := ⟨_, rfl⟩
  obtain ⟨s, hs'⟩ : ∃ s, x.text = s := ⟨_, rfl⟩
  obtain ⟨kn, hkn⟩ : ∃ m, x.kids.length = m := ⟨_, rfl⟩
  unfold nV
  unfold nCells at y1 b1
  rw [hk, hs', hkn] at y1 b1 ⊢
  rw [hk] at hro hof
  rw [hs'] at hnm hwd hem
  obtain ⟨w1, hw1⟩ : ∃ w1, w.alloc (.cells #[.int .i64 k, .string s, .string x.str, .float .f64 x.num, .slice x.kA kn x.kC, .int .i64 x.at_] 39) = w1 := ⟨_, rfl⟩
  rw [hw1] at y1 b1
  have l1 := (Array.getElem?_eq_some_iff.1 y1).1
  have hF : ∀ w', Below w1.heap.size w1 w' → w'.cell? ⟨w.heap.size, 0, none⟩ = some (.int .i64 k) ∧ w'.cell? ⟨w.heap.size, 1, none⟩ = some (.string s) := fun w' hb => by
    have hz := (hb.block _ l1).trans y1
    have e0 := cell_blockK hz 0
    have e1 := cell_blockK hz 1
    simp at e0 e1
    exact ⟨e0, e1⟩
  have HF := Lib.hid hF
  obtain ⟨vn, en⟩ : ∃ v, nameU s.data.toList = v := ⟨_, rfl⟩
  obtain ⟨vw, ew⟩ : ∃ v, wordU s.data.toList = v := ⟨_, rfl⟩
  obtain ⟨ve, ee⟩ : ∃ v, decide (s.size = 0) = v := ⟨_, rfl⟩
  rw [en] at hnm
  rw [ew] at hwd
  rw [ee] at hem
  have hT : textB k s = if kName k then vn else if kMay k then ve || vn else if k == 17 then vn || vw else if kOp k then (opsOf k).any (fun x => x == s) else ve := by
    unfold textB; rw [en, ew, ee]
  have HT := Lib.hid hT
  have HW := Lib.hid hwd
  have HRO := Lib.hid hro
  clear hT hF hwd hro hkn hk hs' hs
  obtain ⟨t0, t1⟩ := HF.out w1 (Below.refl _ _)
  go_enter Tryd.func26, Tryd.ntmps26
  go_wp2_with fail
  refine (hnm w1).mono ?_
  rintro e w2 ⟨rfl, hb2⟩
  obtain ⟨u0, u1⟩ := HF.out w2 hb2
  clear hnm t0 t1
  have hbw := b1.trans (hb2.mono (Nat.le_of_lt l1))
  simp only
  by_cases hA : kName k = true
  · have hfin : textB k s = vn := by rw [HT.out, if_pos hA]
    have HFIN := Lib.hid hfin
    clear hfin
    rcases kName_of hA with rfl | rfl | rfl | rfl | rfl
    all_goals
      go_wp2_with fail
      go_ret
      exact ⟨by rw [HFIN.out]; rfl, hbw⟩
  by_cases hB : kMay k = true
  · have hfin : textB k s = (ve || vn) := by rw [HT.out, if_neg hA, if_pos hB]
    have HFIN := Lib.hid hfin
    clear hfin
    rcases kMay_of hB with rfl | rfl | rfl | rfl
    all_goals
      cases ve <;> cases vn
      all_goals
        go_wp2_with fail
        go_ret
        exact ⟨by rw [HFIN.out]; rfl, hbw⟩
  by_cases hC : k = 17
  · have hfin : textB k s = (vn || vw) := by rw [HT.out, if_neg hA, if_neg hB, if_pos (by rw [hC]; rfl)]
    have HFIN := Lib.hid hfin
    clear hfin
    subst hC
    cases vn with
    | true =>
      go_wp2_with fail
      go_ret
      exact ⟨by rw [HFIN.out]; rfl, hbw⟩
    | false =>
      go_wp2_with fail
      refine (HW.out _).mono ?_
      rintro e w3 ⟨rfl, hb3⟩
      simp only
      go_wp2_with fail
      go_ret
      exact ⟨by rw [HFIN.out]; rfl, hbw.trans (hb3.mono hbw.size)⟩
  by_cases hD : kOp k = true
  · have hfin : textB k s = (opsOf k).any (fun x => x == s) := by rw [HT.out, if_neg hA, if_neg hB, if_neg (by simpa using hC), if_pos hD]
    have HFIN := Lib.hid hfin
    clear hfin hA hB hC
    have hW2 : ∀ w', Below w2.heap.size w2 w' → Below w1.heap.size w1 w' := fun w' h => hb2.trans (h.mono hb2.size)
    have HW2 := Lib.hid hW2
    rcases kOp_of hD with rfl | rfl | rfl | rfl | rfl
    all_goals
      clear hD
      go_wp2_with fail
      clear u0 u1
      refine wp_region_lin (fun w' => Below w2.heap.size w2 w') [6] (.block 0 (.block 1 (.block 3 (.block 4 (.scope (.seq (.label 2) (.scope (.seq (.label 5) (.loop (.block 6 (.skip))))))))))) (by kernel_rfl) (by kernel_rfl) (by kernel_rfl) (by kernel_rfl) (by kernel_rfl) (Below.refl _ _).drew ?_
      repeat
        (refine lin_light (A1 := ?_) rfl rfl rfl rfl rfl (fun w' hS K hK => ?_) ?_ ?_
         rotate_left
         · have hF := HF.out _ (HW2.out _ hS); obtain ⟨_, _⟩ := hF; go_step; exact hK
         · rfl)
      refine lin_group ?_
      refine lin_heavy rfl rfl (fun K hK => ?_)
      go_step
      refine (HRO.out _).mono ?_
      rintro e w3 ⟨A, n, c, rfl, hn, hr, b3⟩
      have hb3 : Below w2.heap.size w2 w3 := (Below.refl _ _).drew.trans b3
      have HN := Lib.hid hn
      have hn2 : n ≤ 1000 := by omega
      have HR := Lib.hid hr
      clear hn hr
      simp only
      refine hK.out _ _ hb3 ?_
      clear hK K
      repeat
        (refine lin_light (A1 := ?_) rfl rfl rfl rfl rfl (fun w' hS K hK => ?_) ?_ ?_
         rotate_left
         · have hF := HF.out _ (HW2.out _ hS); obtain ⟨_, _⟩ := hF; go_step; exact hK
         · rfl)
      refine lin_group ?_
      refine lin_heavy rfl rfl (fun K hK => ?_)
      go_step
      refine (among_any s HR.out HN.out hn2).mono ?_
      rintro e w4 ⟨rfl, rfl⟩
      simp only
      refine hK.out _ _ hb3 ?_
      clear hK K
      try refine lin_late ?_
      repeat
        (refine lin_light (A1 := ?_) rfl rfl rfl rfl rfl (fun w' hS K hK => ?_) ?_ ?_
         rotate_left
         · clear hS; go_step; exact hK
         · rfl)
      refine lin_end ?_
      go_wp2_with fail
      go_ret
      exact ⟨by rw [HFIN.out]; rfl, hbw.trans (hb3.mono hbw.size)⟩
  · have hfin : textB k s = ve := by rw [HT.out, if_neg hA, if_neg hB, if_neg (by simpa using hC), if_neg hD]
    have HFIN := Lib.hid hfin
    clear hfin
    have hk : (k == 6) = false ∧ (k == 31) = false ∧ (k == 35) = false ∧ (k == 52) = false ∧ (k == 53) = false ∧ (k == 13) = false ∧ (k == 44) = false ∧ (k == 45) = false ∧ (k == 48) = false ∧ (k == 17) = false ∧ (k == 19) = false ∧ (k == 20) = false ∧ (k == 21) = false ∧ (k == 22) = false ∧ (k == 26) = false := by
      unfold kName at hA
      unfold kMay at hB
      unfold kOp at hD
      simp only [Bool.or_eq_true, beq_iff_eq, not_or] at hA hB hD
      simp only [beq_eq_false_iff_ne, ne_eq]
      omega
    obtain ⟨g1, g2, g3, g4, g5, g6, g7, g8, g9, g10, g11, g12, g13, g14, g15⟩ := hk
    clear hA hB hC hD
    go_wp2_with fail
    go_ret
    exact ⟨by rw [HFIN.out]; rfl, hbw⟩
end
end Go.Proofs.YtgnpgdjjdhlhaaaDoor
