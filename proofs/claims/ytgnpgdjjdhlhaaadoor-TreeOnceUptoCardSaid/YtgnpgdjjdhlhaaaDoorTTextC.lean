/- checker.text: a node's Text by its rule. -/
import Derived.Test.YtgnpgdjjdhlhaaaDoorTText
import Derived.Test.YtgnpgdjjdhlhaaaDoorTShelf
namespace Go.Proofs.YtgnpgdjjdhlhaaaDoor
open Go.RowKit
set_option maxHeartbeats 4000000
set_option maxRecDepth 100000
attribute [local go_sem] Oper.semAt_some store_floatK

def ruleT (k : Nat) : ByteArray := (rulesL.getD k (⟨#[]⟩, ⟨#[]⟩)).1
def ruleK (k : Nat) : ByteArray := (rulesL.getD k (⟨#[]⟩, ⟨#[]⟩)).2
theorem flat2 : ∀ (l : List (ByteArray × ByteArray)) (k : Nat), (l.flatMap fun p => [Value.string p.1, Value.string p.2])[2 * k]? = (l[k]?).map (fun p => Value.string p.1) ∧ (l.flatMap fun p => [Value.string p.1, Value.string p.2])[2 * k + 1]? = (l[k]?).map (fun p => Value.string p.2)
  | [], k => ⟨by simp, by simp⟩
  | p :: r, 0 => ⟨rfl, rfl⟩
  | p :: r, k + 1 => by
    have h := flat2 r k
    rw [show 2 * (k + 1) = 2 * k + 2 by omega]
    exact h
theorem rulesL_len : rulesL.length = 57 := rfl
theorem rulesC_at {k : Nat} (hk : k < 57) : rulesC[2 * k]? = some (.string (ruleT k)) ∧ rulesC[2 * k + 1]? = some (.string (ruleK k)) := by
  have h := flat2 rulesL k
  have hl : rulesL[k]? = some (rulesL.getD k (⟨#[]⟩, ⟨#[]⟩)) := by
    rw [List.getD_eq_getElem?_getD, List.getElem?_eq_getElem (by rw [rulesL_len]; exact hk)]
    rfl
  rw [hl] at h
  unfold rulesC
  rw [List.getElem?_toArray, List.getElem?_toArray]
  exact h
def txtC (k : Nat) : List UInt8 := if kName (k : Nat) then [110, 97, 109, 101] else if kMay (k : Nat) then [109, 97, 121, 98, 101] else if k == 17 then [119, 111, 114, 100] else if kOp (k : Nat) then [111, 112] else []
theorem ruleT_tab : (List.range 57).all (fun k => (ruleT k).data.toList == txtC k) = true := by decide +kernel
theorem ruleT_of {k : Nat} (hk : k < 57) : ruleT k = ⟨(txtC k).toArray⟩ := by
  have h := eq_of_beq (List.all_eq_true.1 ruleT_tab k (List.mem_range.2 hk))
  rw [← ba_data (ruleT k), h]
section
variable {w : World} {A0 : Option Addr} {n c cb : Nat}
theorem contains_ops {g m d : Nat} {l : List ByteArray} (s : ByteArray) (hr : Rd w w.heap.size (some ⟨g, 0, none⟩) (l.map Value.string)) (hm : l.length = m) (hm2 : m ≤ 1000) :
    Calls Tryd.prog 52 #[.slice (some ⟨g, 0, none⟩) m d, .string s] w fun e w' => e = .returned (.bool (l.any (fun x => x == s))) ∧ w' = w := by
  have h := Go.Proofs.Tryd.slices_Contains_string g 0 m d l s w (by rw [hm]; exact Nat.le_refl _) (by omega) (fun j hj => by
    obtain ⟨ad, h1, _, h2⟩ := hr.at_ (k := j) (u := .string (l.getD j ByteArray.empty)) (by rw [List.getElem?_map, List.getD_eq_getElem?_getD, List.getElem?_eq_getElem hj]; rfl)
    obtain rfl := Option.some.inj h1
    rw [Addr.add_lit] at h2
    exact h2)
  have he : Lib.containsS (l.take m) s = l.any (fun x => x == s) := by
    rw [List.take_of_length_le (by rw [hm]; exact Nat.le_refl _), Bool.eq_iff_iff, Lib.containsS_iff, List.any_eq_true]
    constructor
    · intro h; exact ⟨s, h, by rw [ba_beq]; exact beq_self_eq_true _⟩
    · rintro ⟨x, hx, h2⟩
      have h3 : x = s := by
        rw [ba_beq, beq_iff_eq, ByteArray.toList_eq, ByteArray.toList_eq] at h2
        rw [← ba_data x, h2, ba_data]
      exact h3 ▸ hx
  rw [he] at h
  exact h
theorem operators_some (k : Int) (w : World) (hT : Tb w) (hk : kOp k = true) :
    Calls Tryd.prog 10 #[.int .i64 k] w fun e w' => ∃ g n c, e = .returned (.slice (some ⟨g, 0, none⟩) n c) ∧ (opsOf k).length = n ∧ Rd w' w'.heap.size (some ⟨g, 0, none⟩) ((opsOf k).map Value.string) ∧ Below w.heap.size w w' := by
  rcases kOp_of hk with rfl | rfl | rfl | rfl | rfl
  · have hc := fields_any s19 l19 (by decide) ascii19 fields19 (w := w) hT
    unfold s19 at hc
    go_enter Tryd.func10, Tryd.ntmps10
    go_wp2_with fail
    refine hc.mono ?_
    rintro e w' ⟨rfl, h1, h2⟩
    simp only
    go_wp2_with fail
    go_ret
    exact ⟨_, _, _, rfl, rfl, h1, h2⟩
  · have hc := fields_any s20 l20 (by decide) ascii20 fields20 (w := w) hT
    unfold s20 at hc
    go_enter Tryd.func10, Tryd.ntmps10
    go_wp2_with fail
    refine hc.mono ?_
    rintro e w' ⟨rfl, h1, h2⟩
    simp only
    go_wp2_with fail
    go_ret
    exact ⟨_, _, _, rfl, rfl, h1, h2⟩
  · have hc := fields_any s20 l20 (by decide) ascii20 fields20 (w := w) hT
    unfold s20 at hc
    go_enter Tryd.func10, Tryd.ntmps10
    go_wp2_with fail
    refine hc.mono ?_
    rintro e w' ⟨rfl, h1, h2⟩
    simp only
    go_wp2_with fail
    go_ret
    exact ⟨_, _, _, rfl, rfl, h1, h2⟩
  · have hc := fields_any s22 l22 (by decide) ascii22 fields22 (w := w) hT
    unfold s22 at hc
    go_enter Tryd.func10, Tryd.ntmps10
    go_wp2_with fail
    refine hc.mono ?_
    rintro e w' ⟨rfl, h1, h2⟩
    simp only
    go_wp2_with fail
    go_ret
    exact ⟨_, _, _, rfl, rfl, h1, h2⟩
  · have hc := fields_any s26 l26 (by decide) ascii26 fields26 (w := w) hT
    unfold s26 at hc
    go_enter Tryd.func10, Tryd.ntmps10
    go_wp2_with fail
    refine hc.mono ?_
    rintro e w' ⟨rfl, h1, h2⟩
    simp only
    go_wp2_with fail
    go_ret
    exact ⟨_, _, _, rfl, rfl, h1, h2⟩
theorem checktext_any {k : Nat} (hk1 : 1 ≤ k) (hk : k < 57) (hC : Ck w cb A0 n c) (hT : Tb w) (hm : Mx w) (x : Nd) (hxk : x.kind = (k : Nat)) (hs : x.text.size ≤ 1048576) :
    Calls Tryd.prog 36 #[.pointer (some ⟨cb, 0, none⟩), nV x] w fun e w' => e = .returned (.bool (textB x.kind x.text)) ∧ Below w.heap.size w w' := by
  have y1 := heap_alloc_new w (.cells (nCells x) 39)
  have b1 : Below w.heap.size w (w.alloc (.cells (nCells x) 39)) := (Below.refl _ _).alloc (Nat.le_refl _) _
  have hnm := fun w' (h : Mx w') => lexname_any x.text hs w' h
  have hwd := fun w' (h : Mx w') => lexword_any x.text hs w' h
  have hro := fun w' (h : Tb w') (h2 : kOp x.kind = true) => operators_some x.kind w' h h2
  have hof := (ops_full x.kind).2
  have hem := empty_dec (s := x.text)
  have hrule := hC.rule (rulesC_at hk).1
  rw [ruleT_of hk] at hrule
  rw [show 2 * k + 1 = 1 + k * 2 by omega] at hrule
  obtain ⟨s, hs'⟩ : ∃ s, x.text = s := ⟨_, rfl⟩
  obtain ⟨kn, hkn⟩ : ∃ m, x.kids.length = m := ⟨_, rfl⟩
  unfold nV
  unfold nCells at y1 b1
  rw [hxk, hs', hkn] at y1 b1 ⊢
  rw [hxk] at hro hof
  rw [hs'] at hnm hwd hem
  obtain ⟨w1, hw1⟩ : ∃ w1, w.alloc (.cells #[.int .i64 (k : Nat), .string s, .string x.str, .float .f64 x.num, .slice x.kA kn x.kC, .int .i64 x.at_] 39) = w1 := ⟨_, rfl⟩
  rw [hw1] at y1 b1
  have l1 := (Array.getElem?_eq_some_iff.1 y1).1
  have hF : ∀ w', Below w1.heap.size w1 w' → w'.cell? ⟨w.heap.size, 0, none⟩ = some (.int .i64 (k : Nat)) ∧ w'.cell? ⟨w.heap.size, 1, none⟩ = some (.string s) ∧ Mx w' ∧ Tb w' := fun w' hb => by
    have hz := (hb.block _ l1).trans y1
    have e0 := cell_blockK hz 0
    have e1 := cell_blockK hz 1
    simp at e0 e1
    have hb0 := b1.trans (hb.mono (Nat.le_of_lt l1))
    exact ⟨e0, e1, hm.below hb0, hT.below hb0 (Nat.le_refl _)⟩
  have HF := Lib.hid hF
  obtain ⟨vn, en⟩ : ∃ v, nameU s.data.toList = v := ⟨_, rfl⟩
  obtain ⟨vw, ew⟩ : ∃ v, wordU s.data.toList = v := ⟨_, rfl⟩
  obtain ⟨ve, ee⟩ : ∃ v, decide (s.size = 0) = v := ⟨_, rfl⟩
  rw [en] at hnm
  rw [ew] at hwd
  rw [ee] at hem
  have hTx : textB (k : Nat) s = if kName (k : Nat) then vn else if kMay (k : Nat) then ve || vn else if (k : Int) == 17 then vn || vw else if kOp (k : Nat) then (opsOf (k : Nat)).any (fun x => x == s) else ve := by
    unfold textB; rw [en, ew, ee]
  have hr1 := (b1.cell (World.block_lt_of_cell? _ _ hrule)).trans hrule
  have HT := Lib.hid hTx
  have HW := Lib.hid hwd
  have HNM := Lib.hid hnm
  have HRO := Lib.hid hro
  have hk3 : (k : Int) < 57 := by omega
  clear hTx hF hwd hro hkn hxk hs' hs hnm hT hm hrule
  obtain ⟨t0, t1, tm, tt⟩ := HF.out w1 (Below.refl _ _)
  have hbd : Below w1.heap.size w1 w1.drew := (Below.refl _ _).drew
  have hbw : Below w.heap.size w w1.drew := b1.drew
  obtain ⟨u0, u1, um, ut⟩ := HF.out w1.drew hbd
  have UM := Lib.hid um
  have UT := Lib.hid ut
  clear um ut tm tt
  go_enter Tryd.func36, Tryd.ntmps36
  go_wp2_with fail
  by_cases hA : kName (k : Nat) = true
  · have hfin : textB (k : Nat) s = vn := by rw [HT.out, if_pos hA]
    have hc : txtC k = [110, 97, 109, 101] := by unfold txtC; rw [if_pos hA]
    rw [hc] at hr1
    have HFIN := Lib.hid hfin
    clear hfin hc
    refine wp_region_lin (fun w' => w'.cell? ⟨w.heap.size, 0, none⟩ = some (.int .i64 (k : Nat)) ∧ w'.cell? ⟨cb, 1 + k * 2, none⟩ = some (.string ⟨#[110, 97, 109, 101]⟩)) [] (.block 0 (.block 1 (.block 2 (.block 3 (.block 4 (.block 5 (.block 6 (.block 7 (.skip))))))))) (by kernel_rfl) (by kernel_rfl) (by kernel_rfl) (by kernel_rfl) (by kernel_rfl) ⟨t0, hr1⟩ ?_
    repeat
      (refine lin_light (A1 := ?_) rfl rfl rfl rfl rfl (fun w' hS K hK => ?_) ?_ ?_
       rotate_left
       · obtain ⟨s0, s1⟩ := hS; go_step; exact hK
       · rfl)
    refine lin_end ?_
    clear t0 t1
    go_wp2_with fail
    refine (HNM.out _ UM.out).mono ?_
    rintro e w3 ⟨rfl, rfl⟩
    simp only
    go_wp2_with fail
    go_ret
    exact ⟨by rw [HFIN.out]; rfl, hbw⟩
  by_cases hB : kMay (k : Nat) = true
  · have hfin : textB (k : Nat) s = (ve || vn) := by rw [HT.out, if_neg hA, if_pos hB]
    have hc : txtC k = [109, 97, 121, 98, 101] := by unfold txtC; rw [if_neg hA, if_pos hB]
    rw [hc] at hr1
    have HFIN := Lib.hid hfin
    clear hfin hc
    refine wp_region_lin (fun w' => w'.cell? ⟨w.heap.size, 0, none⟩ = some (.int .i64 (k : Nat)) ∧ w'.cell? ⟨cb, 1 + k * 2, none⟩ = some (.string ⟨#[109, 97, 121, 98, 101]⟩)) [] (.block 0 (.block 1 (.block 2 (.block 3 (.block 4 (.block 5 (.block 6 (.block 7 (.skip))))))))) (by kernel_rfl) (by kernel_rfl) (by kernel_rfl) (by kernel_rfl) (by kernel_rfl) ⟨t0, hr1⟩ ?_
    repeat
      (refine lin_light (A1 := ?_) rfl rfl rfl rfl rfl (fun w' hS K hK => ?_) ?_ ?_
       rotate_left
       · obtain ⟨s0, s1⟩ := hS; go_step; exact hK
       · rfl)
    refine lin_end ?_
    clear t0 t1
    cases ve with
    | true =>
      go_wp2_with fail
      go_ret
      exact ⟨by rw [HFIN.out]; rfl, hbw⟩
    | false =>
      go_wp2_with fail
      refine (HNM.out _ UM.out).mono ?_
      rintro e w3 ⟨rfl, rfl⟩
      simp only
      go_wp2_with fail
      go_ret
      exact ⟨by rw [HFIN.out]; rfl, hbw⟩
  by_cases hD0 : k = 17
  · have hfin : textB (k : Nat) s = (vn || vw) := by rw [HT.out, if_neg hA, if_neg hB, if_pos (by rw [hD0]; rfl)]
    have hc : txtC k = [119, 111, 114, 100] := by unfold txtC; rw [if_neg hA, if_neg hB, if_pos (by rw [hD0]; rfl)]
    rw [hc] at hr1
    have HFIN := Lib.hid hfin
    clear hfin hc hD0
    refine wp_region_lin (fun w' => w'.cell? ⟨w.heap.size, 0, none⟩ = some (.int .i64 (k : Nat)) ∧ w'.cell? ⟨cb, 1 + k * 2, none⟩ = some (.string ⟨#[119, 111, 114, 100]⟩)) [] (.block 0 (.block 1 (.block 2 (.block 3 (.block 4 (.block 5 (.block 6 (.block 7 (.skip))))))))) (by kernel_rfl) (by kernel_rfl) (by kernel_rfl) (by kernel_rfl) (by kernel_rfl) ⟨t0, hr1⟩ ?_
    repeat
      (refine lin_light (A1 := ?_) rfl rfl rfl rfl rfl (fun w' hS K hK => ?_) ?_ ?_
       rotate_left
       · obtain ⟨s0, s1⟩ := hS; go_step; exact hK
       · rfl)
    refine lin_end ?_
    clear t0 t1
    go_wp2_with fail
    refine (HNM.out _ UM.out).mono ?_
    rintro e w3 ⟨rfl, rfl⟩
    cases vn with
    | true =>
      simp only
      go_wp2_with fail
      go_ret
      exact ⟨by rw [HFIN.out]; rfl, hbw⟩
    | false =>
      simp only
      go_wp2_with fail
      refine (HW.out _ UM.out).mono ?_
      rintro e w3 ⟨rfl, rfl⟩
      simp only
      go_wp2_with fail
      go_ret
      exact ⟨by rw [HFIN.out]; rfl, hbw⟩
  have hD1 : ((k : Int) == 17) = false := by rw [beq_eq_false_iff_ne]; omega
  have hD2 : (k == 17) = false := by rw [beq_eq_false_iff_ne]; exact hD0
  by_cases hD : kOp (k : Nat) = true
  · have hfin : textB (k : Nat) s = (opsOf (k : Nat)).any (fun x => x == s) := by rw [HT.out, if_neg hA, if_neg hB, if_neg (by rw [hD1]; decide), if_pos hD]
    have hc : txtC k = [111, 112] := by unfold txtC; rw [if_neg hA, if_neg hB, if_neg (by rw [hD2]; decide), if_pos hD]
    rw [hc] at hr1
    have HFIN := Lib.hid hfin
    clear hfin hc
    refine wp_region_lin (fun w' => w'.cell? ⟨w.heap.size, 0, none⟩ = some (.int .i64 (k : Nat)) ∧ w'.cell? ⟨cb, 1 + k * 2, none⟩ = some (.string ⟨#[111, 112]⟩)) [] (.block 0 (.block 1 (.block 2 (.block 3 (.block 4 (.block 5 (.block 6 (.block 7 (.skip))))))))) (by kernel_rfl) (by kernel_rfl) (by kernel_rfl) (by kernel_rfl) (by kernel_rfl) ⟨t0, hr1⟩ ?_
    repeat
      (refine lin_light (A1 := ?_) rfl rfl rfl rfl rfl (fun w' hS K hK => ?_) ?_ ?_
       rotate_left
       · obtain ⟨s0, s1⟩ := hS; go_step; exact hK
       · rfl)
    refine lin_end ?_
    clear t0 t1 u0 u1 UM UT
    go_wp2_with fail
    refine wp_region_lin (fun w' => Below w1.heap.size w1 w') [6] (.block 0 (.block 1 (.block 3 (.block 4 (.scope (.seq (.label 2) (.scope (.seq (.label 5) (.loop (.block 6 (.skip))))))))))) (by kernel_rfl) (by kernel_rfl) (by kernel_rfl) (by kernel_rfl) (by kernel_rfl) hbd.drew ?_
    repeat
      (refine lin_light (A1 := ?_) rfl rfl rfl rfl rfl (fun w' hS K hK => ?_) ?_ ?_
       rotate_left
       · have hF := HF.out _ hS; obtain ⟨_, _, _, _⟩ := hF; go_step; exact hK
       · rfl)
    refine lin_group ?_
    refine lin_heavy rfl rfl (fun K hK => ?_)
    go_step
    refine (HRO.out _ (HF.out _ hbd.drew).2.2.2 hD).mono ?_
    rintro e w3 ⟨g, m, d, rfl, hn, hr, b3⟩
    have hb3 : Below w1.heap.size w1 w3 := hbd.drew.trans b3
    have HN := Lib.hid hn
    have hn2 : m ≤ 1000 := by omega
    have HR := Lib.hid hr
    clear hn hr
    simp only
    refine hK.out _ _ hb3 ?_
    clear hK K
    repeat
      (refine lin_light (A1 := ?_) rfl rfl rfl rfl rfl (fun w' hS K hK => ?_) ?_ ?_
       rotate_left
       · have hF := HF.out _ hS; obtain ⟨_, _, _, _⟩ := hF; go_step; exact hK
       · rfl)
    refine lin_group ?_
    refine lin_heavy rfl rfl (fun K hK => ?_)
    go_step
    refine (contains_ops s HR.out HN.out hn2).mono ?_
    rintro e w4 ⟨rfl, rfl⟩
    simp only
    refine hK.out _ _ hb3 ?_
    clear hK K
    try refine lin_late ?_
    repeat
      (refine lin_light (A1 := ?_) rfl rfl rfl rfl rfl (fun w' hS K hK => ?_) ?_ ?_
       rotate_left
       · clear hS; go_step; exact hK
       · rfl)
    refine lin_end ?_
    go_wp2_with fail
    go_ret
    exact ⟨by rw [HFIN.out]; rfl, b1.trans (hb3.mono b1.size)⟩
  · have hfin : textB (k : Nat) s = ve := by rw [HT.out, if_neg hA, if_neg hB, if_neg (by rw [hD1]; decide), if_neg hD]
    have hc : txtC k = [] := by unfold txtC; rw [if_neg hA, if_neg hB, if_neg (by rw [hD2]; decide), if_neg hD]
    rw [hc] at hr1
    have HFIN := Lib.hid hfin
    clear hfin hc
    refine wp_region_lin (fun w' => w'.cell? ⟨w.heap.size, 0, none⟩ = some (.int .i64 (k : Nat)) ∧ w'.cell? ⟨cb, 1 + k * 2, none⟩ = some (.string ⟨#[]⟩)) [] (.block 0 (.block 1 (.block 2 (.block 3 (.block 4 (.block 5 (.block 6 (.block 7 (.skip))))))))) (by kernel_rfl) (by kernel_rfl) (by kernel_rfl) (by kernel_rfl) (by kernel_rfl) ⟨t0, hr1⟩ ?_
    repeat
      (refine lin_light (A1 := ?_) rfl rfl rfl rfl rfl (fun w' hS K hK => ?_) ?_ ?_
       rotate_left
       · obtain ⟨s0, s1⟩ := hS; go_step; exact hK
       · rfl)
    refine lin_end ?_
    clear t0 t1
    go_wp2_with fail
    go_ret
    exact ⟨by rw [HFIN.out]; rfl, hbw⟩
end
end Go.Proofs.YtgnpgdjjdhlhaaaDoor
