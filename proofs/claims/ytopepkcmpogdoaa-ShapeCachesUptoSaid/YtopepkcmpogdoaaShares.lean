/- The walk of lintellaw14.ShapeShares. -/
import Derived.Test.YtopepkcmpogdoaaLawS
import Derived.Test.YtopepkcmpogdoaaAwake
import Derived.OwnWalk
namespace Go.Proofs.Ytopepkcmpogdoaa
open Go.RowKit
set_option maxHeartbeats 400000
set_option maxRecDepth 100000

/-- what a tree is made of -/
def partT : Obj → Prop
  | .cells _ t _ => t = 61 ∨ t = 75 ∨ t = 83
  | .map .. => True
  | _ => False
theorem IsTree.of_parts {B0 : Nat} {w w' : World} {b : Nat} {T : List (List Sl)} {f : WK → Option Int} (h : IsTree B0 w b T f) (hk : ∀ (i : Nat) (o : Obj), w.heap[i]? = some o → partT o → w'.heap[i]? = some o) : IsTree B0 w' b T f := by
  obtain ⟨vL, mw, sh, h⟩ := h
  refine ⟨vL, mw, sh, hk _ _ h.cells (Or.inl rfl), h.baseB, ?_, h.shl, fun i p l hp hl => ?_, h.baseM, ?_, h.one⟩
  · exact ownsRow_of_blocks h.row fun k hv => by
      obtain ⟨cs, hcs⟩ := own_block h.row k hv
      exact (hk _ _ hcs (Or.inr (Or.inl rfl))).trans hcs.symm
  · obtain ⟨h1, h2⟩ := h.shapes i p l hp hl
    refine ⟨h1.of_blocks (fun k hv => ?_) ?_, h2⟩
    · obtain ⟨cs, hcs⟩ := own_block h1.1 k hv
      exact (hk _ _ hcs (Or.inr (Or.inr rfl))).trans hcs.symm
    · obtain ⟨es, cl, hm⟩ := map_of_MapV h1.2.1
      exact (hk _ _ hm trivial).trans hm.symm
  · obtain ⟨es, cl, hm⟩ := map_of_MapV h.ways
    exact h.ways.of_block ((hk _ _ hm trivial).trans hm.symm)
/-- a step that writes one row of integers -/
theorem IsTree.grown {B0 base : Nat} {w w' : World} {b : Nat} {T : List (List Sl)} {f : WK → Option Int} {v : Value} {n : Nat} {xs : List Value} (h : IsTree B0 w b T f) (hr : w.ownsRow base 3 1 v n xs) (hg : w.grownBy w' v.ownBlock) : IsTree B0 w' b T f :=
  IsTree.of_parts h fun i o ho hp => by
    refine (hg.block i (Array.getElem?_eq_some_iff.1 ho).1 fun e => ?_).trans ho
    obtain ⟨cs, hcs⟩ := own_block hr i e.symm
    rw [hcs] at ho
    cases ho
    rcases hp with h | h | h <;> exact absurd h (by decide)
theorem row_fr {B base : Nat} {w w' : World} {v : Value} {n : Nat} {xs : List Value} (hr : w.ownsRow base 3 1 v n xs) (hF : Fr B touchT w w') : w'.ownsRow base 3 1 v n xs :=
  ownsRow_of_blocks hr fun k hk => by
    obtain ⟨cs, hcs⟩ := own_block hr k hk
    exact (hF.same _ _ hcs (by simp [touchT])).trans hcs.symm

theorem wf_inT {m : TM} {s : Int} (h : InT m s) (hm : m.1.length ≤ 1000) : (Lit.int .i64 s).wf = true := by
  obtain ⟨q, rfl⟩ : ∃ q : Nat, s = q := ⟨s.toNat, by have := h.1; omega⟩
  exact WalkArith.wf_i64 (by have := h.2; omega)
def pathL (l : List OpT) (k : Nat) : List Value := (List.range k).map fun i => .int .i64 (stS l (i + 1)).2
theorem pathL_succ (l : List OpT) (k : Nat) : pathL l (k + 1) = pathL l k ++ [.int .i64 (stS l (k + 1)).2] := by simp [pathL, List.range_succ]
theorem Try.info_int : (Try.prog.info? 3).map (fun i => (i.zero, i.size, i.bytes)) = some (some (.int .i64 0), 1, 8) := by kernel_rfl

theorem shares_any {w : World} {A : Option Addr} {c : Nat} {l : List OpT} (h : Ops w A l) (hok : ∀ o ∈ l, okOp o) (hl : l.length + fewS l ≤ 1099511627776) :
    Calls Try.prog 3 #[.slice A l.length c] w fun e w' => e = .returned (.bool true) ∧ Below w.heap.size w w' := by
  obtain ⟨i0, hi, hz0, hz1, hz2⟩ := info_parts Try.info_int
  go_enter Try.func3, Try.ntmps3
  go_wp2_with fail
  refine (awake_any _).mono ?_
  rintro e w1 ⟨rfl, hb1⟩
  simp only
  go_wp2_with fail
  have s1 := hb1.size
  refine (few_any (h.below hb1) hl).mono ?_
  rintro e w2 ⟨rfl, hb2⟩
  have s2 := hb2.size
  simp only
  by_cases hfew : l.length + fewS l ≤ 300
  · simp only [hfew, decide_true]
    have HL := Lib.hid hl
    clear hl
    go_wp2_with fail
    refine (new_any _).mono ?_
    rintro e w3 ⟨rfl, hT, hb3⟩
    have s3 := hb3.size
    have hl300 : l.length ≤ 300 := by omega
    have HF := Lib.hid hfew
    clear hfew
    simp only
    have hOps := (h.below hb1).below hb2
    go_wp2_with fail
    go_loopw [4, 5] (fun p t wr => ∃ j : Nat, j ≤ 2 ∧ t = .int .i64 j ∧ (∃ (ao : Option Addr) (cv : Nat), p = .slice ao (if j = 0 then 0 else l.length) cv) ∧ wr.ownsRow w2.heap.size 3 1 p (if j = 0 then 0 else l.length) (pathL l (if j = 0 then 0 else l.length)) ∧
        IsTree w2.heap.size wr (w2.heap.size + 3) (stS l (if j = 0 then 0 else l.length)).1.1 (stS l (if j = 0 then 0 else l.length)).1.2 ∧ Below w2.heap.size w2 wr)
      (fun _ t _ => 2 - (intOf t).toNat)
    case atStart => exact ⟨0, by omega, rfl, ⟨none, 0, rfl⟩, World.ownsRow_nil _ _ _ _, by rw [if_pos rfl, stS_zero]; exact hT, hb3⟩
    case round =>
      obtain ⟨j, hj, rfl, ⟨ao, cv, rfl⟩, hrow, hTj, hbj⟩ := hrel
      rcases (show j = 0 ∨ j = 1 ∨ j = 2 from by omega) with rfl | rfl | rfl
      · simp only [↓reduceIte] at hrow hTj
        go_wp2_with fail
        go_loopw [4, 6, 30] (fun p s i wr' => ∃ k : Nat, k ≤ l.length ∧ i = .int .i64 k ∧ s = .int .i64 (stS l k).2 ∧ (∃ (ao : Option Addr) (cv : Nat), p = .slice ao k cv) ∧ wr'.ownsRow w2.heap.size 3 1 p k (pathL l k) ∧
            IsTree w2.heap.size wr' (w2.heap.size + 3) (stS l k).1.1 (stS l k).1.2 ∧ Below w2.heap.size w2 wr')
          (fun _ _ i _ => l.length - (intOf i).toNat)
        case atStart => exact ⟨0, Nat.zero_le _, rfl, by rw [stS_zero], ⟨ao, cv, by simp⟩, by simpa using hrow, hTj, hbj⟩
        case round =>
          obtain ⟨k, hk, rfl, rfl, ⟨ao, cv, rfl⟩, hrow, hT1, hb1'⟩ := hrel
          by_cases hlt : k < l.length
          · obtain ⟨o, ho⟩ : ∃ o, l[k]? = some o := ⟨l[k], List.getElem?_eq_getElem hlt⟩
            obtain ⟨b, off, hAe, c0, c1, c2, c3, c4, c5⟩ := hOps.below hb1' k o ho
            have hoo := hok o (List.mem_of_getElem? ho)
            obtain ⟨o1, o2, ⟨o3, o4⟩, o5, o6⟩ := o
            simp only at c0 c1 c2 c3 c4 c5
            subst hAe
            have hsucc := stS_succ l k _ ho
            obtain ⟨g1, g2, g3, g4⟩ := stS_good l k hk
            go_wp2_with fail
            clear c0 c1 c2 c3 c4 c5
            have hsz := hb1'.size
            refine (add_any (hT1.below ((Below.refl _ _).alloc (Nat.le_refl _) _)) (stS l k).2 (o3, o4) o5 hoo.2.2.1 (wf_inT g2 (by omega)) hoo.2.2.2.1 (by omega) (by simp; omega)).mono ?_
            rintro e W2 ⟨rfl, hT2, hF2⟩
            change stS l (k + 1) = ((addM (stS l k).1 (stS l k).2 (o3, o4) o5).1, if (addM (stS l k).1 (stS l k).2 (o3, o4) o5).2.2 ≠ 0 then (stS l k).2 else (addM (stS l k).1 (stS l k).2 (o3, o4) o5).2.1) at hsucc
            change IsTree _ W2 _ (addM (stS l k).1 (stS l k).2 (o3, o4) o5).1.1 (addM (stS l k).1 (stS l k).2 (o3, o4) o5).1.2 at hT2
            have hrow2 := row_fr (hrow.alloc (.cells #[.int .i64 o1, .int .i64 o2, .string o3, .int .i64 o4, .int .i64 o5, .int .i64 o6] 32)) hF2
            have hbW : Below w2.heap.size w2 W2 := (hb1'.alloc hb1'.size _).trans hF2.below
            have hszW := hbW.size
            simp only [show addM ((stS l k).1.1, (stS l k).1.2) (stS l k).2 (o3, o4) o5 = addM (stS l k).1 (stS l k).2 (o3, o4) o5 from rfl]
            generalize addM (stS l k).1 (stS l k).2 (o3, o4) o5 = a at *
            obtain ⟨m', x, er⟩ := a
            simp only at hsucc hT2
            have HSU := Lib.hid hsucc
            have HT2 := Lib.hid hT2
            have HR2 := Lib.hid hrow2
            clear hsucc hT2 hrow2 hrow
            by_cases her : er = 0
            · subst her
              have exs : stS l (k + 1) = (m', x) := by rw [HSU.out, if_neg (by simp)]
              go_wp2_with (at_builtin; refine wpList_append_own _ rfl _ _ 27 rfl w2.heap.size 3 i0 _ 1 8 Try.underlying27 hi hz0 hz1 hz2 rfl (by decide) _ _ _ rfl (HR2.out.alloc _) ⟨W2.heap.size, 0, none⟩ 1 1 [.int .i64 x] rfl rfl (cell_one_new _ _ _) (by simp [Value.oneCell']) (by unfold maxLen; omega) (by omega) (by simp; omega) ?_; intro v' W3 hown' hgrow3 hnil3; obtain ⟨g', cap', rfl⟩ := ownsRow_succ hown')
              go_roundw
              case rel => (repeat apply Exists.intro); exact ⟨⟨k + 1, by omega, by go_num, by rw [exs], ⟨_, _, rfl⟩, by rw [pathL_succ, exs]; exact hown',
                by rw [exs]; exact (HT2.out.below ((Below.refl _ _).alloc (Nat.le_refl _) _)).grown (HR2.out.alloc _) hgrow3, (hbW.alloc hszW _).grown hgrow3 (by simp; omega) (fun q hq => (HR2.out.lt q hq).1)⟩, rfl⟩
              case measure => simp [intOf]; omega
            · have her' : decide (er = 0) = false := by simpa using her
              have exs : stS l (k + 1) = (m', (stS l k).2) := by rw [HSU.out, if_pos (by simpa using her)]
              go_wp2_with (at_builtin; refine wpList_append_own _ rfl _ _ 27 rfl w2.heap.size 3 i0 _ 1 8 Try.underlying27 hi hz0 hz1 hz2 rfl (by decide) _ _ _ rfl (HR2.out.alloc _) ⟨W2.heap.size, 0, none⟩ 1 1 [.int .i64 (stS l k).2] rfl rfl (cell_one_new _ _ _) (by simp [Value.oneCell']) (by unfold maxLen; omega) (by omega) (by simp; omega) ?_; intro v' W3 hown' hgrow3 hnil3; obtain ⟨g', cap', rfl⟩ := ownsRow_succ hown')
              go_roundw
              case rel => (repeat apply Exists.intro); exact ⟨⟨k + 1, by omega, by go_num, by rw [exs], ⟨_, _, rfl⟩, by rw [pathL_succ, exs]; exact hown',
                by rw [exs]; exact (HT2.out.below ((Below.refl _ _).alloc (Nat.le_refl _) _)).grown (HR2.out.alloc _) hgrow3, (hbW.alloc hszW _).grown hgrow3 (by simp; omega) (fun q hq => (HR2.out.lt q hq).1)⟩, rfl⟩
              case measure => simp [intOf]; omega
          · obtain rfl : k = l.length := by omega
            go_wp2_with fail
            exact ⟨⟨1, by omega, rfl, ⟨ao, cv, by simp⟩, by simpa using hrow, by simpa using hT1, hb1'⟩, by simp [intOf]⟩
      · simp only [show ¬ (1 = 0) from by omega, ↓reduceIte] at hrow hTj
        go_wp2_with fail
        go_loopw [4, 6, 30] (fun p s i wr' => ∃ k : Nat, k ≤ l.length ∧ i = .int .i64 k ∧ p = .slice ao l.length cv ∧ s = .int .i64 (stS l k).2 ∧ wr'.ownsRow w2.heap.size 3 1 (.slice ao l.length cv) l.length (pathL l l.length) ∧
            IsTree w2.heap.size wr' (w2.heap.size + 3) (stS l l.length).1.1 (stS l l.length).1.2 ∧ Below w2.heap.size w2 wr')
          (fun _ _ i _ => l.length - (intOf i).toNat)
        case atStart => exact ⟨0, Nat.zero_le _, rfl, rfl, by rw [stS_zero], hrow, hTj, hbj⟩
        case round =>
          obtain ⟨k, hk, rfl, rfl, rfl, hrow, hT1, hb1'⟩ := hrel
          by_cases hlt : k < l.length
          · obtain ⟨o, ho⟩ : ∃ o, l[k]? = some o := ⟨l[k], List.getElem?_eq_getElem hlt⟩
            obtain ⟨b, off, hAe, c0, c1, c2, c3, c4, c5⟩ := hOps.below hb1' k o ho
            have hoo := hok o (List.mem_of_getElem? ho)
            have hagain := stS_again l k o ho
            have hsucc := stS_succ l k o ho
            obtain ⟨o1, o2, ⟨o3, o4⟩, o5, o6⟩ := o
            simp only at c0 c1 c2 c3 c4 c5 hagain
            subst hAe
            obtain ⟨g1, g2, g3, g4⟩ := stS_good l l.length (Nat.le_refl _)
            obtain ⟨g5, g6, g7, g8⟩ := stS_good l k hk
            obtain ⟨gp, cp, hap, _, _⟩ := hrow.form (by omega)
            have hao : ao = some ⟨gp, 0, none⟩ := by injection hap
            subst hao
            clear hap
            go_wp2_with fail
            clear c0 c1 c2 c3 c4 c5
            have hsz := hb1'.size
            refine (add_any (hT1.below ((Below.refl _ _).alloc (Nat.le_refl _) _)) (stS l k).2 (o3, o4) o5 hoo.2.2.1 (wf_inT g6 (by omega)) hoo.2.2.2.1 (by omega) (by simp; omega)).mono ?_
            rintro e W2 ⟨rfl, hT2, hF2⟩
            change stS l (k + 1) = ((addM (stS l k).1 (stS l k).2 (o3, o4) o5).1, if (addM (stS l k).1 (stS l k).2 (o3, o4) o5).2.2 ≠ 0 then (stS l k).2 else (addM (stS l k).1 (stS l k).2 (o3, o4) o5).2.1) at hsucc
            change IsTree _ W2 _ (addM (stS l l.length).1 (stS l k).2 (o3, o4) o5).1.1 (addM (stS l l.length).1 (stS l k).2 (o3, o4) o5).1.2 at hT2
            rw [hagain] at hT2
            have hrow2 := row_fr (hrow.alloc (.cells #[.int .i64 o1, .int .i64 o2, .string o3, .int .i64 o4, .int .i64 o5, .int .i64 o6] 32)) hF2
            have hbW : Below w2.heap.size w2 W2 := (hb1'.alloc hb1'.size _).trans hF2.below
            have hszW := hbW.size
            simp only [show addM ((stS l l.length).1.1, (stS l l.length).1.2) (stS l k).2 (o3, o4) o5 = addM (stS l l.length).1 (stS l k).2 (o3, o4) o5 from rfl, hagain]
            have hpc := hrow2.cells (g := gp) rfl k (.int .i64 (stS l (k + 1)).2) (by simp [pathL, hlt])
            simp only [Addr.add_lit, Nat.zero_add] at hpc
            clear hagain
            generalize addM (stS l k).1 (stS l k).2 (o3, o4) o5 = a at *
            obtain ⟨m', x, er⟩ := a
            simp only at hsucc hT2
            have HSU := Lib.hid hsucc
            have HT2 := Lib.hid hT2
            have HR2 := Lib.hid hrow2
            clear hsucc hT2 hrow2 hrow
            by_cases her : er = 0
            · subst her
              have exs : stS l (k + 1) = (m', x) := by rw [HSU.out, if_neg (by simp)]
              rw [exs] at hpc
              go_wp2_with fail
              go_roundw
              case rel => first | exact ⟨k + 1, by omega, by go_num, rfl, by rw [exs], HR2.out, HT2.out, hbW⟩ | ((repeat apply Exists.intro); exact ⟨⟨k + 1, by omega, by go_num, rfl, by rw [exs], HR2.out, HT2.out, hbW⟩, rfl⟩)
              case measure => simp [intOf]; omega
            · have her' : decide (er = 0) = false := by simpa using her
              have exs : stS l (k + 1) = (m', (stS l k).2) := by rw [HSU.out, if_pos (by simpa using her)]
              rw [exs] at hpc
              go_wp2_with fail
              go_roundw
              case rel => first | exact ⟨k + 1, by omega, by go_num, rfl, by rw [exs], HR2.out, HT2.out, hbW⟩ | ((repeat apply Exists.intro); exact ⟨⟨k + 1, by omega, by go_num, rfl, by rw [exs], HR2.out, HT2.out, hbW⟩, rfl⟩)
              case measure => simp [intOf]; omega
          · obtain rfl : k = l.length := by omega
            go_wp2_with fail
            exact ⟨⟨2, by omega, rfl, ⟨ao, cv, by simp⟩, by simpa using hrow, by simpa using hT1, hb1'⟩, by simp [intOf]⟩
      · simp only [show ¬ (2 = 0) from by omega, ↓reduceIte] at hrow hTj
        go_wp2_with fail
        refine (len_tree hTj).mono ?_
        rintro e w' ⟨rfl, rfl⟩
        simp only
        obtain ⟨gd1, gd2, gd3, gd4⟩ := stS_good l l.length (Nat.le_refl _)
        have hT1k : (stS l l.length).1.1.length ≤ 301 := by omega
        go_wp2_with fail
        go_loopw [66] (fun i wr' => ∃ k : Nat, k ≤ l.length ∧ i = .int .i64 k ∧ wr'.ownsRow w2.heap.size 3 1 (.slice ao l.length cv) l.length (pathL l l.length) ∧
            IsTree w2.heap.size wr' (w2.heap.size + 3) (stS l l.length).1.1 (stS l l.length).1.2 ∧ Below w2.heap.size w2 wr')
          (fun i _ => l.length - (intOf i).toNat)
        case atStart => exact ⟨0, Nat.zero_le _, rfl, hrow, hTj, hbj⟩
        case round =>
          obtain ⟨k, hk, rfl, hrow, hT1, hb1'⟩ := hrel
          by_cases hlt : k < l.length
          · obtain ⟨gp, cp, hap, _, _⟩ := hrow.form (by omega)
            have hao : ao = some ⟨gp, 0, none⟩ := by injection hap
            subst hao
            clear hap
            have hpc := hrow.cells (g := gp) rfl k (.int .i64 (stS l (k + 1)).2) (by simp [pathL, hlt])
            simp only [Addr.add_lit, Nat.zero_add] at hpc
            obtain ⟨hi1, hi2⟩ := stS_told l (k + 1) (by omega)
            go_wp2_with fail
            refine (keys_any hT1 (stS l (k + 1)).2).mono ?_
            rintro e W2 ⟨v, rfl, hv, hbv⟩
            rw [if_pos (show 0 ≤ (stS l (k + 1)).2 ∧ (stS l (k + 1)).2 < ((stS l l.length).1.1.length : Int) from hi1)]
            obtain ⟨vA, vc, rfl, _, _⟩ := row_slice hv
            simp only
            have hgt : decide ((k : Int) + 1 < ((atShape (stS l l.length).1.1 (stS l (k + 1)).2).length : Int)) = false := by simp; omega
            generalize (atShape (stS l l.length).1.1 (stS l (k + 1)).2).length = n at *
            have hT2 := hT1.below hbv
            have hR2 := ownsRow_of_blocks (w' := W2) hrow fun q hq => hbv.block q (hrow.lt q hq).2
            go_wp2_with fail
            go_roundw
            case rel => first | exact ⟨k + 1, by omega, by go_num, hR2, hT2, hb1'.trans (hbv.mono hb1'.size)⟩ | ((repeat apply Exists.intro); exact ⟨⟨k + 1, by omega, by go_num, hR2, hT2, hb1'.trans (hbv.mono hb1'.size)⟩, rfl⟩)
            case measure => simp [intOf]; omega
          · obtain rfl : k = l.length := by omega
            go_wp2_with fail
            refine (len_tree hT1).mono ?_
            rintro e w' ⟨rfl, rfl⟩
            simp only
            go_wp2_with fail
            go_ret
            exact ⟨rfl, (hb1.trans (hb2.mono s1)).trans (hb1'.mono (by omega))⟩
  · simp only [hfew, decide_false]
    go_wp2_with fail
    go_ret
    exact ⟨rfl, hb1.trans (hb2.mono s1)⟩
end Go.Proofs.Ytopepkcmpogdoaa
