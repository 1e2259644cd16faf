/- The walks of units.Join and lintelref01.Join. -/
import Derived.Test.YthmdlnmbjgokaaaDoorUOf
import Derived.Test.YthmdlnmbjgokaaaDoorULawB
import Derived.Test.YthmdlnmbjgokaaaDoorFr
import Derived.Laws.AppendOwnNone
namespace Go.Proofs.YthmdlnmbjgokaaaDoor
open Go.RowKit
set_option maxHeartbeats 4000000
set_option maxRecDepth 100000

/-- all units of texts -/
def totU (l : List ByteArray) : List Int := l.flatMap U
theorem totU_append (a b : List ByteArray) : totU (a ++ b) = totU a ++ totU b := by simp [totU]
theorem take_snocB {α : Type} (l : List α) (k : Nat) (x : α) (h : l[k]? = some x) : l.take (k + 1) = l.take k ++ [x] := by
  rw [List.take_add_one, h]; rfl
theorem totU_take {l : List ByteArray} {k : Nat} {s : ByteArray} (h : l[k]? = some s) : totU (l.take (k + 1)) = totU (l.take k) ++ U s := by
  rw [take_snocB l k s h, totU_append]
  simp [totU]
theorem totU_ok (l : List ByteArray) : okU (totU l) := by
  intro u hu
  obtain ⟨s, _, h⟩ := List.mem_flatMap.1 hu
  exact U_ok s u h
theorem totU_le (l : List ByteArray) (k : Nat) : (totU (l.take k)).length ≤ (totU l).length := by
  conv => rhs; rw [← List.take_append_drop k l]
  rw [totU_append, List.length_append]
  omega
theorem strCells_even (s : ByteArray) : Lib.strCells (evenB s) = cellsN (bytesOf (U s)) := by
  rw [← makeB_U]
  exact strCells_str (bytes_ok (U_ok s))
/-- what Join answers -/
def joinR (l : List ByteArray) : Array Value := if 65536 < (totU l).length then #[.string ⟨#[]⟩, .int .i64 2] else #[.string (makeB (totU l)), .int .i64 0]

theorem unitsJoin_any (l : List ByteArray) (A : Option Addr) (n c : Nat) (w : World) (h : Rd w w.heap.size A (l.map Value.string)) (hl : l.length = n) (hn : n ≤ 1000) (hsz : ∀ s ∈ l, s.size ≤ 4000) :
    Calls Tryd.prog 21 #[.slice A n c] w fun e w' => e = .returned (.tuple (joinR l)) ∧ Below w.heap.size w w' := by
  have hI0 := (Lib.IsBuilderF.of (Lib.fresh_isBuilder 65 5 w))
  have hb0 := (Below.refl w.heap.size w).alloc (Nat.le_refl _) (.cells #[.pointer none, .slice none 0 0] 65)
  have Hl := Lib.hid hl
  obtain ⟨R, hR⟩ : ∃ R, joinR l = R := ⟨_, rfl⟩
  have HR := Lib.hid hR
  rw [hR]
  have HSZ := Lib.hid hsz
  clear hl hR hsz
  go_enter Tryd.func21, Tryd.ntmps21
  go_wp2_with fail
  go_loopw [4, 10] (fun nv i wr => ∃ k : Nat, k ≤ n ∧ i = .int .i64 k ∧ (∃ T : Nat, (totU (l.take k)).length = T ∧ T ≤ 65536 ∧ nv = .int .i64 T) ∧ Lib.IsBuilderF 65 5 w.heap.size w.heap.size (cellsN (bytesOf (totU (l.take k)))) wr ∧ Below w.heap.size w wr)
    (fun _ i _ => n - (intOf i).toNat)
  case atStart => exact ⟨0, Nat.zero_le _, rfl, ⟨0, rfl, by omega, rfl⟩, hI0, hb0⟩
  case round =>
    obtain ⟨k, hk, rfl, ⟨T, hT, hT1, rfl⟩, hI, hb⟩ := hrel
    have hszb := hb.size
    have HT := Lib.hid hT
    clear hT
    by_cases hlt : k < n
    · obtain ⟨s, hs⟩ : ∃ s, l[k]? = some s := ⟨l[k]'(by have := Hl.out; omega), List.getElem?_eq_getElem _⟩
      have hs4 := HSZ.out s (List.mem_of_getElem? hs)
      have hsm : s.size ≤ maxLen := by unfold maxLen; omega
      have hrd := h.below hb
      obtain ⟨ad, rfl, _, hc⟩ := hrd.at_ (k := k) (u := .string s) (by rw [List.getElem?_map, hs]; rfl)
      have HTK := Lib.hid (totU_take hs)
      have h1 := fun w => len_any s w hsm
      have hUl := U_length s
      obtain ⟨m, hm⟩ : ∃ m, s.size / 2 = m := ⟨_, rfl⟩
      have hm2 : (s.size : Int) / 2 = m := by omega
      have hm4 : m ≤ 2000 := by omega
      rw [hm] at hUl
      rw [hm2] at h1
      have HUL := Lib.hid hUl
      clear hrd hs hUl hm2
      go_wp2_with fail
      refine (h1 _).mono ?_
      rintro e w1 ⟨rfl, rfl⟩
      simp only
      by_cases hbig : 65536 < (T : Int) + m
      · have hfin : R = #[.string ⟨#[]⟩, .int .i64 2] := by
          rw [← HR.out]
          unfold joinR
          rw [if_pos]
          have h2 := totU_le l (k + 1)
          rw [HTK.out, List.length_append, HT.out, HUL.out] at h2
          omega
        have HF := Lib.hid hfin
        clear hfin
        go_wp2_with fail
        go_ret2
        exact ⟨by rw [HF.out]; rfl, hb⟩
      · go_wp2_with fail
        refine (even_any s _ hsm).mono ?_
        rintro e w2 ⟨rfl, rfl⟩
        simp only
        have hel : (evenB s).size = m * 2 := by rw [evenB_size, hm]
        go_wp2_with fail
        refine (writeString_any w.heap.size w.heap.size _ (evenB s) _ hI (by rw [cellsN_length, bytesOf_length, HT.out]; omega) hszb).mono ?_
        rintro e w2 ⟨rfl, h2, b2, _⟩
        simp only
        go_wp2_with fail
        go_roundw
        case rel =>
          rw [strCells_even, ← cellsN_append, ← bytesOf_append, ← HTK.out] at h2
          have hTn : (totU (l.take (k + 1))).length = T + m := by rw [HTK.out, List.length_append, HT.out, HUL.out]
          exact ⟨k + 1, by omega, by go_num, ⟨T + m, hTn, by omega, by go_num⟩, .inr h2, hb.trans b2⟩
        case measure => simp [intOf]; omega
    · obtain rfl : k = n := by omega
      have htk : l.take k = l := List.take_of_length_le (by have := Hl.out; omega)
      rw [htk] at hI
      have hfin : R = #[.string (makeB (totU l)), .int .i64 0] := by
        rw [← HR.out]
        unfold joinR
        rw [if_neg]
        have h2 := HT.out
        rw [htk] at h2
        omega
      have HF := Lib.hid hfin
      clear hfin htk
      go_wp2_with fail
      refine (string_any w.heap.size w.heap.size (bytesOf (totU l)) (bytes_ok (totU_ok l)) _ hI hszb).mono ?_
      rintro e w1 ⟨rfl, b1⟩
      simp only
      go_wp2_with fail
      go_ret2
      exact ⟨by rw [HF.out]; rfl, hb.trans b1⟩

theorem refJoin_any (l : List ByteArray) (A : Option Addr) (n c : Nat) (w : World) (h : Rd w w.heap.size A (l.map Value.string)) (hl : l.length = n) (hn : n ≤ 1000) (hsz : ∀ s ∈ l, s.size ≤ 4000) (htot : (totU l).length ≤ 1048576) :
    Calls Tryd.prog 22 #[.slice A n c] w fun e w' => e = .returned (.tuple (joinR l)) ∧ Below w.heap.size w w' := by
  obtain ⟨i0, hi, hz0, hz1, hz2⟩ := info_parts Tryd.info_u16
  have Hl := Lib.hid hl
  obtain ⟨R, hR⟩ : ∃ R, joinR l = R := ⟨_, rfl⟩
  have HR := Lib.hid hR
  rw [hR]
  have HSZ := Lib.hid hsz
  have HTOT := Lib.hid htot
  clear hl hR hsz htot
  go_enter Tryd.func22, Tryd.ntmps22
  go_wp2_with fail
  go_loopw [4, 9] (fun v i wr => ∃ k : Nat, k ≤ n ∧ i = .int .i64 k ∧ (∃ T : Nat, (totU (l.take k)).length = T ∧ wr.ownsRow w.heap.size 54 1 v T ((totU (l.take k)).map (Value.int .u16))) ∧ Below w.heap.size w wr)
    (fun _ i _ => n - (intOf i).toNat)
  case atStart => exact ⟨0, Nat.zero_le _, rfl, ⟨0, rfl, World.ownsRow_nil _ _ _ _⟩, Below.refl _ _⟩
  case round =>
    obtain ⟨k, hk, rfl, ⟨T, hT, hown⟩, hb⟩ := hrel
    have hszb := hb.size
    have HT := Lib.hid hT
    clear hT
    have hT1 : T ≤ 1048576 := by have h1 := totU_le l k; have h2 := HTOT.out; rw [HT.out] at h1; omega
    by_cases hlt : k < n
    · obtain ⟨s, hs⟩ : ∃ s, l[k]? = some s := ⟨l[k]'(by have := Hl.out; omega), List.getElem?_eq_getElem _⟩
      have hs4 := HSZ.out s (List.mem_of_getElem? hs)
      have hrd := h.below hb
      obtain ⟨ad, rfl, _, hc⟩ := hrd.at_ (k := k) (u := .string s) (by rw [List.getElem?_map, hs]; rfl)
      have HTK := Lib.hid (totU_take hs)
      have hUl := U_length s
      have h1 := fun w => units_any s w (by omega)
      obtain ⟨m, hm⟩ : ∃ m, s.size / 2 = m := ⟨_, rfl⟩
      have hm4 : m ≤ 2000 := by omega
      rw [hm] at hUl
      have h1 : ∀ w, Calls Tryd.prog 24 #[.string s] w fun e w' => ∃ v, e = .returned v ∧ w'.ownsRow w.heap.size 54 1 v m ((U s).map (Value.int .u16)) ∧ Below w.heap.size w w' := by rw [← hm]; exact h1
      have HUL := Lib.hid hUl
      clear hrd hs hUl hm
      go_wp2_with fail
      refine (h1 _).mono ?_
      rintro e w1 ⟨v1, rfl, hown1, hb1⟩
      have hown2 := ownsRow_of_blocks (w' := w1) hown fun j hj => hb1.block j (hown.lt j hj).2
      have hbb : Below w.heap.size w w1 := hb.trans (hb1.mono hszb)
      have hszc := hb1.size
      simp only
      have hrd1 := hown1
      rcases hown1.2 with ⟨rfl, hm0⟩ | ⟨g, cap, cur, rfl, _⟩
      · subst hm0
        go_wp2_with (at_builtin; refine wpList_append_own_none rfl _ _ _ rfl w.heap.size 54 i0 1 Tryd.underlying33 hi _ T _ rfl hown2 rfl ?_)
        go_roundw
        case rel =>
          have hTn : (totU (l.take (k + 1))).length = T := by rw [HTK.out, List.length_append, HT.out, HUL.out]; rfl
          have hUs : U s = [] := List.eq_nil_of_length_eq_zero HUL.out
          refine ⟨k + 1, by omega, by go_num, ⟨T, hTn, ?_⟩, hbb⟩
          rw [HTK.out, hUs, List.append_nil]
          exact hown2
        case measure => simp [intOf]; omega
      · go_wp2_with (at_builtin; (refine wpList_append_own _ rfl _ _ _ rfl w.heap.size 54 i0 _ 1 2 Tryd.underlying33 hi hz0 hz1 hz2 rfl (by omega) _ T _ rfl hown2 ⟨g, 0, none⟩ m cap ((U s).map (Value.int .u16)) rfl (by rw [List.length_map, HUL.out]; omega) (fun j u hu => hown1.cells (g := g) rfl j u hu) (by intro u hu; obtain ⟨x, _, rfl⟩ := List.mem_map.1 hu; rfl) (by unfold maxLen; omega) (by omega) (by omega) ?_))
        intro v2 w2 hown3 hgrow _
        go_wp2_with fail
        go_roundw
        case rel =>
          have hTn : (totU (l.take (k + 1))).length = T + m := by rw [HTK.out, List.length_append, HT.out, HUL.out]
          refine ⟨k + 1, by omega, by go_num, ⟨T + m, hTn, ?_⟩, hbb.grown hgrow (by omega) (fun j hj => (hown2.lt j hj).1)⟩
          rw [HTK.out, List.map_append]
          exact hown3
        case measure => simp [intOf]; omega
    · obtain rfl : k = n := by omega
      have htk : l.take k = l := List.take_of_length_le (by have := Hl.out; omega)
      rw [htk] at hown HT
      obtain ⟨A2, c2, rfl⟩ := own_form hown
      by_cases hbig : 65536 < T
      · have hfin : R = #[.string ⟨#[]⟩, .int .i64 2] := by
          rw [← HR.out]
          unfold joinR
          rw [if_pos]
          rw [HT.out]; exact hbig
        have HF := Lib.hid hfin
        clear hfin htk
        go_wp2_with fail
        go_ret2
        exact ⟨by rw [HF.out]; rfl, hb⟩
      · have hfin : R = #[.string (makeB (totU l)), .int .i64 0] := by
          rw [← HR.out]
          unfold joinR
          rw [if_neg]
          rw [HT.out]; exact hbig
        have HF := Lib.hid hfin
        clear hfin htk
        go_wp2_with fail
        refine (make_any (totU l) A2 T c2 _ (Rd.of_own hown) HT.out (totU_ok l) hT1).mono ?_
        rintro e w1 ⟨rfl, b1⟩
        simp only
        go_wp2_with fail
        go_ret2
        exact ⟨by rw [HF.out]; rfl, hb.trans (b1.mono hszb)⟩
end Go.Proofs.YthmdlnmbjgokaaaDoor
