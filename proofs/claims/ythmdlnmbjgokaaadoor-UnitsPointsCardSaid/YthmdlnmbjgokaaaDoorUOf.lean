/- The walks of units.Units, At, Of. -/
import Derived.Test.YthmdlnmbjgokaaaDoorUMake
import Derived.Lib.RuneCountTail
import Derived.Deep.OwnRows
namespace Go.Proofs.YthmdlnmbjgokaaaDoor
open Go.RowKit
set_option maxHeartbeats 2000000
set_option maxRecDepth 100000

theorem ownsRowF_below {w w' : World} {B : Nat} {e : TypeId} {size n : Nat} {v : Value} {xs : List Value} (h : w.ownsRowF B e size v n xs) (hb : Below w.heap.size w w') : w'.ownsRowF B e size v n xs := by
  obtain ⟨h1, h2⟩ := h
  refine ⟨h1, ?_⟩
  rcases h2 with h2 | ⟨g, cap, cur, fz, a, b, c, d⟩
  · exact .inl h2
  · refine .inr ⟨g, cap, cur, fz, a, b, ?_, d⟩
    rw [hb.block g (Array.getElem?_eq_some_iff.1 c).1]
    exact c
theorem builderF_below {w w' : World} {B b : Nat} {bs : List Value} {T e : TypeId} (h : Lib.IsBuilderF T e B b bs w) (hb : Below w.heap.size w w') : Lib.IsBuilderF T e B b bs w' := by
  rcases h with ⟨hB, v, h1, h2, h3⟩ | ⟨hB, v, h1, h2, h3⟩
  · exact .inl ⟨hB, v, by rw [hb.block b (Array.getElem?_eq_some_iff.1 h1).1]; exact h1, ownsRowF_below h2 hb, h3⟩
  · exact .inr ⟨hB, v, by rw [hb.block b (Array.getElem?_eq_some_iff.1 h1).1]; exact h1, ownsRowF_below h2 hb, h3⟩

theorem at_any (s : ByteArray) (i : Int) (w : World) (hs : s.size ≤ maxLen) :
    Calls Tryd.prog 29 #[.string s, .int .i64 i] w fun e w' => e = .returned (.tuple (if 0 ≤ i ∧ i < (s.size : Int) / 2 then #[.int .u16 (unitAt s i.toNat), .bool true] else #[.int .u16 0, .bool false])) ∧ Below w.heap.size w w' := by
  by_cases c0 : i < 0
  · rw [if_neg (by omega)]
    go_enter Tryd.func29, Tryd.ntmps29
    go_wp2_with fail
    go_ret2
    exact ⟨rfl, Below.refl _ _⟩
  by_cases c1 : i < (s.size : Int) / 2
  · obtain ⟨k, rfl⟩ : ∃ k : Nat, i = k := ⟨i.toNat, by omega⟩
    rw [if_pos (by omega)]
    go_enter Tryd.func29, Tryd.ntmps29
    go_wp2_with fail
    refine (len_any s _ hs).mono ?_
    rintro e w1 ⟨rfl, rfl⟩
    simp only
    go_wp2_with fail
    refine (unit_any s k _ (by omega) hs).mono ?_
    rintro e w2 ⟨rfl, rfl⟩
    simp only
    go_wp2_with fail
    go_ret2
    exact ⟨rfl, (Below.refl _ w).drew⟩
  · rw [if_neg (by omega)]
    go_enter Tryd.func29, Tryd.ntmps29
    go_wp2_with fail
    refine (len_any s _ hs).mono ?_
    rintro e w1 ⟨rfl, rfl⟩
    simp only
    go_wp2_with fail
    go_ret2
    exact ⟨rfl, Below.refl _ _⟩

theorem unitsUnits_any (s : ByteArray) (w : World) (hs : s.size ≤ 1048576) :
    Calls Tryd.prog 23 #[.string s] w fun e w' => ∃ v, e = .returned v ∧ w'.ownsRow w.heap.size 54 1 v (s.size / 2) ((U s).map (Value.int .u16)) ∧ Below w.heap.size w w' := by
  obtain ⟨i0, hi, hz0, hz1, hz2⟩ := info_parts Tryd.info_u16
  have he2 : ((s.size / 2 * 2 : Nat) : Int) / 2 = ((s.size / 2 : Nat) : Int) := by omega
  obtain ⟨n, hn⟩ : ∃ n, n = s.size / 2 := ⟨_, rfl⟩
  have hes : (evenB s).size = n * 2 := by rw [evenB_size, hn]
  have hes2 : ((evenB s).size : Int) / 2 = n := by omega
  have HN := Lib.hid hn
  have HES := Lib.hid hes
  have hn1 : n ≤ 524288 := by omega
  unfold U
  rw [← hn]
  clear hn hes
  obtain ⟨w0, hmk, how0, hg0⟩ := run_make_own (P := Tryd.prog) w w.heap.size 33 54 i0 _ 1 Tryd.underlying33 hi hz0 hz1 .i64 .i64 n (by rw [hz2]; omega) (by unfold maxLen; omega) (Nat.le_refl _)
  go_enter Tryd.func23, Tryd.ntmps23
  go_wp2_with fail
  refine (even_any s _ (by unfold maxLen; omega)).mono ?_
  rintro e w1 ⟨rfl, rfl⟩
  simp only
  go_wp2_with fail
  go_loopw [4, 15] (fun v i wr => ∃ k : Nat, k ≤ n ∧ i = .int .i64 k ∧ wr.ownsRow w1.heap.size 54 1 v k ((unitsTo s k).map (Value.int .u16)) ∧ Below w1.heap.size w1 wr)
    (fun _ i _ => n - (intOf i).toNat)
  case atStart => exact ⟨0, by omega, rfl, how0, (Below.refl _ w1).grown hg0 (Nat.le_refl _) (fun j hj => by cases hj)⟩
  case round =>
    obtain ⟨k, hk, rfl, hown, hb⟩ := hrel
    by_cases hlt : k < n
    · go_wp2_with fail
      refine (unit_any (evenB s) k _ (by have := HES.out; omega) (by have := HES.out; unfold maxLen; omega)).mono ?_
      rintro e w2 ⟨rfl, rfl⟩
      rw [unitAt_even s k (by have := HN.out; omega)]
      simp only
      go_wp2_with (at_builtin; refine wpList_append_lies _ rfl _ _ _ rfl w1.heap.size 54 i0 _ 1 2 Tryd.underlying33 hi hz0 hz1 hz2 rfl (by omega) _ k _ rfl (hown.drew.alloc _) ⟨wr.heap.size, 0, none⟩ 1 1 [.int .u16 (unitAt s k)] rfl rfl (World.news_of_block (cs := #[.int .u16 (unitAt s k)]) (t := 54) (fr := (0, 0)) (heap_alloc_new wr.drew _)) (by simp [Value.oneCell']) (by omega) (by unfold maxLen; omega) (by omega) (by have := hb.size; simp; omega) (wr.heap.size + 1) (by simp) ?_; intro g cap w2 hown1 hgrow hat hlt2)
      go_roundw
      case rel =>
        refine ⟨k + 1, by omega, by go_num, ?_, ?_⟩
        · rw [unitsTo_succ, List.map_append]
          exact hown1
        · exact (hb.drew.alloc (by have := hb.size; simp; omega) _).grown hgrow (by have := hb.size; simp; omega) (fun j hj => (hown.lt j hj).1)
      case measure => simp [intOf]; omega
    · have e : k = n := by omega
      subst e
      go_wp2_with fail
      go_ret
      exact ⟨_, rfl, hown, hb⟩

/-- what units.Of gives from a place on: units, and the place that is no UTF-8 -/
def ofU (s : ByteArray) : Nat → Nat → List Int × Option Nat
  | 0, _ => ([], none)
  | fuel + 1, pos => if pos < s.size then (if (Utf8.decode s pos) = (65533, 1) then ([], some pos) else (pointU ((Utf8.decode s pos).1 : Int) ++ (ofU s fuel (pos + (Utf8.decode s pos).2)).1, (ofU s fuel (pos + (Utf8.decode s pos).2)).2)) else ([], none)
theorem ofU_end (s : ByteArray) (fuel pos : Nat) (h : ¬ pos < s.size) : ofU s fuel pos = ([], none) := by
  cases fuel <;> simp [ofU, h]
theorem ofU_bad (s : ByteArray) (fuel pos : Nat) (h : pos < s.size) (hd : Utf8.decode s pos = (65533, 1)) : ofU s (fuel + 1) pos = ([], some pos) := by
  simp [ofU, h, hd]
theorem ofU_go (s : ByteArray) (fuel pos : Nat) (h : pos < s.size) (hd : Utf8.decode s pos ≠ (65533, 1)) : ofU s (fuel + 1) pos = (pointU ((Utf8.decode s pos).1 : Int) ++ (ofU s fuel (pos + (Utf8.decode s pos).2)).1, (ofU s fuel (pos + (Utf8.decode s pos).2)).2) := by
  simp [ofU, h, hd]
def ofR (s : ByteArray) : Array Value := match (ofU s s.size 0).2 with
  | some p => #[.string ⟨#[]⟩, .int .i64 p, .int .i64 10]
  | none => #[.string (makeB (ofU s s.size 0).1), .int .i64 0, .int .i64 0]

theorem decode_err (s : ByteArray) (pos : Nat) (h : (Utf8.decode s pos).1 = 65533) : (Utf8.decode s pos).2 = 1 ∨ (Utf8.decode s pos).2 = 3 := by
  rw [Lib.decode_at] at h ⊢
  unfold Lib.decodeN at h ⊢
  split at h
  · rename_i h0; simp only at h; omega
  · rename_i h0
    rw [if_neg h0]
    split at h
    · rename_i h1
      rw [if_pos h1]
      split at h
      · simp only at h; omega
      · rename_i h2; rw [if_neg h2]; exact .inl rfl
    · rename_i h1
      rw [if_neg h1]
      split at h
      · rename_i h2
        rw [if_pos h2]
        split at h
        · rename_i h3; rw [if_pos h3]; exact .inr rfl
        · rename_i h3; rw [if_neg h3]; exact .inl rfl
      · rename_i h2
        rw [if_neg h2]
        split at h
        · rename_i h3
          rw [if_pos h3]
          split at h
          · rename_i h4; simp only at h; omega
          · rename_i h4; rw [if_neg h4]; exact .inl rfl
        · rename_i h3; rw [if_neg h3]; exact .inl rfl


set_option maxHeartbeats 8000000 in
theorem of_any (s : ByteArray) (w : World) (hs : s.size ≤ 1048576) (hT : Lib.Utf8Tabs 0 1 w) :
    Calls Tryd.prog 11 #[.string s] w fun e w' => e = .returned (.tuple (ofR s)) ∧ Below w.heap.size w w' := by
  go_enter Tryd.func11, Tryd.ntmps11
  go_wp2_with fail
  go_loopw [] (fun wr => ∃ (pos fuel : Nat) (acc : List Int), Lib.IsBuilderF 65 5 w.heap.size w.heap.size (cellsN (bytesOf acc)) wr ∧ wr.heap[w.heap.size + 1]? = some (.stringIter s pos) ∧ Below w.heap.size w wr ∧ ofU s s.size 0 = (acc ++ (ofU s fuel pos).1, (ofU s fuel pos).2) ∧ s.size ≤ pos + fuel ∧ acc.length ≤ 4 * pos ∧ okU acc) (fun wr => s.size - wr.iterPos (w.heap.size + 1))
  case atStart =>
    refine ⟨0, s.size, [], (Lib.IsBuilderF.of (Lib.fresh_isBuilder 65 5 w)).alloc _, ?_, ((Below.refl _ w).alloc (Nat.le_refl _) _).alloc (by simp) _, by simp, by omega, by simp, by intro u hu; cases hu⟩
    have := World.iter_heap (w.alloc (.cells #[.pointer none, .slice none 0 0] 65)) s 0
    simpa using this
  case round =>
    obtain ⟨pos, fuel, acc, hI, hit, hbw, hacc, hfu, hal, hok⟩ := hrel
    have hsz : w.heap.size + 1 < wr.heap.size := (Array.getElem?_eq_some_iff.1 hit).1
    have HACC := Lib.hid hacc
    clear hacc
    by_cases hp : pos < s.size
    · have hwd := Lib.decode_width_pos s pos hp
      have hd1 := decode_le s pos
      have hnx0 : ∀ ty, (Instr.next (.pointer (some ⟨w.heap.size + 1, 0, none⟩)) true ty).run Tryd.prog wr = _ := fun ty => Lib.run_next_any_at wr (w.heap.size + 1) s pos ty hit hp
      have herr := decode_err s pos
      have hgo : Lib.decodeGo (s.extract pos s.size) = Utf8.decode s pos := by
        have h1 : (s.extract pos s.size).size ≠ 0 := by rw [Lib.tail_size]; omega
        show (if (s.extract pos s.size).size = 0 then (65533, 0) else Utf8.decode (s.extract pos s.size) 0) = _
        rw [if_neg h1, Lib.tail_decode, Nat.add_zero]
      have hbad := fun f => ofU_bad s f pos hp
      have hgoU := fun f => ofU_go s f pos hp
      obtain ⟨r, n, hdec⟩ : ∃ r n, Utf8.decode s pos = (r, n) := ⟨_, _, rfl⟩
      rw [hdec] at hwd hd1 hgo hbad hgoU herr
      simp only [hdec] at hnx0 hwd hd1 hgoU herr
      obtain ⟨R, hR⟩ : ∃ R : Int, (r : Int) = R := ⟨_, rfl⟩
      rw [hR] at hnx0 hgoU
      have hnx : ∀ ty, (Instr.next (.pointer (some ⟨w.heap.size + 1, 0, none⟩)) true ty).run Tryd.prog wr = .ok (.tuple #[.bool true, .int .i64 pos, .int .i32 R]) (wr.iterAt (w.heap.size + 1) s (pos + n)) := hnx0
      clear hnx0 hdec
      have HGOD := Lib.hid hgo
      have HBAD := Lib.hid hbad
      have HGOU := Lib.hid hgoU
      have hRn : R = 65533 → n = 1 ∨ n = 3 := fun h => herr (by omega)
      have HERR := Lib.hid hRn
      have HR := Lib.hid hR
      have hR0 : 0 ≤ R ∧ R ≤ 2147483647 := by omega
      clear hgo hbad hgoU herr hRn hR hd1
      have hI2 := hI.iterAt hit (pos + n)
      have hit2 := Lib.iterAt_heap wr (w.heap.size + 1) s pos (pos + n) hit
      have hbw2 := Lib.below_iterAt hbw (k := w.heap.size + 1) (by omega) s (pos + n)
      have hsz2 : w.heap.size + 1 < (wr.iterAt (w.heap.size + 1) s (pos + n)).heap.size := by rw [Lib.iterAt_size]; omega
      obtain ⟨f, rfl⟩ : ∃ f, fuel = f + 1 := ⟨fuel - 1, by omega⟩
      by_cases he : R = 65533
      · have hT2 := Utf8Tabs_below hT hbw2
        rcases HERR.out he with h13 | h13
        · subst h13
          subst he
          have hfin : ofR s = #[.string ⟨#[]⟩, .int .i64 pos, .int .i64 10] := by
            unfold ofR; rw [HACC.out, HBAD.out f (by rw [show r = 65533 by have := HR.out; omega])]
          have HF := Lib.hid hfin
          clear hfin
          go_wp2_with fail
          refine (Tryd.utf8_DecodeRuneInString (s.extract pos s.size) _ hT2).mono ?_
          rintro e W1 ⟨rfl, b1⟩
          rw [HGOD.out]
          have b1' := hbw2.trans (b1.mono (by omega))
          simp only
          go_wp2_with fail
          go_ret3
          exact ⟨by rw [HF.out]; rfl, b1'⟩
        · subst h13
          subst he
          have HGO := Lib.hid (HGOU.out f (by intro h; injection h with _ h; omega))
          go_wp2_with fail
          refine (Tryd.utf8_DecodeRuneInString (s.extract pos s.size) _ hT2).mono ?_
          rintro e W0 ⟨rfl, b0⟩
          rw [HGOD.out]
          have hI2 := builderF_below hI2 b0
          have hit2 : W0.heap[w.heap.size + 1]? = some (.stringIter s (pos + 3)) := by rw [b0.block _ (by omega)]; exact hit2
          have hbw2 := hbw2.trans (b0.mono (by omega))
          have hsz2 : w.heap.size + 1 < W0.heap.size := (Array.getElem?_eq_some_iff.1 hit2).1
          simp only
          go_wp2_with fail
          refine (pointUnits_any _ _ (by omega) (by omega)).mono ?_
          rintro e W1 ⟨rfl, b1⟩
          have hI3 := builderF_below hI2 b1
          have hit3 : W1.heap[w.heap.size + 1]? = some (.stringIter s (pos + 3)) := by rw [b1.block _ (by omega)]; exact hit2
          have hbw3 := hbw2.trans (b1.mono (by omega))
          have hsz3 := hbw3.size
          have h4 := bytes_point_le 65533
          simp only
          go_wp2_with fail
          refine (writeString_any w.heap.size w.heap.size _ (makeB (pointU 65533)) _ hI3 ?lenq hsz3).mono ?_
          case lenq =>
            have h5 : (makeB (pointU 65533)).size = (bytesOf (pointU 65533)).length := strOfNums_size _
            rw [cellsN_length, bytesOf_length, h5]
            omega
          rintro e W2 ⟨rfl, h2, b2, k2⟩
          simp only
          go_wp2_with fail
          go_roundw
          case rel =>
            rw [bytesOf_length] at h4
            rw [show Lib.strCells (makeB (pointU 65533)) = cellsN (bytesOf (pointU 65533)) from strCells_str (bytes_ok (point_ok _)), ← cellsN_append, ← bytesOf_append] at h2
            refine ⟨pos + 3, f, acc ++ pointU 65533, .inr h2, k2.iter hit3 (by omega), hbw3.trans b2, ?_, by omega, by simp; omega, ?_⟩
            · rw [HACC.out, HGO.out, List.append_assoc]
            · intro u hu
              rcases List.mem_append.1 hu with hu | hu
              · exact hok u hu
              · exact point_ok _ u hu
          case measure =>
            simp only [World.iterPos, k2.iter hit3 (by omega), hit]
            omega
      · have HGO := Lib.hid (HGOU.out f (by intro h; injection h with h _; have := HR.out; omega))
        go_wp2_with fail
        refine (pointUnits_any _ _ (by omega) (by omega)).mono ?_
        rintro e W1 ⟨rfl, b1⟩
        have hI3 := builderF_below hI2 b1
        have hit3 : W1.heap[w.heap.size + 1]? = some (.stringIter s (pos + n)) := by rw [b1.block _ (by omega)]; exact hit2
        have hbw3 := hbw2.trans (b1.mono (by omega))
        have hsz3 := hbw3.size
        have h4 := bytes_point_le R
        simp only
        go_wp2_with fail
        refine (writeString_any w.heap.size w.heap.size _ (makeB (pointU R)) _ hI3 ?lenq hsz3).mono ?_
        case lenq =>
          have h5 : (makeB (pointU R)).size = (bytesOf (pointU R)).length := strOfNums_size _
          rw [cellsN_length, bytesOf_length, h5]
          omega
        rintro e W2 ⟨rfl, h2, b2, k2⟩
        simp only
        go_wp2_with fail
        go_roundw
        case rel =>
          rw [bytesOf_length] at h4
          rw [show Lib.strCells (makeB (pointU R)) = cellsN (bytesOf (pointU R)) from strCells_str (bytes_ok (point_ok _)), ← cellsN_append, ← bytesOf_append] at h2
          refine ⟨pos + n, f, acc ++ pointU R, .inr h2, k2.iter hit3 (by omega), hbw3.trans b2, ?_, by omega, by simp; omega, ?_⟩
          · rw [HACC.out, HGO.out, List.append_assoc]
          · intro u hu
            rcases List.mem_append.1 hu with hu | hu
            · exact hok u hu
            · exact point_ok _ u hu
        case measure =>
          simp only [World.iterPos, k2.iter hit3 (by omega), hit]
          omega
    · have hnx : ∀ ty, (Instr.next (.pointer (some ⟨w.heap.size + 1, 0, none⟩)) true ty).run Tryd.prog wr = _ := fun ty => Lib.run_next_end_at wr (w.heap.size + 1) s pos ty hit hp
      have hfin : ofR s = #[.string (makeB acc), .int .i64 0, .int .i64 0] := by
        unfold ofR; rw [HACC.out, ofU_end s fuel pos hp]; simp
      have HF := Lib.hid hfin
      clear hfin
      go_wp2_with fail
      refine (string_any w.heap.size w.heap.size (bytesOf acc) (bytes_ok hok) _ hI (by omega)).mono ?_
      rintro e W1 ⟨rfl, b1⟩
      simp only
      go_wp2_with fail
      go_ret3
      exact ⟨by rw [HF.out]; rfl, hbw.trans b1⟩
end Go.Proofs.YthmdlnmbjgokaaaDoor
