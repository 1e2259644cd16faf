/- lintelref01.Of: the walk. -/
import Derived.Test.YthmdlnmbjgokaaaDoorUPtW
namespace Go.Proofs.YthmdlnmbjgokaaaDoor
open Go.RowKit
set_option maxHeartbeats 4000000
set_option maxRecDepth 100000

theorem own_form {w : World} {base : Nat} {e : TypeId} {size n : Nat} {v : Value} {xs : List Value} (h : w.ownsRow base e size v n xs) : ∃ A c, v = .slice A n c := by
  rcases h.2 with ⟨rfl, rfl⟩ | ⟨g, cap, cur, rfl, _⟩
  · exact ⟨_, _, rfl⟩
  · exact ⟨_, _, rfl⟩
theorem decode_max (s : ByteArray) (pos : Nat) : (Utf8.decode s pos).1 ≤ 1114111 := by
  rw [Lib.decode_at]
  have h0 := UInt8.toNat_lt (s.get! pos)
  unfold Lib.decodeN
  repeat' split
  all_goals (simp only; omega)

theorem decode_wid (s : ByteArray) (pos : Nat) : (Utf8.decode s pos).2 ≤ 4 := by
  rw [Lib.decode_at]
  unfold Lib.decodeN
  repeat' split
  all_goals (simp only; omega)

theorem decode_zero (s : ByteArray) (pos : Nat) : pointAt (s.extract pos s.size) = if Utf8.decode s pos = (65533, 1) then (0, 0) else Utf8.decode s pos := by
  rw [pointAt_eq, Lib.tail_decode, Nat.add_zero]


theorem refof_any (s : ByteArray) (w : World) (hs : s.size ≤ 65536) :
    Calls Tryd.prog 12 #[.string s] w fun e w' => e = .returned (.tuple (ofR s)) ∧ Below w.heap.size w w' := by
  obtain ⟨i0, hi, hz0, hz1, hz2⟩ := info_parts Tryd.info_u16
  go_enter Tryd.func12, Tryd.ntmps12
  go_wp2_with fail
  go_loopw [5, 6] (fun v i wr => ∃ (pos fuel : Nat) (acc : List Int), pos ≤ s.size + 4 ∧ i = .int .i64 pos ∧ wr.ownsRow w.heap.size 54 1 v acc.length (acc.map (Value.int .u16)) ∧ Below w.heap.size w wr ∧ ofU s s.size 0 = (acc ++ (ofU s fuel pos).1, (ofU s fuel pos).2) ∧ s.size ≤ pos + fuel ∧ acc.length ≤ 4 * pos ∧ okU acc) (fun _ i _ => s.size - (intOf i).toNat)
  case atStart => exact ⟨0, s.size, [], by omega, rfl, World.ownsRow_nil _ _ _ _, Below.refl _ _, by simp, by omega, by simp, by intro u hu; cases hu⟩
  case round =>
    obtain ⟨pos, fuel, acc, hpos, rfl, hown, hb, hacc, hfu, hal, hok⟩ := hrel
    have HACC := Lib.hid hacc
    clear hacc
    have hsz := hb.size
    by_cases hp : pos < s.size
    · have hwd := Lib.decode_width_pos s pos hp
      have hd1 := decode_max s pos
      have hd2 := decode_wid s pos
      have hz := decode_zero s pos
      have hbad := fun f => ofU_bad s f pos hp
      have hgoU := fun f => ofU_go s f pos hp
      obtain ⟨r, n, hdec⟩ : ∃ r n, Utf8.decode s pos = (r, n) := ⟨_, _, rfl⟩
      rw [hdec] at hwd hd1 hd2 hz hbad hgoU
      simp only [hdec] at hwd hd1 hd2 hgoU
      obtain ⟨R, hR⟩ : ∃ R : Int, (r : Int) = R := ⟨_, rfl⟩
      rw [hR] at hgoU
      clear hdec
      have hR0 : 0 ≤ R ∧ R ≤ 1114111 := by omega
      have HBAD := Lib.hid hbad
      have HGOU := Lib.hid hgoU
      have HR := Lib.hid hR
      clear hbad hgoU hR hd1
      obtain ⟨f, rfl⟩ : ∃ f, fuel = f + 1 := ⟨fuel - 1, by omega⟩
      by_cases he : (r, n) = (65533, 1)
      · rw [if_pos he] at hz
        have hfin : ofR s = #[.string ⟨#[]⟩, .int .i64 pos, .int .i64 10] := by
          unfold ofR; rw [HACC.out, HBAD.out f he]
        have HF := Lib.hid hfin
        have HZ := Lib.hid hz
        clear hfin hz he
        go_wp2_with fail
        refine (refpoint_any (s.extract pos s.size) _ (by rw [Lib.tail_size]; omega) (by rw [Lib.tail_size]; omega)).mono ?_
        rintro e W1 ⟨rfl, rfl⟩
        rw [HZ.out]
        simp only
        go_wp2_with fail
        go_ret3
        exact ⟨by rw [HF.out]; rfl, hb⟩
      · rw [if_neg he] at hz
        have HGO := Lib.hid (HGOU.out f he)
        have HZ := Lib.hid hz
        clear hz he
        go_wp2_with fail
        refine (refpoint_any (s.extract pos s.size) _ (by rw [Lib.tail_size]; omega) (by rw [Lib.tail_size]; omega)).mono ?_
        rintro e W1 ⟨rfl, rfl⟩
        rw [HZ.out]
        simp only [HR.out]
        by_cases c : R < 65536
        · have HPU := Lib.hid (pointU_low hR0.1 c)
          go_wp2_with fail
          refine (point_low R _ hR0.1 c).mono ?_
          rintro e W2 ⟨rfl, rfl⟩
          simp only
          go_wp2_with (at_builtin; refine wpList_append_lies _ rfl _ _ _ rfl w.heap.size 54 i0 _ 1 2 Tryd.underlying33 hi hz0 hz1 hz2 rfl (by omega) _ acc.length _ rfl (hown.alloc _) ⟨W1.heap.size, 0, none⟩ 1 1 [.int .u16 R] rfl rfl (World.news_of_block (cs := #[.int .u16 R]) (t := 54) (fr := (0, 0)) (heap_alloc_new W1 _)) (by simp [Value.oneCell']) (by omega) (by unfold maxLen; omega) (by omega) (by simp; omega) (W1.heap.size + 1) (by simp) ?_)
          intro g cap w1 hown1 hgrow hat hlt2
          go_wp2_with fail
          go_roundw
          case rel =>
            have hpl := bytes_point_le R
            rw [bytesOf_length] at hpl
            refine ⟨pos + n, f, acc ++ pointU R, by omega, by go_num, ?_, ?_, ?_, by omega, by simp; omega, ?_⟩
            · rw [List.map_append, HPU.out, List.length_append]
              exact hown1
            · exact (hb.alloc hb.size _).grown hgrow (by have := hb.size; simp; omega) (fun j hj => (hown.lt j hj).1)
            · rw [HACC.out, HGO.out, List.append_assoc]
            · intro u hu
              rcases List.mem_append.1 hu with hu | hu
              · exact hok u hu
              · exact point_ok _ u hu
          case measure => simp [intOf]; omega
        · have HPU := Lib.hid (pointU_high (by omega) hR0.2)
          go_wp2_with fail
          refine (point_high R _ (by omega) hR0.2).mono ?_
          rintro e W2 ⟨rfl, rfl⟩
          simp only
          go_wp2_with (at_builtin; refine wpList_append_lies _ rfl _ _ _ rfl w.heap.size 54 i0 _ 1 2 Tryd.underlying33 hi hz0 hz1 hz2 rfl (by omega) _ acc.length _ rfl (hown.alloc _) ⟨W1.heap.size, 0, none⟩ 2 2 [.int .u16 (55296 + (R - 65536) / 1024), .int .u16 (56320 + (R - 65536) % 1024)] rfl rfl (World.news_of_block (cs := #[.int .u16 (55296 + (R - 65536) / 1024), .int .u16 (56320 + (R - 65536) % 1024)]) (t := 54) (fr := (0, 0)) (heap_alloc_new W1 _)) (by simp [Value.oneCell']) (by omega) (by unfold maxLen; omega) (by omega) (by simp; omega) (W1.heap.size + 1) (by simp) ?_)
          intro g cap w1 hown1 hgrow hat hlt2
          go_wp2_with fail
          go_roundw
          case rel =>
            have hpl := bytes_point_le R
            rw [bytesOf_length] at hpl
            refine ⟨pos + n, f, acc ++ pointU R, by omega, by go_num, ?_, ?_, ?_, by omega, by simp; omega, ?_⟩
            · rw [List.map_append, HPU.out, List.length_append]
              exact hown1
            · exact (hb.alloc hb.size _).grown hgrow (by have := hb.size; simp; omega) (fun j hj => (hown.lt j hj).1)
            · rw [HACC.out, HGO.out, List.append_assoc]
            · intro u hu
              rcases List.mem_append.1 hu with hu | hu
              · exact hok u hu
              · exact point_ok _ u hu
          case measure => simp [intOf]; omega
    · have hfin : ofR s = #[.string (makeB acc), .int .i64 0, .int .i64 0] := by
        unfold ofR; rw [HACC.out, ofU_end s fuel pos hp]; simp
      have HF := Lib.hid hfin
      clear hfin
      obtain ⟨A, c, rfl⟩ := own_form hown
      have hrd := Rd.of_own hown
      go_wp2_with fail
      refine (make_any acc A acc.length c _ hrd rfl hok (by omega)).mono ?_
      rintro e W1 ⟨rfl, b1⟩
      simp only
      go_wp2_with fail
      go_ret3
      exact ⟨by rw [HF.out]; rfl, hb.trans (b1.mono hsz)⟩
end Go.Proofs.YthmdlnmbjgokaaaDoor
