/- lintelref01.utf, Text. -/
import Derived.Test.YthmdlnmbjgokaaaDoorURefPts
namespace Go.Proofs.YthmdlnmbjgokaaaDoor
open Go.RowKit
set_option maxHeartbeats 4000000
set_option maxRecDepth 100000

theorem utf_any (r : Int) (w : World) (h0 : 0 ≤ r) (h1 : r ≤ 1114111) :
    Calls Tryd.prog 41 #[.int .i32 r] w fun e w' => e = .returned (.slice (some ⟨w.heap.size, 0, none⟩) (cellsN (Lib.encodeRuneZ r)).length (cellsN (Lib.encodeRuneZ r)).length) ∧ w.alloc (.cells (cellsN (Lib.encodeRuneZ r)).toArray 5) = w' := by
  by_cases c1 : r < 128
  · rw [Lib.encodeRuneZ_one h0 (by omega)]
    go_enter Tryd.func41, Tryd.ntmps41
    go_wp2_with fail
    go_ret
    exact ⟨rfl, rfl⟩
  by_cases c2 : r < 2048
  · rw [Lib.encodeRuneZ_two (by omega) (by omega)]
    go_enter Tryd.func41, Tryd.ntmps41
    go_wp2_with fail
    go_ret
    exact ⟨rfl, rfl⟩
  by_cases c3 : 55296 ≤ r ∧ r < 57344
  · rw [Lib.encodeRuneZ_bad (.inr (.inl ⟨c3.1, by omega⟩))]
    obtain ⟨c3, c4⟩ := c3
    go_enter Tryd.func41, Tryd.ntmps41
    go_wp2_with fail
    go_ret
    exact ⟨rfl, rfl⟩
  by_cases c4 : r < 65536
  · rw [Lib.encodeRuneZ_three (by omega)]
    by_cases c5 : 55296 ≤ r
    · have c6 : 57344 ≤ r := by omega
      clear c3
      go_enter Tryd.func41, Tryd.ntmps41
      go_wp2_with fail
      go_ret
      exact ⟨rfl, rfl⟩
    · clear c3
      go_enter Tryd.func41, Tryd.ntmps41
      go_wp2_with fail
      go_ret
      exact ⟨rfl, rfl⟩
  · rw [Lib.encodeRuneZ_four (by omega) h1]
    clear c3
    go_enter Tryd.func41, Tryd.ntmps41
    go_wp2_with fail
    go_ret
    exact ⟨rfl, rfl⟩

def textZ (l : List (Nat × Int)) : List Int := l.flatMap fun x => Lib.encodeRuneZ x.2
theorem textZ_snoc (l : List (Nat × Int)) (x : Nat × Int) : textZ (l ++ [x]) = textZ l ++ Lib.encodeRuneZ x.2 := by simp [textZ]
theorem textZ_length (l : List (Nat × Int)) : (textZ l).length ≤ 4 * l.length := by
  induction l with
  | nil => simp [textZ]
  | cons x r ih =>
    have := (Lib.encodeRuneZ_length x.2).2
    simp only [textZ, List.flatMap_cons, List.length_append, List.length_cons] at *
    omega

theorem reftext_any (s : ByteArray) (w : World) (hs : s.size ≤ 1048576) :
    Calls Tryd.prog 14 #[.string s] w fun e w' => e = .returned (.string (textB s)) ∧ Below w.heap.size w w' := by
  obtain ⟨i0, hi, hz0, hz1, hz2⟩ := info_parts Tryd.info_u8
  have hpl := PF_length s 0
  have hpo := PF_ok s 0
  have htb : textB s = strOfNums (textZ (PF s 0)) := rfl
  have HTB := Lib.hid htb
  obtain ⟨L, hL⟩ : ∃ L, PF s 0 = L := ⟨_, rfl⟩
  have hN : L.length ≤ 524288 := by rw [← hL]; omega
  have HP := refpoints_any s w hs
  rw [hL] at HP HTB hpo
  clear hL hpl htb
  go_enter Tryd.func14, Tryd.ntmps14
  go_wp2_with fail
  refine HP.mono ?_
  rintro e w1 ⟨va, vo, rfl, hat, hout, hb⟩
  obtain ⟨A, c, rfl⟩ := own_form hout
  have hrd := Rd.of_own hout
  have hsz := hb.size
  simp only
  go_wp2_with fail
  obtain ⟨n, hn⟩ : ∃ n, L.length = n := ⟨_, rfl⟩
  rw [hn] at hN ⊢
  have HN := Lib.hid hn
  clear hn
  go_loopw [5, 15] (fun v i wr => ∃ k : Nat, k ≤ n ∧ i = .int .i64 k ∧ wr.ownsRow w1.heap.size 5 1 v (textZ (L.take k)).length (cellsN (textZ (L.take k))) ∧ Below w1.heap.size w1 wr)
    (fun _ i _ => n - (intOf i).toNat)
  case atStart => exact ⟨0, by omega, rfl, World.ownsRow_nil _ _ _ _, Below.refl _ _⟩
  case round =>
    obtain ⟨k, hk, rfl, hown, hbr⟩ := hrel
    have hszr := hbr.size
    by_cases hlt : k < n
    · obtain ⟨⟨q, r⟩, hx⟩ : ∃ x, L[k]? = some x := ⟨L[k]'(by have := HN.out; omega), List.getElem?_eq_getElem _⟩
      have hrr := hpo _ (List.mem_of_getElem? hx)
      have hr0 : 0 ≤ r := hrr.2.2.1
      have hr1 : r ≤ 1114111 := hrr.2.2.2
      have hcell : (outV L)[k]? = some (.int .i32 r) := by unfold outV; rw [List.getElem?_map, hx]; rfl
      have htk := take_snoc2 L k _ hx
      have hrdr := hrd.below hbr
      obtain ⟨ad, rfl, _, hc⟩ := hrdr.at_ hcell
      have HTK := Lib.hid htk
      have hcl := cellsN_length (Lib.encodeRuneZ r)
      have hel := Lib.encodeRuneZ_length r
      have htl := textZ_length (L.take k)
      rw [List.length_take] at htl
      clear hrr hcell htk hrdr hx
      go_wp2_with fail
      refine (utf_any r _ hr0 hr1).mono ?_
      rintro e w2 ⟨rfl, rfl⟩
      simp only
      go_wp2_with (at_builtin; refine wpList_append_lies _ rfl _ _ _ rfl w1.heap.size 5 i0 _ 1 1 Tryd.underlying63 hi hz0 hz1 hz2 rfl (by omega) _ (textZ (L.take k)).length _ rfl (hown.alloc _) ⟨wr.heap.size, 0, none⟩ _ _ (cellsN (Lib.encodeRuneZ r)) rfl (by simp) (World.news_of_block (cs := (cellsN (Lib.encodeRuneZ r)).toArray) (t := 5) (fr := (0, 0)) (heap_alloc_new wr _)) (by intro u hu; simp only [cellsN, List.mem_map] at hu; obtain ⟨_, _, rfl⟩ := hu; rfl) (by omega) (by unfold maxLen; omega) (by omega) (by simp; omega) (wr.heap.size + 1) (by simp) ?_)
      intro g cap w3 hown3 hgrow hat3 hlt3
      go_wp2_with fail
      go_roundw
      case rel =>
        refine ⟨k + 1, by omega, by go_num, ?_, ?_⟩
        · rw [HTK.out, textZ_snoc, cellsN_append, List.length_append]
          exact hown3
        · exact (hbr.alloc hszr _).grown hgrow (by simp; omega) (fun j hj => (hown.lt j hj).1)
      case measure => simp [intOf]; omega
    · have e : k = n := by omega
      subst e
      rw [List.take_of_length_le (by have := HN.out; omega)] at hown
      have hc := run_conv_owned (P := Tryd.prog) (src := 63) (dst := 9) Tryd.underlying63 Tryd.underlying5 Tryd.underlying9 hown
      go_wp2_with fail
      go_ret
      exact ⟨by rw [HTB.out]; rfl, hb.trans (hbr.mono hsz)⟩
end Go.Proofs.YthmdlnmbjgokaaaDoor
