/- The walk of UnitsBack. -/
import Derived.Test.YthmdlnmbjgokaaaDoorUAwake
import Derived.Test.YthmdlnmbjgokaaaDoorULawB
namespace Go.Proofs.YthmdlnmbjgokaaaDoor
open Go.RowKit
set_option maxHeartbeats 4000000
set_option maxRecDepth 100000

theorem back_any (s : ByteArray) (w : World) (hs : s.size ≤ maxLen) (hT : Lib.Utf8Tabs 0 1 w) :
    Calls Tryd.prog 5 #[.string s] w fun e w' => e = .returned (.bool true) ∧ Below w.heap.size w w' := by
  unfold maxLen at hs
  by_cases hsz : 4000 < s.size
  · go_enter Tryd.func5, Tryd.ntmps5
    go_wp2_with fail
    refine (awake_any _ hT).mono ?_
    rintro e w1 ⟨rfl, b1⟩
    simp only
    go_wp2_with fail
    go_ret
    exact ⟨rfl, b1⟩
  go_enter Tryd.func5, Tryd.ntmps5
  go_wp2_with fail
  refine (awake_any _ hT).mono ?_
  rintro e w1 ⟨rfl, b1⟩
  have hT1 := Utf8Tabs_below hT b1
  simp only
  go_wp2_with fail
  refine (refpoints_any s _ (by omega)).mono ?_
  rintro e w2 ⟨va, vo, rfl, hat, hout, b2⟩
  have hT2 := Utf8Tabs_below hT1 b2
  have b12 := b1.trans (b2.mono b1.size)
  obtain ⟨A, c, rfl⟩ := own_form hout
  obtain ⟨A', c', rfl⟩ := own_form hat
  have hrd := Rd.of_own hout
  have hlen := PF_length s 0
  have hok := PF_ok s 0
  have hback := back_of s
  obtain ⟨L, hL⟩ : ∃ L, PF s 0 = L := ⟨_, rfl⟩
  rw [hL] at hrd hlen hok hback ⊢
  clear hat hout hL
  have HOK := Lib.hid hok
  have HBACK := Lib.hid hback
  have HT2 := Lib.hid hT2
  clear hok hback hT hT1 hT2
  obtain ⟨N, hN⟩ : ∃ N, L.length = N := ⟨_, rfl⟩
  rw [hN] at hlen ⊢
  have HN := Lib.hid hN
  clear hN
  simp only
  go_wp2_with fail
  go_loopw [22] (fun i wr => ∃ k : Nat, k ≤ N ∧ i = .int .i64 k ∧ Below w2.heap.size w2 wr ∧ ∀ x ∈ L.take k, ¬ (55296 ≤ x.2 ∧ x.2 < 57344))
    (fun i _ => N - (intOf i).toNat)
  case atStart => exact ⟨0, Nat.zero_le _, rfl, Below.refl _ _, by intro x hx; rw [List.take_zero] at hx; cases hx⟩
  case round =>
    obtain ⟨k, hk, rfl, hbr, hno⟩ := hrel
    have HNO := Lib.hid hno
    clear hno
    by_cases hlt : k < N
    · obtain ⟨⟨x1, x2⟩, hx⟩ : ∃ x, L[k]? = some x := ⟨L[k]'(by have := HN.out; omega), List.getElem?_eq_getElem _⟩
      have hxb := HOK.out _ (List.mem_of_getElem? hx)
      simp only at hxb
      have hrdk := hrd.below hbr
      obtain ⟨ad, rfl, _, hc⟩ := hrdk.at_ (k := k) (u := .int .i32 x2) (by rw [outV, List.getElem?_map, hx]; rfl)
      have HTK := Lib.hid (take_snoc2 L k _ hx)
      clear hrdk hx
      have hb' : Below w.heap.size w wr := b12.trans (hbr.mono b12.size)
      by_cases g1 : 55296 ≤ x2
      · by_cases g2 : x2 < 57344
        · go_wp2_with fail
          go_ret
          exact ⟨rfl, hb'⟩
        · go_wp2_with fail
          go_roundw
          case rel =>
            refine ⟨k + 1, by omega, by go_num, hbr, ?_⟩
            intro x hx
            rw [HTK.out] at hx
            rcases List.mem_append.1 hx with hx | hx
            · exact HNO.out x hx
            · rw [List.mem_singleton.1 hx]; simp only; omega
          case measure => simp [intOf]; omega
      · go_wp2_with fail
        go_roundw
        case rel =>
          refine ⟨k + 1, by omega, by go_num, hbr, ?_⟩
          intro x hx
          rw [HTK.out] at hx
          rcases List.mem_append.1 hx with hx | hx
          · exact HNO.out x hx
          · rw [List.mem_singleton.1 hx]; simp only; omega
        case measure => simp [intOf]; omega
    · have hbk : ofR (textB s) = #[.string (evenB s), .int .i64 0, .int .i64 0] := HBACK.out (fun x hx => HNO.out x (by rw [List.take_of_length_le (by have := HN.out; omega)]; exact hx))
      have hTr := Utf8Tabs_below HT2.out hbr
      have hts := textB_size s
      have HBK := Lib.hid hbk
      clear hbk
      have hb' : Below w.heap.size w wr := b12.trans (hbr.mono b12.size)
      go_wp2_with fail
      refine (text_any s _ (by omega)).mono ?_
      rintro e w3 ⟨rfl, b3⟩
      have hTr3 := Utf8Tabs_below hTr b3
      have b13 := hb'.trans (b3.mono hb'.size)
      simp only
      go_wp2_with fail
      refine (of_any (textB s) _ (by omega) hTr3).mono ?_
      rintro e w4 ⟨rfl, b4⟩
      rw [HBK.out]
      have b14 := b13.trans (b4.mono b13.size)
      have hml : s.size ≤ maxLen := by unfold maxLen; omega
      simp only
      go_wp2_with fail
      refine (evenD_any s _ hml).mono ?_
      rintro e w5 ⟨rfl, rfl⟩
      simp only
      go_wp2_with fail
      go_ret
      exact ⟨rfl, b14⟩
end Go.Proofs.YthmdlnmbjgokaaaDoor
