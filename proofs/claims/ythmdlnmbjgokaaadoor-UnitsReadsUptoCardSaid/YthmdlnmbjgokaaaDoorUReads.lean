/- The walk of UnitsReads. -/
import Derived.Test.YthmdlnmbjgokaaaDoorUAwake
import Derived.Test.YthmdlnmbjgokaaaDoorULaw
namespace Go.Proofs.YthmdlnmbjgokaaaDoor
open Go.RowKit
set_option maxHeartbeats 4000000
set_option maxRecDepth 100000

theorem reads_any (s t : ByteArray) (w : World) (hs : s.size ≤ 1048576) (ht : t.size ≤ 1048576) (hT : Lib.Utf8Tabs 0 1 w) :
    Calls Tryd.prog 3 #[.string s, .string t] w fun e w' => e = .returned (.bool true) ∧ Below w.heap.size w w' := by
  by_cases hsz : 4000 < s.size + t.size
  · go_enter Tryd.func3, Tryd.ntmps3
    go_wp2_with fail
    refine (awake_any _ hT).mono ?_
    rintro e w1 ⟨rfl, b1⟩
    simp only
    go_wp2_with fail
    go_ret
    exact ⟨rfl, b1⟩
  go_enter Tryd.func3, Tryd.ntmps3
  go_wp2_with fail
  refine (awake_any _ hT).mono ?_
  rintro e w1 ⟨rfl, b1⟩
  have hT1 := Utf8Tabs_below hT b1
  simp only
  go_wp2_with fail
  refine (of_any s _ (by omega) hT1).mono ?_
  rintro e w2 ⟨rfl, b2⟩
  have b12 := b1.trans (b2.mono b1.size)
  have hlaw := text_of s
  have hlen := ofU_length s s.size 0
  have hok : okU (ofU s s.size 0).1 := by rw [ofU_runes]; exact flat_ok _
  have hdef : ofR s = match (ofU s s.size 0).2 with
    | some p => #[.string ⟨#[]⟩, .int .i64 p, .int .i64 10]
    | none => #[.string (makeB (ofU s s.size 0).1), .int .i64 0, .int .i64 0] := rfl
  obtain ⟨us, r, hr⟩ : ∃ us r, ofU s s.size 0 = (us, r) := ⟨_, _, rfl⟩
  have HR := refof_any s w2 (by omega)
  rw [hr] at hlaw hdef hlen
  simp only at hlaw hdef hlen
  clear hr hok
  have hTX := text_any t
  have hRX := reftext_any t
  obtain ⟨X, hX⟩ : ∃ X, textB t = X := ⟨_, rfl⟩
  rw [hX] at hTX hRX
  clear hX
  cases r with
  | none =>
    simp only at hdef
    rw [hdef] at HR ⊢
    have hl2 : textB (makeB us) = s := hlaw rfl
    have hmk : (makeB us).size ≤ 1048576 := by rw [makeB_size]; omega
    obtain ⟨A, hA⟩ : ∃ A, makeB us = A := ⟨_, rfl⟩
    rw [hA] at hl2 hmk HR ⊢
    clear hA hdef hlaw
    simp only
    go_wp2_with fail
    refine HR.mono ?_
    rintro e w3 ⟨rfl, b3⟩
    have b13 := b12.trans (b3.mono b12.size)
    simp only
    go_wp2_with fail
    refine (hTX _ (by omega)).mono ?_
    rintro e w4 ⟨rfl, b4⟩
    have b14 := b13.trans (b4.mono b13.size)
    simp only
    go_wp2_with fail
    refine (hRX _ (by omega)).mono ?_
    rintro e w5 ⟨rfl, b5⟩
    have b15 := b14.trans (b5.mono b14.size)
    simp only
    go_wp2_with fail
    refine (text_any A _ hmk).mono ?_
    rintro e w6 ⟨rfl, b6⟩
    rw [hl2]
    have b16 := b15.trans (b6.mono b15.size)
    simp only
    go_wp2_with fail
    go_ret
    exact ⟨rfl, b16⟩
  | some p =>
    simp only at hdef
    rw [hdef] at HR ⊢
    clear hdef hlaw
    simp only
    go_wp2_with fail
    refine HR.mono ?_
    rintro e w3 ⟨rfl, b3⟩
    have b13 := b12.trans (b3.mono b12.size)
    simp only
    go_wp2_with fail
    refine (hTX _ (by omega)).mono ?_
    rintro e w4 ⟨rfl, b4⟩
    have b14 := b13.trans (b4.mono b13.size)
    simp only
    go_wp2_with fail
    refine (hRX _ (by omega)).mono ?_
    rintro e w5 ⟨rfl, b5⟩
    have b15 := b14.trans (b5.mono b14.size)
    simp only
    go_wp2_with fail
    go_ret
    exact ⟨rfl, b15⟩
end Go.Proofs.YthmdlnmbjgokaaaDoor
