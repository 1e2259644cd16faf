/- The walks of lintelref01.clamp, Cut, Even's friends. -/
import Derived.Test.YthmdlnmbjgokaaaDoorUOf
import Derived.Test.YthmdlnmbjgokaaaDoorULawB
namespace Go.Proofs.YthmdlnmbjgokaaaDoor
open Go.RowKit
set_option maxHeartbeats 4000000
set_option maxRecDepth 100000

theorem clamp_any (i n : Int) (w : World) (hn : 0 ≤ n) :
    Calls Tryd.prog 46 #[.int .i64 i, .int .i64 n] w fun e w' => e = .returned (.int .i64 (clampI i n)) ∧ w = w' := by
  have hc : clampI i n = if i < 0 then 0 else if n < i then n else i := by
    unfold clampI imin imax
    repeat' split
    all_goals omega
  rw [hc]
  clear hc
  by_cases c0 : i < 0
  · rw [if_pos c0]
    go_enter Tryd.func46, Tryd.ntmps46
    go_wp2_with fail
    go_ret
    exact ⟨rfl, rfl⟩
  · rw [if_neg c0]
    by_cases c1 : n < i
    · rw [if_pos c1]
      go_enter Tryd.func46, Tryd.ntmps46
      go_wp2_with fail
      go_ret
      exact ⟨rfl, rfl⟩
    · rw [if_neg c1]
      go_enter Tryd.func46, Tryd.ntmps46
      go_wp2_with fail
      go_ret
      exact ⟨rfl, rfl⟩

theorem refcut_any (s : ByteArray) (f t : Int) (w : World) (hs : s.size ≤ 1048576) :
    Calls Tryd.prog 28 #[.string s, .int .i64 f, .int .i64 t] w fun e w' => e = .returned (.string (cutB s f t)) ∧ Below w.heap.size w w' := by
  have hf := clampI_bd f ((s.size / 2 : Nat) : Int) (by omega)
  have ht := clampI_bd t ((s.size / 2 : Nat) : Int) (by omega)
  have e0 : ((s.size : Int) / 2) = ((s.size / 2 : Nat) : Int) := by omega
  have clf := clamp_any f ((s.size / 2 : Nat) : Int)
  have clt := clamp_any t ((s.size / 2 : Nat) : Int)
  unfold cutB
  rw [e0]
  obtain ⟨F, hF⟩ : ∃ F : Nat, clampI f ((s.size / 2 : Nat) : Int) = F := ⟨(clampI f ((s.size / 2 : Nat) : Int)).toNat, by omega⟩
  obtain ⟨T, hT⟩ : ∃ T : Nat, clampI t ((s.size / 2 : Nat) : Int) = T := ⟨(clampI t ((s.size / 2 : Nat) : Int)).toNat, by omega⟩
  rw [hF] at hf clf ⊢
  rw [hT] at ht clt ⊢
  clear hF hT e0
  obtain ⟨R, hR⟩ : ∃ R, (if (T : Int) ≤ F then ByteArray.empty else s.extract (2 * (F : Int)).toNat (2 * (T : Int)).toNat) = R := ⟨_, rfl⟩
  rw [hR]
  have HR := Lib.hid hR
  clear hR
  obtain ⟨N, hN⟩ : ∃ n, n = s.size / 2 := ⟨_, rfl⟩
  have HN := Lib.hid hN
  have hN1 : N ≤ 524288 := by omega
  rw [← hN] at hf ht clf clt
  go_enter Tryd.func28, Tryd.ntmps28
  go_wp2_with fail
  refine (units_any s _ hs).mono ?_
  rintro e w1 ⟨v, rfl, hown, hb⟩
  have hown : w1.ownsRow w.heap.size 54 1 v (s.size / 2) ((U s).map (Value.int .u16)) := hown
  rw [← hN] at hown
  clear hN
  obtain ⟨A, c, rfl⟩ := own_form hown
  have hrd := Rd.of_own hown
  simp only
  go_wp2_with fail
  refine (clf _ (by omega)).mono ?_
  rintro e w2 ⟨rfl, rfl⟩
  simp only
  go_wp2_with fail
  refine (clt _ (by omega)).mono ?_
  rintro e w2 ⟨rfl, rfl⟩
  simp only
  by_cases hle : (T : Int) ≤ F
  · have hR : (⟨#[]⟩ : ByteArray) = R := by rw [← HR.out, if_pos hle]; rfl
    subst hR
    go_wp2_with fail
    go_ret
    exact ⟨rfl, hb⟩
  · have hR := HR.out
    rw [if_neg hle] at hR
    have hex : s.extract (2 * (F : Int)).toNat (2 * (T : Int)).toNat = makeB (((U s).take T).drop F) := by
      rw [makeB_cut s F T (by omega) (by have := HN.out; omega)]
      congr 1
    rw [hex] at hR
    have HR2 := Lib.hid hR
    clear hex hR
    have hpos : 0 < N := by omega
    obtain ⟨g, rfl, hcap⟩ : ∃ g, A = some ⟨g, 0, none⟩ ∧ N ≤ c := by
      rcases hown.2 with ⟨_, h0⟩ | ⟨g, cap, cur, hv, _, _, hc, _⟩
      · omega
      · injection hv with h1 h2 h3
        exact ⟨g, h1, by omega⟩
    have hcap2 : T ≤ c := by omega
    have hcap3 : ¬ c = F := by omega
    go_wp2_with fail
    refine (make_any (((U s).take T).drop F) _ _ _ w1 (by rw [List.map_drop, List.map_take]; exact ((hrd.take (k := T)).cut (k := F) (some ⟨g, F, none⟩) (fun _ => by simp [Addr.add_lit]))) (by rw [List.length_drop, List.length_take, U_length]; have := HN.out; omega) (fun u hu => U_ok s u (List.mem_of_mem_take (List.mem_of_mem_drop hu))) (by omega)).mono ?_
    rintro e w3 ⟨rfl, b3⟩
    rw [HR2.out]
    simp only
    go_wp2_with fail
    go_ret
    exact ⟨rfl, hb.trans (b3.mono hb.size)⟩
end Go.Proofs.YthmdlnmbjgokaaaDoor
