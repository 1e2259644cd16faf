/- The walks of names: the document's Name; lex.Word, lex.Name. -/
import Derived.Test.YtgnpgdjjdhlhaaaDoorTNamesW
import Derived.Test.YtgnpgdjjdhlhaaaDoorTShelf
import Derived.Lib.IndexAny
namespace Go.Proofs.YtgnpgdjjdhlhaaaDoor
open Go.RowKit
set_option maxHeartbeats 4000000
set_option maxRecDepth 100000
attribute [local go_sem] Oper.semAt_some

theorem allm_at {l : List UInt8} {k : Nat} {x : UInt8} (h : l[k]? = some x) : (l.drop k).all moreU = (moreU x && (l.drop (k + 1)).all moreU) := by
  rw [List.drop_eq_getElem_cons (List.getElem?_eq_some_iff.1 h).1, (List.getElem?_eq_some_iff.1 h).2]
  rfl
theorem nameU_of {L : List UInt8} {b : UInt8} (h : L[0]? = some b) : nameU L = (letU b && !wordU L && L.all moreU) := by
  match L, h with
  | b' :: r, h => cases h; rfl
theorem refname_any (s : ByteArray) (hs : s.size ≤ 1048576) (w : World) : Calls Tryd.prog 41 #[.string s] w fun e w' => e = .returned (.bool (nameU s.data.toList)) ∧ Below w.heap.size w w' := by
  obtain ⟨n, hn⟩ : ∃ n, s.size = n := ⟨_, rfl⟩
  by_cases h0 : n = 0
  · obtain rfl := ba_nil (s := s) (by omega)
    go_enter Tryd.func41, Tryd.ntmps41
    go_wp2_with fail
    go_ret
    exact ⟨rfl, Below.refl _ _⟩
  obtain ⟨L, hL⟩ : ∃ L, s.data.toList = L := ⟨_, rfl⟩
  have hne := (ba_empty (s := s) (by omega)).1
  have HL := Lib.hid hL
  have HN := Lib.hid hn
  obtain ⟨b, hb⟩ : ∃ b, s[0]?.getD 0 = b := ⟨_, rfl⟩
  have hat : L[0]? = some b := by rw [← hL, ba_at (by omega), hb]
  have i1 := fun w => run_index_str (P := Tryd.prog) Tryd.underlying9 s (0 : Int) 0 rfl (by omega) w
  rw [hb] at i1
  have hlet := refletter_any (b.toNat : Nat)
  have hwd := refword_any s
  have hnm := nameU_of hat
  rw [hL] at hwd ⊢
  rw [hnm]
  obtain ⟨v1, e1⟩ : ∃ v, letU b = v := ⟨_, rfl⟩
  obtain ⟨v2, e2⟩ : ∃ v, wordU L = v := ⟨_, rfl⟩
  rw [e1, e2]
  have e1' : letB (b.toNat : Nat) = v1 := e1
  rw [e1'] at hlet
  rw [e2] at hwd
  have HM := Lib.hid (fun k : UInt8 => refmore_any (k.toNat : Nat))
  clear hL hat hb e1 e1' e2 hnm
  go_enter Tryd.func41, Tryd.ntmps41
  go_wp2_with fail
  refine (hlet w).mono ?_
  rintro e w1 ⟨rfl, rfl⟩
  cases v1 with
  | false =>
    simp only
    go_wp2_with fail
    go_ret
    exact ⟨rfl, Below.refl _ _⟩
  | true =>
    simp only
    go_wp2_with fail
    refine (hwd w1).mono ?_
    rintro e w2 ⟨rfl, hb2⟩
    cases v2 with
    | true =>
      simp only
      go_wp2_with fail
      go_ret
      exact ⟨rfl, hb2⟩
    | false =>
      simp only
      clear hlet hwd i1
      go_wp2_with fail
      go_loopw [3] (fun i wr => ∃ k : Nat, k ≤ n ∧ i = .int .i64 k ∧ wr = w2 ∧ L.all moreU = (L.drop k).all moreU) (fun i _ => n - (intOf i).toNat)
      case atStart => exact ⟨0, Nat.zero_le _, rfl, rfl, rfl⟩
      case round =>
        obtain ⟨k, hk, rfl, rfl, hf⟩ := hrel
        have HF := Lib.hid hf
        clear hf
        by_cases hlt : k < n
        · obtain ⟨b, hb1⟩ : ∃ b, s[k]?.getD 0 = b := ⟨_, rfl⟩
          have hat : L[k]? = some b := by rw [← HL.out, ba_at (by rw [HN.out]; exact hlt), hb1]
          have i1 := fun w => run_index_str (P := Tryd.prog) Tryd.underlying9 s (k : Int) k rfl (by rw [HN.out]; exact hlt) w
          rw [hb1] at i1
          have HA := Lib.hid (allm_at hat)
          clear hat hb1
          have hm := HM.out b wr
          obtain ⟨v, e1⟩ : ∃ v, moreU b = v := ⟨_, rfl⟩
          have e1' : (letB (b.toNat : Nat) || digB (b.toNat : Nat)) = v := e1
          rw [e1'] at hm
          rw [e1] at HA
          clear e1 e1'
          go_wp2_with fail
          refine hm.mono ?_
          rintro e w3 ⟨rfl, rfl⟩
          cases v with
          | true =>
            have hfin : L.all moreU = (L.drop (k + 1)).all moreU := by rw [HF.out, HA.out]; rfl
            have HFIN := Lib.hid hfin
            clear hfin
            simp only
            go_wp2_with fail
            go_roundw
            case rel => exact ⟨k + 1, by omega, by go_num, trivial, HFIN.out⟩
            case measure => simp [intOf] <;> omega
          | false =>
            have hfin : L.all moreU = false := by rw [HF.out, HA.out]; rfl
            have HFIN := Lib.hid hfin
            clear hfin
            simp only
            go_wp2_with fail
            go_ret
            exact ⟨by rw [HFIN.out]; rfl, hb2⟩
        · obtain rfl : k = n := by omega
          have hfin : L.all moreU = true := by rw [HF.out, List.drop_of_length_le (by rw [← HL.out, ba_len, HN.out]; exact Nat.le_refl _)]; rfl
          have HFIN := Lib.hid hfin
          clear hfin
          go_wp2_with fail
          go_ret
          exact ⟨by rw [HFIN.out]; rfl, hb2⟩
/-- what the library's own variable holds: some number -/
def Mx (w : World) : Prop := ∃ m, w.cell? ⟨3, 0, none⟩ = some (.int .i64 m)
theorem Mx.below {w w' : World} (h : Mx w) (hb : Below w.heap.size w w') : Mx w' := by
  obtain ⟨m, hm⟩ := h
  exact ⟨m, (hb.cell (World.block_lt_of_cell? _ _ hm)).trans hm⟩
def wordsB : ByteArray := ⟨#[32, 98, 114, 101, 97, 107, 32, 99, 97, 115, 101, 32, 99, 97, 116, 99, 104, 32, 99, 108, 97, 115, 115, 32, 99, 111, 110, 115, 116, 32, 99, 111, 110, 116, 105, 110, 117, 101, 32, 100, 101, 98, 117, 103, 103, 101, 114, 32, 100, 101, 102, 97, 117, 108, 116, 32, 100, 101, 108, 101, 116, 101, 32, 100, 111, 32, 101, 108, 115, 101, 32, 101, 110, 117, 109, 32, 101, 120, 112, 111, 114, 116, 32, 101, 120, 116, 101, 110, 100, 115, 32, 102, 97, 108, 115, 101, 32, 102, 105, 110, 97, 108, 108, 121, 32, 102, 111, 114, 32, 102, 117, 110, 99, 116, 105, 111, 110, 32, 105, 102, 32, 105, 109, 112, 111, 114, 116, 32, 105, 110, 32, 105, 110, 115, 116, 97, 110, 99, 101, 111, 102, 32, 110, 101, 119, 32, 110, 117, 108, 108, 32, 114, 101, 116, 117, 114, 110, 32, 115, 117, 112, 101, 114, 32, 115, 119, 105, 116, 99, 104, 32, 116, 104, 105, 115, 32, 116, 104, 114, 111, 119, 32, 116, 114, 117, 101, 32, 116, 114, 121, 32, 116, 121, 112, 101, 111, 102, 32, 118, 97, 114, 32, 118, 111, 105, 100, 32, 119, 104, 105, 108, 101, 32, 119, 105, 116, 104, 32, 105, 109, 112, 108, 101, 109, 101, 110, 116, 115, 32, 105, 110, 116, 101, 114, 102, 97, 99, 101, 32, 108, 101, 116, 32, 112, 97, 99, 107, 97, 103, 101, 32, 112, 114, 105, 118, 97, 116, 101, 32, 112, 114, 111, 116, 101, 99, 116, 101, 100, 32, 112, 117, 98, 108, 105, 99, 32, 115, 116, 97, 116, 105, 99, 32, 121, 105, 101, 108, 100, 32]⟩
theorem wordsB_data : wordsB.data.toList = wordsT := by decide +kernel
theorem wordsB_size : wordsB.size < 4294967281 := by decide +kernel
theorem idx_contains (L : List UInt8) (c : UInt8) : decide (0 ≤ Lib.indexByte L c) = L.contains c := (Lib.contains_iff_indexByte L c).symm
theorem cat_two (s : ByteArray) : ((⟨#[32]⟩ : ByteArray) ++ s ++ ⟨#[32]⟩).data.toList = 32 :: s.data.toList ++ [32] := by simp
theorem lexword_any (s : ByteArray) (hs : s.size ≤ 1048576) (w : World) (hm : Mx w) : Calls Tryd.prog 51 #[.string s] w fun e w' => e = .returned (.bool (wordU s.data.toList)) ∧ w' = w := by
  obtain ⟨n, hn⟩ : ∃ n, s.size = n := ⟨_, rfl⟩
  by_cases h0 : n = 0
  · obtain rfl := ba_nil (s := s) (by omega)
    rw [wordU_bad (.inl rfl)]
    go_enter Tryd.func51, Tryd.ntmps51
    go_wp2_with fail
    go_ret
    exact ⟨rfl, rfl⟩
  have hne := ba_empty (s := s) (by omega)
  obtain ⟨m, hm⟩ := hm
  have h1 := Go.Proofs.Tryd.strings_Contains_one s 32 w
  rw [idx_contains] at h1
  have h2 := Go.Proofs.Tryd.strings_Contains wordsB ((⟨#[32]⟩ : ByteArray) ++ s ++ ⟨#[32]⟩) m w wordsB_size hm
  rw [cat_two, wordsB_data] at h2
  obtain ⟨v, hv⟩ : ∃ v, s.data.toList.contains 32 = v := ⟨_, rfl⟩
  rw [hv] at h1
  have hne1 := hne.1
  cases v with
  | true =>
    rw [wordU_bad (.inr hv)]
    clear h2 hv hne
    go_enter Tryd.func51, Tryd.ntmps51
    go_wp2_with fail
    refine h1.mono ?_
    rintro e w1 ⟨rfl, rfl⟩
    simp only
    go_wp2_with fail
    go_ret
    exact ⟨rfl, rfl⟩
  | false =>
    rw [contains_word hne.2 hv] at h2
    generalize wordU s.data.toList = v2 at h2 ⊢
    clear hv hne
    go_enter Tryd.func51, Tryd.ntmps51
    go_wp2_with fail
    refine h1.mono ?_
    rintro e w1 ⟨rfl, rfl⟩
    simp only
    go_wp2_with fail
    refine Calls.mono h2 ?_
    rintro e w1 ⟨rfl, rfl⟩
    simp only
    go_wp2_with fail
    go_ret
    exact ⟨rfl, rfl⟩
theorem lexname_any (s : ByteArray) (hs : s.size ≤ 1048576) (w : World) (hm : Mx w) : Calls Tryd.prog 50 #[.string s] w fun e w' => e = .returned (.bool (nameU s.data.toList)) ∧ w' = w := by
  obtain ⟨n, hn⟩ : ∃ n, s.size = n := ⟨_, rfl⟩
  obtain ⟨L, hL⟩ : ∃ L, s.data.toList = L := ⟨_, rfl⟩
  have HL := Lib.hid hL
  have HN := Lib.hid hn
  have hwd := lexword_any s hs w hm
  have hnm := lex_name L
  rw [hL] at hwd ⊢
  have hdg := fun k : UInt8 => digit_any (k.toNat : Nat)
  have hlt := fun k : UInt8 => letter_any k.toNat k.toNat_lt
  have HD := Lib.hid hdg
  have HT := Lib.hid hlt
  have HNM := Lib.hid hnm
  have HWD := Lib.hid hwd
  clear hL hdg hlt hnm hwd
  go_enter Tryd.func50, Tryd.ntmps50
  go_wp2_with fail
  go_loopw [6] (fun i wr => ∃ k : Nat, k ≤ n ∧ i = .int .i64 k ∧ wr = w ∧ lexAll 0 L = lexAll k (L.drop k)) (fun i _ => n - (intOf i).toNat)
  case atStart => exact ⟨0, Nat.zero_le _, rfl, rfl, rfl⟩
  case round =>
    obtain ⟨k, hk, rfl, rfl, hf⟩ := hrel
    have HF := Lib.hid hf
    clear hf
    by_cases hlt : k < n
    · obtain ⟨b, hb1⟩ : ∃ b, s[k]?.getD 0 = b := ⟨_, rfl⟩
      have hat : L[k]? = some b := by rw [← HL.out, ba_at (by rw [HN.out]; exact hlt), hb1]
      have i1 := fun w => run_index_str (P := Tryd.prog) Tryd.underlying9 s (k : Int) k rfl (by rw [HN.out]; exact hlt) w
      rw [hb1] at i1
      have ha := lexAll_at hat
      have h1 := HT.out b wr
      have h2 := HD.out b wr
      obtain ⟨v1, e1⟩ : ∃ v, letB (b.toNat : Nat) = v := ⟨_, rfl⟩
      obtain ⟨v2, e2⟩ : ∃ v, digB (b.toNat : Nat) = v := ⟨_, rfl⟩
      have e1' : letU b = v1 := e1
      rw [e1', e2] at ha
      rw [e1] at h1
      rw [e2] at h2
      have HA := Lib.hid ha
      clear hat hb1 ha e1 e1' e2
      go_wp2_with fail
      refine h1.mono ?_
      rintro e w3 ⟨rfl, rfl⟩
      cases v1 with
      | true =>
        have hfin : lexAll 0 L = lexAll (k + 1) (L.drop (k + 1)) := by rw [HF.out, HA.out]; rfl
        have HFIN := Lib.hid hfin
        clear hfin h2
        simp only
        go_wp2_with fail
        go_roundw
        case rel => exact ⟨k + 1, by omega, by go_num, trivial, HFIN.out⟩
        case measure => simp [intOf] <;> omega
      | false =>
        by_cases hk0 : k = 0
        · subst hk0
          have hfin : lexAll 0 L = false := by rw [HF.out, HA.out]; rfl
          have hfn : nameU L = false := by rw [← HNM.out, hfin]; rfl
          have HFIN := Lib.hid hfn
          clear hfin hfn h2
          simp only
          go_wp2_with fail
          go_ret
          exact ⟨by rw [HFIN.out]; rfl, rfl⟩
        · have hk1 : ((k : Int) == 0) = false := by rw [beq_eq_false_iff_ne]; omega
          simp only
          go_wp2_with fail
          refine h2.mono ?_
          rintro e w3 ⟨rfl, rfl⟩
          cases v2 with
          | true =>
            have hfin : lexAll 0 L = lexAll (k + 1) (L.drop (k + 1)) := by rw [HF.out, HA.out, decide_eq_true hk0]; rfl
            have HFIN := Lib.hid hfin
            clear hfin
            simp only
            go_wp2_with fail
            go_roundw
            case rel => exact ⟨k + 1, by omega, by go_num, trivial, HFIN.out⟩
            case measure => simp [intOf] <;> omega
          | false =>
            have hfin : lexAll 0 L = false := by rw [HF.out, HA.out, decide_eq_true hk0]; rfl
            have hfn : nameU L = false := by rw [← HNM.out, hfin]; rfl
            have HFIN := Lib.hid hfn
            clear hfin hfn
            simp only
            go_wp2_with fail
            go_ret
            exact ⟨by rw [HFIN.out]; rfl, rfl⟩
    · obtain rfl : k = n := by omega
      have hfin : lexAll 0 L = true := by rw [HF.out, List.drop_of_length_le (by rw [← HL.out, ba_len, HN.out]; exact Nat.le_refl _)]; rfl
      have hfn : nameU L = (!L.isEmpty && !wordU L) := by rw [← HNM.out, hfin]; rfl
      have HFIN := Lib.hid hfn
      clear hfin hfn
      by_cases h0 : k = 0
      · obtain rfl := ba_nil (s := s) (by omega)
        obtain rfl : L = [] := HL.out.symm
        go_wp2_with fail
        go_ret
        exact ⟨rfl, rfl⟩
      · have hne := ba_empty (s := s) (by omega)
        have hne1 := hne.1
        have hfn2 : nameU L = !wordU L := by rw [HFIN.out, ← HL.out, hne.2]; rfl
        have hw := HWD.out
        obtain ⟨v, hv⟩ : ∃ v, wordU L = v := ⟨_, rfl⟩
        rw [hv] at hw hfn2
        have HF2 := Lib.hid hfn2
        clear hne hfn2 hv
        go_wp2_with fail
        refine hw.mono ?_
        rintro e w3 ⟨rfl, rfl⟩
        simp only
        go_wp2_with fail
        go_ret
        exact ⟨by rw [HF2.out]; rfl, rfl⟩
end Go.Proofs.YtgnpgdjjdhlhaaaDoor
