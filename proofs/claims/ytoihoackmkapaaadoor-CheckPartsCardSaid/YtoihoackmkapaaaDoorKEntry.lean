/- The walks of code.Name, Operands; lintelref11.table, entry, Operands; lintelref06.Operators. -/
import Derived.Test.YtoihoackmkapaaaDoorKFind
import Derived.Test.YtoihoackmkapaaaDoorLin
import Derived.Great.Walk
namespace Go.Proofs.YtoihoackmkapaaaDoor
open Go.RowKit
set_option maxHeartbeats 4000000
set_option maxRecDepth 100000

/-- the table that strings.Fields reads -/
def Tb (w : World) : Prop := Lib.TabIs Tryd.prog w "strings.asciiSpace" .u8 Lib.asciiSpaceTab
theorem Tb.below {B : Nat} {w w' : World} (h : Tb w) (hb : Below B w w') (hB : w.heap.size ≤ B) : Tb w' := Joins.tab_stays (g := 0) (by kernel_rfl) h hb hB
theorem name_any (n : Int) (w : World) (hT : Tb w) :
    Calls Tryd.prog 39 #[.int .i64 n] w fun e w' => ∃ nm, e = .returned (.string nm) ∧ (nm.size = 0 ↔ (n < 0 ∨ 70 < n)) ∧ Below w.heap.size w w' := by
  go_enter Tryd.func39, Tryd.ntmps39
  go_wp2_with fail
  refine (find_any n w hT).mono ?_
  rintro e w1 ⟨nm, b, rfl, hnm, b1⟩
  simp only
  go_wp2_with fail
  go_ret
  exact ⟨_, rfl, hnm, b1.alloc b1.size _⟩
theorem codeOps_any (n : Int) (w : World) (hT : Tb w) :
    Calls Tryd.prog 40 #[.int .i64 n] w fun e w' => e = .returned (.string (lettersOf n)) ∧ Below w.heap.size w w' := by
  go_enter Tryd.func40, Tryd.ntmps40
  go_wp2_with fail
  refine (find_any n w hT).mono ?_
  rintro e w1 ⟨nm, b, rfl, hnm, b1⟩
  simp only
  go_wp2_with fail
  go_ret
  exact ⟨rfl, b1.alloc b1.size _⟩

/-- a row of the document's table -/
def joinS (p : ByteArray × ByteArray) : ByteArray := ⟨(p.1.data.toList ++ 32 :: p.2.data.toList).toArray⟩
def tabS : Array Value := (tab.map fun p => Value.string (joinS p)).toArray
theorem tabS_size : tabS.size = 49 := by kernel_rfl
theorem tabS_at {k : Nat} {p : ByteArray × ByteArray} (h : tab[k]? = some p) : tabS[k]? = some (.string (joinS p)) := by
  unfold tabS
  simp [h]
theorem joinS_size (p : ByteArray × ByteArray) : (joinS p).size = p.1.size + 1 + p.2.size := by
  show ((p.1.data.toList ++ 32 :: p.2.data.toList).toArray).size = _
  simp
  show p.1.size + (p.2.size + 1) = _
  omega
theorem joinS_get (p : ByteArray × ByteArray) (i : Nat) (h : i < (joinS p).size) : (joinS p)[i]? = (p.1.data.toList ++ 32 :: p.2.data.toList)[i]? := by
  rw [getElem?_pos (joinS p) i h]
  have h2 : i < (p.1.data.toList ++ 32 :: p.2.data.toList).length := by
    have := joinS_size p
    simp
    show i < p.1.size + (p.2.size + 1)
    omega
  rw [List.getElem?_eq_getElem h2]
  rfl
theorem joinS_name (p : ByteArray × ByteArray) (hns : p.1.data.toList.all (fun b => b != 32) = true) (i : Nat) (h : i < p.1.size) : ((joinS p)[i]?.getD 0).toNat ≠ 32 := by
  have hs := joinS_size p
  rw [joinS_get p i (by omega), List.getElem?_append_left (by rw [Array.length_toList]; exact h)]
  have h3 : i < p.1.data.toList.length := by rw [Array.length_toList]; exact h
  rw [List.getElem?_eq_getElem h3, Option.getD_some]
  have h4 := List.all_eq_true.1 hns _ (List.getElem_mem h3)
  intro e
  have : p.1.data.toList[i] = 32 := UInt8.toNat.inj (by rw [e]; rfl)
  rw [this] at h4
  simp at h4
theorem joinS_space (p : ByteArray × ByteArray) : ((joinS p)[p.1.size]?.getD 0).toNat = 32 := by
  have hs := joinS_size p
  have hl : p.1.data.toList.length = p.1.size := by rw [Array.length_toList]; rfl
  rw [joinS_get p _ (by omega), List.getElem?_append_right (by omega), hl, Nat.sub_self]
  rfl
theorem joinS_left (p : ByteArray × ByteArray) : (joinS p).extract 0 p.1.size = p.1 := by
  apply ByteArray.ext
  rw [ByteArray.data_extract]
  apply Array.toList_inj.1
  have hl : p.1.data.toList.length = p.1.size := by rw [Array.length_toList]; rfl
  show ((p.1.data.toList ++ 32 :: p.2.data.toList).toArray.extract 0 p.1.size).toList = _
  rw [Array.toList_extract, List.extract_eq_take_drop, List.drop_zero, Nat.sub_zero, ← hl]
  exact List.take_left
theorem joinS_right (p : ByteArray × ByteArray) : (joinS p).extract (p.1.size + 1) (joinS p).size = p.2 := by
  apply ByteArray.ext
  rw [ByteArray.data_extract]
  apply Array.toList_inj.1
  have hl : p.1.data.toList.length = p.1.size := by rw [Array.length_toList]; rfl
  have hs := joinS_size p
  show ((p.1.data.toList ++ 32 :: p.2.data.toList).toArray.extract (p.1.size + 1) (joinS p).size).toList = _
  have hl2 : p.2.data.toList.length = p.2.size := by rw [Array.length_toList]; rfl
  have e : p.1.data.toList ++ 32 :: p.2.data.toList = (p.1.data.toList ++ [32]) ++ p.2.data.toList := by simp
  rw [Array.toList_extract, List.extract_eq_take_drop, hs]
  show List.take _ (List.drop (p.1.size + 1) (p.1.data.toList ++ 32 :: p.2.data.toList)) = _
  rw [e, List.drop_left' (by rw [List.length_append, hl]; rfl), List.take_of_length_le (by omega)]
theorem table_any (w : World) : Calls Tryd.prog 43 #[] w fun e w' => e = .returned (.slice (some ⟨w.heap.size, 0, none⟩) 49 49) ∧ w' = w.alloc (.cells tabS 9) := by
  go_enter Tryd.func43, Tryd.ntmps43
  go_wp2_with (refine Great.wpList_buildSliceTo rfl 81 9 49 _ rfl w.heap.size rfl (some 1) rfl Tryd.underlying81 tabS (by kernel_rfl) ?_)
  go_ret
  exact ⟨rfl, rfl⟩
def opS : Array Value := ((Lib.fields binS.data.toList).map fun l => Value.string ⟨l.toArray⟩).toArray
theorem operators_any (w : World) : Calls Tryd.prog 44 #[.int .i64 22] w fun e w' => e = .returned (.slice (some ⟨w.heap.size, 0, none⟩) 22 22) ∧ w' = w.alloc (.cells opS 9) := by
  go_enter Tryd.func44, Tryd.ntmps44
  go_wp2_with (refine Great.wpList_buildSliceTo rfl 81 9 22 _ rfl w.heap.size rfl (some 13) rfl Tryd.underlying81 opS (by kernel_rfl) ?_)
  go_ret
  exact ⟨rfl, rfl⟩

theorem entry_any (n : Int) (w : World) :
    Calls Tryd.prog 31 #[.int .i64 n] w fun e w' => ∃ nm, e = .returned (.tuple #[.string nm, .string (lettersOf n)]) ∧ Below w.heap.size w w' := by
  by_cases h0 : n < 0
  · rw [letters_none (.inl h0)]
    go_enter Tryd.func31, Tryd.ntmps31
    go_wp2_with fail
    refine (table_any _).mono ?_
    rintro e w1 ⟨rfl, rfl⟩
    simp only
    go_wp2_with fail
    go_ret2
    exact ⟨_, rfl, (Below.refl _ _).alloc (Nat.le_refl _) _⟩
  by_cases h1 : 70 < n
  · rw [letters_none (.inr h1)]
    go_enter Tryd.func31, Tryd.ntmps31
    go_wp2_with fail
    refine (table_any _).mono ?_
    rintro e w1 ⟨rfl, rfl⟩
    simp only
    go_wp2_with fail
    go_ret2
    exact ⟨_, rfl, (Below.refl _ _).alloc (Nat.le_refl _) _⟩
  obtain ⟨k, rfl⟩ : ∃ k : Nat, n = k := ⟨n.toNat, by omega⟩
  by_cases h2 : k < 49
  · obtain ⟨p, hp, hpd, hpm⟩ := tab_at h2
    rw [letters_tab h2, hpd]
    have hs := joinS_size p
    have hsp := joinS_space p
    have hle := joinS_left p
    have hri := joinS_right p
    have hnm := joinS_name p (by have := List.all_eq_true.1 tab_nospace p hpm; exact this)
    have hsmall : p.1.size < 100 ∧ p.2.size ≤ 4 := by
      have h3 := List.all_eq_true.1 tab_letters p hpm
      simp only [Bool.and_eq_true, decide_eq_true_eq] at h3
      exact ⟨h3.2, h3.1.1.2⟩
    have hat := tabS_at hp
    obtain ⟨S, hS⟩ : ∃ S, joinS p = S := ⟨_, rfl⟩
    rw [hS] at hs hsp hle hri hnm hat
    obtain ⟨a, b⟩ := p
    simp only at hs hsp hle hri hnm hsmall ⊢
    obtain ⟨M, hM⟩ : ∃ M, a.size = M := ⟨_, rfl⟩
    rw [hM] at hs hsp hle hri hnm hsmall
    have HS := Lib.hid hs
    have HSP := Lib.hid hsp
    have HLE := Lib.hid hle
    have HRI := Lib.hid hri
    have HNM := Lib.hid hnm
    have hcell : (w.alloc (.cells tabS 9)).cell? ⟨w.heap.size, k, none⟩ = some (.string S) := by rw [cell_blockK (heap_alloc_last w _) k, hat]
    have hb : Below w.heap.size w (w.alloc (.cells tabS 9)) := (Below.refl _ _).alloc (Nat.le_refl _) _
    obtain ⟨w1, hw1⟩ : ∃ w1, w.alloc (.cells tabS 9) = w1 := ⟨_, rfl⟩
    rw [hw1] at hcell hb
    have hsz : (S.size : Int) = M + 1 + b.size := by omega
    have hmx : (S.size : Int) ≤ 200 := by omega
    clear hs hsp hle hri hnm hat hp hpd hpm hM hS
    go_enter Tryd.func31, Tryd.ntmps31
    go_wp2_with fail
    refine (table_any _).mono ?_
    rintro e w2 ⟨rfl, rfl⟩
    rw [hw1]
    clear hw1
    simp only
    go_wp2_with fail
    go_loopw [5] (fun i wr => ∃ j : Nat, j ≤ M ∧ i = .int .i64 j ∧ wr = w1) (fun i _ => S.size - (intOf i).toNat)
    case atStart => exact ⟨0, Nat.zero_le _, rfl, rfl⟩
    case round =>
      obtain ⟨j, hj, rfl, rfl⟩ := hrel
      have hjS : j < S.size := by have := HS.out; omega
      have i1 := run_index_str (P := Tryd.prog) Tryd.underlying9 S (j : Int) j rfl hjS
      have hjS2 : (j : Int) < S.size := by omega
      by_cases hlt : j < M
      · have hne := HNM.out j hlt
        obtain ⟨x, hx⟩ : ∃ x : Nat, x = (S[j]?.getD 0).toNat := ⟨_, rfl⟩
        rw [← hx] at i1 hne
        have hne2 : ¬ ((x : Int) = 32) := by omega
        clear hx
        go_wp2_with fail
        go_roundw
        case rel => exact ⟨j + 1, by omega, by go_num, trivial⟩
        case measure => simp [intOf]; omega
      · obtain rfl : j = M := by omega
        rw [HSP.out] at i1
        go_wp2_with fail
        refine wp_region_lin (fun w' => w' = wr.drew) [14] (.block 0 (.block 1 (.block 2 (.block 3 (.block 4 (.block 5 (.block 6 (.block 7 (.block 8 (.block 9 (.block 10 (.block 11 (.block 12 (.block 13 (.loop (.block 14 (.skip))))))))))))))))) (by kernel_rfl) (by kernel_rfl) (by kernel_rfl) (by kernel_rfl) (by kernel_rfl) rfl ?_
        repeat
          (refine lin_light (A1 := ?_) rfl rfl rfl rfl rfl (fun w' hS K hK => ?_) ?_ ?_
           rotate_left
           · obtain rfl := hS; go_step; exact hK
           · rfl)
        try refine lin_late ?_
        repeat
          (refine lin_light (A1 := ?_) rfl rfl rfl rfl rfl (fun w' hS K hK => ?_) ?_ ?_
           rotate_left
           · clear hS; go_step; exact hK
           · rfl)
        refine lin_end ?_
        go_wp2_with fail
        go_ret2
        refine ⟨a, ?_, hb.drew⟩
        rw [← HLE.out, ← HRI.out]
        rfl
  · obtain ⟨m, rfl⟩ : ∃ m, k = 49 + m := ⟨k - 49, by omega⟩
    rw [letters_bin (by omega) (by omega)]
    have hm : m < 22 := by omega
    obtain ⟨nm, hnm, _⟩ := bin_at hm
    have hcell : ((w.alloc (.cells tabS 9)).alloc (.cells opS 9)).cell? ⟨w.heap.size + 1, m, none⟩ = some (.string nm) := by
      have := heap_alloc_last (w.alloc (.cells tabS 9)) (.cells opS 9)
      rw [show (w.alloc (.cells tabS 9)).heap.size = w.heap.size + 1 by simp] at this
      rw [cell_blockK this m]
      exact hnm
    have hb : Below w.heap.size w ((w.alloc (.cells tabS 9)).alloc (.cells opS 9)) := ((Below.refl _ _).alloc (Nat.le_refl _) _).alloc (by simp) _
    go_enter Tryd.func31, Tryd.ntmps31
    go_wp2_with fail
    refine (table_any _).mono ?_
    rintro e w2 ⟨rfl, rfl⟩
    simp only
    go_wp2_with fail
    refine (operators_any _).mono ?_
    rintro e w2 ⟨rfl, rfl⟩
    rw [show (w.alloc (.cells tabS 9)).heap.size = w.heap.size + 1 by simp]
    obtain ⟨w3, hw3⟩ : ∃ w3, (w.alloc (.cells tabS 9)).alloc (.cells opS 9) = w3 := ⟨_, rfl⟩
    rw [hw3] at hcell hb ⊢
    clear hw3 hnm
    have hsub : ((49 + m : Nat) : Int) - 49 = m := by omega
    simp only
    go_wp2_with fail
    go_ret2
    exact ⟨_, rfl, hb⟩
theorem refOps_any (n : Int) (w : World) :
    Calls Tryd.prog 16 #[.int .i64 n] w fun e w' => e = .returned (.string (lettersOf n)) ∧ Below w.heap.size w w' := by
  go_enter Tryd.func16, Tryd.ntmps16
  go_wp2_with fail
  refine (entry_any n w).mono ?_
  rintro e w1 ⟨nm, rfl, b1⟩
  simp only
  go_wp2_with fail
  go_ret
  exact ⟨rfl, b1⟩
end Go.Proofs.YtoihoackmkapaaaDoor
