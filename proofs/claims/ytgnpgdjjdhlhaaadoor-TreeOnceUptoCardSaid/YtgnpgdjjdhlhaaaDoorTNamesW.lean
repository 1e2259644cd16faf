/- The walks of words and names: both sides. -/
import Derived.Test.YtgnpgdjjdhlhaaaDoorTNames
import Derived.Test.YtgnpgdjjdhlhaaaDoorTKinds
namespace Go.Proofs.YtgnpgdjjdhlhaaaDoor
open Go.RowKit
set_option maxHeartbeats 4000000
set_option maxRecDepth 100000
attribute [local go_sem] Oper.semAt_some

theorem Tryd.info_str : (Tryd.prog.info? 9).map (fun i => (i.zero, i.size, i.bytes)) = some (some (.string ⟨#[]⟩), 1, 16) := by kernel_rfl
def strV (l : List UInt8) : Value := .string ⟨l.toArray⟩
def strVs (l : List (List UInt8)) : List Value := l.map strV
theorem strVs_snoc (l : List (List UInt8)) (k : List UInt8) : strVs (l ++ [k]) = strVs l ++ [strV k] := by unfold strVs; rw [List.map_append]; rfl
theorem enc_tab : (List.range 128).all (fun n => (Utf8.encode (n : Nat)).data.toList == [UInt8.ofNat n]) = true := by decide +kernel
theorem enc_ascii (b : UInt8) (h : b.toNat < 128) : Utf8.encode (b.toNat : Nat) = ⟨#[b]⟩ := by
  have h1 := List.all_eq_true.1 enc_tab b.toNat (List.mem_range.2 h)
  have h2 := eq_of_beq h1
  rw [← ba_data (Utf8.encode (b.toNat : Nat)), h2]
  simp
theorem conv_ascii (b : UInt8) (h : b.toNat < 128) (w : World) : (convert 5 9 (.int .u8 (b.toNat : Nat))).run Tryd.prog w = .ok (.string ⟨#[b]⟩) w := by
  rw [run_convert_int_string w 5 9 .u8 _ (by rw [Tryd.underlying5]; rfl) Tryd.underlying9, enc_ascii b h]
theorem ba_beq (x s : ByteArray) : (x == s) = (x.toList == s.toList) := by
  rw [ByteArray.toList_eq, ByteArray.toList_eq]
  show (x.data == s.data) = _
  cases h : (x.data == s.data) with
  | true => rw [eq_of_beq h]; simp
  | false =>
    symm
    rw [beq_eq_false_iff_ne] at h ⊢
    exact fun e => h (Array.toList_inj.1 e)
theorem among_any {w : World} {A : Option Addr} {n c : Nat} {l : List ByteArray} (s : ByteArray) (hr : Rd w w.heap.size A (l.map Value.string)) (hn : l.length = n) (hn2 : n ≤ 1000) :
    Calls Tryd.prog 12 #[.slice A n c, .string s] w fun e w' => e = .returned (.bool (l.any (fun x => x == s))) ∧ w' = w := by
  have Hn := Lib.hid hn
  clear hn
  obtain ⟨f, hff⟩ : ∃ f, (fun x : ByteArray => x == s) = f := ⟨_, rfl⟩
  rw [hff]
  have HFF := Lib.hid hff
  clear hff
  go_enter Tryd.func12, Tryd.ntmps12
  go_wp2_with fail
  go_loopw [9] (fun i wr => ∃ k : Nat, k ≤ n ∧ i = .int .i64 k ∧ wr = w ∧ l.any f = (l.drop k).any f) (fun i _ => n - (intOf i).toNat)
  case atStart => exact ⟨0, Nat.zero_le _, rfl, rfl, rfl⟩
  case round =>
    obtain ⟨k, hk, rfl, rfl, hf⟩ := hrel
    have HF := Lib.hid hf
    clear hf
    by_cases hlt : k < n
    · obtain ⟨x, hx⟩ : ∃ x, l[k]? = some x := ⟨l[k]'(by have := Hn.out; omega), List.getElem?_eq_getElem _⟩
      obtain ⟨ad, rfl, _, hc⟩ := hr.at_ (k := k) (u := .string x) (by rw [List.getElem?_map, hx]; rfl)
      have hat : (l.drop k).any f = (f x || (l.drop (k + 1)).any f) := by
        rw [List.drop_eq_getElem_cons (List.getElem?_eq_some_iff.1 hx).1, (List.getElem?_eq_some_iff.1 hx).2]
        rfl
      have HA := Lib.hid hat
      clear hx hat
      obtain ⟨v, hv⟩ : ∃ v, (x.toList == s.toList) = v := ⟨_, rfl⟩
      have hfx : f x = v := by rw [← HFF.out, ← hv]; exact ba_beq x s
      cases v with
      | true =>
        have hfin : l.any f = true := by rw [HF.out, HA.out, hfx]; rfl
        have HFIN := Lib.hid hfin
        clear hfin hfx
        go_wp2_with fail
        go_ret
        exact ⟨by rw [HFIN.out]; rfl, rfl⟩
      | false =>
        have hfin : l.any f = (l.drop (k + 1)).any f := by rw [HF.out, HA.out, hfx]; rfl
        have HFIN := Lib.hid hfin
        clear hfin hfx
        go_wp2_with fail
        go_roundw
        case rel => exact ⟨k + 1, by omega, by go_num, trivial, HFIN.out⟩
        case measure => simp [intOf] <;> omega
    · obtain rfl : k = n := by omega
      have hfin : l.any f = false := by rw [HF.out, List.drop_of_length_le (by have := Hn.out; omega)]; rfl
      have HFIN := Lib.hid hfin
      clear hfin
      go_wp2_with fail
      go_ret
      exact ⟨by rw [HFIN.out]; rfl, rfl⟩
theorem strV_of {x : ByteArray} {cur : List UInt8} (h : x.data.toList = cur) : strV cur = .string x := by
  unfold strV
  rw [← h, ba_data]
theorem cat_one {x : ByteArray} {cur : List UInt8} (h : x.data.toList = cur) (b : UInt8) : (x ++ ⟨#[b]⟩).data.toList = cur ++ [b] := by
  rw [← h]
  simp
theorem e32 (b : UInt8) (h : ((b.toNat : Nat) : Int) = 32) : b = 32 := by
  have h2 : b.toNat = 32 := by omega
  exact UInt8.toNat_inj.1 h2
theorem list_any {s : ByteArray} {L : List UInt8} {n : Nat} (hL : s.data.toList = L) (hn : s.size = n) (hn2 : n ≤ 1000) (ha : L.all (fun b => decide (b.toNat < 128)) = true) (w : World) :
    Calls Tryd.prog 72 #[.string s] w fun e w' => ∃ A m c, e = .returned (.slice A m c) ∧ (splitL [] L).length = m ∧ Rd w' w'.heap.size A (strVs (splitL [] L)) ∧ Below w.heap.size w w' := by
  obtain ⟨i0, hi0, hz0, hz1, hz2⟩ := info_parts Tryd.info_str
  have HL := Lib.hid hL
  have HN := Lib.hid hn
  have HA := Lib.hid ha
  obtain ⟨T, hT⟩ : ∃ T, splitL [] L = T := ⟨_, rfl⟩
  rw [hT]
  have HT := Lib.hid hT
  clear hL ha hT
  go_enter Tryd.func72, Tryd.ntmps72
  go_wp2_with fail
  go_loopw [3, 4, 5] (fun v x i wr => ∃ (k : Nat) (acc : List (List UInt8)) (cur : List UInt8), k ≤ n + 1 ∧ i = .int .i64 k ∧ (∃ X : ByteArray, x = .string X ∧ X.data.toList = cur) ∧ cur.length ≤ k ∧ acc.length ≤ k ∧ Below w.heap.size w wr ∧ wr.ownsRow w.heap.size 9 1 v acc.length (strVs acc) ∧ ((k ≤ n ∧ acc ++ splitL cur (L.drop k) = T) ∨ (k = n + 1 ∧ acc = T))) (fun _ _ i _ => n + 1 - (intOf i).toNat)
  case atStart => exact ⟨0, [], [], Nat.zero_le _, rfl, ⟨_, rfl, rfl⟩, Nat.le_refl _, Nat.le_refl _, Below.refl _ _, World.ownsRow_nil _ _ _ _, .inl ⟨Nat.zero_le _, HT.out⟩⟩
  case round =>
    obtain ⟨k, acc, cur, hk, rfl, ⟨X, rfl, hX⟩, hcl, hal, hb, hown, hst⟩ := hrel
    have HX := Lib.hid hX
    have hXs : X.size ≤ k := by rw [← ba_len, hX]; exact hcl
    clear hX
    have HST := Lib.hid hst
    clear hst
    have hbs := hb.size
    by_cases hlt : k < n
    · obtain ⟨b, hb1⟩ : ∃ b, s[k]?.getD 0 = b := ⟨_, rfl⟩
      have hat : L[k]? = some b := by rw [← HL.out, ba_at (by rw [HN.out]; exact hlt), hb1]
      have hb7 : b.toNat < 128 := by simpa using List.all_eq_true.1 HA.out b (List.mem_of_getElem? hat)
      have i1 := fun w => run_index_str (P := Tryd.prog) Tryd.underlying9 s (k : Int) k rfl (by rw [HN.out]; exact hlt) w
      rw [hb1] at i1
      have HS := Lib.hid (split_at (cur := cur) hat)
      have hcv := conv_ascii b hb7
      have hgo : acc ++ splitL cur (L.drop k) = T := by
        rcases HST.out with h | h
        · exact h.2
        · omega
      rw [HS.out] at hgo
      clear hat hb1
      by_cases h32 : b = 32
      · subst h32
        rw [if_pos rfl] at hgo
        have i1 : ∀ w, (Instr.index 9 (.string s) (.int .i64 (k : Nat))).run Tryd.prog w = .ok (.int .u8 32) w := i1
        by_cases hc : cur = []
        · subst hc
          obtain rfl := ba_nil (s := X) (by rw [← ba_len, HX.out]; rfl)
          rw [if_pos rfl, List.nil_append] at hgo
          have HG := Lib.hid hgo
          clear hgo
          go_wp2_with fail
          go_roundw
          case rel => exact ⟨k + 1, acc, [], by omega, by go_num, ⟨_, rfl, rfl⟩, Nat.zero_le _, by omega, hb, hown, .inl ⟨by omega, HG.out⟩⟩
          case measure => simp [intOf] <;> omega
        · rw [if_neg hc, ← List.append_assoc] at hgo
          have HG := Lib.hid hgo
          clear hgo
          have hne := (ba_empty (s := X) (by rw [← ba_len, HX.out]; exact fun e => hc (List.length_eq_zero_iff.1 e))).1
          clear hc
          go_wp2_with (at_builtin; refine wpList_append_own _ rfl _ _ 32 rfl w.heap.size 9 i0 _ 1 16 Tryd.underlying32 hi0 hz0 hz1 hz2 rfl (by decide) _ _ _ rfl (hown.alloc _) ⟨wr.heap.size, 0, none⟩ 1 1 [.string X] rfl rfl (cell_one_new _ _ _) (by simp [Value.oneCell']) (by unfold maxLen; omega) (by omega) (by simp; omega) ?_; intro v' W3 hown' hgrow3 hnil3; obtain ⟨g', cap', rfl⟩ := ownsRow_succ hown')
          go_roundw
          case rel => exact ⟨k + 1, acc ++ [cur], [], by omega, by go_num, ⟨_, rfl, rfl⟩, Nat.zero_le _, by simp; omega, (hb.alloc hbs _).grown hgrow3 (by simp; omega) (fun q hq => (hown.lt q hq).1), by rw [strVs_snoc, List.length_append, strV_of HX.out]; exact hown', .inl ⟨by omega, HG.out⟩⟩
          case measure => simp [intOf] <;> omega
      · rw [if_neg h32] at hgo
        have HG := Lib.hid hgo
        clear hgo
        have h32' : ((b.toNat : Int) == 32) = false := by rw [beq_eq_false_iff_ne]; exact fun e => h32 (e32 b e)
        have h32'' : ((b.toNat : Int) != 32) = true := by rw [bne, h32']; rfl
        clear h32
        have hcx := fun (y : ByteArray) (hy : y.data.toList = cur) => cat_one hy b
        have HCX := Lib.hid hcx
        clear hcx
        go_wp2_with fail
        go_roundw
        case rel => exact ⟨k + 1, acc, cur ++ [b], by omega, by go_num, ⟨_, rfl, HCX.out _ HX.out⟩, by simp; omega, by omega, hb, hown, .inl ⟨by omega, HG.out⟩⟩
        case measure => simp [intOf] <;> omega
    · by_cases hkn : k = n
      · subst hkn
        have hgo : acc ++ splitL cur [] = T := by
          rcases HST.out with h | h
          · rw [← h.2, List.drop_of_length_le (by rw [← HL.out, ba_len, HN.out]; exact Nat.le_refl _)]
          · omega
        unfold splitL at hgo
        by_cases hc : cur = []
        · subst hc
          obtain rfl := ba_nil (s := X) (by rw [← ba_len, HX.out]; rfl)
          rw [if_pos rfl, List.append_nil] at hgo
          have HG := Lib.hid hgo
          clear hgo
          go_wp2_with fail
          go_roundw
          case rel => exact ⟨k + 1, acc, [], by omega, by go_num, ⟨_, rfl, rfl⟩, Nat.zero_le _, by omega, hb, hown, .inr ⟨rfl, HG.out⟩⟩
          case measure => simp [intOf] <;> omega
        · rw [if_neg hc] at hgo
          have HG := Lib.hid hgo
          clear hgo
          have hne := (ba_empty (s := X) (by rw [← ba_len, HX.out]; exact fun e => hc (List.length_eq_zero_iff.1 e))).1
          clear hc
          go_wp2_with (at_builtin; refine wpList_append_own _ rfl _ _ 32 rfl w.heap.size 9 i0 _ 1 16 Tryd.underlying32 hi0 hz0 hz1 hz2 rfl (by decide) _ _ _ rfl (hown.alloc _) ⟨wr.heap.size, 0, none⟩ 1 1 [.string X] rfl rfl (cell_one_new _ _ _) (by simp [Value.oneCell']) (by unfold maxLen; omega) (by omega) (by simp; omega) ?_; intro v' W3 hown' hgrow3 hnil3; obtain ⟨g', cap', rfl⟩ := ownsRow_succ hown')
          go_roundw
          case rel => exact ⟨k + 1, acc ++ [cur], [], by omega, by go_num, ⟨_, rfl, rfl⟩, Nat.zero_le _, by simp; omega, (hb.alloc hbs _).grown hgrow3 (by simp; omega) (fun q hq => (hown.lt q hq).1), by rw [strVs_snoc, List.length_append, strV_of HX.out]; exact hown', .inr ⟨rfl, HG.out⟩⟩
          case measure => simp [intOf] <;> omega
      · obtain rfl : k = n + 1 := by omega
        have hfin : acc = T := by
          rcases HST.out with h | h
          · omega
          · exact h.2
        subst hfin
        obtain ⟨A', c', rfl⟩ := own_formK hown
        go_wp2_with fail
        go_ret
        exact ⟨_, _, ⟨_, rfl⟩, rfl, Rd.of_own hown, hb⟩
def wordsS : ByteArray := ⟨#[98, 114, 101, 97, 107, 32, 99, 97, 115, 101, 32, 99, 97, 116, 99, 104, 32, 99, 108, 97, 115, 115, 32, 99, 111, 110, 115, 116, 32, 99, 111, 110, 116, 105, 110, 117, 101, 32, 100, 101, 98, 117, 103, 103, 101, 114, 32, 100, 101, 102, 97, 117, 108, 116, 32, 100, 101, 108, 101, 116, 101, 32, 100, 111, 32, 101, 108, 115, 101, 32, 101, 110, 117, 109, 32, 101, 120, 112, 111, 114, 116, 32, 101, 120, 116, 101, 110, 100, 115, 32, 102, 97, 108, 115, 101, 32, 102, 105, 110, 97, 108, 108, 121, 32, 102, 111, 114, 32, 102, 117, 110, 99, 116, 105, 111, 110, 32, 105, 102, 32, 105, 109, 112, 111, 114, 116, 32, 105, 110, 32, 105, 110, 115, 116, 97, 110, 99, 101, 111, 102, 32, 110, 101, 119, 32, 110, 117, 108, 108, 32, 114, 101, 116, 117, 114, 110, 32, 115, 117, 112, 101, 114, 32, 115, 119, 105, 116, 99, 104, 32, 116, 104, 105, 115, 32, 116, 104, 114, 111, 119, 32, 116, 114, 117, 101, 32, 116, 114, 121, 32, 116, 121, 112, 101, 111, 102, 32, 118, 97, 114, 32, 118, 111, 105, 100, 32, 119, 104, 105, 108, 101, 32, 119, 105, 116, 104, 32, 105, 109, 112, 108, 101, 109, 101, 110, 116, 115, 32, 105, 110, 116, 101, 114, 102, 97, 99, 101, 32, 108, 101, 116, 32, 112, 97, 99, 107, 97, 103, 101, 32, 112, 114, 105, 118, 97, 116, 101, 32, 112, 114, 111, 116, 101, 99, 116, 101, 100, 32, 112, 117, 98, 108, 105, 99, 32, 115, 116, 97, 116, 105, 99, 32, 121, 105, 101, 108, 100]⟩
theorem words_any (w : World) : Calls Tryd.prog 58 #[] w fun e w' => ∃ A m c, e = .returned (.slice A m c) ∧ wordsW.length = m ∧ Rd w' w'.heap.size A (strVs wordsW) ∧ Below w.heap.size w w' := by
  have h := fun w => list_any (s := wordsS) (L := wordsR) (n := 287) (by decide +kernel) (by decide +kernel) (by omega) (by decide +kernel) w
  go_enter Tryd.func58, Tryd.ntmps58
  go_wp2_with fail
  refine Calls.mono (h w) ?_
  rintro e w1 ⟨A, m, c, rfl, hm, hr, hb⟩
  have HM := Lib.hid hm
  clear hm
  simp only
  go_wp2_with fail
  go_ret
  exact ⟨_, _, _, rfl, HM.out, hr, hb⟩
theorem wordsW_len : wordsW.length ≤ 1000 := by decide +kernel
theorem any_words (s : ByteArray) : (wordsW.map fun l => (⟨l.toArray⟩ : ByteArray)).any (fun x => x == s) = wordU s.data.toList := by
  unfold wordU
  rw [List.any_map, List.contains_eq_any_beq]
  congr 1
  funext l
  show ((⟨l.toArray⟩ : ByteArray) == s) = (s.data.toList == l)
  rw [ba_beq, ByteArray.toList_eq, ByteArray.toList_eq]
  show (l.toArray.toList == s.data.toList) = _
  rw [List.toList_toArray, Bool.beq_comm]
theorem refword_any (s : ByteArray) (w : World) : Calls Tryd.prog 42 #[.string s] w fun e w' => e = .returned (.bool (wordU s.data.toList)) ∧ Below w.heap.size w w' := by
  rw [← any_words s]
  have h := fun A n c (w : World) (hr : Rd w w.heap.size A (strVs wordsW)) hn => among_any (w := w) (A := A) (n := n) (c := c) (l := wordsW.map fun l => (⟨l.toArray⟩ : ByteArray)) s (by rw [List.map_map]; exact hr) hn
  obtain ⟨v, hv⟩ : ∃ v, (wordsW.map fun l => (⟨l.toArray⟩ : ByteArray)).any (fun x => x == s) = v := ⟨_, rfl⟩
  rw [hv] at h ⊢
  have H := Lib.hid h
  clear h hv
  go_enter Tryd.func42, Tryd.ntmps42
  go_wp2_with fail
  refine (words_any w).mono ?_
  rintro e w1 ⟨A, m, c, rfl, hm, hr, hb⟩
  have hm2 : m ≤ 1000 := by rw [← hm]; exact wordsW_len
  have HC := Lib.hid (H.out A m c w1 hr (by rw [List.length_map]; exact hm) hm2)
  clear hm hr
  simp only
  go_wp2_with fail
  refine HC.out.mono ?_
  rintro e w2 ⟨rfl, rfl⟩
  simp only
  go_wp2_with fail
  go_ret
  exact ⟨rfl, hb⟩
end Go.Proofs.YtgnpgdjjdhlhaaaDoor
