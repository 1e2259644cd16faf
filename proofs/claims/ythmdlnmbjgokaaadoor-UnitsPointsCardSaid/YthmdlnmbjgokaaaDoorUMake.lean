/- The walks of (*strings.Builder).WriteRune, units.Point, Make, Units, At. -/
import Derived.Test.YthmdlnmbjgokaaaDoorUPut
import Derived.Lib.RuneLoops
namespace Go.Proofs.YthmdlnmbjgokaaaDoor
open Go.RowKit
set_option maxHeartbeats 2000000
set_option maxRecDepth 100000

def okB (ns : List Int) : Prop := ∀ n ∈ ns, 0 ≤ n ∧ n < 256
def okU (us : List Int) : Prop := ∀ u ∈ us, 0 ≤ u ∧ u < 65536
/-- bytes as cells -/
def cellsN (ns : List Int) : List Value := ns.map (Value.int .u8)
theorem cellsN_append (a b : List Int) : cellsN (a ++ b) = cellsN a ++ cellsN b := by simp [cellsN]
theorem cellsN_length (a : List Int) : (cellsN a).length = a.length := by simp [cellsN]
theorem bytes_ok {us : List Int} (h : okU us) : okB (bytesOf us) := by
  intro n hn
  simp only [bytesOf, List.mem_flatMap, List.mem_cons, List.not_mem_nil, or_false] at hn
  obtain ⟨u, hu, h1⟩ := hn
  have := h u hu
  rcases h1 with rfl | rfl <;> omega
theorem cells_str {ns : List Int} (h : okB ns) : Lib.byteCells (strOfNums ns).data.toList = cellsN ns := by
  rw [strOfNums_data]
  simp only [Lib.byteCells, cellsN, List.map_map]
  apply List.map_congr_left
  intro n hn
  have := h n hn
  simp only [Function.comp]
  congr 1
  rw [UInt8.toNat_ofNat']
  omega
theorem strCells_str {ns : List Int} (h : okB ns) : Lib.strCells (strOfNums ns) = cellsN ns := cells_str h
theorem point_ok (r : Int) : okU (pointU r) := by
  unfold pointU okU
  split
  · simp
  · split
    · intro u hu; simp at hu; omega
    · intro u hu; simp at hu; rcases hu with rfl | rfl <;> omega
theorem bytes_point_le (r : Int) : (bytesOf (pointU r)).length ≤ 4 := by
  rw [bytesOf_length]
  unfold pointU
  split
  · simp
  · split <;> simp

theorem string_any (B b : Nat) (ns : List Int) (hn : okB ns) (w : World) (h : Lib.IsBuilderF 65 5 B b (cellsN ns) w) (hBw : B ≤ w.heap.size) :
    Calls Tryd.prog 38 #[.pointer (some ⟨b, 0, none⟩)] w fun e w' => e = .returned (.string (strOfNums ns)) ∧ Below B w w' := by
  rw [← cells_str hn] at h
  refine (Tryd.Builder_String_any_k B b _ w h hBw).mono ?_
  rintro e w' ⟨rfl, _, hb, _⟩
  exact ⟨by rw [Lib.ofBytes], hb⟩

theorem writeRune_any (B b : Nat) (bs : List Value) (r : Int) (hr0 : -2147483648 ≤ r) (hr1 : r ≤ 2147483647) (w : World) (h : Lib.IsBuilderF 65 5 B b bs w) (hlen : bs.length + 4 ≤ 140737488355328) (hBw : B ≤ w.heap.size) :
    Calls Tryd.prog 40 #[.pointer (some ⟨b, 0, none⟩), .int .i32 r] w fun e w' => e = .returned (.tuple #[.int .i64 (Lib.runeCells r).length, .nilIface]) ∧ (Lib.BuilderAtF 65 5 B b (.pointer (some ⟨b, 0, none⟩)) (bs ++ Lib.runeCells r) w' ∧ Below B w w' ∧ Lib.OthersKept 5 (some b) w w') := by
  have hk4 := Lib.runeCells_le r
  go_enter Tryd.func40, Tryd.ntmps40
  go_wp2_with fail
  refine (copyCheck_any B b bs _ h).mono ?_
  rintro e w1 ⟨rfl, h1, hb1, hk1⟩
  obtain ⟨hB, v, hbk, hown, hne⟩ := h1
  obtain ⟨ao, cap, rfl⟩ : ∃ ao cap, v = .slice ao bs.length cap := by
    rcases hown.2 with ⟨hv, h0⟩ | ⟨g, cap, cur, fz, hv, _⟩
    · exact ⟨none, 0, by rw [hv, h0]⟩
    · exact ⟨_, _, hv⟩
  have c0 : w1.cell? ⟨b, 0, none⟩ = some (.pointer (some ⟨b, 0, none⟩)) := by rw [Lib.cell_of_heap hbk]; rfl
  have c1 : w1.cell? ⟨b, 1, none⟩ = some (.slice ao bs.length cap) := by rw [Lib.cell_of_heap hbk]; rfl
  simp only
  go_wp2_with fail
  refine (Tryd.utf8_AppendRune_row B _ bs.length bs r hr0 hr1 _ hown hlen (by have := hb1.size; omega)).mono ?_
  rintro e w2 ⟨v', rfl, hown', o, hgrow⟩
  have hlt : b < w1.heap.size := by
    rcases Nat.lt_or_ge b w1.heap.size with h' | h'
    · exact h'
    · simp [Array.getElem?_eq_none h'] at hbk
  have hb2 : w2.heap[b]? = some (.cells #[.pointer (some ⟨b, 0, none⟩), .slice ao bs.length cap] 65 (0, 0)) := by
    rw [hgrow.block b (by simp; omega) (fun e => hne e.symm), Lib.alloc_old w1 _ b hlt]
    exact hbk
  have d0 : w2.cell? ⟨b, 0, none⟩ = some (.pointer (some ⟨b, 0, none⟩)) := by rw [Lib.cell_of_heap hb2]; rfl
  have d1 : w2.cell? ⟨b, 1, none⟩ = some (.slice ao bs.length cap) := by rw [Lib.cell_of_heap hb2]; rfl
  have f1 : w2.frozen? ⟨b, 1, none⟩ = false := Lib.frozen_of_heap hb2 1
  obtain ⟨g, cap', rfl⟩ : ∃ g cap', v' = .slice (some ⟨g, 0, none⟩) (bs.length + (Lib.runeCells r).length) cap' := by
    rcases hown'.2 with ⟨_, h0⟩ | ⟨g, cap', cur, fz, hv, _⟩
    · omega
    · exact ⟨g, cap', hv⟩
  simp only
  go_wp2_with fail
  go_ret2
  refine ⟨?_, ?_, ?_, ((hk1.alloc _).grown hgrow (Lib.ownsRowF_kind (hown.alloc _))).setCell ⟨b, 1, none⟩ rfl _⟩
  · have e : ((bs.length : Int) + ((Lib.runeCells r).length : Int) - (bs.length : Int)) = ((Lib.runeCells r).length : Int) := by omega
    simp [e]
  · exact Lib.BuilderAtF.put (T := 65) (e := 5) hB hb2 (bs' := bs ++ Lib.runeCells r) (by simpa using hown') (by decide)
  · exact ((hb1.alloc (by have := hb1.size; omega) _).grown hgrow (by have := hb1.size; simp; omega) (fun k hk => (hown.lt k hk).1)).setCell (p := ⟨b, 1, none⟩) hB _

theorem bytesOf_one (u : Int) : bytesOf [u] = [u / 256, u % 256] := rfl

theorem pointUnits_any (r : Int) (w : World) (hr0 : -2147483648 ≤ r) (hr1 : r ≤ 2147483647) :
    Calls Tryd.prog 15 #[.int .i32 r] w fun e w' => e = .returned (.string (makeB (pointU r))) ∧ Below w.heap.size w w' := by
  have hI0 := (Lib.IsBuilderF.of (Lib.fresh_isBuilder 65 5 w))
  have hBw0 : w.heap.size ≤ (w.alloc (.cells #[.pointer none, .slice none 0 0] 65)).heap.size := by simp
  have hb0 := (Below.refl w.heap.size w).alloc (Nat.le_refl _) (.cells #[.pointer none, .slice none 0 0] 65)
  by_cases c0 : r < 0
  · rw [pointU_none (.inl c0)]
    go_enter Tryd.func15, Tryd.ntmps15
    go_wp2_with fail
    refine (string_any w.heap.size w.heap.size [] (by intro n hn; cases hn) _ hI0 hBw0).mono ?_
    rintro e w1 ⟨rfl, b1⟩
    simp only
    go_wp2_with fail
    go_ret
    exact ⟨rfl, hb0.trans b1⟩
  by_cases c1 : 1114111 < r
  · rw [pointU_none (.inr c1)]
    go_enter Tryd.func15, Tryd.ntmps15
    go_wp2_with fail
    refine (string_any w.heap.size w.heap.size [] (by intro n hn; cases hn) _ hI0 hBw0).mono ?_
    rintro e w1 ⟨rfl, b1⟩
    simp only
    go_wp2_with fail
    go_ret
    exact ⟨rfl, hb0.trans b1⟩
  by_cases c2 : r < 65536
  · rw [pointU_low (by omega) c2]
    go_enter Tryd.func15, Tryd.ntmps15
    go_wp2_with fail
    refine (put_any w.heap.size w.heap.size [] r (by omega) _ hI0 (by simp) hBw0).mono ?_
    rintro e w1 ⟨rfl, h1, b1, _⟩
    simp only
    go_wp2_with fail
    refine (string_any w.heap.size w.heap.size (bytesOf [r]) (bytes_ok (by intro u hu; simp at hu; omega)) _ (.inr h1) (by have := b1.size; simp at this; omega)).mono ?_
    rintro e w2 ⟨rfl, b2⟩
    simp only
    go_wp2_with fail
    go_ret
    exact ⟨rfl, (hb0.trans b1).trans b2⟩
  · have m1 : bits .and .i32 r 1023 = r % 1024 := bits_mask .i32 31 (by decide) wraps_i32 10 (by decide) r (by omega) (by omega)
    have m2 : bits .or .i32 56320 (r % 1024) = 56320 + r % 1024 := bits_join .i32 31 (by decide) wraps_i32 10 56320 (r % 1024) (by decide) (by decide) (by decide) (by omega) (by omega) (by omega)
    rw [pointU_high (by omega) (by omega), show (r - 65536) % 1024 = r % 1024 by omega]
    go_enter Tryd.func15, Tryd.ntmps15
    go_wp2_with fail
    refine (put_any w.heap.size w.heap.size [] (55296 + (r - 65536) / 1024) (by omega) _ hI0 (by simp) hBw0).mono ?_
    rintro e w1 ⟨rfl, h1, b1, _⟩
    simp only
    go_wp2_with fail
    refine (put_any w.heap.size w.heap.size _ (56320 + r % 1024) (by omega) _ (.inr h1) (by simp) (by have := b1.size; simp at this; omega)).mono ?_
    rintro e w2 ⟨rfl, h2, b2, _⟩
    simp only
    go_wp2_with fail
    refine (string_any w.heap.size w.heap.size (bytesOf [55296 + (r - 65536) / 1024, 56320 + r % 1024]) (bytes_ok (by intro u hu; simp at hu; omega)) _ (.inr h2) (by have := b1.size; have := b2.size; simp at *; omega)).mono ?_
    rintro e w3 ⟨rfl, b3⟩
    simp only
    go_wp2_with fail
    go_ret
    exact ⟨rfl, ((hb0.trans b1).trans b2).trans b3⟩

theorem makeUnits_any (us : List Int) (A : Option Addr) (n c : Nat) (w : World) (h : Rd w w.heap.size A (us.map (Value.int .u16))) (hl : us.length = n) (hu : okU us) (hn : n ≤ 1048576) :
    Calls Tryd.prog 26 #[.slice A n c] w fun e w' => e = .returned (.string (makeB us)) ∧ Below w.heap.size w w' := by
  have hI0 := (Lib.IsBuilderF.of (Lib.fresh_isBuilder 65 5 w))
  have hb0 := (Below.refl w.heap.size w).alloc (Nat.le_refl _) (.cells #[.pointer none, .slice none 0 0] 65)
  have Hl := Lib.hid hl
  clear hl
  go_enter Tryd.func26, Tryd.ntmps26
  go_wp2_with fail
  go_loopw [8] (fun i wr => ∃ k : Nat, k ≤ n ∧ i = .int .i64 k ∧ Lib.IsBuilderF 65 5 w.heap.size w.heap.size (cellsN (bytesOf (us.take k))) wr ∧ Below w.heap.size w wr)
    (fun i _ => n - (intOf i).toNat)
  case atStart => exact ⟨0, by omega, rfl, hI0, hb0⟩
  case round =>
    obtain ⟨k, hk, rfl, hI, hb⟩ := hrel
    have hsz := hb.size
    by_cases hlt : k < n
    · have hkl : k < us.length := by have := Hl.out; omega
      obtain ⟨u, hku⟩ : ∃ u, us[k]? = some u := ⟨us[k], List.getElem?_eq_getElem hkl⟩
      have hur := hu u (List.mem_of_getElem? hku)
      have hrd := h.below hb
      obtain ⟨ad, rfl, _, hc⟩ := hrd.at_ (k := k) (u := .int .u16 u) (by rw [List.getElem?_map, hku]; rfl)
      have HK := Lib.hid hku
      clear hrd hku
      go_wp2_with fail
      refine (put_any w.heap.size w.heap.size _ u hur _ hI (by rw [cellsN_length, bytesOf_length, List.length_take]; omega) hsz).mono ?_
      rintro e w1 ⟨rfl, h1, b1, _⟩
      simp only
      go_wp2_with fail
      go_roundw
      case rel =>
        refine ⟨k + 1, by omega, by go_num, ?_, hb.trans b1⟩
        rw [take_snoc' us k u HK.out, bytesOf_append, cellsN_append]
        exact .inr h1
      case measure => simp [intOf]; omega
    · have e : k = n := by omega
      subst e
      rw [List.take_of_length_le (by have := Hl.out; omega)] at hI
      go_wp2_with fail
      refine (string_any w.heap.size w.heap.size (bytesOf us) (bytes_ok hu) _ hI hsz).mono ?_
      rintro e w1 ⟨rfl, b1⟩
      simp only
      go_wp2_with fail
      go_ret
      exact ⟨rfl, hb.trans b1⟩

/-- even text: its units are those of the text -/
theorem unitAt_even (s : ByteArray) (k : Nat) (h : k < s.size / 2) : unitAt (evenB s) k = unitAt s k := by
  have key : ∀ j, j < s.size / 2 * 2 → (evenB s)[j]? = s[j]? := by
    intro j hj
    unfold evenB
    rw [getElem?_pos _ _ (by simp; omega), getElem?_pos _ _ (by omega), ByteArray.getElem_extract]
    simp
  unfold unitAt
  rw [key _ (by omega), key _ (by omega)]
theorem unitsTo_even (s : ByteArray) (k : Nat) (h : k ≤ s.size / 2) : unitsTo (evenB s) k = unitsTo s k := by
  unfold unitsTo
  apply List.map_congr_left
  intro j hj
  exact unitAt_even s j (by have := List.mem_range.1 hj; omega)
/-- all units of a text -/
def U (s : ByteArray) : List Int := unitsTo s (s.size / 2)
theorem unitAt_bd (s : ByteArray) (k : Nat) : 0 ≤ unitAt s k ∧ unitAt s k < 65536 := by
  have hx := UInt8.toNat_lt (s[2 * k]?.getD 0)
  have hy := UInt8.toNat_lt (s[2 * k + 1]?.getD 0)
  unfold unitAt
  omega
theorem U_ok (s : ByteArray) : okU (U s) := by
  intro u hu
  simp only [U, unitsTo, List.mem_map] at hu
  obtain ⟨k, _, rfl⟩ := hu
  exact unitAt_bd s k
theorem U_length (s : ByteArray) : (U s).length = s.size / 2 := unitsTo_length s _
theorem U_get (s : ByteArray) (k : Nat) (h : k < s.size / 2) : (U s)[k]? = some (unitAt s k) := by
  unfold U unitsTo
  rw [List.getElem?_map, List.getElem?_range h]
  rfl
end Go.Proofs.YthmdlnmbjgokaaaDoor
