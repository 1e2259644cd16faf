/- The walks of lintelref01.Make and Point. -/
import Derived.Test.YthmdlnmbjgokaaaDoorRefA
namespace Go.Proofs.YthmdlnmbjgokaaaDoor
open Go.RowKit
set_option maxHeartbeats 400000
set_option maxRecDepth 100000

/-- the bytes of units -/
def bytesOf (us : List Int) : List Int := us.flatMap fun u => [u / 256, u % 256]
theorem bytesOf_length (us : List Int) : (bytesOf us).length = us.length * 2 := by
  unfold bytesOf
  induction us with
  | nil => rfl
  | cons u r ih => simp only [List.flatMap_cons, List.length_append, List.length_cons, List.length_nil, ih]; omega
theorem bytesOf_append (a b : List Int) : bytesOf (a ++ b) = bytesOf a ++ bytesOf b := by simp [bytesOf]
/-- a text of units -/
def makeB (us : List Int) : ByteArray := strOfNums (bytesOf us)

theorem Tryd.info_u8 : (Tryd.prog.info? 5).map (fun i => (i.zero, i.size, i.bytes)) = some (some (.int .u8 0), 1, 1) := by kernel_rfl

theorem take_snoc' (us : List Int) (k : Nat) (u : Int) (h : us[k]? = some u) : us.take (k + 1) = us.take k ++ [u] := by
  rw [List.take_add_one, h]; rfl

theorem make_any (us : List Int) (A : Option Addr) (n c : Nat) (w : World) (h : Rd w w.heap.size A (us.map (Value.int .u16))) (hl : us.length = n) (hu : ∀ u ∈ us, 0 ≤ u ∧ u < 65536) (hn : n ≤ 1048576) :
    Calls Tryd.prog 16 #[.slice A n c] w fun e w' => e = .returned (.string (makeB us)) ∧ Below w.heap.size w w' := by
  obtain ⟨i0, hi, hz0, hz1, hz2⟩ := info_parts Tryd.info_u8
  have Hl := Lib.hid hl
  clear hl
  go_enter Tryd.func16, Tryd.ntmps16
  go_wp2_with fail
  go_loopw [3, 8] (fun v i wr => ∃ k : Nat, k ≤ n ∧ i = .int .i64 k ∧ wr.ownsRow w.heap.size 5 1 v (k * 2) ((bytesOf (us.take k)).map (Value.int .u8)) ∧ Below w.heap.size w wr)
    (fun _ i _ => n - (intOf i).toNat)
  case atStart => exact ⟨0, by omega, rfl, World.ownsRow_nil _ _ _ _, Below.refl _ _⟩
  case round =>
    obtain ⟨k, hk, rfl, hown, hb⟩ := hrel
    by_cases hlt : k < n
    · have hkl : k < us.length := by have := Hl.out; omega
      obtain ⟨u, hku⟩ : ∃ u, us[k]? = some u := ⟨us[k], List.getElem?_eq_getElem hkl⟩
      have hur := hu u (List.mem_of_getElem? hku)
      have hrd := h.below hb
      obtain ⟨ad, rfl, _, hc⟩ := hrd.at_ (k := k) (u := .int .u16 u) (by rw [List.getElem?_map, hku]; rfl)
      have HK := Lib.hid hku
      clear hrd hku
      go_wp2_with (at_builtin; refine wpList_append_lies _ rfl _ _ _ rfl w.heap.size 5 i0 _ 1 1 Tryd.underlying63 hi hz0 hz1 hz2 rfl (by omega) _ (k * 2) _ rfl (hown.alloc _) ⟨wr.heap.size, 0, none⟩ 2 2 [.int .u8 (u / 256), .int .u8 (u % 256)] rfl rfl (World.news_of_block (cs := #[.int .u8 (u / 256), .int .u8 (u % 256)]) (t := 5) (fr := (0, 0)) (heap_alloc_new wr _)) (by simp [Value.oneCell']) (by omega) (by unfold maxLen; omega) (by omega) (by have := hb.size; simp; omega) (wr.heap.size + 1) (by simp) ?_; intro g cap w1 hown1 hgrow hat hlt2)
      go_roundw
      case rel =>
        refine ⟨k + 1, by omega, by go_num, ?_, ?_⟩
        · rw [take_snoc' us k u HK.out, bytesOf_append, List.map_append, Nat.add_mul]
          exact hown1
        · exact (hb.alloc hb.size _).grown hgrow (by have := hb.size; simp; omega) (fun j hj => (hown.lt j hj).1)
      case measure => simp [intOf]; omega
    · have e : k = n := by omega
      subst e
      rw [List.take_of_length_le (by have := Hl.out; omega)] at hown
      have hc := run_conv_owned (P := Tryd.prog) (src := 63) (dst := 22) Tryd.underlying63 Tryd.underlying5 Tryd.underlying22 hown
      go_wp2_with fail
      go_ret
      exact ⟨rfl, hb⟩

/-- the units of a number -/
def pointU (r : Int) : List Int := if r < 0 ∨ 1114111 < r then [] else if r < 65536 then [r] else [55296 + (r - 65536) / 1024, 56320 + (r - 65536) % 1024]
theorem pointU_low {r : Int} (h0 : 0 ≤ r) (h1 : r < 65536) : pointU r = [r] := by unfold pointU; rw [if_neg (by omega), if_pos h1]
theorem pointU_high {r : Int} (h0 : 65536 ≤ r) (h1 : r ≤ 1114111) : pointU r = [55296 + (r - 65536) / 1024, 56320 + (r - 65536) % 1024] := by unfold pointU; rw [if_neg (by omega), if_neg (by omega)]
theorem pointU_none {r : Int} (h : r < 0 ∨ 1114111 < r) : pointU r = [] := by unfold pointU; rw [if_pos h]

theorem point_low (r : Int) (w : World) (h0 : 0 ≤ r) (h1 : r < 65536) :
    Calls Tryd.prog 17 #[.int .i32 r] w fun e w' => e = .returned (.slice (some ⟨w.heap.size, 0, none⟩) 1 1) ∧ w.alloc (.cells #[.int .u16 r] 54) = w' := by
  go_enter Tryd.func17, Tryd.ntmps17
  go_wp2_with fail
  go_ret
  exact ⟨rfl, rfl⟩
theorem point_high (r : Int) (w : World) (h0 : 65536 ≤ r) (h1 : r ≤ 1114111) :
    Calls Tryd.prog 17 #[.int .i32 r] w fun e w' => e = .returned (.slice (some ⟨w.heap.size, 0, none⟩) 2 2) ∧ w.alloc (.cells #[.int .u16 (55296 + (r - 65536) / 1024), .int .u16 (56320 + (r - 65536) % 1024)] 54) = w' := by
  go_enter Tryd.func17, Tryd.ntmps17
  go_wp2_with fail
  go_ret
  exact ⟨rfl, rfl⟩
theorem point_none (r : Int) (w : World) (h : r < 0 ∨ 1114111 < r) :
    Calls Tryd.prog 17 #[.int .i32 r] w fun e w' => e = .returned (.slice none 0 0) ∧ w = w' := by
  rcases h with h | h
  · go_enter Tryd.func17, Tryd.ntmps17
    go_wp2_with fail
    go_ret
    exact ⟨rfl, rfl⟩
  · have h' : ¬ r < 0 := by omega
    go_enter Tryd.func17, Tryd.ntmps17
    go_wp2_with fail
    go_ret
    exact ⟨rfl, rfl⟩
end Go.Proofs.YthmdlnmbjgokaaaDoor
