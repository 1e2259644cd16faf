/- The operators of each kind. -/
import Derived.Test.YtgnpgdjjdhlhaaaDoorTShelf
import Derived.Test.YtgnpgdjjdhlhaaaDoorMem
import Derived.Test.YtgnpgdjjdhlhaaaDoorLin
import Derived.Lib.Hide
import Derived.Lib.SmallJoins
namespace Go.Proofs.YtgnpgdjjdhlhaaaDoor
open Go.RowKit
set_option maxHeartbeats 2000000
set_option maxRecDepth 100000

theorem setCell_blockK {w : World} {b i : Nat} {cs : Array Value} {t : TypeId} {fr : Nat × Nat} (h : w.heap[b]? = some (.cells cs t fr)) (u : Value) : (w.setCell ⟨b, i, none⟩ u).heap[b]? = some (.cells (cs.setIfInBounds i u) t fr) := by
  obtain ⟨hlt, hk⟩ := Array.getElem?_eq_some_iff.1 h
  show (w.heap.modify b _)[b]? = _
  rw [Array.getElem?_eq_getElem (by rw [Array.size_modify]; exact hlt), Array.getElem_modify_self, hk]
  rfl
theorem cell_blockK {w : World} {b : Nat} {cs : Array Value} {t : TypeId} {fr : Nat × Nat} (h : w.heap[b]? = some (.cells cs t fr)) (i : Nat) : w.cell? ⟨b, i, none⟩ = cs[i]? := cell_of_row w b i cs t fr h
theorem frozen_blockK {w : World} {b : Nat} {cs : Array Value} {t : TypeId} (h : w.heap[b]? = some (.cells cs t (0, 0))) (i : Nat) : w.frozen? ⟨b, i, none⟩ = false := by simp [World.frozen?, h]
theorem rd_alloc (w : World) (vs : List Value) (t : TypeId) : Rd (w.alloc (.cells vs.toArray t)) (w.alloc (.cells vs.toArray t)).heap.size (some ⟨w.heap.size, 0, none⟩) vs := fun k u hu =>
  ⟨_, rfl, by simp, by rw [Addr.add_lit, cell_blockK (heap_alloc_new w _)]; simpa using hu⟩
def Tb (w : World) : Prop := Lib.TabIs Tryd.prog w "strings.asciiSpace" .u8 Lib.asciiSpaceTab
theorem Tb.below {B : Nat} {w w' : World} (h : Tb w) (hb : Below B w w') (hB : w.heap.size ≤ B) : Tb w' := Joins.tab_stays (g := 0) (by kernel_rfl) h hb hB

def s19 : ByteArray := ⟨#[33, 32, 126, 32, 43, 32, 45, 32, 116, 121, 112, 101, 111, 102, 32, 118, 111, 105, 100, 32, 100, 101, 108, 101, 116, 101]⟩
def l19 : List ByteArray := [⟨#[33]⟩, ⟨#[126]⟩, ⟨#[43]⟩, ⟨#[45]⟩, ⟨#[116, 121, 112, 101, 111, 102]⟩, ⟨#[118, 111, 105, 100]⟩, ⟨#[100, 101, 108, 101, 116, 101]⟩]
theorem fields19 : ((Lib.fields s19.data.toList).map fun l => (⟨l.toArray⟩ : ByteArray)) = l19 := by decide +kernel
theorem ascii19 : s19.data.toList.all (fun b => decide (b.toNat < 128)) = true := by decide +kernel
def s20 : ByteArray := ⟨#[43, 43, 32, 45, 45]⟩
def l20 : List ByteArray := [⟨#[43, 43]⟩, ⟨#[45, 45]⟩]
theorem fields20 : ((Lib.fields s20.data.toList).map fun l => (⟨l.toArray⟩ : ByteArray)) = l20 := by decide +kernel
theorem ascii20 : s20.data.toList.all (fun b => decide (b.toNat < 128)) = true := by decide +kernel
def s22 : ByteArray := ⟨#[43, 32, 45, 32, 42, 32, 47, 32, 37, 32, 42, 42, 32, 60, 60, 32, 62, 62, 32, 62, 62, 62, 32, 38, 32, 124, 32, 94, 32, 60, 32, 62, 32, 60, 61, 32, 62, 61, 32, 61, 61, 32, 33, 61, 32, 61, 61, 61, 32, 33, 61, 61, 32, 105, 110, 32, 105, 110, 115, 116, 97, 110, 99, 101, 111, 102]⟩
def l22 : List ByteArray := [⟨#[43]⟩, ⟨#[45]⟩, ⟨#[42]⟩, ⟨#[47]⟩, ⟨#[37]⟩, ⟨#[42, 42]⟩, ⟨#[60, 60]⟩, ⟨#[62, 62]⟩, ⟨#[62, 62, 62]⟩, ⟨#[38]⟩, ⟨#[124]⟩, ⟨#[94]⟩, ⟨#[60]⟩, ⟨#[62]⟩, ⟨#[60, 61]⟩, ⟨#[62, 61]⟩, ⟨#[61, 61]⟩, ⟨#[33, 61]⟩, ⟨#[61, 61, 61]⟩, ⟨#[33, 61, 61]⟩, ⟨#[105, 110]⟩, ⟨#[105, 110, 115, 116, 97, 110, 99, 101, 111, 102]⟩]
theorem fields22 : ((Lib.fields s22.data.toList).map fun l => (⟨l.toArray⟩ : ByteArray)) = l22 := by decide +kernel
theorem ascii22 : s22.data.toList.all (fun b => decide (b.toNat < 128)) = true := by decide +kernel
def s26 : ByteArray := ⟨#[61, 32, 43, 61, 32, 45, 61, 32, 42, 61, 32, 47, 61, 32, 37, 61, 32, 42, 42, 61, 32, 60, 60, 61, 32, 62, 62, 61, 32, 62, 62, 62, 61, 32, 38, 61, 32, 124, 61, 32, 94, 61]⟩
def l26 : List ByteArray := [⟨#[61]⟩, ⟨#[43, 61]⟩, ⟨#[45, 61]⟩, ⟨#[42, 61]⟩, ⟨#[47, 61]⟩, ⟨#[37, 61]⟩, ⟨#[42, 42, 61]⟩, ⟨#[60, 60, 61]⟩, ⟨#[62, 62, 61]⟩, ⟨#[62, 62, 62, 61]⟩, ⟨#[38, 61]⟩, ⟨#[124, 61]⟩, ⟨#[94, 61]⟩]
theorem fields26 : ((Lib.fields s26.data.toList).map fun l => (⟨l.toArray⟩ : ByteArray)) = l26 := by decide +kernel
theorem ascii26 : s26.data.toList.all (fun b => decide (b.toNat < 128)) = true := by decide +kernel
def opsOf (k : Int) : List ByteArray := if k = 19 then l19 else if k = 20 ∨ k = 21 then l20 else if k = 22 then l22 else if k = 26 then l26 else []
theorem opsOf_not {k : Int} (h : k ≠ 19 ∧ k ≠ 20 ∧ k ≠ 21 ∧ k ≠ 22 ∧ k ≠ 26) : opsOf k = [] := by
  unfold opsOf
  rw [if_neg h.1, if_neg (by omega), if_neg h.2.2.2.1, if_neg h.2.2.2.2]
theorem ops_full : ∀ k : Int, (opsOf k).all (fun s => decide (s.size ≠ 0)) = true ∧ (opsOf k).length ≤ 22 := by
  intro k
  unfold opsOf
  split
  · decide +kernel
  split
  · decide +kernel
  split
  · decide +kernel
  split
  · decide +kernel
  · decide
theorem fields_any (s : ByteArray) (l : List ByteArray) (hs : s.size < 1000) (ha : s.data.toList.all (fun b => decide (b.toNat < 128)) = true) (hl : ((Lib.fields s.data.toList).map fun l => (⟨l.toArray⟩ : ByteArray)) = l) {w : World} (hT : Tb w) :
    Calls Tryd.prog 19 #[.string s] w fun e w' => e = .returned (.slice (some ⟨w.heap.size, 0, none⟩) l.length l.length) ∧ Rd w' w'.heap.size (some ⟨w.heap.size, 0, none⟩) (l.map Value.string) ∧ Below w.heap.size w w' := by
  refine (Go.Proofs.Tryd.strings_Fields s w (by omega) (fun j b hb => by have := List.all_eq_true.1 ha b (List.mem_of_getElem? hb); simpa using this) hT).mono ?_
  rintro e w' ⟨rfl, rfl⟩
  have e1 : (Lib.fields s.data.toList).length = l.length := by rw [← hl, List.length_map]
  have e2 : ((Lib.fields s.data.toList).map fun l => Value.string ⟨l.toArray⟩) = l.map Value.string := by rw [← hl, List.map_map]; rfl
  rw [e1, e2]
  exact ⟨rfl, rd_alloc w _ _, (Below.refl _ _).alloc (Nat.le_refl _) _⟩
theorem operators_any (k : Int) (w : World) (hT : Tb w) :
    Calls Tryd.prog 10 #[.int .i64 k] w fun e w' => ∃ A n c, e = .returned (.slice A n c) ∧ (opsOf k).length = n ∧ Rd w' w'.heap.size A ((opsOf k).map Value.string) ∧ Below w.heap.size w w' := by
  by_cases h19 : k = 19
  · subst h19
    have hc := fields_any s19 l19 (by decide) ascii19 fields19 (w := w) hT
    unfold s19 at hc
    go_enter Tryd.func10, Tryd.ntmps10
    go_wp2_with fail
    refine hc.mono ?_
    rintro e w' ⟨rfl, h1, h2⟩
    simp only
    go_wp2_with fail
    go_ret
    exact ⟨_, _, _, rfl, rfl, h1, h2⟩
  by_cases h20 : k = 20
  · subst h20
    have hc := fields_any s20 l20 (by decide) ascii20 fields20 (w := w) hT
    unfold s20 at hc
    go_enter Tryd.func10, Tryd.ntmps10
    go_wp2_with fail
    refine hc.mono ?_
    rintro e w' ⟨rfl, h1, h2⟩
    simp only
    go_wp2_with fail
    go_ret
    exact ⟨_, _, _, rfl, rfl, h1, h2⟩
  by_cases h21 : k = 21
  · subst h21
    have hc := fields_any s20 l20 (by decide) ascii20 fields20 (w := w) hT
    unfold s20 at hc
    go_enter Tryd.func10, Tryd.ntmps10
    go_wp2_with fail
    refine hc.mono ?_
    rintro e w' ⟨rfl, h1, h2⟩
    simp only
    go_wp2_with fail
    go_ret
    exact ⟨_, _, _, rfl, rfl, h1, h2⟩
  by_cases h22 : k = 22
  · subst h22
    have hc := fields_any s22 l22 (by decide) ascii22 fields22 (w := w) hT
    unfold s22 at hc
    go_enter Tryd.func10, Tryd.ntmps10
    go_wp2_with fail
    refine hc.mono ?_
    rintro e w' ⟨rfl, h1, h2⟩
    simp only
    go_wp2_with fail
    go_ret
    exact ⟨_, _, _, rfl, rfl, h1, h2⟩
  by_cases h26 : k = 26
  · subst h26
    have hc := fields_any s26 l26 (by decide) ascii26 fields26 (w := w) hT
    unfold s26 at hc
    go_enter Tryd.func10, Tryd.ntmps10
    go_wp2_with fail
    refine hc.mono ?_
    rintro e w' ⟨rfl, h1, h2⟩
    simp only
    go_wp2_with fail
    go_ret
    exact ⟨_, _, _, rfl, rfl, h1, h2⟩
  have hn := opsOf_not ⟨h19, h20, h21, h22, h26⟩
  rw [hn]
  have g19 : (k == 19) = false := by rw [beq_eq_false_iff_ne]; exact h19
  have g20 : (k == 20) = false := by rw [beq_eq_false_iff_ne]; exact h20
  have g21 : (k == 21) = false := by rw [beq_eq_false_iff_ne]; exact h21
  have g22 : (k == 22) = false := by rw [beq_eq_false_iff_ne]; exact h22
  have g26 : (k == 26) = false := by rw [beq_eq_false_iff_ne]; exact h26
  clear h19 h20 h21 h22 h26 hn
  go_enter Tryd.func10, Tryd.ntmps10
  go_wp2_with fail
  go_ret
  exact ⟨_, _, _, rfl, rfl, Rd.nil, Below.refl _ _⟩
theorem refoperators_any (k : Int) (w : World) :
    Calls Tryd.prog 11 #[.int .i64 k] w fun e w' => ∃ A n c, e = .returned (.slice A n c) ∧ (opsOf k).length = n ∧ Rd w' w'.heap.size A ((opsOf k).map Value.string) ∧ Below w.heap.size w w' := by
  by_cases h19 : k = 19
  · subst h19
    go_enter Tryd.func11, Tryd.ntmps11
    go_wp2_with fail
    go_ret
    exact ⟨_, _, _, rfl, rfl, rd_alloc w (l19.map Value.string) _, (Below.refl _ _).alloc (Nat.le_refl _) _⟩
  by_cases h20 : k = 20
  · subst h20
    go_enter Tryd.func11, Tryd.ntmps11
    go_wp2_with fail
    go_ret
    exact ⟨_, _, _, rfl, rfl, rd_alloc w (l20.map Value.string) _, (Below.refl _ _).alloc (Nat.le_refl _) _⟩
  by_cases h21 : k = 21
  · subst h21
    go_enter Tryd.func11, Tryd.ntmps11
    go_wp2_with fail
    go_ret
    exact ⟨_, _, _, rfl, rfl, rd_alloc w (l20.map Value.string) _, (Below.refl _ _).alloc (Nat.le_refl _) _⟩
  by_cases h22 : k = 22
  · subst h22
    go_enter Tryd.func11, Tryd.ntmps11
    go_wp2_with fail
    go_ret
    exact ⟨_, _, _, rfl, rfl, rd_alloc w (l22.map Value.string) _, (Below.refl _ _).alloc (Nat.le_refl _) _⟩
  by_cases h26 : k = 26
  · subst h26
    go_enter Tryd.func11, Tryd.ntmps11
    go_wp2_with fail
    go_ret
    exact ⟨_, _, _, rfl, rfl, rd_alloc w (l26.map Value.string) _, (Below.refl _ _).alloc (Nat.le_refl _) _⟩
  have hn := opsOf_not ⟨h19, h20, h21, h22, h26⟩
  rw [hn]
  have g19 : (k == 19) = false := by rw [beq_eq_false_iff_ne]; exact h19
  have g20 : (k == 20) = false := by rw [beq_eq_false_iff_ne]; exact h20
  have g21 : (k == 21) = false := by rw [beq_eq_false_iff_ne]; exact h21
  have g22 : (k == 22) = false := by rw [beq_eq_false_iff_ne]; exact h22
  have g26 : (k == 26) = false := by rw [beq_eq_false_iff_ne]; exact h26
  clear h19 h20 h21 h22 h26 hn
  go_enter Tryd.func11, Tryd.ntmps11
  go_wp2_with fail
  go_ret
  exact ⟨_, _, _, rfl, rfl, Rd.nil, Below.refl _ _⟩
theorem ba_ne {x y : ByteArray} (h : x ≠ y) : (x == y) = false := by
  show (x.data == y.data) = false
  rw [beq_eq_false_iff_ne]
  exact fun e => h (ByteArray.ext e)
/-- the empty text is none of texts that aren't empty -/
theorem among_not {A : Option Addr} {n c : Nat} {l : List ByteArray} {w : World} (hr : Rd w w.heap.size A (l.map Value.string)) (hn : l.length = n) (hn2 : n ≤ 1000) (hl : l.all (fun s => decide (s.size ≠ 0)) = true) :
    Calls Tryd.prog 12 #[.slice A n c, .string ⟨#[]⟩] w fun e w' => e = .returned (.bool false) ∧ Below w.heap.size w w' := by
  have Hn := Lib.hid hn
  have HL := Lib.hid hl
  clear hn hl
  go_enter Tryd.func12, Tryd.ntmps12
  go_wp2_with fail
  go_loopw [9] (fun i wr => ∃ k : Nat, k ≤ n ∧ i = .int .i64 k ∧ Below w.heap.size w wr) (fun i _ => n - (intOf i).toNat)
  case atStart => exact ⟨0, Nat.zero_le _, rfl, Below.refl _ _⟩
  case round =>
    obtain ⟨k, hk, rfl, hb⟩ := hrel
    by_cases hlt : k < n
    · obtain ⟨x, hx⟩ : ∃ x, l[k]? = some x := ⟨l[k]'(by have := Hn.out; omega), List.getElem?_eq_getElem _⟩
      obtain ⟨ad, rfl, _, hc⟩ := (hr.below hb).at_ (k := k) (u := .string x) (by rw [List.getElem?_map, hx]; rfl)
      have hx0 : x.toList.isEmpty = false := by
        have h1 := List.all_eq_true.1 HL.out _ (List.mem_of_getElem? hx)
        rw [ByteArray.toList_eq]
        cases hd : x.data.toList with
        | nil =>
          have : x.size = 0 := by show x.data.size = 0; rw [← Array.length_toList, hd]; rfl
          rw [this] at h1
          exact absurd h1 (by decide)
        | cons a r => rfl
      clear hx
      go_wp2_with fail
      go_roundw
      case rel => exact ⟨k + 1, by omega, by go_num, hb⟩
      case measure => simp [intOf]; omega
    · obtain rfl : k = n := by omega
      go_wp2_with fail
      go_ret
      exact ⟨rfl, hb⟩
end Go.Proofs.YtgnpgdjjdhlhaaaDoor
