/- The kinds of a node's kids: lintelref06.kinds, checker.params. -/
import Derived.Test.YtgnpgdjjdhlhaaaDoorTCheck
import Derived.Test.YtgnpgdjjdhlhaaaDoorTRef
import Derived.Maps.AppendAt
import Derived.Laws.OwnMore
namespace Go.Proofs.YtgnpgdjjdhlhaaaDoor
open Go.RowKit
set_option maxHeartbeats 4000000
set_option maxRecDepth 100000
attribute [local go_sem] Oper.semAt_some store_floatK

theorem Tryd.info_int2 : (Tryd.prog.info? 3).map (fun i => (i.zero, i.size, i.bytes)) = some (some (.int .i64 0), 1, 8) := by kernel_rfl
theorem own_formK {w : World} {base : Nat} {e : TypeId} {v : Value} {n : Nat} {xs : List Value} (h : w.ownsRow base e 1 v n xs) : ∃ A c, v = .slice A n c := by
  rcases h.2 with ⟨rfl, rfl⟩ | ⟨g, cap, cur, rfl, _⟩
  · exact ⟨_, _, rfl⟩
  · exact ⟨_, _, rfl⟩
def kindAt (l : List Nd) (k : Int) : Int := ((l[k.toNat]?).map Nd.kind).getD 0
def ksOf (l : List Nd) (x : Nd) : List Int := x.kids.map (kindAt l)
def ints (l : List Int) : List Value := l.map (Value.int .i64)
theorem kindAt_of {l : List Nd} {k : Nat} {x : Nd} (h : l[k]? = some x) : kindAt l k = x.kind := by
  unfold kindAt
  rw [Int.toNat_natCast, h]
  rfl
theorem ints_snoc (l : List Int) (k : Int) : ints (l ++ [k]) = ints l ++ [.int .i64 k] := by unfold ints; rw [List.map_append]; rfl
/-- a node as a value -/
abbrev nV (x : Nd) : Value := .agg #[.int .i64 x.kind, .string x.text, .string x.str, .float .f64 x.num, .slice x.kA x.kids.length x.kC, .int .i64 x.at_]

theorem own_plain {w : World} {base n c : Nat} {e : TypeId} {A : Option Addr} {xs : List Value} (h : w.ownsRow base e 1 (.slice A n c) n xs) : n ≤ c ∧ (n ≠ 0 → ∃ g, A = some ⟨g, 0, none⟩) := by
  rcases h.2 with ⟨h1, h2⟩ | ⟨g, cap, cur, h1, _, _, h2, _⟩
  · cases h1
    have := h.1
    simp_all
  · cases h1
    exact ⟨h2, fun _ => ⟨g, rfl⟩⟩
theorem kinds_any {w : World} {A : Option Addr} {n c : Nat} {l : List Nd} (x : Nd) (hN : Nds w w.heap.size A l) (hn : l.length = n) (hr : Row w w.heap.size x.kA 1 (x.kids.map kidC)) (hkl : x.kids.length ≤ 3000) (hin : ∀ y ∈ x.kids, 0 ≤ y ∧ y < n) :
    Calls Tryd.prog 27 #[.slice A n c, nV x] w fun e w' => ∃ A' c', e = .returned (.slice A' x.kids.length c') ∧ Rd w' w'.heap.size A' (ints (ksOf l x)) ∧ (x.kids.length ≤ c' ∧ (x.kids.length ≠ 0 → ∃ g, A' = some ⟨g, 0, none⟩)) ∧ Below w.heap.size w w' := by
  obtain ⟨kn, hkn⟩ : ∃ m, x.kids.length = m := ⟨_, rfl⟩
  unfold nV
  rw [hkn] at hkl ⊢
  have HN := Lib.hid hn
  have HKN := Lib.hid hkn
  have HIN := Lib.hid hin
  clear hn hkn hin
  obtain ⟨i0, hi0, hz0, hz1, hz2⟩ := info_parts Tryd.info_int2
  have y1 := heap_alloc_new w (.cells #[.int .i64 x.kind, .string x.text, .string x.str, .float .f64 x.num, .slice x.kA kn x.kC, .int .i64 x.at_] 39)
  have b1 : Below w.heap.size w (w.alloc (.cells #[.int .i64 x.kind, .string x.text, .string x.str, .float .f64 x.num, .slice x.kA kn x.kC, .int .i64 x.at_] 39)) := (Below.refl _ _).alloc (Nat.le_refl _) _
  obtain ⟨w1, hw1⟩ : ∃ w1, w.alloc (.cells #[.int .i64 x.kind, .string x.text, .string x.str, .float .f64 x.num, .slice x.kA kn x.kC, .int .i64 x.at_] 39) = w1 := ⟨_, rfl⟩
  rw [hw1] at y1 b1
  have d4 := cell_blockK y1 4
  simp at d4
  go_enter Tryd.func27, Tryd.ntmps27
  go_wp2_with fail
  go_loopw [5, 11] (fun v i wr => ∃ k : Nat, k ≤ kn ∧ i = .int .i64 k ∧ Below w.heap.size w wr ∧ wr.ownsRow w.heap.size 3 1 v k (ints ((ksOf l x).take k))) (fun _ i _ => kn - (intOf i).toNat)
  case atStart => exact ⟨0, Nat.zero_le _, rfl, b1, World.ownsRow_nil _ _ _ _⟩
  case round =>
    clear hw1
    obtain ⟨k, hk, rfl, hb, hown⟩ := hrel
    have hbs := hb.size
    by_cases hlt : k < kn
    · obtain ⟨y, hy⟩ : ∃ y, x.kids[k]? = some y := ⟨x.kids[k]'(by have := HKN.out; omega), List.getElem?_eq_getElem _⟩
      obtain ⟨hy0, hyn⟩ := HIN.out y (List.mem_of_getElem? hy)
      obtain ⟨q, rfl⟩ : ∃ q : Nat, y = q := ⟨y.toNat, by omega⟩
      have hqn : q < n := by omega
      obtain ⟨z, hz⟩ : ∃ z, l[q]? = some z := ⟨l[q]'(by have := HN.out; omega), List.getElem?_eq_getElem _⟩
      obtain ⟨b2, off2, hkA, _, hc⟩ := (hr.below hb hb.size).kid hy
      obtain ⟨nb, noff, rfl, hbl, d0, _⟩ := (hN.below hb hb.size).rows.nd hz
      have htk : (ksOf l x).take (k + 1) = (ksOf l x).take k ++ [z.kind] := by
        rw [List.take_add_one]
        unfold ksOf
        rw [List.getElem?_map, hy, Option.map_some, kindAt_of hz]
        rfl
      have HTK := Lib.hid htk
      clear htk hz hy
      rw [hkA]
      go_wp2_with (at_builtin; refine wpList_append_own _ rfl _ _ 30 rfl w.heap.size 3 i0 _ 1 8 Tryd.underlying30 hi0 hz0 hz1 hz2 rfl (by decide) _ _ _ rfl (hown.alloc _) ⟨wr.heap.size, 0, none⟩ 1 1 [.int .i64 z.kind] rfl rfl (cell_one_new _ _ _) (by simp [Value.oneCell']) (by unfold maxLen; omega) (by omega) (by simp; omega) ?_; intro v' W3 hown' hgrow3 hnil3; obtain ⟨g', cap', rfl⟩ := ownsRow_succ hown')
      go_roundw
      case rel => exact ⟨k + 1, by omega, by go_num, (hb.alloc hbs _).grown hgrow3 (by simp; omega) (fun q hq => (hown.lt q hq).1), by rw [HTK.out, ints_snoc]; exact hown'⟩
      case measure => simp [intOf]; omega
    · obtain rfl : k = kn := by omega
      have hfin : (ksOf l x).take k = ksOf l x := List.take_of_length_le (by unfold ksOf; rw [List.length_map]; have := HKN.out; omega)
      rw [hfin] at hown
      obtain ⟨A', c', rfl⟩ := own_formK hown
      go_wp2_with fail
      go_ret
      exact ⟨_, _, rfl, Rd.of_own hown, own_plain hown, hb⟩
end Go.Proofs.YtgnpgdjjdhlhaaaDoor
