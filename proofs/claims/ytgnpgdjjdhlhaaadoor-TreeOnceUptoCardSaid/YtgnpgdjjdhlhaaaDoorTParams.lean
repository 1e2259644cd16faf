/- The kinds of a function's parameters: checker.params; whether a node is what a letter says: checker.fits. -/
import Derived.Test.YtgnpgdjjdhlhaaaDoorTBody
import Derived.Test.YtgnpgdjjdhlhaaaDoorTShelf
namespace Go.Proofs.YtgnpgdjjdhlhaaaDoor
open Go.RowKit
set_option maxHeartbeats 4000000
set_option maxRecDepth 100000
attribute [local go_sem] Oper.semAt_some store_floatK

section
variable {w : World} {A : Option Addr} {n c cb : Nat} {l : List Nd}
theorem params_any (hC : Ck w cb A n c) (hN : Nds w w.heap.size A l) (hn : l.length = n) {i p : Nat} {x y : Nd} (hx : l[i]? = some x) (hp : x.kids[0]? = some (p : Int)) (hy : l[p]? = some y) (hin : ∀ z ∈ y.kids, 0 ≤ z ∧ z < n) :
    Calls Tryd.prog 68 #[.pointer (some ⟨cb, 0, none⟩), .int .i64 (i : Nat)] w fun e w' => ∃ A' c', e = .returned (.slice A' y.kids.length c') ∧ Rd w' w'.heap.size A' (ints (ksOf l y)) ∧ (y.kids.length ≤ c' ∧ (y.kids.length ≠ 0 → ∃ g, A' = some ⟨g, 0, none⟩)) ∧ Below w.heap.size w w' := by
  obtain ⟨i0, hi0, hz0, hz1, hz2⟩ := info_parts Tryd.info_int2
  have hs := hN.small.1
  rw [hn] at hs
  have hi2 : i < n := by rw [← hn]; exact (List.getElem?_eq_some_iff.1 hx).1
  have hp2 : p < n := by rw [← hn]; exact (List.getElem?_eq_some_iff.1 hy).1
  have hkl := hN.small.2 y (List.mem_of_getElem? hy)
  have hkx := hN.small.2 x (List.mem_of_getElem? hx)
  obtain ⟨b, off, rfl, hbl, d0, d1, d2, d3, d4, d5⟩ := hN.rows.nd hx
  obtain ⟨b', off', hA', _, z0, z1, z2, z3, z4, z5⟩ := hN.rows.nd hy
  cases hA'
  obtain ⟨kb, ko, hkA, _, hc⟩ := (hN.each x (List.mem_of_getElem? hx)).kid hp
  rw [Nat.add_zero] at hc
  obtain ⟨xn, hxn⟩ : ∃ m, x.kids.length = m := ⟨_, rfl⟩
  have hx0 : 0 < xn := by rw [← hxn]; exact (List.getElem?_eq_some_iff.1 hp).1
  have hrow := hN.each y (List.mem_of_getElem? hy)
  obtain ⟨kn, hkn⟩ : ∃ m, y.kids.length = m := ⟨_, rfl⟩
  rw [hkn] at hkl z4 ⊢
  rw [hxn] at d4 hkx
  rw [hkA] at d4
  have hl := hC.l
  have HN := Lib.hid hn
  have HKN := Lib.hid hkn
  have HIN := Lib.hid hin
  clear hn hkn hin hx hy hp hxn
  go_enter Tryd.func68, Tryd.ntmps68
  go_wp2_with fail
  refine wp_region_lin (fun w' => w'.cell? ⟨cb, 0, none⟩ = some (.slice (some ⟨b, off, none⟩) n c) ∧ w'.cell? ⟨b, off + i * 6 + 4, none⟩ = some (.slice (some ⟨kb, ko, none⟩) xn x.kC) ∧ w'.cell? ⟨kb, ko, none⟩ = some (.int .i64 (p : Nat)) ∧ w'.cell? ⟨b, off + p * 6 + 4, none⟩ = some (.slice y.kA kn y.kC)) [] (.block 0 (.block 1 (.block 2 (.block 3 (.block 4 (.block 5 (.block 6 (.block 7 (.block 8 (.block 9 (.block 10 (.block 11 (.block 12 (.block 13 (.block 14 (.block 15 (.block 16 (.block 17 (.block 18 (.skip)))))))))))))))))))) (by kernel_rfl) (by kernel_rfl) (by kernel_rfl) (by kernel_rfl) (by kernel_rfl) ⟨hl, d4, hc, z4⟩ ?_
  repeat
    (refine lin_light (A1 := ?_) rfl rfl rfl rfl rfl (fun w' hS K hK => ?_) ?_ ?_
     rotate_left
     · obtain ⟨s0, s1, s2, s3⟩ := hS; go_step; exact hK
     · rfl)
  refine lin_end ?_
  have hbd : Below w.heap.size w w.drew := (Below.refl _ _).drew
  go_wp2_with fail
  go_loopw [5, 26] (fun v i wr => ∃ k : Nat, k ≤ kn ∧ i = .int .i64 k ∧ Below w.heap.size w wr ∧ wr.ownsRow w.heap.size 3 1 v k (ints ((ksOf l y).take k))) (fun _ i _ => kn - (intOf i).toNat)
  case atStart => exact ⟨0, Nat.zero_le _, rfl, hbd, World.ownsRow_nil _ _ _ _⟩
  case round =>
    obtain ⟨k, hk, rfl, hb, hown⟩ := hrel
    have hbs := hb.size
    by_cases hlt : k < kn
    · obtain ⟨t, ht⟩ : ∃ t, y.kids[k]? = some t := ⟨y.kids[k]'(by have := HKN.out; omega), List.getElem?_eq_getElem _⟩
      obtain ⟨hy0, hyn⟩ := HIN.out t (List.mem_of_getElem? ht)
      obtain ⟨q, rfl⟩ : ∃ q : Nat, t = q := ⟨t.toNat, by omega⟩
      have hqn : q < n := by omega
      obtain ⟨z, hz⟩ : ∃ z, l[q]? = some z := ⟨l[q]'(by have := HN.out; omega), List.getElem?_eq_getElem _⟩
      obtain ⟨b2, off2, hkA2, _, hc2⟩ := (hrow.below hb hb.size).kid ht
      obtain ⟨nb, noff, hA3, _, e0, _⟩ := (hN.below hb hb.size).rows.nd hz
      cases hA3
      have htk : (ksOf l y).take (k + 1) = (ksOf l y).take k ++ [z.kind] := by
        rw [List.take_add_one]
        unfold ksOf
        rw [List.getElem?_map, ht, Option.map_some, kindAt_of hz]
        rfl
      have HTK := Lib.hid htk
      have hl2 := (hb.cell (World.block_lt_of_cell? _ _ hl)).trans hl
      clear htk hz ht
      rw [hkA2]
      go_wp2_with (at_builtin; refine wpList_append_own _ rfl _ _ 30 rfl w.heap.size 3 i0 _ 1 8 Tryd.underlying30 hi0 hz0 hz1 hz2 rfl (by decide) _ _ _ rfl (hown.alloc _) ⟨wr.heap.size, 0, none⟩ 1 1 [.int .i64 z.kind] rfl rfl (cell_one_new _ _ _) (by simp [Value.oneCell']) (by unfold maxLen; omega) (by omega) (by simp; omega) ?_; intro v' W3 hown' hgrow3 hnil3; obtain ⟨g', cap', rfl⟩ := ownsRow_succ hown')
      go_roundw
      case rel => exact ⟨k + 1, by omega, by go_num, (hb.alloc hbs _).grown hgrow3 (by simp; omega) (fun q hq => (hown.lt q hq).1), by rw [HTK.out, ints_snoc]; exact hown'⟩
      case measure => simp [intOf]; omega
    · obtain rfl : k = kn := by omega
      have hfin : (ksOf l y).take k = ksOf l y := List.take_of_length_le (by unfold ksOf; rw [List.length_map]; have := HKN.out; omega)
      rw [hfin] at hown
      obtain ⟨A', c', rfl⟩ := own_formK hown
      go_wp2_with fail
      go_ret
      exact ⟨_, _, rfl, Rd.of_own hown, own_plain hown, hb⟩
end
end Go.Proofs.YtgnpgdjjdhlhaaaDoor
