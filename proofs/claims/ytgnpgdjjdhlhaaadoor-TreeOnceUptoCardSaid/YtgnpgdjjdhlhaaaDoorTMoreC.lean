/- checker.more; checker.kids at a template's rule. -/
import Derived.Test.YtgnpgdjjdhlhaaaDoorTRule
import Derived.Test.YtgnpgdjjdhlhaaaDoorTTextC
namespace Go.Proofs.YtgnpgdjjdhlhaaaDoor
open Go.RowKit
set_option maxHeartbeats 4000000
set_option maxRecDepth 100000
attribute [local go_sem] Oper.semAt_some store_floatK

def cnt51 : List Int → Nat
  | [] => 0
  | k :: r => (if k == 51 then 1 else 0) + cnt51 r
theorem cnt_le : ∀ l : List Int, cnt51 l ≤ l.length
  | [] => Nat.le_refl _
  | k :: r => by
    have := cnt_le r
    unfold cnt51
    simp only [List.length_cons]
    split <;> omega
theorem cnt_snoc : ∀ (l : List Int) (k : Int), cnt51 (l ++ [k]) = cnt51 l + (if k == 51 then 1 else 0)
  | [], k => by simp [cnt51]
  | a :: r, k => by
    show (if a == 51 then 1 else 0) + cnt51 (r ++ [k]) = (if a == 51 then 1 else 0) + cnt51 r + _
    rw [cnt_snoc r k]; omega
section
variable {w : World} {A : Option Addr} {n c cb : Nat} {l : List Nd}
theorem more_try (hC : Ck w cb A n c) (hN : Nds w w.heap.size A l) (hn : l.length = n) (x : Nd) (hx48 : x.kind = 48) (hr : Row w w.heap.size x.kA 1 (x.kids.map kidC)) {qa qb qc : Nat} (hk : x.kids = [(qa : Int), (qb : Int), (qc : Int)]) (hb : qb < n) (hc : qc < n)
    (h1 : (kindAt l (qb : Nat) == 32) = !decide (x.text.size = 0)) (h2 : ((kindAt l (qb : Nat) == 32) || (kindAt l (qc : Nat) == 32)) = true) :
    Calls Tryd.prog 38 #[.pointer (some ⟨cb, 0, none⟩), nV x] w fun e w' => e = .returned (.bool true) ∧ Below w.heap.size w w' := by
  have hs := hN.small.1
  rw [hn] at hs
  obtain ⟨y, hy⟩ : ∃ y, l[qb]? = some y := ⟨l[qb]'(by omega), List.getElem?_eq_getElem _⟩
  obtain ⟨z, hz⟩ : ∃ z, l[qc]? = some z := ⟨l[qc]'(by omega), List.getElem?_eq_getElem _⟩
  rw [kindAt_of hy] at h1 h2
  rw [kindAt_of hz] at h2
  obtain ⟨kb, ko, hkA, hkb, hc1⟩ := hr.kid (k := 1) (x := (qb : Int)) (by rw [hk]; rfl)
  obtain ⟨kb', ko', hkA', _, hc2⟩ := hr.kid (k := 2) (x := (qc : Int)) (by rw [hk]; rfl)
  rw [hkA] at hkA'
  cases hkA'
  have hl0 := hC.l
  obtain ⟨b, off, rfl, hbl, d0, _⟩ := hN.rows.nd hy
  obtain ⟨b', off', hA', _, e0, _⟩ := hN.rows.nd hz
  cases hA'
  have hem := empty_dec (s := x.text)
  have hbn : (x.text.toList != []) = true ∨ True := .inr trivial
  obtain ⟨ve, ee⟩ : ∃ v, decide (x.text.size = 0) = v := ⟨_, rfl⟩
  obtain ⟨vb, eb⟩ : ∃ v, (y.kind == 32) = v := ⟨_, rfl⟩
  obtain ⟨vc, ec⟩ : ∃ v, (z.kind == 32) = v := ⟨_, rfl⟩
  rw [ee] at h1 hem
  rw [eb] at h1 h2
  rw [ec] at h2
  have hkn : x.kids.length = 3 := by rw [hk]; rfl
  have y1 := heap_alloc_new w (.cells (nCells x) 39)
  have b1 : Below w.heap.size w (w.alloc (.cells (nCells x) 39)) := (Below.refl _ _).alloc (Nat.le_refl _) _
  unfold nV
  unfold nCells at y1 b1
  rw [hkn, hkA, hx48] at y1 b1 ⊢
  obtain ⟨w1, hw1⟩ : ∃ w1, w.alloc (.cells #[.int .i64 48, .string x.text, .string x.str, .float .f64 x.num, .slice (some ⟨kb, ko, none⟩) 3 x.kC, .int .i64 x.at_] 39) = w1 := ⟨_, rfl⟩
  rw [hw1] at y1 b1
  have g0 := cell_blockK y1 0
  have g1 := cell_blockK y1 1
  have g4 := cell_blockK y1 4
  simp at g0 g1 g4
  have f0 := (b1.cell (World.block_lt_of_cell? _ _ hl0)).trans hl0
  have f1 := (b1.cell (World.block_lt_of_cell? _ _ hc1)).trans hc1
  have f2 := (b1.cell (World.block_lt_of_cell? _ _ hc2)).trans hc2
  have f3 := (b1.cell (World.block_lt_of_cell? _ _ d0)).trans d0
  have f4 := (b1.cell (World.block_lt_of_cell? _ _ e0)).trans e0
  clear hn hy hz hk hkn hr hc1 hc2 d0 e0 hl0 hbn hx48
  go_enter Tryd.func38, Tryd.ntmps38
  go_wp2_with fail
  refine wp_region_lin (fun w' => w'.cell? ⟨cb, 0, none⟩ = some (.slice (some ⟨b, off, none⟩) n c) ∧ w'.cell? ⟨w.heap.size, 4, none⟩ = some (.slice (some ⟨kb, ko, none⟩) 3 x.kC) ∧ w'.cell? ⟨kb, ko + 1, none⟩ = some (.int .i64 (qb : Nat)) ∧ w'.cell? ⟨kb, ko + 2, none⟩ = some (.int .i64 (qc : Nat)) ∧ w'.cell? ⟨b, off + qb * 6, none⟩ = some (.int .i64 y.kind) ∧ w'.cell? ⟨b, off + qc * 6, none⟩ = some (.int .i64 z.kind)) [25] (.block 0 (.block 1 (.block 2 (.block 3 (.block 4 (.block 5 (.block 6 (.block 7 (.block 8 (.block 9 (.block 10 (.block 11 (.block 12 (.block 13 (.block 14 (.block 15 (.block 16 (.block 17 (.block 18 (.block 19 (.block 20 (.block 21 (.block 22 (.block 23 (.block 24 (.loop (.block 25 (.skip)))))))))))))))))))))))))))) (by kernel_rfl) (by kernel_rfl) (by kernel_rfl) (by kernel_rfl) (by kernel_rfl) ⟨f0, g4, f1, f2, f3, f4⟩ ?_
  repeat
    (refine lin_light (A1 := ?_) rfl rfl rfl rfl rfl (fun w' hS K hK => ?_) ?_ ?_
     rotate_left
     · obtain ⟨s0, s1, s2, s3, s4, s5⟩ := hS; go_step; exact hK
     · rfl)
  try refine lin_late ?_
  repeat
    (refine lin_light (A1 := ?_) rfl rfl rfl rfl rfl (fun w' hS K hK => ?_) ?_ ?_
     rotate_left
     · clear hS; go_step; exact hK
     · rfl)
  refine lin_end ?_
  have g1' : w1.drew.cell? ⟨w.heap.size, 1, none⟩ = some (.string x.text) := g1
  clear g0 g1 g4 f0 f1 f2 f3 f4
  cases ve <;> cases vb <;> cases vc
  all_goals first
    | (cases h1; done)
    | (cases h2; done)
    | (clear h1 h2
       go_wp2_with fail
       go_ret
       exact ⟨rfl, b1.drew⟩)
theorem more_switch (hC : Ck w cb A n c) (hN : Nds w w.heap.size A l) (hn : l.length = n) (x : Nd) (hx49 : x.kind = 49) (hkl : x.kids.length ≤ 3000) (hr : Row w w.heap.size x.kA 1 (x.kids.map kidC)) (hin : ∀ y ∈ x.kids, 0 ≤ y ∧ y < n) (h1 : cnt51 (ksOf l x) ≤ 1) :
    Calls Tryd.prog 38 #[.pointer (some ⟨cb, 0, none⟩), nV x] w fun e w' => e = .returned (.bool true) ∧ Below w.heap.size w w' := by
  have hs := hN.small.1
  rw [hn] at hs
  have hl0 := hC.l
  obtain ⟨kn, hkn⟩ : ∃ m, x.kids.length = m := ⟨_, rfl⟩
  have y1 := heap_alloc_new w (.cells (nCells x) 39)
  have b1 : Below w.heap.size w (w.alloc (.cells (nCells x) 39)) := (Below.refl _ _).alloc (Nat.le_refl _) _
  unfold nV
  unfold nCells at y1 b1
  rw [hkn] at hkl
  rw [hkn, hx49] at y1 b1 ⊢
  obtain ⟨w1, hw1⟩ : ∃ w1, w.alloc (.cells #[.int .i64 49, .string x.text, .string x.str, .float .f64 x.num, .slice x.kA kn x.kC, .int .i64 x.at_] 39) = w1 := ⟨_, rfl⟩
  rw [hw1] at y1 b1
  have g0 := cell_blockK y1 0
  have g4 := cell_blockK y1 4
  simp at g0 g4
  have f0 := (b1.cell (World.block_lt_of_cell? _ _ hl0)).trans hl0
  have HN := Lib.hid hn
  have HKN := Lib.hid hkn
  have HIN := Lib.hid hin
  have H1 := Lib.hid h1
  clear hn hkn hin hx49 hl0 h1
  go_enter Tryd.func38, Tryd.ntmps38
  go_wp2_with fail
  go_loopw [7, 54] (fun v i wr => ∃ k : Nat, k ≤ kn ∧ i = .int .i64 k ∧ v = .int .i64 (cnt51 ((ksOf l x).take k) : Nat) ∧ wr = w1) (fun _ i _ => kn - (intOf i).toNat)
  case atStart => exact ⟨0, Nat.zero_le _, rfl, rfl, rfl⟩
  case round =>
    obtain ⟨k, hk, rfl, rfl, rfl⟩ := hrel
    have hcl : cnt51 ((ksOf l x).take k) ≤ k := Nat.le_trans (cnt_le _) (by rw [List.length_take]; omega)
    by_cases hlt : k < kn
    · obtain ⟨t, ht⟩ : ∃ t, x.kids[k]? = some t := ⟨x.kids[k]'(by have := HKN.out; omega), List.getElem?_eq_getElem _⟩
      obtain ⟨hy0, hyn⟩ := HIN.out t (List.mem_of_getElem? ht)
      obtain ⟨q, rfl⟩ : ∃ q : Nat, t = q := ⟨t.toNat, by omega⟩
      have hqn : q < n := by omega
      obtain ⟨z, hz⟩ : ∃ z, l[q]? = some z := ⟨l[q]'(by have := HN.out; omega), List.getElem?_eq_getElem _⟩
      obtain ⟨b2, off2, hkA2, _, hc2⟩ := (hr.below b1 b1.size).kid ht
      obtain ⟨nb, noff, rfl, _, e0, _⟩ := (hN.below b1 b1.size).rows.nd hz
      have htk : cnt51 ((ksOf l x).take (k + 1)) = cnt51 ((ksOf l x).take k) + (if z.kind == 51 then 1 else 0) := by
        rw [← cnt_snoc, List.take_add_one]
        unfold ksOf
        rw [List.getElem?_map, ht, Option.map_some, kindAt_of hz]
        rfl
      obtain ⟨v, hv⟩ : ∃ v, (z.kind == 51) = v := ⟨_, rfl⟩
      rw [hv] at htk
      have HTK := Lib.hid htk
      generalize cnt51 ((ksOf l x).take k) = m at hcl HTK
      clear htk hz ht
      rw [hkA2]
      cases v with
      | true =>
        have hfin : cnt51 ((ksOf l x).take (k + 1)) = m + 1 := by rw [HTK.out]; rfl
        have HFIN := Lib.hid hfin
        clear hfin
        go_wp2_with fail
        go_roundw
        case rel => exact ⟨k + 1, by omega, by go_num, by rw [HFIN.out]; go_num, trivial⟩
        case measure => simp [intOf] <;> omega
      | false =>
        have hfin : cnt51 ((ksOf l x).take (k + 1)) = m := by rw [HTK.out]; rfl
        have HFIN := Lib.hid hfin
        clear hfin
        go_wp2_with fail
        go_roundw
        case rel => exact ⟨k + 1, by omega, by go_num, by rw [HFIN.out], trivial⟩
        case measure => simp [intOf] <;> omega
    · obtain rfl : k = kn := by omega
      have hfin : cnt51 ((ksOf l x).take k) ≤ 1 := by
        rw [List.take_of_length_le (by unfold ksOf; rw [List.length_map]; have := HKN.out; omega)]
        exact H1.out
      generalize cnt51 ((ksOf l x).take k) = m at hcl hfin
      have hd : decide ((m : Int) ≤ 1) = true := decide_eq_true (by omega)
      go_wp2_with fail
      go_ret
      exact ⟨rfl, b1⟩
theorem more_other {k : Nat} (x : Nd) (hx : x.kind = (k : Nat)) (h48 : k ≠ 48) (h49 : k ≠ 49) :
    Calls Tryd.prog 38 #[.pointer (some ⟨cb, 0, none⟩), nV x] w fun e w' => e = .returned (.bool true) ∧ Below w.heap.size w w' := by
  unfold nV
  rw [hx]
  exact more_any h48 h49 _ _ _ _ _ _ _
theorem kids_tmpl (hC : Ck w cb A n c) (hN : Nds w w.heap.size A l) (hn : l.length = n) {kA : Option Addr} {kn kC : Nat} {qs : List Int} (hks : qs.length = kn) (hkn : kn ≤ 3000) (hrow : Row w w.heap.size kA 1 (qs.map kidC)) (hin : ∀ y ∈ qs, 0 ≤ y ∧ y < n)
    (h1 : kn % 2 = 1) (h2 : tmplB 0 (qs.map (kindAt l)) = true) :
    Calls Tryd.prog 37 #[.pointer (some ⟨cb, 0, none⟩), .slice kA kn kC, .string ⟨#[84]⟩] w fun e w' => e = .returned (.bool true) ∧ w' = w := by
  have hs := hN.small.1
  rw [hn] at hs
  have hl0 := hC.l
  have hE := fun k => expr_any k w
  have e2 : Int.tmod (kn : Int) 2 = 1 := by rw [Int.tmod_eq_emod_of_nonneg (by omega)]; omega
  obtain ⟨ks, hk⟩ : ∃ ks, qs.map (kindAt l) = ks := ⟨_, rfl⟩
  have hkl : ks.length = kn := by rw [← hk, List.length_map, hks]
  rw [hk] at h2
  have HK := Lib.hid hk
  have HKL := Lib.hid hkl
  have HKS := Lib.hid hks
  have HIN := Lib.hid hin
  have HN := Lib.hid hn
  have H2 := Lib.hid h2
  clear hks hin hn hk hkl h2
  go_enter Tryd.func37, Tryd.ntmps37
  go_wp2_with fail
  go_loopw [16] (fun i wr => ∃ k : Nat, k ≤ kn ∧ i = .int .i64 k ∧ wr = w ∧ tmplB k (ks.drop k) = true) (fun i _ => kn - (intOf i).toNat)
  case atStart => exact ⟨0, Nat.zero_le _, rfl, rfl, H2.out⟩
  case round =>
    obtain ⟨k, hk, rfl, rfl, hf⟩ := hrel
    have HF := Lib.hid hf
    clear hf
    by_cases hlt : k < kn
    · obtain ⟨t, ht⟩ : ∃ t, qs[k]? = some t := ⟨qs[k]'(by have := HKS.out; omega), List.getElem?_eq_getElem _⟩
      obtain ⟨hy0, hyn⟩ := HIN.out t (List.mem_of_getElem? ht)
      obtain ⟨q, rfl⟩ : ∃ q : Nat, t = q := ⟨t.toNat, by omega⟩
      have hqn : q < n := by omega
      obtain ⟨z, hz⟩ : ∃ z, l[q]? = some z := ⟨l[q]'(by have := HN.out; omega), List.getElem?_eq_getElem _⟩
      obtain ⟨b2, off2, rfl, _, hc2⟩ := hrow.kid ht
      obtain ⟨nb, noff, rfl, _, e0, _⟩ := hN.rows.nd hz
      have hkz : ks[k]? = some z.kind := by rw [← HK.out, List.getElem?_map, ht, Option.map_some, kindAt_of hz]
      have ha := tmpl_at hkz
      rw [HF.out] at ha
      have hab := ha.symm
      rw [Bool.and_eq_true] at hab
      have HNX := Lib.hid hab.2
      have ha1 := hab.1
      clear hkz hz ht ha hab h1 hs H2 HKS HIN HN HF HK HKL hN hrow hC hk hy0 hyn
      by_cases hk0 : k % 2 = 0
      · have e3 : Int.tmod (k : Int) 2 = 0 := by rw [Int.tmod_eq_emod_of_nonneg (by omega)]; omega
        rw [if_pos hk0] at ha1
        have hz2 := eq_of_beq ha1
        rw [hz2] at e0
        clear ha1 hE hz2
        go_wp2_with fail
        go_roundw
        case rel => exact ⟨k + 1, by omega, by go_num, trivial, HNX.out⟩
        case measure => simp [intOf] <;> omega
      · have e3 : Int.tmod (k : Int) 2 = 1 := by rw [Int.tmod_eq_emod_of_nonneg (by omega)]; omega
        rw [if_neg hk0] at ha1
        have hm := hE z.kind
        rw [ha1] at hm
        clear ha1 hE
        go_wp2_with fail
        refine hm.mono ?_
        rintro e w3 ⟨rfl, rfl⟩
        simp only
        go_wp2_with fail
        go_roundw
        case rel => exact ⟨k + 1, by omega, by go_num, trivial, HNX.out⟩
        case measure => simp [intOf] <;> omega
    · obtain rfl : k = kn := by omega
      go_wp2_with fail
      go_ret
      exact ⟨rfl, rfl⟩
end
end Go.Proofs.YtgnpgdjjdhlhaaaDoor
