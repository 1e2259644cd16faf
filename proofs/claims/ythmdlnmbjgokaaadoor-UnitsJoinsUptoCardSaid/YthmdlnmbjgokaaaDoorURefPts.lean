/- lintelref01.Points. -/
import Derived.Test.YthmdlnmbjgokaaaDoorUText
import Derived.Test.YthmdlnmbjgokaaaDoorURefOf
namespace Go.Proofs.YthmdlnmbjgokaaaDoor
open Go.RowKit
set_option maxHeartbeats 4000000
set_option maxRecDepth 100000

theorem Tryd.info_int : (Tryd.prog.info? 3).map (fun i => (i.zero, i.size, i.bytes)) = some (some (.int .i64 0), 1, 8) := by kernel_rfl
theorem Tryd.info_i32 : (Tryd.prog.info? 21).map (fun i => (i.zero, i.size, i.bytes)) = some (some (.int .i32 0), 1, 4) := by kernel_rfl

theorem rows_apart {w : World} {b b' : Nat} {e e' : TypeId} {sz sz' n n' : Nat} {v v' : Value} {xs xs' : List Value} (h : w.ownsRow b e sz v n xs) (h' : w.ownsRow b' e' sz' v' n' xs') (hne : e ≠ e') : v.ownBlock = none ∨ v.ownBlock ≠ v'.ownBlock := by
  rcases h.2 with ⟨rfl, _⟩ | ⟨g, cap, cur, rfl, _, hg, _⟩
  · exact .inl rfl
  · rcases h'.2 with ⟨rfl, _⟩ | ⟨g', cap', cur', rfl, _, hg', _⟩
    · exact .inr (by simp [Value.ownBlock])
    · refine .inr ?_
      intro hh
      simp only [Value.ownBlock] at hh
      injection hh with hh
      subst hh
      rw [hg] at hg'
      injection hg' with hg'
      injection hg' with _ he
      exact hne he

theorem row_mono {w : World} {b b' : Nat} {e : TypeId} {sz n : Nat} {v : Value} {xs : List Value} (h : w.ownsRow b e sz v n xs) (hb : b' ≤ b) : w.ownsRow b' e sz v n xs := by
  refine ⟨h.1, ?_⟩
  rcases h.2 with h2 | ⟨g, cap, cur, x1, x2, x3⟩
  · exact .inl h2
  · exact .inr ⟨g, cap, cur, x1, by omega, x3⟩
theorem cell_alloc' {w : World} {a : Addr} {u : Value} (h : w.cell? a = some u) (o : Obj) : (w.alloc o).cell? a = some u := (World.cell?_alloc_lt w o a (World.block_lt_of_cell? w a h)).trans h

def atV (l : List (Nat × Int)) : List Value := l.map fun x => .int .i64 (x.1 : Nat)
def outV (l : List (Nat × Int)) : List Value := l.map fun x => .int .i32 x.2

theorem take_of_drop {α : Type} {l r : List α} {m : Nat} {x : α} (h : l.drop m = x :: r) : l.take (m + 1) = l.take m ++ [x] ∧ l.drop (m + 1) = r ∧ m < l.length := by
  have h0 := congrArg List.head? h
  simp only [List.head?_cons, List.head?_drop] at h0
  refine ⟨take_snoc2 l m x h0, ?_, (List.getElem?_eq_some_iff.1 h0).1⟩
  rw [← List.drop_drop, h]; rfl


theorem refpoints_any (s : ByteArray) (w : World) (hs : s.size ≤ 1048576) :
    Calls Tryd.prog 18 #[.string s] w fun e w' => ∃ va vo, e = .returned (.tuple #[va, vo]) ∧ w'.ownsRow w.heap.size 3 1 va (PF s 0).length (atV (PF s 0)) ∧ w'.ownsRow w.heap.size 21 1 vo (PF s 0).length (outV (PF s 0)) ∧ Below w.heap.size w w' := by
  obtain ⟨i0, hi, hz0, hz1, hz2⟩ := info_parts Tryd.info_int
  obtain ⟨j0, hj, hy0, hy1, hy2⟩ := info_parts Tryd.info_i32
  obtain ⟨N, hN⟩ : ∃ n, n = s.size / 2 := ⟨_, rfl⟩
  have HN := Lib.hid hN
  have hN1 : N ≤ 524288 := by omega
  go_enter Tryd.func18, Tryd.ntmps18
  go_wp2_with fail
  refine (units_any s _ hs).mono ?_
  rintro e w1 ⟨v, rfl, hown, hb⟩
  have hown : w1.ownsRow w.heap.size 54 1 v (s.size / 2) ((U s).map (Value.int .u16)) := hown
  rw [← hN] at hown
  clear hN
  obtain ⟨A, c, rfl⟩ := own_form hown
  have hrd := Rd.of_own hown
  have hsz1 := hb.size
  obtain ⟨B, hB⟩ : ∃ B, w1.heap.size = B := ⟨_, rfl⟩
  have HB := Lib.hid hB
  simp only
  go_wp2_with fail
  go_loopw [5, 6, 7] (fun va vo i wr => ∃ k m : Nat, k ≤ N ∧ i = .int .i64 k ∧ wr.ownsRow B 3 1 va m (atV ((PF s 0).take m)) ∧ wr.ownsRow B 21 1 vo m (outV ((PF s 0).take m)) ∧ Below B w1 wr ∧ PF s k = (PF s 0).drop m)
    (fun _ _ i _ => N - (intOf i).toNat)
  case atStart => exact ⟨0, 0, by omega, rfl, World.ownsRow_nil _ _ _ _, World.ownsRow_nil _ _ _ _, Below.refl _ _, by simp⟩
  case round =>
    obtain ⟨k, m, hk, rfl, hat, hout, hbr, hpf⟩ := hrel
    have HPF := Lib.hid hpf
    clear hpf
    have hszr := hbr.size
    by_cases hlt : k < N
    · have hub := unitAt_bd s k
      have hvb := unitAt_bd s (k + 1)
      have hm : m < s.size / 2 + 1 := by
        have h1 := congrArg List.length HPF.out
        have h2 := PF_length s 0
        simp only [List.length_drop] at h1
        have h3 : 0 < (PF s k).length := by
          have hlt' : k < s.size / 2 := by have := HN.out; omega
          by_cases hc : k + 1 < s.size / 2 ∧ unitAt s k / 1024 = 54 ∧ unitAt s (k + 1) / 1024 = 55
          · rw [PF_pair hc.1 hc.2.1 hc.2.2]; simp
          · rw [PF_one hlt' hc]; simp
        omega
      have hone := fun hn => PF_one (s := s) (i := k) (by have := HN.out; omega) hn
      have hpair := fun h0 => PF_pair (s := s) (i := k) h0
      have hku : (U s)[k]? = some (unitAt s k) := U_get s k (by have := HN.out; omega)
      have hkv := fun h => U_get s (k + 1) h
      obtain ⟨u, hu⟩ : ∃ u, unitAt s k = u := ⟨_, rfl⟩
      obtain ⟨v, hv⟩ : ∃ v, unitAt s (k + 1) = v := ⟨_, rfl⟩
      rw [hu] at hub hone hpair hku
      rw [hv] at hvb hone hpair hkv
      have HONE := Lib.hid hone
      have HPAIR := Lib.hid hpair
      have HKU := Lib.hid hku
      have HKV := Lib.hid hkv
      clear hone hpair hu hv hku hkv
      obtain ⟨ad, rfl, had, _⟩ := hrd.at_ (k := k) (u := .int .u16 u) (by rw [List.getElem?_map]; exact congrArg (Option.map _) HKU.out)
      go_wp2_with (at_builtin; refine wpList_append_lies _ rfl _ _ _ rfl B 3 i0 _ 1 8 Tryd.underlying35 hi hz0 hz1 hz2 rfl (by omega) _ m _ rfl (hat.alloc _) ⟨wr.heap.size, 0, none⟩ 1 1 [.int .i64 k] rfl rfl (World.news_of_block (cs := #[.int .i64 k]) (t := 3) (fr := (0, 0)) (heap_alloc_new wr _)) (by simp [Value.oneCell']) (by omega) (by unfold maxLen; omega) (by omega) (by simp; have := HB.out; omega) (wr.heap.size + 1) (by simp) ?_)
      intro g3 cap3 w3 hown3 hgrow3 hat3 hlt3
      have hout1 := (hout.alloc (.cells #[.int .i64 k] 3)).kept hgrow3 (rows_apart hout hat (by decide))
      have hb3 : Below B w1 w3 := (hbr.alloc (by have := HB.out; omega) _).grown hgrow3 (by simp; have := HB.out; omega) (fun j hj' => (hat.lt j hj').1)
      have hsz3 := hb3.size
      have hsz4 := HB.out
      have hrd3 := hrd.below (w' := w3) (by rw [HB.out]; exact hb3)
      obtain ⟨_, e0, _, hc0⟩ := hrd3.at_ (k := k) (u := .int .u16 u) (by rw [List.getElem?_map]; exact congrArg (Option.map _) HKU.out)
      cases e0
      by_cases c1 : u < 55296
      · have HST := Lib.hid (HONE.out (by have := HN.out; omega))
        go_wp2_with (at_builtin; refine wpList_append_lies _ rfl _ _ _ rfl B 21 j0 _ 1 4 Tryd.underlying36 hj hy0 hy1 hy2 rfl (by omega) _ m _ rfl (hout1.alloc _) ⟨w3.heap.size, 0, none⟩ 1 1 [.int .i32 u] rfl rfl (World.news_of_block (cs := #[.int .i32 u]) (t := 21) (fr := (0, 0)) (heap_alloc_new w3 _)) (by simp [Value.oneCell']) (by omega) (by unfold maxLen; omega) (by omega) (by simp; omega) (w3.heap.size + 1) (by simp) ?_; intro g4 cap4 w4 hown4 hgrow4 hat4 hlt4)
        go_roundw
        case rel =>
          have HTD := take_of_drop (HPF.out.symm.trans HST.out)
          refine ⟨k + 1, m + 1, by omega, by go_num, ?_, ?_, ?_, HTD.2.1.symm⟩
          · rw [HTD.1, atV, List.map_append]
            exact ((hown3.alloc _).kept hgrow4 (rows_apart hown3 hout1 (by decide)))
          · rw [HTD.1, outV, List.map_append]
            exact hown4
          · exact (hb3.alloc (by omega) _).grown hgrow4 (by simp; omega) (fun j hj' => (hout1.lt j hj').1)
        case measure => simp [intOf]; omega
      by_cases c2 : 56320 ≤ u
      · have HST := Lib.hid (HONE.out (by have := HN.out; omega))
        go_wp2_with (at_builtin; refine wpList_append_lies _ rfl _ _ _ rfl B 21 j0 _ 1 4 Tryd.underlying36 hj hy0 hy1 hy2 rfl (by omega) _ m _ rfl (hout1.alloc _) ⟨w3.heap.size, 0, none⟩ 1 1 [.int .i32 u] rfl rfl (World.news_of_block (cs := #[.int .i32 u]) (t := 21) (fr := (0, 0)) (heap_alloc_new w3 _)) (by simp [Value.oneCell']) (by omega) (by unfold maxLen; omega) (by omega) (by simp; omega) (w3.heap.size + 1) (by simp) ?_; intro g4 cap4 w4 hown4 hgrow4 hat4 hlt4)
        go_roundw
        case rel =>
          have HTD := take_of_drop (HPF.out.symm.trans HST.out)
          refine ⟨k + 1, m + 1, by omega, by go_num, ?_, ?_, ?_, HTD.2.1.symm⟩
          · rw [HTD.1, atV, List.map_append]
            exact ((hown3.alloc _).kept hgrow4 (rows_apart hown3 hout1 (by decide)))
          · rw [HTD.1, outV, List.map_append]
            exact hown4
          · exact (hb3.alloc (by omega) _).grown hgrow4 (by simp; omega) (fun j hj' => (hout1.lt j hj').1)
        case measure => simp [intOf]; omega
      by_cases c3 : N ≤ k + 1
      · have HST := Lib.hid (HONE.out (by have := HN.out; omega))
        go_wp2_with (at_builtin; refine wpList_append_lies _ rfl _ _ _ rfl B 21 j0 _ 1 4 Tryd.underlying36 hj hy0 hy1 hy2 rfl (by omega) _ m _ rfl (hout1.alloc _) ⟨w3.heap.size, 0, none⟩ 1 1 [.int .i32 u] rfl rfl (World.news_of_block (cs := #[.int .i32 u]) (t := 21) (fr := (0, 0)) (heap_alloc_new w3 _)) (by simp [Value.oneCell']) (by omega) (by unfold maxLen; omega) (by omega) (by simp; omega) (w3.heap.size + 1) (by simp) ?_; intro g4 cap4 w4 hown4 hgrow4 hat4 hlt4)
        go_roundw
        case rel =>
          have HTD := take_of_drop (HPF.out.symm.trans HST.out)
          refine ⟨k + 1, m + 1, by omega, by go_num, ?_, ?_, ?_, HTD.2.1.symm⟩
          · rw [HTD.1, atV, List.map_append]
            exact ((hown3.alloc _).kept hgrow4 (rows_apart hown3 hout1 (by decide)))
          · rw [HTD.1, outV, List.map_append]
            exact hown4
          · exact (hb3.alloc (by omega) _).grown hgrow4 (by simp; omega) (fun j hj' => (hout1.lt j hj').1)
        case measure => simp [intOf]; omega
      obtain ⟨_, e1, _, hc1⟩ := hrd3.at_ (k := k + 1) (u := .int .u16 v) (by rw [List.getElem?_map]; exact congrArg (Option.map _) (HKV.out (by have := HN.out; omega)))
      cases e1
      have hc1 : w3.cell? ⟨ad.block, ad.off + (k + 1), none⟩ = some (.int .u16 v) := by simpa [Addr.add] using hc1
      by_cases c4 : v < 56320
      · have HST := Lib.hid (HONE.out (by have := HN.out; omega))
        go_wp2_with (at_builtin; refine wpList_append_lies _ rfl _ _ _ rfl B 21 j0 _ 1 4 Tryd.underlying36 hj hy0 hy1 hy2 rfl (by omega) _ m _ rfl (hout1.alloc _) ⟨w3.heap.size, 0, none⟩ 1 1 [.int .i32 u] rfl rfl (World.news_of_block (cs := #[.int .i32 u]) (t := 21) (fr := (0, 0)) (heap_alloc_new w3 _)) (by simp [Value.oneCell']) (by omega) (by unfold maxLen; omega) (by omega) (by simp; omega) (w3.heap.size + 1) (by simp) ?_; intro g4 cap4 w4 hown4 hgrow4 hat4 hlt4)
        go_roundw
        case rel =>
          have HTD := take_of_drop (HPF.out.symm.trans HST.out)
          refine ⟨k + 1, m + 1, by omega, by go_num, ?_, ?_, ?_, HTD.2.1.symm⟩
          · rw [HTD.1, atV, List.map_append]
            exact ((hown3.alloc _).kept hgrow4 (rows_apart hown3 hout1 (by decide)))
          · rw [HTD.1, outV, List.map_append]
            exact hown4
          · exact (hb3.alloc (by omega) _).grown hgrow4 (by simp; omega) (fun j hj' => (hout1.lt j hj').1)
        case measure => simp [intOf]; omega
      by_cases c5 : 57344 ≤ v
      · have HST := Lib.hid (HONE.out (by have := HN.out; omega))
        go_wp2_with (at_builtin; refine wpList_append_lies _ rfl _ _ _ rfl B 21 j0 _ 1 4 Tryd.underlying36 hj hy0 hy1 hy2 rfl (by omega) _ m _ rfl (hout1.alloc _) ⟨w3.heap.size, 0, none⟩ 1 1 [.int .i32 u] rfl rfl (World.news_of_block (cs := #[.int .i32 u]) (t := 21) (fr := (0, 0)) (heap_alloc_new w3 _)) (by simp [Value.oneCell']) (by omega) (by unfold maxLen; omega) (by omega) (by simp; omega) (w3.heap.size + 1) (by simp) ?_; intro g4 cap4 w4 hown4 hgrow4 hat4 hlt4)
        go_roundw
        case rel =>
          have HTD := take_of_drop (HPF.out.symm.trans HST.out)
          refine ⟨k + 1, m + 1, by omega, by go_num, ?_, ?_, ?_, HTD.2.1.symm⟩
          · rw [HTD.1, atV, List.map_append]
            exact ((hown3.alloc _).kept hgrow4 (rows_apart hown3 hout1 (by decide)))
          · rw [HTD.1, outV, List.map_append]
            exact hown4
          · exact (hb3.alloc (by omega) _).grown hgrow4 (by simp; omega) (fun j hj' => (hout1.lt j hj').1)
        case measure => simp [intOf]; omega
      have HST := Lib.hid (HPAIR.out (by have := HN.out; omega) (by omega) (by omega))
      have hval : (u - 55296) * 1024 + (v - 56320) + 65536 = (u - 55296) * 1024 + v - 56320 + 65536 := by omega
      have HST := Lib.hid (hval ▸ HST.out)
      clear hval
      go_wp2_with fail
      refine wp_region_lin (fun w' => w'.cell? (ad.add k) = some (.int .u16 u) ∧ w'.cell? ⟨ad.block, ad.off + (k + 1), none⟩ = some (.int .u16 v)) [18, 19] (.block 0 (.block 1 (.block 2 (.block 3 (.block 4 (.block 5 (.block 6 (.block 7 (.block 8 (.block 9 (.block 10 (.block 11 (.block 12 (.block 13 (.block 14 (.block 15 (.block 16 (.scope (.seq (.label 17) (.loop (.scope (.seq (.label 18) (.block 19 (.skip)))))))))))))))))))))))) (by kernel_rfl) (by kernel_rfl) (by kernel_rfl) (by kernel_rfl) (by kernel_rfl) ⟨hc0, hc1⟩ ?_
      repeat
        (refine lin_light (A1 := ?_) rfl rfl rfl rfl rfl (fun w' hS K hK => ?_) ?_ ?_
         rotate_left
         · obtain ⟨s0, s1⟩ := hS; go_step; exact hK
         · rfl)
      refine lin_group ?_
      refine lin_heavy rfl rfl (fun K hK => ?_)
      go_step
      refine hK.out _ _ ⟨cell_alloc' (w := w3.drew) hc0 _, cell_alloc' (w := w3.drew) hc1 _⟩ ?_
      clear hK K
      try refine lin_late ?_
      repeat
        (refine lin_light (A1 := ?_) rfl rfl rfl rfl rfl (fun w' hS K hK => ?_) ?_ ?_
         rotate_left
         · clear hS; go_step; exact hK
         · rfl)
      refine lin_group ?_
      refine lin_heavy rfl rfl (fun K hK => ?_)
      refine wp_append_lies _ _ _ _ rfl B 21 j0 _ 1 4 Tryd.underlying36 hj hy0 hy1 hy2 rfl (by omega) _ m _ rfl (hout1.drew.alloc _) ⟨w3.heap.size, 0, none⟩ 1 1 [.int .i32 ((u - 55296) * 1024 + v - 56320 + 65536)] rfl rfl
        (World.news_of_block (cs := #[.int .i32 ((u - 55296) * 1024 + v - 56320 + 65536)]) (t := 21) (fr := (0, 0)) (heap_alloc_new w3.drew _)) (by simp [Value.oneCell']) (by omega) (by unfold maxLen; omega) (by omega) (by simp; omega) (w3.heap.size + 1) (by simp) ?_
      intro g4 cap4 w4 hown4 hgrow4 hat4 hlt4
      refine hK.out _ _ trivial ?_
      clear hK K
      simp only [Act.put, List.setIfInBounds_toArray, List.set_cons_zero, List.set_cons_succ]
      repeat
        (refine lin_light (A1 := ?_) rfl rfl rfl rfl rfl (fun w' hS K hK => ?_) ?_ ?_
         rotate_left
         · clear hS; go_step; exact hK
         · rfl)
      refine lin_end ?_
      go_wp2_with fail
      go_roundw
      case rel =>
        have HTD := take_of_drop (HPF.out.symm.trans HST.out)
        refine ⟨k + 2, m + 1, by omega, by go_num, ?_, ?_, ?_, HTD.2.1.symm⟩
        · rw [HTD.1, atV, List.map_append]
          exact ((hown3.drew.alloc _).kept hgrow4 (rows_apart hown3 hout1 (by decide)))
        · rw [HTD.1, outV, List.map_append]
          exact hown4
        · exact (hb3.drew.alloc (by simp; omega) _).grown hgrow4 (by simp; omega) (fun j hj' => (hout1.lt j hj').1)
      case measure => simp [intOf]; omega
    · go_wp2_with fail
      go_ret2
      have hl : (PF s 0).length ≤ m := by
        have h2 := congrArg List.length HPF.out
        rw [PF_end (by have := HN.out; omega)] at h2
        simp only [List.length_drop, List.length_nil] at h2
        omega
      have hml : (PF s 0).length = m := by
        have h1 := hat.1
        simp only [atV, List.length_map, List.length_take] at h1
        omega
      rw [List.take_of_length_le hl] at hat hout
      rw [hml]
      refine ⟨_, _, rfl, row_mono hat (by have := HB.out; omega), row_mono hout (by have := HB.out; omega), hb.trans (hbr.mono (by have := HB.out; omega))⟩
end Go.Proofs.YthmdlnmbjgokaaaDoor
