/- tree.Check, over what it asks of a node. -/
import Derived.Test.YtgnpgdjjdhlhaaaDoorTNode
import Derived.Test.YtgnpgdjjdhlhaaaDoorTDeep
namespace Go.Proofs.YtgnpgdjjdhlhaaaDoor
open Go.RowKit
set_option maxHeartbeats 4000000
set_option maxRecDepth 100000
attribute [local go_sem] Oper.semAt_some store_floatK

theorem Tryd.info_bool : (Tryd.prog.info? 4).map (fun i => (i.zero, i.size, i.bytes)) = some (some (.bool false), 1, 1) := by kernel_rfl
theorem make_boolsK (w : World) (n : Nat) (hn : n ≤ 10000) : (Instr.makeSlice 43 (.int .i64 n) (.int .i64 n)).run Tryd.prog w = .ok (.slice (some ⟨w.heap.size, 0, none⟩) n n) (w.alloc (.cells ((List.replicate n false).map Value.bool).toArray 4)) := by
  obtain ⟨i0, hi, hz0, hz1, hz2⟩ := info_parts Tryd.info_bool
  have h := run_make (P := Tryd.prog) w 43 4 i0 (.bool false) Tryd.underlying43 hi hz0 .i64 .i64 n n (by omega) (Int.le_refl _) (by rw [hz2]; omega) (by omega)
  rw [h, hz1]
  simp only [Int.toNat_natCast, Nat.mul_one, List.map_replicate]
  congr 3
  apply Array.toList_inj.1
  rw [show (Value.bool false).cells = #[.bool false] from rfl, toList_madeCells_one]

/-- kids marked; none: one was marked before -/
def mark : List Int → List Bool → Option (List Bool)
  | [], u => some u
  | k :: r, u => if u.getD k.toNat false then none else mark r (u.set k.toNat true)
theorem mark_at {u : List Bool} {l : List Int} {k : Nat} {x : Int} (h : l[k]? = some x) : mark (l.drop k) u = if u.getD x.toNat false then none else mark (l.drop (k + 1)) (u.set x.toNat true) := by
  rw [List.drop_eq_getElem_cons (List.getElem?_eq_some_iff.1 h).1, (List.getElem?_eq_some_iff.1 h).2]
  rfl
/-- the first look: the first node that is wrong, or what is used -/
def chk1 (ok : Nat → Bool) : List Nd → Nat → List Bool → Nat ⊕ List Bool
  | [], _, u => .inr u
  | x :: r, n, u => if x.kids.any (badKid n) || !ok n then .inl n else match mark x.kids u with
    | none => .inl n
    | some u' => chk1 ok r (n + 1) u'
theorem chk1_at {ok : Nat → Bool} {u : List Bool} {l : List Nd} {k : Nat} {x : Nd} (h : l[k]? = some x) : chk1 ok (l.drop k) k u = if x.kids.any (badKid k) || !ok k then .inl k else match mark x.kids u with
    | none => .inl k
    | some u' => chk1 ok (l.drop (k + 1)) (k + 1) u' := by
  rw [List.drop_eq_getElem_cons (List.getElem?_eq_some_iff.1 h).1, (List.getElem?_eq_some_iff.1 h).2]
  rfl
theorem beqd (a b : Int) : decide (a = b) = (a == b) := rfl
def bad2 (u : List Bool) (last : Int) (n : Nat) (x : Nd) : Bool := (decide (x.kind = 55) != decide ((n : Int) = last)) || (!u.getD n false && !decide ((n : Int) = last))
/-- the second look -/
def chk2 (u : List Bool) (last : Int) : List Nd → Nat → Bool
  | [], _ => true
  | x :: r, n => !bad2 u last n x && chk2 u last r (n + 1)
theorem chk2_at {u : List Bool} {last : Int} {l : List Nd} {k : Nat} {x : Nd} (h : l[k]? = some x) : chk2 u last (l.drop k) k = (!bad2 u last k x && chk2 u last (l.drop (k + 1)) (k + 1)) := by
  rw [List.drop_eq_getElem_cons (List.getElem?_eq_some_iff.1 h).1, (List.getElem?_eq_some_iff.1 h).2]
  rfl
/-- what Check answers -/
def checkT (ok : Nat → Bool) (l : List Nd) : Int × Int :=
  match chk1 ok l 0 (List.replicate l.length false) with
  | .inl n => (n, 60)
  | .inr u => if l.length = 0 then (0, 60) else if chk2 u ((l.length : Int) - 1) l 0 then (if deepB l > 200 then (0, 61) else (0, 0)) else ((l.length : Int) - 1, 60)
theorem checkT_inl {ok : Nat → Bool} {l : List Nd} {n k : Nat} (hn : l.length = n) (h : chk1 ok l 0 (List.replicate n false) = .inl k) : checkT ok l = ((k : Int), 60) := by
  unfold checkT
  rw [hn, h]
theorem checkT_inr {ok : Nat → Bool} {l : List Nd} {n : Nat} {u : List Bool} (hn : l.length = n) (h : chk1 ok l 0 (List.replicate n false) = .inr u) : checkT ok l = if n = 0 then (0, 60) else if chk2 u ((n : Int) - 1) l 0 then (if deepB l > 200 then (0, 61) else (0, 0)) else ((n : Int) - 1, 60) := by
  unfold checkT
  rw [hn, h]
theorem badKid_not {n : Nat} {l : List Int} (h : l.any (badKid n) = false) {j : Nat} {y : Int} (hy : l[j]? = some y) : 0 ≤ y ∧ y < n := by
  have := List.any_eq_false.1 h y (List.mem_of_getElem? hy)
  simp [badKid] at this
  omega
theorem cell_of_heap {w w' : World} {b o : Nat} (h : w'.heap[b]? = w.heap[b]?) : w'.cell? ⟨b, o, none⟩ = w.cell? ⟨b, o, none⟩ := by unfold World.cell?; simp only [h]
theorem Ck.other {w : World} {cb n c b : Nat} {A : Option Addr} (h : Ck w cb A n c) (hb : cb ≠ b) (k : Nat) (v : Value) : Ck (w.setCell ⟨b, k, none⟩ v) cb A n c := ⟨(Below.heap_setCell _ _ _ _ (by simpa using hb)).trans h.block⟩
theorem mark_len : ∀ (l : List Int) (u u' : List Bool), mark l u = some u' → u'.length = u.length
  | [], u, u', h => by cases h; rfl
  | k :: r, u, u', h => by
    unfold mark at h
    split at h
    · cases h
    · rw [mark_len r _ _ h, List.length_set]

theorem ck_cells (A : Option Addr) (n c : Nat) : Array.foldl (fun cs x => cs.setIfInBounds (1 + x.snd) x.fst) (Tryd.zeroCells54.setIfInBounds 0 (Value.slice A n c)) rulesC.zipIdx 0 114 = #[Value.slice A n c] ++ rulesC := by kernel_rfl
/-- what is used, in memory -/
def Us (w : World) (b : Nat) (u : List Bool) : Prop := w.heap[b]? = some (.cells (u.map Value.bool).toArray 4 (0, 0))
theorem Us.keep {w w' : World} {b : Nat} {u : List Bool} (h : Us w b u) (hk : w'.heap[b]? = w.heap[b]?) : Us w' b u := hk.trans h
theorem Us.lt {w : World} {b : Nat} {u : List Bool} (h : Us w b u) : b < w.heap.size := (Array.getElem?_eq_some_iff.1 h).1
theorem Us.get {w : World} {b : Nat} {u : List Bool} (h : Us w b u) {k : Nat} (hk : k < u.length) : w.cell? ⟨b, k, none⟩ = some (.bool (u.getD k false)) := by
  rw [cell_blockK h, List.getElem?_toArray, List.getElem?_map, List.getD_eq_getElem?_getD, List.getElem?_eq_getElem hk]
  rfl
theorem Us.free {w : World} {b : Nat} {u : List Bool} (h : Us w b u) (k : Nat) : w.frozen? ⟨b, k, none⟩ = false := frozen_blockK h k
theorem Us.set {w : World} {b : Nat} {u : List Bool} (h : Us w b u) (k : Nat) (v : Bool) : Us (w.setCell ⟨b, k, none⟩ (.bool v)) b (u.set k v) := by
  have h2 := setCell_blockK (i := k) h (.bool v)
  unfold Us
  rw [h2, List.map_set]
  simp
theorem Tryd.infoNode : (Tryd.prog.info? 39).map (·.size) = some 6 := by kernel_rfl
theorem below_setRowK {B g : Nat} {w0 w : World} (hb : Below B w0 w) (hBg : B ≤ g) (cs : Array Value) : Below B w0 (w.setRow g cs) :=
  ⟨hb.os, hb.tape, hb.output, by simpa using hb.size, fun k hk => (setRow_other w g k cs (by omega)).trans (hb.block k hk)⟩
theorem check_any {w : World} {A : Option Addr} {n c : Nat} {l : List Nd} (ok : Nat → Bool) (hN : Nds w w.heap.size A l) (hn : l.length = n)
    (hok : ∀ k x, l[k]? = some x → x.kids.any (badKid k) = false → (∀ m y, m < k → l[m]? = some y → y.kids.any (badKid m) = false ∧ ok m = true) → ∀ w' cb, Below w.heap.size w w' → Ck w' cb A n c →
      Calls Tryd.prog 23 #[.pointer (some ⟨cb, 0, none⟩), .int .i64 (k : Nat)] w' fun e w'' => e = .returned (.bool (ok k)) ∧ Below w'.heap.size w' w'') :
    Calls Tryd.prog 13 #[.slice A n c] w fun e w' => e = .returned (.tuple #[.int .i64 (checkT ok l).1, .int .i64 (checkT ok l).2]) ∧ Below w.heap.size w w' := by
  have hs := hN.small.1
  rw [hn] at hs
  have Hn := Lib.hid hn
  have HOK := Lib.hid hok
  clear hn hok
  have hrs := rulesC_size
  go_enter Tryd.func13, Tryd.ntmps13
  go_wp2_with fail
  refine (rules_any _).mono ?_
  rintro e w1 ⟨rfl, b1⟩
  simp only
  go_wp2_with fail
  rw [ck_cells]
  have b2 : Below w1.heap.size w1 (w1.alloc (.cells (#[.slice A n c] ++ rulesC) 54)) := (Below.refl _ _).alloc (Nat.le_refl _) _
  have z2 : Ck (w1.alloc (.cells (#[.slice A n c] ++ rulesC) 54)) w1.heap.size A n c := ⟨heap_alloc_new w1 _⟩
  generalize w1.alloc (.cells (#[.slice A n c] ++ rulesC) 54) = w2 at b2 z2 ⊢
  have l2 : w1.heap.size < w2.heap.size := (Array.getElem?_eq_some_iff.1 z2.block).1
  have hmk := make_boolsK w2 n (by omega)
  have b3 : Below w2.heap.size w2 (w2.alloc (.cells ((List.replicate n false).map Value.bool).toArray 4)) := (Below.refl _ _).alloc (Nat.le_refl _) _
  have z3 : Us (w2.alloc (.cells ((List.replicate n false).map Value.bool).toArray 4)) w2.heap.size (List.replicate n false) := heap_alloc_new w2 _
  obtain ⟨w3, hw3⟩ : ∃ w3, w2.alloc (.cells ((List.replicate n false).map Value.bool).toArray 4) = w3 := ⟨_, rfl⟩
  rw [hw3] at b3 z3 hmk
  have l3 : w2.heap.size < w3.heap.size := z3.lt
  have zc : Ck w3 w1.heap.size A n c := z2.below b3
  have b03 : Below w.heap.size w w3 := b1.trans ((b2.mono (Nat.le_refl _)).trans (b3.mono (by omega)) |>.mono b1.size)
  clear b2 b3 z2
  rw [hmk]
  simp only [Result.andThen]
  rw [Oper.upon_value]
  go_wp2_with fail
  go_loopw [25] (fun i wr => ∃ (k : Nat) (u : List Bool), k ≤ n ∧ i = .int .i64 k ∧ u.length = n ∧ chk1 ok l 0 (List.replicate n false) = chk1 ok (l.drop k) k u ∧ (∀ m y, m < k → l[m]? = some y → y.kids.any (badKid m) = false ∧ ok m = true) ∧ Below w.heap.size w wr ∧ Ck wr w1.heap.size A n c ∧ Us wr w2.heap.size u ∧ w3.heap.size ≤ wr.heap.size) (fun i _ => n - (intOf i).toNat)
  case atStart => exact ⟨0, _, Nat.zero_le _, rfl, by simp, rfl, fun m y hm => by omega, b03, zc, z3, Nat.le_refl _⟩
  case round =>
    obtain ⟨k, u, hk, rfl, hul, hgo, hpre, hb, hck, hus, hsz⟩ := hrel
    have HGO := Lib.hid hgo
    have HPRE := Lib.hid hpre
    have HUL := Lib.hid hul
    clear hgo hpre hul
    by_cases hlt : k < n
    · obtain ⟨x, hx⟩ : ∃ x, l[k]? = some x := ⟨l[k]'(by have := Hn.out; omega), List.getElem?_eq_getElem _⟩
      have hxm := List.mem_of_getElem? hx
      obtain ⟨b, off, rfl, hbl, d0, d1, d2, d3, d4, d5⟩ := (hN.below hb hb.size).rows.nd hx
      have hks := hN.small.2 x hxm
      have HKR := Lib.hid (hN.each x hxm)
      have HAT := Lib.hid (chk1_at (ok := ok) (u := u) hx)
      have HX := Lib.hid hx
      clear hx
      obtain ⟨kn, hkn⟩ : ∃ m, x.kids.length = m := ⟨_, rfl⟩
      rw [hkn] at d4 hks
      have HKN := Lib.hid hkn
      clear hkn
      obtain ⟨wf, rfl⟩ : ∃ wf, wf = wr := ⟨_, rfl⟩
      have b4 : Below wf.heap.size wf (wf.alloc (.cells #[.int .i64 0] 3)) := (Below.refl _ _).alloc (Nat.le_refl _) _
      have z4 := heap_alloc_new wf (.cells #[.int .i64 0] 3)
      obtain ⟨w4, hw4⟩ : ∃ w4, wf.alloc (.cells #[.int .i64 0] 3) = w4 := ⟨_, rfl⟩
      rw [hw4] at b4 z4
      have l4 : wf.heap.size < w4.heap.size := (Array.getElem?_eq_some_iff.1 z4).1
      have b5 : Below w4.heap.size w4 (w4.alloc (.cells #[.int .i64 0, .string ⟨#[]⟩, .string ⟨#[]⟩, .float .f64 0, .slice none 0 0, .int .i64 0] 39)) := (Below.refl _ _).alloc (Nat.le_refl _) _
      have z5 := heap_alloc_new w4 (.cells #[.int .i64 0, .string ⟨#[]⟩, .string ⟨#[]⟩, .float .f64 0, .slice none 0 0, .int .i64 0] 39)
      obtain ⟨w5, hw5⟩ : ∃ w5, w4.alloc (.cells #[.int .i64 0, .string ⟨#[]⟩, .string ⟨#[]⟩, .float .f64 0, .slice none 0 0, .int .i64 0] 39) = w5 := ⟨_, rfl⟩
      rw [hw5] at b5 z5
      have z45 := (b5.block _ l4).trans z4
      have c45 := cell_blockK z45 0
      have f45 := frozen_blockK z45 0
      simp at c45
      have z6 := setCell_blockK (i := 0) z45 (.int .i64 (k : Nat))
      have z56 : (w5.setCell ⟨wf.heap.size, 0, none⟩ (.int .i64 (k : Nat))).heap[w4.heap.size]? = _ := (Below.heap_setCell _ _ _ _ (by simp; omega)).trans z5
      obtain ⟨w6, hw6⟩ : ∃ w6, w5.setCell ⟨wf.heap.size, 0, none⟩ (.int .i64 (k : Nat)) = w6 := ⟨_, rfl⟩
      rw [hw6] at z6 z56
      have z7 := setRow_heap w6 w4.heap.size _ #[.int .i64 x.kind, .string x.text, .string x.str, .float .f64 x.num, .slice x.kA kn x.kC, .int .i64 x.at_] _ _ z56
      have z67 := (setRow_other w6 w4.heap.size wf.heap.size #[.int .i64 x.kind, .string x.text, .string x.str, .float .f64 x.num, .slice x.kA kn x.kC, .int .i64 x.at_] (by omega)).trans z6
      have b7 : Below wf.heap.size wf (w6.setRow w4.heap.size #[.int .i64 x.kind, .string x.text, .string x.str, .float .f64 x.num, .slice x.kA kn x.kC, .int .i64 x.at_]) := by
        refine below_setRowK ?_ (by omega) _
        rw [← hw6]
        exact (b4.trans (b5.mono (by omega))).setCell (p := ⟨wf.heap.size, 0, none⟩) (Nat.le_refl _) _
      obtain ⟨w7, hw7⟩ : ∃ w7, w6.setRow w4.heap.size #[.int .i64 x.kind, .string x.text, .string x.str, .float .f64 x.num, .slice x.kA kn x.kC, .int .i64 x.at_] = w7 := ⟨_, rfl⟩
      rw [hw7] at z7 z67 b7
      have c70 := cell_blockK z7 0
      have c74 := cell_blockK z7 4
      have c67 := cell_blockK z67 0
      simp at c70 c74 c67
      have hb7 := hb.trans (b7.mono hb.size)
      have s7 := b7.size
      have l7 : w4.heap.size < w7.heap.size := (Array.getElem?_eq_some_iff.1 z7).1
      have lu := hus.lt
      have hck7 := hck.below b7
      have hus7 := hus.keep (b7.block _ hus.lt)
      go_wp2_with (refine wpList_store_row rfl 39 _ _ rfl w4.heap.size #[.int .i64 x.kind, .string x.text, .string x.str, .float .f64 x.num, .slice x.kA kn x.kC, .int .i64 x.at_] rfl rfl 39 _ z56 Tryd.infoNode rfl (by kernel_rfl) ?_; rw [hw7])
      refine (containsfunc_any c67 (HKR.out.below hb7 hb7.size) HKN.out hks).mono ?_
      rintro e w8 ⟨rfl, rfl⟩
      cases hbad : x.kids.any (badKid k) with
      | true =>
        have hfin : checkT ok l = ((k : Int), 60) := checkT_inl Hn.out (by rw [HGO.out, HAT.out, hbad]; rfl)
        have HFIN := Lib.hid hfin
        clear hfin
        simp only
        go_wp2_with fail
        go_ret2
        exact ⟨by rw [HFIN.out]; rfl, hb7⟩
      | false =>
        have HBAD := Lib.hid hbad
        clear hbad
        simp only
        go_wp2_with fail
        refine (HOK.out k x HX.out HBAD.out HPRE.out _ _ hb7 hck7).mono ?_
        rintro e w9 ⟨rfl, b9⟩
        have hb9 := hb7.trans (b9.mono hb7.size)
        have c97 := (b9.cell (p := ⟨wf.heap.size, 0, none⟩) (by simp; omega)).trans c67
        have c94 := (b9.cell (p := ⟨w4.heap.size, 4, none⟩) (by simp; omega)).trans c74
        have hck9 := hck7.below b9
        have hus9 := hus7.keep (b9.block _ hus7.lt)
        have s9 := b9.size
        cases hokk : ok k with
        | false =>
          have hfin : checkT ok l = ((k : Int), 60) := checkT_inl Hn.out (by rw [HGO.out, HAT.out, HBAD.out, hokk]; rfl)
          have HFIN := Lib.hid hfin
          clear hfin
          simp only
          go_wp2_with fail
          go_ret2
          exact ⟨by rw [HFIN.out]; rfl, hb9⟩
        | true =>
          have HOKK := Lib.hid hokk
          clear hokk
          simp only
          go_wp2_with fail
          go_loopw [44] (fun i wq => ∃ (j : Nat) (u' : List Bool), j ≤ kn ∧ i = .int .i64 j ∧ u'.length = n ∧ mark x.kids u = mark (x.kids.drop j) u' ∧ Below w.heap.size w wq ∧ Ck wq w1.heap.size (some ⟨b, off, none⟩) n c ∧ Us wq w2.heap.size u' ∧ wq.cell? ⟨wf.heap.size, 0, none⟩ = some (.int .i64 k) ∧ w3.heap.size ≤ wq.heap.size) (fun i _ => kn - (intOf i).toNat)
          case atStart => exact ⟨0, u, Nat.zero_le _, rfl, HUL.out, rfl, hb9, hck9, hus9, c97, by omega⟩
          case round =>
            obtain ⟨j, u', hj, rfl, hul', hmk', hbq, hckq, husq, cq, szq⟩ := hrel
            have HMK := Lib.hid hmk'
            have HUL' := Lib.hid hul'
            clear hmk' hul'
            by_cases hjt : j < kn
            · obtain ⟨y, hy⟩ : ∃ y, x.kids[j]? = some y := ⟨x.kids[j]'(by have := HKN.out; omega), List.getElem?_eq_getElem _⟩
              obtain ⟨b2, off2, hkA, _, hc⟩ := (HKR.out.below hbq hbq.size).kid hy
              have HMA := Lib.hid (mark_at (u := u') hy)
              obtain ⟨hy0, hyk⟩ := badKid_not HBAD.out hy
              clear hy
              rw [hkA]
              obtain ⟨q, rfl⟩ : ∃ q : Nat, y = q := ⟨y.toNat, by omega⟩
              have hqn : q < n := by omega
              have hcu := husq.get (k := q) (by have := HUL'.out; omega)
              have hfu := husq.free q
              cases hu : u'.getD q false with
              | true =>
                rw [hu] at hcu
                have hfin : checkT ok l = ((k : Int), 60) := checkT_inl Hn.out (by rw [HGO.out, HAT.out, HBAD.out, HOKK.out, HMK.out, HMA.out, Int.toNat_natCast, hu]; rfl)
                have HFIN := Lib.hid hfin
                clear hfin hu
                go_wp2_with fail
                go_ret2
                exact ⟨by rw [HFIN.out]; rfl, hbq⟩
              | false =>
                rw [hu] at hcu
                have hfin : mark x.kids u = mark (x.kids.drop (j + 1)) (u'.set q true) := by rw [HMK.out, HMA.out, Int.toNat_natCast, hu]; rfl
                have HFIN := Lib.hid hfin
                clear hfin hu
                have husr := husq.set q true
                have hckr := hckq.other (b := w2.heap.size) (by omega) q (.bool true)
                have hbr : Below w.heap.size w (wr.setCell ⟨w2.heap.size, q, none⟩ (.bool true)) := hbq.setCell (p := ⟨w2.heap.size, q, none⟩) (by have := b1.size; simp; omega) _
                have cr : (wr.setCell ⟨w2.heap.size, q, none⟩ (.bool true)).cell? ⟨wf.heap.size, 0, none⟩ = some (.int .i64 k) := (cell_of_heap (Below.heap_setCell wr ⟨w2.heap.size, q, none⟩ (.bool true) wf.heap.size (by simp; omega))).trans cq
                go_wp2_with fail
                go_roundw
                case rel => exact ⟨j + 1, u'.set q true, by omega, by go_num, by rw [List.length_set]; exact HUL'.out, HFIN.out, hbr, hckr, husr, cr, by simpa using szq⟩
                case measure => simp [intOf]; omega
            · obtain rfl : j = kn := by omega
              have hfin : mark x.kids u = some u' := by rw [HMK.out, List.drop_of_length_le (by have := HKN.out; omega)]; rfl
              have hgo2 : chk1 ok l 0 (List.replicate n false) = chk1 ok (l.drop (k + 1)) (k + 1) u' := by rw [HGO.out, HAT.out, HBAD.out, HOKK.out, hfin]; rfl
              have HG2 := Lib.hid hgo2
              clear hgo2 hfin
              go_wp2_with fail
              go_roundw
              case rel => exact ⟨k + 1, u', by omega, by go_num, HUL'.out, HG2.out, fun m y hm hy => (by
                by_cases hmk : m < k
                · exact HPRE.out m y hmk hy
                · obtain rfl : m = k := by omega
                  obtain rfl : x = y := Option.some.inj (HX.out.symm.trans hy)
                  exact ⟨HBAD.out, HOKK.out⟩), hbq, hckq, husq, szq⟩
              case measure => simp [intOf]; omega
    · obtain rfl : k = n := by omega
      have hT := checkT_inr (u := u) Hn.out (by rw [HGO.out, List.drop_of_length_le (by have := Hn.out; omega)]; rfl)
      have HT := Lib.hid hT
      clear hT
      by_cases hn0 : k = 0
      · subst hn0
        go_wp2_with fail
        go_ret2
        exact ⟨by rw [HT.out]; rfl, hb⟩
      · go_wp2_with fail
        go_loopw [65] (fun i wq => ∃ (j : Nat), j ≤ k ∧ i = .int .i64 j ∧ chk2 u ((k : Int) - 1) l 0 = chk2 u ((k : Int) - 1) (l.drop j) j ∧ Below w.heap.size w wq ∧ Us wq w2.heap.size u) (fun i _ => k - (intOf i).toNat)
        case atStart => exact ⟨0, Nat.zero_le _, rfl, rfl, hb, hus⟩
        case round =>
          obtain ⟨j, hj, rfl, h2, hbq, husq⟩ := hrel
          have H2 := Lib.hid h2
          clear h2
          by_cases hjt : j < k
          · obtain ⟨x, hx⟩ : ∃ x, l[j]? = some x := ⟨l[j]'(by have := Hn.out; omega), List.getElem?_eq_getElem _⟩
            have hxm := List.mem_of_getElem? hx
            obtain ⟨b, off, rfl, hbl, d0, d1, d2, d3, d4, d5⟩ := (hN.below hbq hbq.size).rows.nd hx
            have HAT := Lib.hid (chk2_at (u := u) (last := (k : Int) - 1) hx)
            clear hx
            obtain ⟨kn, hkn⟩ : ∃ m, x.kids.length = m := ⟨_, rfl⟩
            rw [hkn] at d4
            clear hkn
            have ba : Below wr.heap.size wr (wr.alloc (.cells #[.int .i64 x.kind, .string x.text, .string x.str, .float .f64 x.num, .slice x.kA kn x.kC, .int .i64 x.at_] 39)) := (Below.refl _ _).alloc (Nat.le_refl _) _
            have za := heap_alloc_new wr (.cells #[.int .i64 x.kind, .string x.text, .string x.str, .float .f64 x.num, .slice x.kA kn x.kC, .int .i64 x.at_] 39)
            obtain ⟨wa, hwa⟩ : ∃ wa, wr.alloc (.cells #[.int .i64 x.kind, .string x.text, .string x.str, .float .f64 x.num, .slice x.kA kn x.kC, .int .i64 x.at_] 39) = wa := ⟨_, rfl⟩
            rw [hwa] at ba za
            have e0 := cell_blockK za 0
            simp at e0
            have hba := hbq.trans (ba.mono hbq.size)
            have husa := husq.keep (ba.block _ husq.lt)
            have hcu := husa.get (k := j) (by have := HUL.out; omega)
            obtain ⟨uj, huj⟩ : ∃ v, u.getD j false = v := ⟨_, rfl⟩
            rw [huj] at hcu
            have HUJ := Lib.hid huj
            clear huj
            obtain ⟨v55, h55⟩ : ∃ v, (x.kind == 55) = v := ⟨_, rfl⟩
            obtain ⟨vl, hl⟩ : ∃ v, ((j : Int) == (k : Int) - 1) = v := ⟨_, rfl⟩
            have hl' : ((j : Int) != (k : Int) - 1) = !vl := by rw [bne, hl]
            have H55 := Lib.hid h55
            have HL := Lib.hid hl
            cases v55 <;> cases vl <;> cases uj
            all_goals first
              | (have hfin : bad2 u ((k : Int) - 1) j x = true := by unfold bad2; rw [HUJ.out, beqd, beqd, HL.out, H55.out]; rfl
                 have hfin2 : checkT ok l = ((k : Int) - 1, 60) := by rw [HT.out, if_neg hn0, H2.out, HAT.out, hfin]; rfl
                 have HFIN := Lib.hid hfin2
                 clear hfin hfin2
                 go_wp2_with fail
                 go_ret2
                 exact ⟨by rw [HFIN.out]; rfl, hba⟩)
              | (have hfin : bad2 u ((k : Int) - 1) j x = false := by unfold bad2; rw [HUJ.out, beqd, beqd, HL.out, H55.out]; rfl
                 have hfin2 : chk2 u ((k : Int) - 1) l 0 = chk2 u ((k : Int) - 1) (l.drop (j + 1)) (j + 1) := by rw [H2.out, HAT.out, hfin]; rfl
                 have HFIN := Lib.hid hfin2
                 clear hfin hfin2
                 go_wp2_with fail
                 go_roundw
                 case rel => exact ⟨j + 1, by omega, by go_num, HFIN.out, hba, husa⟩
                 case measure => simp [intOf]; omega)
          · obtain rfl : j = k := by omega
            have hfin : chk2 u ((j : Int) - 1) l 0 = true := by rw [H2.out, List.drop_of_length_le (by have := Hn.out; omega)]; rfl
            have HF2 := Lib.hid hfin
            clear hfin
            go_wp2_with fail
            refine (deep_any (hN.below hbq hbq.size) Hn.out).mono ?_
            rintro e wd ⟨rfl, bd⟩
            have hbd := hbq.trans (bd.mono hbq.size)
            obtain ⟨dv, hdv⟩ : ∃ m, deepB l = m := ⟨_, rfl⟩
            rw [hdv]
            by_cases hd : dv > 200
            · have hfin : checkT ok l = (0, 61) := by rw [HT.out, if_neg hn0, HF2.out, hdv]; simp [hd]
              have HFIN := Lib.hid hfin
              clear hfin hdv
              simp only
              go_wp2_with fail
              go_ret2
              exact ⟨by rw [HFIN.out]; rfl, hbd⟩
            · have hfin : checkT ok l = (0, 0) := by rw [HT.out, if_neg hn0, HF2.out, hdv]; simp [hd]
              have HFIN := Lib.hid hfin
              clear hfin hdv
              simp only
              go_wp2_with fail
              go_ret2
              exact ⟨by rw [HFIN.out]; rfl, hbd⟩
end Go.Proofs.YtgnpgdjjdhlhaaaDoor
