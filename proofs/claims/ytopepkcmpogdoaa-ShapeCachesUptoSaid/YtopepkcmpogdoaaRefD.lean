/- What the document's tree is in memory; the walks of lintelref14.New, find and way. -/
import Derived.Test.YtopepkcmpogdoaaSameK
namespace Go.Proofs.Ytopepkcmpogdoaa
open Go.RowKit
set_option maxHeartbeats 400000
set_option maxRecDepth 100000

/-- a way of the document's tree: from, change, key, flags, to -/
abbrev Wy := Int × Bool × KK × Int × Int
def wyCells (x : Wy) : List Value := [.int .i64 x.1, .bool x.2.1, .string x.2.2.1.1, .int .i64 x.2.2.1.2, .int .i64 x.2.2.2.1, .int .i64 x.2.2.2.2]
def wayCells (l : List Wy) : List Value := l.flatMap wyCells
theorem wayCells_length (l : List Wy) : (wayCells l).length = l.length * 6 := by
  induction l with
  | nil => rfl
  | cons s r ih => unfold wayCells at *; simp only [List.flatMap_cons, List.length_append, ih, wyCells, List.length_cons, List.length_nil]; omega
theorem wayCells_append (a b : List Wy) : wayCells (a ++ b) = wayCells a ++ wayCells b := by simp [wayCells]
theorem wayCells_at (l : List Wy) (k : Nat) (x : Wy) (h : l[k]? = some x) : (wayCells l)[k * 6]? = some (.int .i64 x.1) ∧ (wayCells l)[k * 6 + 1]? = some (.bool x.2.1) ∧ (wayCells l)[k * 6 + 2]? = some (.string x.2.2.1.1) ∧
    (wayCells l)[k * 6 + 3]? = some (.int .i64 x.2.2.1.2) ∧ (wayCells l)[k * 6 + 4]? = some (.int .i64 x.2.2.2.1) ∧ (wayCells l)[k * 6 + 5]? = some (.int .i64 x.2.2.2.2) := by
  induction l generalizing k with
  | nil => simp at h
  | cons y r ih =>
    cases k with
    | zero =>
      obtain rfl : y = x := by simpa using h
      unfold wayCells
      simp [wyCells]
    | succ k =>
      have h1 := ih k (by simpa using h)
      have e : wayCells (y :: r) = wyCells y ++ wayCells r := by simp [wayCells]
      have l3 : (wyCells y).length = 6 := rfl
      have sh : ∀ j, (wayCells (y :: r))[(k + 1) * 6 + j]? = (wayCells r)[k * 6 + j]? := fun j => by
        rw [e, List.getElem?_append_right (by omega), l3]
        congr 1
        omega
      have s0 := sh 0
      rw [Nat.add_zero, Nat.add_zero] at s0
      rw [s0, sh, sh, sh, sh, sh]
      exact h1

/-- the document's tree at block b: its shapes T, its ways W -/
structure RefAt (B0 : Nat) (w : World) (b : Nat) (T : List (List Sl)) (W : List Wy) (vL vW : Value) (vs : List Value) : Prop where
  cells : w.heap[b]? = some (.cells #[vL, vW] 47 (0, 0))
  baseB : B0 ≤ b
  row : w.ownsRow B0 88 1 vL T.length vs
  shapes : ∀ (i : Nat) (v : Value) (l : List Sl), vs[i]? = some v → T[i]? = some l → w.ownsRow B0 90 3 v l.length (slotCells l) ∧ l.length ≤ 128 ∧ ∀ s ∈ l, s.1.size ≤ 1048576
  ways : w.ownsRow B0 100 6 vW W.length (wayCells W)
  wok : ∀ x ∈ W, x.2.2.1.1.size ≤ 1048576
  one : 1 ≤ T.length
def IsRef (B0 : Nat) (w : World) (b : Nat) (T : List (List Sl)) (W : List Wy) : Prop := ∃ vL vW vs, RefAt B0 w b T W vL vW vs

/-- the objects that the document's tree writes -/
def touchR : Obj → Prop
  | .cells _ t _ => t = 47 ∨ t = 88 ∨ t = 100
  | _ => False

section
variable {B0 : Nat} {w w' : World} {b : Nat} {T : List (List Sl)} {W : List Wy} {vL vW : Value} {vs : List Value}
theorem RefAt.of_blocks (h : RefAt B0 w b T W vL vW vs) (hk : ∀ k, k < w.heap.size → B0 ≤ k → w'.heap[k]? = w.heap[k]?) : RefAt B0 w' b T W vL vW vs := by
  have hkb : ∀ k o, w.heap[k]? = some o → B0 ≤ k → w'.heap[k]? = w.heap[k]? := fun k o ho hB => hk k (Array.getElem?_eq_some_iff.1 ho).1 hB
  refine ⟨?_, h.baseB, ?_, fun i v l hp hl => ?_, ?_, h.wok, h.one⟩
  · rw [hkb _ _ h.cells h.baseB]; exact h.cells
  · exact ownsRow_of_blocks h.row fun k hv => hk k (h.row.lt k hv).2 (h.row.lt k hv).1
  · obtain ⟨h1, h2⟩ := h.shapes i v l hp hl
    exact ⟨ownsRow_of_blocks h1 fun k hv => hk k (h1.lt k hv).2 (h1.lt k hv).1, h2⟩
  · exact ownsRow_of_blocks h.ways fun k hv => hk k (h.ways.lt k hv).2 (h.ways.lt k hv).1
theorem IsRef.below (h : IsRef B0 w b T W) (hb : Below w.heap.size w w') : IsRef B0 w' b T W := by
  obtain ⟨vL, mw, sh, h⟩ := h
  exact ⟨vL, mw, sh, h.of_blocks fun k hk _ => hb.block k hk⟩
theorem RefAt.c0 (h : RefAt B0 w b T W vL vW vs) : w.cell? ⟨b, 0, none⟩ = some vL := by rw [cell_block h.cells]; rfl
theorem RefAt.c1 (h : RefAt B0 w b T W vL vW vs) : w.cell? ⟨b, 1, none⟩ = some vW := by rw [cell_block h.cells]; rfl
theorem RefAt.form (h : RefAt B0 w b T W vL vW vs) : ∃ g cap, vL = .slice (some ⟨g, 0, none⟩) T.length cap ∧ B0 ≤ g ∧ g < w.heap.size := h.row.form (by have := h.one; omega)
theorem RefAt.vsl (h : RefAt B0 w b T W vL vW vs) : vs.length = T.length := by have := h.row.1; omega
end

theorem new_ref (w : World) :
    Calls Try.prog 13 #[] w fun e w' => e = .returned (.pointer (some ⟨w.heap.size + 1, 0, none⟩)) ∧ IsRef w.heap.size w' (w.heap.size + 1) [[]] [] ∧ Below w.heap.size w w' := by
  go_enter Try.func13, Try.ntmps13
  go_wp2_with fail
  go_ret
  refine ⟨rfl, ?_, (((Below.refl _ _).alloc (Nat.le_refl _) _).alloc (by simp) _)⟩
  generalize hW1 : w.alloc _ = w1
  have s1 : w1.heap.size = w.heap.size + 1 := by rw [← hW1]; simp
  have b1 := hW1 ▸ heap_new' (w := w) (o := .cells #[.slice none 0 0] 88) rfl
  generalize hW2 : w1.alloc _ = w2
  have b2 := hW2 ▸ heap_new' (w := w1) (o := .cells #[.slice (some ⟨w.heap.size, 0, none⟩) 1 1, .slice none 0 0] 47) s1
  have b3 := hW2 ▸ heap_old' (o := .cells #[.slice (some ⟨w.heap.size, 0, none⟩) 1 1, .slice none 0 0] 47) b1
  refine ⟨_, _, [.slice none 0 0], b2, by omega, ⟨rfl, .inr ⟨w.heap.size, 1, _, rfl, by omega, b3, by simp, by simp [maxLen], rfl, rfl⟩⟩, ?_, World.ownsRow_nil _ _ _ _, by simp, by simp⟩
  intro i v l hv hl
  cases i with
  | zero =>
    obtain rfl : Value.slice none 0 0 = v := by simpa using hv
    obtain rfl : [] = l := by simpa using hl
    exact ⟨World.ownsRow_nil _ _ _ _, by simp, by simp⟩
  | succ i => simp at hv

/-- the place of a key, in the document -/
def findF (k : KK) : List Sl → Int → Int
  | [], _ => -1
  | s :: r, i => if sameB (slKey s) k = true then i else findF k r (i + 1)
def findR (l : List Sl) (k : KK) : Int := findF k l 0
theorem findF_step (k : KK) (l : List Sl) (j : Nat) (s : Sl) (h : l[j]? = some s) (i : Int) : findF k (l.drop j) i = if sameB (slKey s) k = true then i else findF k (l.drop (j + 1)) (i + 1) := by
  obtain ⟨h1, rfl⟩ := List.getElem?_eq_some_iff.1 h
  rw [List.drop_eq_getElem_cons h1]
  rfl

theorem find_ref {w : World} {B0 : Nat} {l : List Sl} {v : Value} (h : w.ownsRow B0 90 3 v l.length (slotCells l)) (hok : ∀ s ∈ l, s.1.size ≤ 1048576) (hl : l.length ≤ 128) (k : KK) (hk : k.1.size ≤ 1048576) :
    Calls Try.prog 30 #[v, encK k] w fun e w' => e = .returned (.int .i64 (findR l k)) ∧ Below w.heap.size w w' := by
  obtain ⟨A, c, rfl, hc, hA1, hA2⟩ := row_slice h
  obtain ⟨n, sy⟩ := k
  simp only [encK]
  go_enter Try.func30, Try.ntmps30
  go_wp2_with fail
  generalize hW : w.alloc _ = W1
  have hb1 : Below w.heap.size w W1 := by rw [← hW]; exact (Below.refl _ _).alloc (Nat.le_refl _) _
  have hbx := hW ▸ heap_new' (w := w) (o := .cells #[.string n, .int .i64 sy] 30) rfl
  clear hW
  have k0 := cell_block hbx 0
  have k1 := cell_block hbx 1
  simp at k0 k1
  clear hbx
  have hs1 := hb1.size
  go_loopw [9] (fun i wr => ∃ j : Nat, j ≤ l.length ∧ i = .int .i64 j ∧ Below W1.heap.size W1 wr ∧ findF (n, sy) (l.drop j) j = findR l (n, sy))
    (fun i _ => l.length - (intOf i).toNat)
  case atStart => exact ⟨0, Nat.zero_le _, rfl, Below.refl _ _, rfl⟩
  case round =>
    obtain ⟨j, hj, rfl, hbr, hrel⟩ := hrel
    have HR := Lib.hid hrel
    clear hrel
    by_cases hlt : j < l.length
    · obtain ⟨s, hs⟩ : ∃ s, l[j]? = some s := ⟨l[j], List.getElem?_eq_getElem hlt⟩
      have hss := hok s (List.mem_of_getElem? hs)
      have hst := findF_step (n, sy) l j s hs j
      obtain ⟨gs, cs, hA, _, _⟩ := h.form (by omega)
      have hAA : A = some ⟨gs, 0, none⟩ := by injection hA
      subst hAA
      obtain ⟨s1, s2, s3⟩ := s
      obtain ⟨q0, q1, q2⟩ := slotCells_at l j _ hs
      have r0 := (hA2 _ rfl).2 _ _ q0
      have r1 := (hA2 _ rfl).2 _ _ q1
      have r2 := (hA2 _ rfl).2 _ _ q2
      simp only [Addr.add_lit, Nat.zero_add] at r0 r1 r2
      have hb0r : Below w.heap.size w wr := hb1.trans (hbr.mono hs1)
      have e0 := (hb0r.cell (World.block_lt_of_cell? _ _ r0)).trans r0
      have e1 := (hb0r.cell (World.block_lt_of_cell? _ _ r1)).trans r1
      have e2 := (hb0r.cell (World.block_lt_of_cell? _ _ r2)).trans r2
      have e3 := (hbr.cell (World.block_lt_of_cell? _ _ k0)).trans k0
      have e4 := (hbr.cell (World.block_lt_of_cell? _ _ k1)).trans k1
      have f3 := cell_alloc' e3 (.cells #[.string s1, .int .i64 s2, .int .i64 s3] 90)
      have f4 := cell_alloc' e4 (.cells #[.string s1, .int .i64 s2, .int .i64 s3] 90)
      have HST := Lib.hid hst
      clear hst q0 q1 q2 r0 r1 r2 k0 k1 hs hA2
      go_wp2_with fail
      refine (same_any (s1, s2) (n, sy) _ hss hk).mono ?_
      rintro e w4 ⟨rfl, hb4⟩
      have hb14 : Below W1.heap.size W1 w4 := (hbr.alloc hbr.size _).trans (hb4.mono (by have := hbr.size; simp; omega))
      cases hsm : sameB (s1, s2) (n, sy) with
      | true =>
        simp only
        go_wp2_with fail
        go_ret
        rw [← HR.out, HST.out, if_pos (show sameB (slKey (s1, s2, s3)) (n, sy) = true from hsm)]
        exact ⟨rfl, hb1.trans (hb14.mono hs1)⟩
      | false =>
        simp only
        go_wp2_with fail
        have hgo : findF (n, sy) (l.drop (j + 1)) ((j + 1 : Nat) : Int) = findR l (n, sy) := by
          rw [← HR.out, HST.out, if_neg (by rw [show sameB (slKey (s1, s2, s3)) (n, sy) = false from hsm]; simp)]
          rfl
        refine ⟨⟨j + 1, by omega, by go_num, hb14, hgo⟩, by simp [intOf]; omega⟩
    · obtain rfl : j = l.length := by omega
      rw [List.drop_length] at HR
      go_wp2_with fail
      go_ret
      rw [← HR.out]
      exact ⟨rfl, hb1.trans (hbr.mono hs1)⟩

/-- where one led already, in the document -/
def wayF (s : Int) (c : Bool) (k : KK) (fl : Int) : List Wy → Int
  | [] => -1
  | x :: r => if ((x.1 == s) && (x.2.1 == c) && (x.2.2.2.1 == fl) && sameB x.2.2.1 k) = true then x.2.2.2.2 else wayF s c k fl r
theorem wayF_step (s : Int) (c : Bool) (k : KK) (fl : Int) (l : List Wy) (j : Nat) (x : Wy) (h : l[j]? = some x) : wayF s c k fl (l.drop j) = if ((x.1 == s) && (x.2.1 == c) && (x.2.2.2.1 == fl) && sameB x.2.2.1 k) = true then x.2.2.2.2 else wayF s c k fl (l.drop (j + 1)) := by
  obtain ⟨h1, rfl⟩ := List.getElem?_eq_some_iff.1 h
  rw [List.drop_eq_getElem_cons h1]
  rfl

theorem way_ref {B0 : Nat} {w : World} {b : Nat} {T : List (List Sl)} {W : List Wy} {vL vW : Value} {vs : List Value} (h : RefAt B0 w b T W vL vW vs) (hWl : W.length ≤ 1000) (s : Int) (c : Bool) (k : KK) (fl : Int) (hk : k.1.size ≤ 1048576) :
    Calls Try.prog 31 #[.pointer (some ⟨b, 0, none⟩), .int .i64 s, .bool c, .agg #[.string k.1, .int .i64 k.2, .int .i64 fl]] w fun e w' => e = .returned (.int .i64 (wayF s c k fl W)) ∧ Below w.heap.size w w' := by
  obtain ⟨A, cp, rfl, hc, hA1, hA2⟩ := row_slice h.ways
  obtain ⟨n, sy⟩ := k
  simp only at hk ⊢
  have c1 := h.c1
  have c11 := cell_alloc' c1 (.cells #[.string n, .int .i64 sy, .int .i64 fl] 90)
  have hw := h.ways
  have hok := h.wok
  clear h
  go_enter Try.func31, Try.ntmps31
  go_wp2_with fail
  generalize hW : w.alloc _ = W1
  have hb1 : Below w.heap.size w W1 := by rw [← hW]; exact (Below.refl _ _).alloc (Nat.le_refl _) _
  have hbx := hW ▸ heap_new' (w := w) (o := .cells #[.string n, .int .i64 sy, .int .i64 fl] 90) rfl
  clear hW
  have k0 := cell_block hbx 0
  have k1 := cell_block hbx 1
  have k2 := cell_block hbx 2
  simp at k0 k1 k2
  clear hbx
  have hs1 := hb1.size
  go_loopw [16] (fun i wr => ∃ j : Nat, j ≤ W.length ∧ i = .int .i64 j ∧ Below W1.heap.size W1 wr ∧ wayF s c (n, sy) fl (W.drop j) = wayF s c (n, sy) fl W)
    (fun i _ => W.length - (intOf i).toNat)
  case atStart => exact ⟨0, Nat.zero_le _, rfl, Below.refl _ _, rfl⟩
  case round =>
    obtain ⟨j, hj, rfl, hbr, hrel⟩ := hrel
    have HR := Lib.hid hrel
    clear hrel
    by_cases hlt : j < W.length
    · obtain ⟨x, hx⟩ : ∃ x, W[j]? = some x := ⟨W[j], List.getElem?_eq_getElem hlt⟩
      have hxs := hok x (List.mem_of_getElem? hx)
      have hst := wayF_step s c (n, sy) fl W j x hx
      obtain ⟨gs, cs, hA, _, _⟩ := hw.form (by omega)
      have hAA : A = some ⟨gs, 0, none⟩ := by injection hA
      subst hAA
      obtain ⟨x1, x2, ⟨x3, x4⟩, x5, x6⟩ := x
      obtain ⟨q0, q1, q2, q3, q4, q5⟩ := wayCells_at W j _ hx
      have r0 := (hA2 _ rfl).2 _ _ q0
      have r1 := (hA2 _ rfl).2 _ _ q1
      have r2 := (hA2 _ rfl).2 _ _ q2
      have r3 := (hA2 _ rfl).2 _ _ q3
      have r4 := (hA2 _ rfl).2 _ _ q4
      have r5 := (hA2 _ rfl).2 _ _ q5
      simp only [Addr.add_lit, Nat.zero_add] at r0 r1 r2 r3 r4 r5
      have hb0r : Below w.heap.size w wr := hb1.trans (hbr.mono hs1)
      have d0 := (hb0r.cell (World.block_lt_of_cell? _ _ r0)).trans r0
      have d1 := (hb0r.cell (World.block_lt_of_cell? _ _ r1)).trans r1
      have d2 := (hb0r.cell (World.block_lt_of_cell? _ _ r2)).trans r2
      have d3 := (hb0r.cell (World.block_lt_of_cell? _ _ r3)).trans r3
      have d4 := (hb0r.cell (World.block_lt_of_cell? _ _ r4)).trans r4
      have d5 := (hb0r.cell (World.block_lt_of_cell? _ _ r5)).trans r5
      have e0 := (hbr.cell (World.block_lt_of_cell? _ _ k0)).trans k0
      have e1 := (hbr.cell (World.block_lt_of_cell? _ _ k1)).trans k1
      have e2 := (hbr.cell (World.block_lt_of_cell? _ _ k2)).trans k2
      have f0 := cell_alloc' e0 (.cells #[.int .i64 x1, .bool x2, .string x3, .int .i64 x4, .int .i64 x5, .int .i64 x6] 100)
      have f1 := cell_alloc' e1 (.cells #[.int .i64 x1, .bool x2, .string x3, .int .i64 x4, .int .i64 x5, .int .i64 x6] 100)
      have f2 := cell_alloc' e2 (.cells #[.int .i64 x1, .bool x2, .string x3, .int .i64 x4, .int .i64 x5, .int .i64 x6] 100)
      have HST := Lib.hid hst
      simp only at hxs
      clear hst q0 q1 q2 q3 q4 q5 r0 r1 r2 r3 r4 r5 k0 k1 k2 hx hA2 c1 c11
      have hnext : ((x1 == s) && (x2 == c) && (x5 == fl) && sameB (x3, x4) (n, sy)) = false → wayF s c (n, sy) fl (W.drop (j + 1)) = wayF s c (n, sy) fl W := fun hf => by
        rw [← HR.out, HST.out, if_neg (by simp only; rw [hf]; simp)]
      have HN := Lib.hid hnext
      clear hnext
      have hbx : Below W1.heap.size W1 (wr.alloc (.cells #[.int .i64 x1, .bool x2, .string x3, .int .i64 x4, .int .i64 x5, .int .i64 x6] 100)) := hbr.alloc hbr.size _
      cases g1 : (s == x1) with
      | false =>
        have g1' : (x1 == s) = false := by simp only [beq_eq_false_iff_ne, ne_eq] at g1 ⊢; omega
        go_wp2_with fail
        exact ⟨⟨j + 1, by omega, by go_num, hbx, HN.out (by rw [g1']; simp)⟩, by simp [intOf]; omega⟩
      | true =>
        have g1' : (x1 == s) = true := by simp only [beq_iff_eq] at g1 ⊢; omega
        cases g2 : (x2 == c) with
        | false =>
          go_wp2_with fail
          exact ⟨⟨j + 1, by omega, by go_num, hbx, HN.out (by rw [g2]; simp)⟩, by simp [intOf]; omega⟩
        | true =>
          cases g3 : (x5 == fl) with
          | false =>
            go_wp2_with fail
            exact ⟨⟨j + 1, by omega, by go_num, hbx, HN.out (by rw [g3]; simp)⟩, by simp [intOf]; omega⟩
          | true =>
            go_wp2_with fail
            refine (same_any (x3, x4) (n, sy) _ hxs hk).mono ?_
            rintro e w4 ⟨rfl, hb4⟩
            have hb14 : Below W1.heap.size W1 w4 := hbx.trans (hb4.mono hbx.size)
            have d6 := (hb4.cell (by simp)).trans (cell_block (heap_new' (w := wr) (o := .cells #[.int .i64 x1, .bool x2, .string x3, .int .i64 x4, .int .i64 x5, .int .i64 x6] 100) rfl) 5)
            simp at d6
            cases hsm : sameB (x3, x4) (n, sy) with
            | true =>
              simp only
              go_wp2_with fail
              go_ret
              rw [← HR.out, HST.out, if_pos (by rw [g1', g2, g3, hsm]; rfl)]
              exact ⟨rfl, hb1.trans (hb14.mono hs1)⟩
            | false =>
              simp only
              go_wp2_with fail
              exact ⟨⟨j + 1, by omega, by go_num, hb14, HN.out (by rw [hsm]; simp)⟩, by simp [intOf]; omega⟩
    · obtain rfl : j = W.length := by omega
      rw [List.drop_length] at HR
      go_wp2_with fail
      go_ret
      rw [← HR.out]
      exact ⟨rfl, hb1.trans (hbr.mono hs1)⟩
end Go.Proofs.Ytopepkcmpogdoaa
