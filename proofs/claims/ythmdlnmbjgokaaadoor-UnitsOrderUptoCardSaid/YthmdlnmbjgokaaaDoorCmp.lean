/- The walk of lintelref01.Compare: texts compared unit by unit. -/
import Derived.Test.YthmdlnmbjgokaaaDoorRefA
import Derived.Test.YthmdlnmbjgokaaaDoorFr
import Derived.Test.YthmdlnmbjgokaaaDoorLin
import Derived.Lib.Hide
namespace Go.Proofs.YthmdlnmbjgokaaaDoor
open Go.RowKit
set_option maxHeartbeats 400000
set_option maxRecDepth 100000

/-- the order of lists of units -/
def cmpL : List Int → List Int → Int
  | [], [] => 0
  | [], _ :: _ => -1
  | _ :: _, [] => 1
  | a :: x, b :: y => if a < b then -1 else if b < a then 1 else cmpL x y
/-- the units of a text -/
def unitsOf (s : ByteArray) : List Int := unitsTo s (s.size / 2)
theorem unitsOf_length (s : ByteArray) : (unitsOf s).length = s.size / 2 := unitsTo_length _ _
theorem unitsOf_at (s : ByteArray) (k : Nat) (h : k < s.size / 2) : (unitsOf s)[k]? = some (unitAt s k) := by
  simp [unitsOf, unitsTo, h]
theorem unitAt_bound (s : ByteArray) (k : Nat) : 0 ≤ unitAt s k ∧ unitAt s k ≤ 65535 := by
  unfold unitAt
  have h1 := (s[2 * k]?.getD 0).toNat_lt
  have h2 := (s[2 * k + 1]?.getD 0).toNat_lt
  omega
theorem cmpL_self (u : List Int) : cmpL u u = 0 := by
  induction u with
  | nil => rfl
  | cons a x ih => simp [cmpL, ih]
theorem cmpL_zero : ∀ (u v : List Int), cmpL u v = 0 → u = v
  | [], [], _ => rfl
  | [], _ :: _, h => by simp [cmpL] at h
  | _ :: _, [], h => by simp [cmpL] at h
  | a :: x, b :: y, h => by
    simp only [cmpL] at h
    split at h
    · simp at h
    · split at h
      · simp at h
      · rw [show a = b from by omega, cmpL_zero x y h]
theorem cmpL_step (u v : List Int) (k : Nat) (a b : Int) (hu : u[k]? = some a) (hv : v[k]? = some b) : cmpL (u.drop k) (v.drop k) = if a < b then -1 else if b < a then 1 else cmpL (u.drop (k + 1)) (v.drop (k + 1)) := by
  obtain ⟨h1, rfl⟩ := List.getElem?_eq_some_iff.1 hu
  obtain ⟨h2, rfl⟩ := List.getElem?_eq_some_iff.1 hv
  rw [List.drop_eq_getElem_cons h1, List.drop_eq_getElem_cons h2]
  rfl
theorem cmpL_end1 (u v : List Int) (k : Nat) (hu : k < u.length) (hv : v.length ≤ k) : cmpL (u.drop k) (v.drop k) = 1 := by
  rw [List.drop_eq_getElem_cons hu, List.drop_eq_nil_of_le hv]
  rfl
theorem cmpL_end2 (u v : List Int) (k : Nat) (hu : u.length ≤ k) (hv : v.length ≤ k) : cmpL (u.drop k) (v.drop k) = 0 := by
  rw [List.drop_eq_nil_of_le hu, List.drop_eq_nil_of_le hv]
  rfl
theorem cmpL_end3 (u v : List Int) (k : Nat) (hu : u.length ≤ k) (hv : k < v.length) : cmpL (u.drop k) (v.drop k) = -1 := by
  rw [List.drop_eq_nil_of_le hu, List.drop_eq_getElem_cons hv]
  rfl

theorem row_form {w : World} {base : Nat} {e : TypeId} {n : Nat} {v : Value} {xs : List Value} (h : w.ownsRow base e 1 v n xs) : ∃ A c, v = .slice A n c ∧ ∀ k u, xs[k]? = some u → ∃ g, A = some ⟨g, 0, none⟩ ∧ w.cell? ⟨g, k, none⟩ = some u := by
  rcases id h.2 with ⟨rfl, rfl⟩ | ⟨g, cap, cur, rfl, _⟩
  · refine ⟨none, 0, rfl, fun k u hk => ?_⟩
    have hl := h.1
    rw [Nat.zero_mul] at hl
    rw [List.eq_nil_of_length_eq_zero hl] at hk
    simp at hk
  · refine ⟨some ⟨g, 0, none⟩, cap, rfl, fun k u hk => ⟨g, rfl, ?_⟩⟩
    have := h.cells (g := g) rfl k u hk
    rwa [Addr.add_lit, Nat.zero_add] at this

theorem compare_any (s t : ByteArray) (w : World) (hs : s.size ≤ 1048576) (ht : t.size ≤ 1048576) :
    Calls Tryd.prog 31 #[.string s, .string t] w fun e w' => e = .returned (.int .i64 (cmpL (unitsOf s) (unitsOf t))) ∧ Below w.heap.size w w' := by
  go_enter Tryd.func31, Tryd.ntmps31
  go_wp2_with fail
  refine (units_any s w hs).mono ?_
  rintro e w1 ⟨v1, rfl, hr1, hb1⟩
  simp only
  go_wp2_with fail
  refine (units_any t w1 ht).mono ?_
  rintro e w2 ⟨v2, rfl, hr2, hb2⟩
  have hr1' := ownsRow_of_blocks (w' := w2) hr1 fun k hk => hb2.block k (hr1.lt k hk).2
  obtain ⟨A, c1, rfl, hA⟩ := row_form hr1'
  obtain ⟨B, c2, rfl, hB⟩ := row_form hr2
  have hb0 : Below w.heap.size w w2 := hb1.trans (hb2.mono hb1.size)
  clear hr1 hr2 hr1' hb1 hb2
  simp only
  go_wp2_with fail
  go_loopw [14] (fun i wr => ∃ k : Nat, k ≤ s.size / 2 ∧ i = .int .i64 k ∧ Below w2.heap.size w2 wr ∧ cmpL ((unitsOf s).drop k) ((unitsOf t).drop k) = cmpL (unitsOf s) (unitsOf t))
    (fun i _ => s.size / 2 - (intOf i).toNat)
  case atStart => exact ⟨0, Nat.zero_le _, rfl, Below.refl _ _, rfl⟩
  case round =>
    obtain ⟨k, hk, rfl, hbr, hrel⟩ := hrel
    have HR := Lib.hid hrel
    clear hrel
    by_cases hlt : k < s.size / 2
    · by_cases hlt2 : k < t.size / 2
      · obtain ⟨g, rfl, hc1⟩ := hA k (.int .u16 (unitAt s k)) (by rw [List.getElem?_map]; show Option.map _ ((unitsOf s)[k]?) = _; rw [unitsOf_at s k hlt]; rfl)
        obtain ⟨g', rfl, hc2⟩ := hB k (.int .u16 (unitAt t k)) (by rw [List.getElem?_map]; show Option.map _ ((unitsOf t)[k]?) = _; rw [unitsOf_at t k hlt2]; rfl)
        have hd1 := (hbr.cell (World.block_lt_of_cell? _ _ hc1)).trans hc1
        have hd2 := (hbr.cell (World.block_lt_of_cell? _ _ hc2)).trans hc2
        have hst := cmpL_step (unitsOf s) (unitsOf t) k _ _ (unitsOf_at s k hlt) (unitsOf_at t k hlt2)
        obtain ⟨u1, u2⟩ := unitAt_bound s k
        obtain ⟨u3, u4⟩ := unitAt_bound t k
        have HST := Lib.hid hst
        clear hst
        go_wp2_with fail
        clear hc1 hc2 hA hB
        generalize unitAt s k = a at *
        generalize unitAt t k = b at *
        refine wp_region_lin (fun w' => w' = wr.drew) [] (.block 0 (.block 1 (.block 2 (.block 3 (.block 4 (.block 5 (.block 6 (.block 7 (.block 8 (.skip)))))))))) (by kernel_rfl) (by kernel_rfl) (by kernel_rfl) (by kernel_rfl) (by kernel_rfl) rfl ?_
        repeat
          (refine lin_light (A1 := ?_) rfl rfl rfl rfl rfl (fun w' hS K hK => ?_) ?_ ?_
           rotate_left
           · obtain rfl := hS; go_step; exact hK
           · rfl)
        refine lin_end ?_
        by_cases g1 : a < b
        · go_wp2_with fail
          go_ret
          rw [← HR.out, HST.out, if_pos g1]
          exact ⟨rfl, hb0.trans (hbr.drew.mono hb0.size)⟩
        · go_wp2_with fail
          refine wp_region_lin (fun w' => w' = wr.drew.drew) [] (.block 0 (.block 1 (.block 2 (.block 3 (.block 4 (.block 5 (.block 6 (.block 7 (.block 8 (.skip)))))))))) (by kernel_rfl) (by kernel_rfl) (by kernel_rfl) (by kernel_rfl) (by kernel_rfl) rfl ?_
          repeat
            (refine lin_light (A1 := ?_) rfl rfl rfl rfl rfl (fun w' hS K hK => ?_) ?_ ?_
             rotate_left
             · obtain rfl := hS; go_step; exact hK
             · rfl)
          refine lin_end ?_
          by_cases g2 : b < a
          · have g2' : a > b := g2
            go_wp2_with fail
            go_ret
            rw [← HR.out, HST.out, if_neg (show ¬ a < b by omega), if_pos (show b < a by omega)]
            exact ⟨rfl, hb0.trans (hbr.drew.drew.mono hb0.size)⟩
          · go_wp2_with fail
            go_roundw
            case rel => first | exact ⟨k + 1, by omega, by go_num, hbr.drew.drew, by rw [← HR.out, HST.out, if_neg (show ¬ a < b by omega), if_neg (show ¬ b < a by omega)]⟩ | ((repeat apply Exists.intro); exact ⟨⟨k + 1, by omega, by go_num, hbr.drew.drew, by rw [← HR.out, HST.out, if_neg (show ¬ a < b by omega), if_neg (show ¬ b < a by omega)]⟩, rfl⟩)
            case measure => simp [intOf]; omega
      · go_wp2_with fail
        go_ret
        rw [← HR.out, cmpL_end1 _ _ _ (by rw [unitsOf_length]; exact hlt) (by rw [unitsOf_length]; omega)]
        exact ⟨rfl, hb0.trans (hbr.mono hb0.size)⟩
    · obtain rfl : k = s.size / 2 := by omega
      by_cases hlt2 : s.size / 2 < t.size / 2
      · go_wp2_with fail
        go_ret
        rw [← HR.out, cmpL_end3 _ _ _ (by rw [unitsOf_length]; omega) (by rw [unitsOf_length]; exact hlt2)]
        exact ⟨rfl, hb0.trans (hbr.mono hb0.size)⟩
      · go_wp2_with fail
        go_ret
        rw [← HR.out, cmpL_end2 _ _ _ (by rw [unitsOf_length]; omega) (by rw [unitsOf_length]; omega)]
        exact ⟨rfl, hb0.trans (hbr.mono hb0.size)⟩
end Go.Proofs.YthmdlnmbjgokaaaDoor
