/- The walk of lintellaw14.ShapeNone. -/
import Derived.Test.YtopepkcmpogdoaaCached
import Derived.Test.YtopepkcmpogdoaaNoTree
import Derived.Test.YtopepkcmpogdoaaAwake
namespace Go.Proofs.Ytopepkcmpogdoaa
open Go.RowKit
set_option maxHeartbeats 400000
set_option maxRecDepth 100000

/-- a nil tree asked by a cache -/
theorem cached_nil {w : World} {cb : Nat} (h : w.cell? ⟨cb, 0, none⟩ = some (.int .i64 1)) (s : Int) (k : KK) :
    Calls Try.prog 20 #[.pointer none, .pointer (some ⟨cb, 0, none⟩), .int .i64 s, encK k] w fun e w' => e = .returned (.tuple #[.int .i64 0, .int .i64 0, .bool false]) ∧ Below w.heap.size w w' := by
  obtain ⟨n, sy⟩ := k
  simp only [encK]
  go_enter Try.func20, Try.ntmps20
  go_wp2_with fail
  have c0 := cell_alloc' h (.cells #[.string n, .int .i64 sy] 30)
  refine (real_any _ cb 1 c0).mono ?_
  rintro e w' ⟨rfl, rfl⟩
  simp only [decide_true]
  go_wp2_with fail
  refine (find_none (.inl rfl) s (n, sy)).mono ?_
  rintro e w2 ⟨rfl, hb2⟩
  simp only
  go_wp2_with fail
  refine bodyPost_ret (v := .tuple #[.int .i64 0, .int .i64 0, .bool false]) (by simp [results, Try.results20, go_sem]) rfl ?_
  exact ⟨rfl, ((Below.refl _ _).alloc (Nat.le_refl _) _).trans (hb2.mono (by simp))⟩

/-- a new cache and a tree that nobody made -/
theorem cached_none {w : World} {cb : Nat} {p : Option Addr} (h : CacheAt w cb ⟨none, 0, (⟨#[]⟩, 0), 0, 0, false, 0, 0⟩) (hp : NoTree w p) (s : Int) (k : KK) (hk : okK k) :
    Calls Try.prog 20 #[.pointer p, .pointer (some ⟨cb, 0, none⟩), .int .i64 s, encK k] w fun e w' => e = .returned (.tuple #[.int .i64 0, .int .i64 0, .bool false]) ∧ w.grownBy w' (some cb) := by
  rcases id hp with rfl | ⟨b, rfl, hc⟩
  · refine (cached_nil (h.cell 0) s k).mono ?_
    rintro e w' ⟨rfl, hb⟩
    exact ⟨rfl, grownBy_of_below hb _⟩
  · refine (cached_any h b s k hk (.inl rfl) (by simp) (by simp) 0 0 false ?_).mono ?_
    · intro w' k' hg _ _
      refine find_none (.inr ⟨b, rfl, ?_⟩) s k'
      refine hg.cell hc ?_
      intro e
      injection e with e
      have e' : b = cb := e
      have h0 := h.cell 0
      rw [← e', hc] at h0
      simp [cacheCells] at h0
    · rintro e w' ⟨hg, _, h2⟩
      exact ⟨(h2 (fun h => by simp [hitC] at h)).1, hg⟩

theorem none_any (k : KK) (hk : okK k) (s : Int) (w : World) : Calls Try.prog 6 #[encK k, .int .i64 s] w fun e w' => e = .returned (.bool true) ∧ Below w.heap.size w w' := by
  obtain ⟨n, sy⟩ := k
  simp only [encK]
  go_enter Try.func6, Try.ntmps6
  go_wp2_with fail
  refine (awake_any _).mono ?_
  rintro e w1 ⟨rfl, hb1⟩
  have hbx := (hb1.block w.heap.size (by simp)).trans (heap_new' (w := w) (o := .cells #[.string n, .int .i64 sy] 30) rfl)
  have s1 := hb1.size
  simp only
  go_wp2_with fail
  have hz1 : ((w1.alloc (.cells #[.int .i64 0, .slice none 0 0, .map none] 61)).alloc (.cells #[.pointer none, .pointer (some ⟨w1.heap.size, 0, none⟩)] 25)).heap[w1.heap.size]? = some (.cells #[.int .i64 0, .slice none 0 0, .map none] 61) := heap_old' (heap_new' rfl)
  have hz2 : ((w1.alloc (.cells #[.int .i64 0, .slice none 0 0, .map none] 61)).alloc (.cells #[.pointer none, .pointer (some ⟨w1.heap.size, 0, none⟩)] 25)).heap[w1.heap.size + 1]? = some (.cells #[.pointer none, .pointer (some ⟨w1.heap.size, 0, none⟩)] 25) := heap_new' (by simp)
  have hbx2 := heap_old' (o := .cells #[.pointer none, .pointer (some ⟨w1.heap.size, 0, none⟩)] 25) (heap_old' (o := .cells #[.int .i64 0, .slice none 0 0, .map none] 61) hbx)
  have hb2 : Below w1.heap.size w1 ((w1.alloc (.cells #[.int .i64 0, .slice none 0 0, .map none] 61)).alloc (.cells #[.pointer none, .pointer (some ⟨w1.heap.size, 0, none⟩)] 25)) := ((Below.refl _ _).alloc (Nat.le_refl _) _).alloc (by simp) _
  generalize (w1.alloc (.cells #[.int .i64 0, .slice none 0 0, .map none] 61)).alloc (.cells #[.pointer none, .pointer (some ⟨w1.heap.size, 0, none⟩)] 25) = W at *
  clear hbx
  have hfacts : ∀ w', Below W.heap.size W w' → w'.cell? ⟨w.heap.size, 0, none⟩ = some (.string n) ∧ w'.cell? ⟨w.heap.size, 1, none⟩ = some (.int .i64 sy) := fun w' hb => by
    have h := (hb.block _ (Array.getElem?_eq_some_iff.1 hbx2).1).trans hbx2
    exact ⟨cell_block h 0, cell_block h 1⟩
  have hpick : ∀ w' k, Below W.heap.size W w' → k < 2 → ∃ p, NoTree w' p ∧ w'.cell? ⟨w1.heap.size + 1, k, none⟩ = some (.pointer p) := fun w' k hb hk => by
    have h1 := (hb.block _ (Array.getElem?_eq_some_iff.1 hz1).1).trans hz1
    have h2 := (hb.block _ (Array.getElem?_eq_some_iff.1 hz2).1).trans hz2
    rcases (show k = 0 ∨ k = 1 from by omega) with rfl | rfl
    · exact ⟨none, .inl rfl, cell_block h2 0⟩
    · exact ⟨_, .inr ⟨w1.heap.size, rfl, cell_block h1 0⟩, cell_block h2 1⟩
  have HF := Lib.hid hfacts
  have HP := Lib.hid hpick
  clear hfacts hpick hz1 hz2 hbx2
  go_loopw [32] (fun i wr => ∃ k : Nat, k ≤ 2 ∧ i = .int .i64 k ∧ Below W.heap.size W wr) (fun i _ => 2 - (intOf i).toNat)
  case atStart => exact ⟨0, by omega, rfl, Below.refl _ _⟩
  case round =>
    obtain ⟨k, hk2, rfl, hb⟩ := hrel
    by_cases hlt : k < 2
    · obtain ⟨p, hp, hcp⟩ := HP.out wr k hb hlt
      obtain ⟨k0, k1⟩ := HF.out wr hb
      have hs := hb.size
      go_wp2_with fail
      refine (add_none hp s (n, sy) 7).mono ?_
      rintro e r1 ⟨rfl, hr1⟩
      have hp1 := hp.below hr1
      have hb1' := hb.trans (hr1.mono hs)
      clear k0 k1
      obtain ⟨k0, k1⟩ := HF.out r1 hb1'
      simp only
      go_wp2_with fail
      refine (change_none hp1 s (n, sy) 7).mono ?_
      rintro e r2 ⟨rfl, hr2⟩
      have hp2 := hp1.below hr2
      have hb2' := hb1'.trans (hr2.mono hb1'.size)
      clear k0 k1
      obtain ⟨k0, k1⟩ := HF.out r2 hb2'
      simp only
      go_wp2_with fail
      refine (keys_none hp2 s).mono ?_
      rintro e w' ⟨rfl, rfl⟩
      simp only
      go_wp2_with fail
      refine (find_none hp2 s (n, sy)).mono ?_
      rintro e r3 ⟨rfl, hr3⟩
      have hp3 := hp2.below hr3
      have hb3' := hb2'.trans (hr3.mono hb2'.size)
      clear k0 k1
      obtain ⟨k0, k1⟩ := HF.out r3 hb3'
      simp only
      go_wp2_with fail
      refine wp_region_lin (fun w' => w'.cell? ⟨w.heap.size, 0, none⟩ = some (.string n) ∧ w'.cell? ⟨w.heap.size, 1, none⟩ = some (.int .i64 sy)) [11] (.block 0 (.block 2 (.block 3 (.scope (.seq (.label 1) (.scope (.seq (.label 4) (.block 5 (.block 6 (.block 7 (.block 8 (.block 9 (.block 10 (.loop (.block 11 (.skip)))))))))))))))) (by kernel_rfl) (by kernel_rfl) (by kernel_rfl) (by kernel_rfl) (by kernel_rfl) ⟨k0, k1⟩ ?_
      repeat
        (refine lin_light (A1 := ?_) rfl rfl rfl rfl rfl (fun w' hS K hK => ?_) ?_ ?_
         rotate_left
         · obtain ⟨_, _⟩ := hS; go_step; exact hK
         · rfl)
      refine lin_group ?_
      refine lin_heavy rfl rfl (fun K hK => ?_)
      go_step
      refine (new_cache r3.drew).mono ?_
      rintro e r4 ⟨rfl, hc4, hr4⟩
      have hb4' := hb3'.trans ((below_undrew hr4).mono hb3'.size)
      have hp4 := hp3.below (below_undrew hr4)
      obtain ⟨k0, k1⟩ := HF.out r4 hb4'
      simp only
      refine hK.out _ _ ⟨k0, k1⟩ ?_
      clear hK K
      refine lin_group ?_
      refine lin_heavy rfl rfl (fun K hK => ?_)
      go_step
      refine (cached_none (cb := r3.heap.size) hc4 hp4 s (n, sy) hk).mono ?_
      rintro e r5 ⟨rfl, hr5⟩
      have hcb : r3.heap.size < r4.heap.size := (Array.getElem?_eq_some_iff.1 hc4).1
      have hb5' : Below W.heap.size W r5 := hb4'.grown hr5 hb4'.size (fun q hq => by cases hq; exact hb3'.size)
      obtain ⟨k0, k1⟩ := HF.out r5 hb5'
      have hp5 : NoTree r5 p := by
        rcases hp3 with h | ⟨b, h1, h2⟩
        · exact .inl h
        · refine .inr ⟨b, h1, ?_⟩
          have hlt3 := World.block_lt_of_cell? _ _ h2
          have h4 := ((below_undrew hr4).cell (p := ⟨b, 0, none⟩) hlt3).trans h2
          exact hr5.cell h4 (by intro e; injection e with e; have e' : b = r3.heap.size := e; have hlt3' : b < r3.heap.size := hlt3; omega)
      simp only
      refine hK.out _ _ ⟨k0, k1⟩ ?_
      clear hK K
      repeat
        (refine lin_light (A1 := ?_) rfl rfl rfl rfl rfl (fun w' hS K hK => ?_) ?_ ?_
         rotate_left
         · obtain ⟨_, _⟩ := hS; go_step; exact hK
         · rfl)
      try refine lin_late ?_
      repeat
        (refine lin_light (A1 := ?_) rfl rfl rfl rfl rfl (fun w' hS K hK => ?_) ?_ ?_
         rotate_left
         · clear hS; go_step; exact hK
         · rfl)
      refine lin_end ?_
      clear k0 k1
      go_wp2_with fail
      refine (len_none hp5).mono ?_
      rintro e w' ⟨rfl, rfl⟩
      simp only
      go_wp2_with fail
      go_roundw
      case rel => first | exact ⟨k + 1, by omega, by go_num, hb5'⟩ | ((repeat apply Exists.intro); exact ⟨⟨k + 1, by omega, by go_num, hb5'⟩, rfl⟩)
      case measure => simp [intOf]; omega
    · obtain rfl : k = 2 := by omega
      go_wp2_with fail
      have hC := (Obj.cells #[Value.int IntKind.i64 0, Value.pointer none, Value.int IntKind.i64 0, Value.string ⟨#[]⟩, Value.int IntKind.i64 0, Value.int IntKind.i64 0, Value.int IntKind.i64 0, Value.bool false, Value.int IntKind.i64 0, Value.int IntKind.i64 0] 69)
      have hs := hb.size
      generalize hV : (wr.alloc _).alloc _ = V
      have hbV : Below W.heap.size W V := by
        rw [← hV]
        exact (hb.alloc hs _).alloc (by simp; omega) _
      have hv1 : V.cell? ⟨wr.heap.size, 0, none⟩ = some (.int .i64 0) := by
        rw [← hV]
        exact cell_block (heap_old' (heap_new' rfl)) 0
      have hv2 : V.heap[wr.heap.size + 1]? = some (.cells #[.pointer none, .pointer (some ⟨wr.heap.size, 0, none⟩)] 49) := by
        rw [← hV]
        exact heap_new' (by simp)
      clear hV hC
      have q0 := cell_block hv2 0
      have q1 := cell_block hv2 1
      simp at q0 q1
      clear hv2
      go_loopw [100] (fun i wv => ∃ k : Nat, k ≤ 2 ∧ i = .int .i64 k ∧ wv = V) (fun i _ => 2 - (intOf i).toNat)
      case atStart => exact ⟨0, by omega, rfl, rfl⟩
      case round =>
        obtain ⟨k, hk2, rfl, rfl⟩ := hrel
        rcases (show k = 0 ∨ k = 1 ∨ k = 2 from by omega) with rfl | rfl | rfl
        · go_wp2_with fail
          refine (flush_nil _).mono ?_
          rintro e w' ⟨rfl, rfl⟩
          simp only
          go_wp2_with fail
          refine (asked_nil _).mono ?_
          rintro e w' ⟨rfl, rfl⟩
          simp only
          go_wp2_with fail
          go_roundw
          case rel => exact ⟨1, by omega, by go_num, trivial⟩
          case measure => simp [intOf]
        · go_wp2_with fail
          refine (flush_un hv1).mono ?_
          rintro e w' ⟨rfl, rfl⟩
          simp only
          go_wp2_with fail
          refine (asked_un hv1).mono ?_
          rintro e w' ⟨rfl, rfl⟩
          simp only
          go_wp2_with fail
          go_roundw
          case rel => exact ⟨2, by omega, by go_num, trivial⟩
          case measure => simp [intOf]
        · go_wp2_with fail
          go_ret
          have e0 : w.heap.size ≤ w1.heap.size := by simp at s1; omega
          exact ⟨rfl, (((Below.refl _ _).alloc (Nat.le_refl _) _).trans (hb1.mono (by simp))).trans (((hb2.mono e0)).trans (hbV.mono (by have := hb2.size; omega)))⟩
end Go.Proofs.Ytopepkcmpogdoaa
