/- The walks of lintelref01.Of, Ascii and lintelref04.Name at a text of one ASCII byte. -/
import Derived.Test.YtopepkcmpogdoaaRefB
namespace Go.Proofs.Ytopepkcmpogdoaa
open Go.RowKit
set_option maxHeartbeats 400000
set_option maxRecDepth 100000

theorem pointf_ascii (s : ByteArray) (w : World) (h0 : 0 < s.size) (h1 : (s[0]?.getD 0).toNat < 128) :
    Calls Try.prog 45 #[.string s] w fun e w' => e = .returned (.tuple #[.int .i32 (s[0]?.getD 0).toNat, .int .i64 1]) ∧ w = w' := by
  have i1 := run_index_str (P := Try.prog) Try.underlying9 s 0 0 rfl h0
  obtain ⟨x, hx⟩ : ∃ x : Nat, x = (s[0]?.getD 0).toNat := ⟨_, rfl⟩
  rw [← hx] at i1 h1 ⊢
  have hx2 : (x : Int) < 128 := by omega
  clear hx
  go_enter Try.func45, Try.ntmps45
  go_wp2_with fail
  go_ret2
  exact ⟨rfl, rfl⟩

theorem of_one (c : UInt8) (w : World) (hc : c.toNat < 128) :
    Calls Try.prog 44 #[.string ⟨#[c]⟩] w fun e w' => e = .returned (.tuple #[.string ⟨#[0, c]⟩, .int .i64 0, .int .i64 0]) ∧ Below w.heap.size w w' := by
  have hsz : (⟨#[c]⟩ : ByteArray).size = 1 := rfl
  have hs0 : (⟨#[c]⟩ : ByteArray)[0]?.getD 0 = c := rfl
  obtain ⟨s, hs⟩ : ∃ s : ByteArray, s = ⟨#[c]⟩ := ⟨_, rfl⟩
  rw [← hs] at hsz hs0 ⊢
  obtain ⟨i0, hi, hz0, hz1, hz2⟩ := info_parts Try.info_u16
  have Hs := Lib.hid hs
  have Hz := Lib.hid hsz
  have H0 := Lib.hid hs0
  have hle : s.size ≤ 1 := by omega
  have hge : 1 ≤ s.size := by omega
  clear hs hsz hs0
  go_enter Try.func44, Try.ntmps44
  go_wp2_with fail
  go_loopw [5, 6] (fun v i wr => ∃ k : Nat, k ≤ 1 ∧ i = .int .i64 k ∧ wr.ownsRow w.heap.size 106 1 v k (if k = 0 then [] else [.int .u16 c.toNat]) ∧ Below w.heap.size w wr)
    (fun _ i _ => 1 - (intOf i).toNat)
  case atStart => exact ⟨0, by omega, rfl, World.ownsRow_nil _ _ _ _, Below.refl _ _⟩
  case round =>
    obtain ⟨k, hk, rfl, hown, hb⟩ := hrel
    by_cases hlt : k < s.size
    · obtain rfl : k = 0 := by omega
      simp only [if_true] at hown
      have hp := pointf_ascii s
      rw [H0.out] at hp
      have HP := Lib.hid hp
      have hcc : (c.toNat : Int) < 128 := by omega
      clear hp
      go_wp2_with (first
        | (go_at_call 45; refine (HP.out _ (by omega) hc).mono ?_; rintro e w' ⟨rfl, rfl⟩)
        | (go_at_call 46; refine (point_low _ _ (by omega) (by omega)).mono ?_; rintro e w' ⟨rfl, rfl⟩)
        | (at_builtin; refine wpList_append_lies _ rfl _ _ _ rfl w.heap.size 106 i0 _ 1 2 Try.underlying104 hi hz0 hz1 hz2 rfl (by omega) _ 0 _ rfl (hown.alloc _) ⟨wr.heap.size, 0, none⟩ 1 1 [.int .u16 c.toNat] rfl rfl (World.news_of_block (cs := #[.int .u16 c.toNat]) (t := 106) (fr := (0, 0)) (heap_alloc_new wr _)) (by simp [Value.oneCell']) (by omega) (by unfold maxLen; omega) (by omega) (by have := hb.size; simp; omega) (wr.heap.size + 1) (by simp) ?_; intro g cap w1 hown1 hgrow hat hlt2))
      go_roundw
      case rel =>
        refine ⟨1, by omega, by go_num, hown1, ?_⟩
        exact (hb.alloc hb.size _).grown hgrow (by have := hb.size; simp; omega) (fun j hj => (hown.lt j hj).1)
      case measure => simp [intOf]
    · obtain rfl : k = 1 := by omega
      obtain ⟨g, cap, rfl, _, _⟩ := hown.form (by omega)
      rw [if_neg (by omega)] at hown
      have hrd := Rd.of_own hown
      have hu : ∀ u ∈ [(c.toNat : Int)], 0 ≤ u ∧ u < 65536 := by intro u hu; simp at hu; subst hu; omega
      have HM := Lib.hid (make_any [(c.toNat : Int)] (some ⟨g, 0, none⟩) 1 cap wr hrd rfl hu (by omega))
      clear hrd hu
      go_wp2_with (go_at_call 47; refine HM.out.mono ?_; rintro e w1 ⟨rfl, hb1⟩)
      refine bodyPost_ret (results_tmp3 rfl _ _ _) rfl ?_
      have e : makeB [(c.toNat : Int)] = ⟨#[0, c]⟩ := by
        unfold makeB bytesOf strOfNums
        have h2 : (c.toNat : Int) / 256 = 0 := by omega
        have h3 : (c.toNat : Int) % 256 = c.toNat := by omega
        simp [h2, h3]
      rw [← e]
      exact ⟨rfl, hb.trans (hb1.mono hb.size)⟩

theorem ascii_one (c : UInt8) (w : World) (hc : c.toNat < 128) :
    Calls Try.prog 37 #[.string ⟨#[c]⟩] w fun e w' => e = .returned (.string ⟨#[0, c]⟩) ∧ Below w.heap.size w w' := by
  go_enter Try.func37, Try.ntmps37
  go_wp2_with (go_at_call 44; refine (of_one c _ hc).mono ?_; rintro e w1 ⟨rfl, hb1⟩)
  go_ret
  exact ⟨rfl, hb1⟩
end Go.Proofs.Ytopepkcmpogdoaa
