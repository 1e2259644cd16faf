/- lintelref01.point: the walk. -/
import Derived.Test.YthmdlnmbjgokaaaDoorUPtR
namespace Go.Proofs.YthmdlnmbjgokaaaDoor
open Go.RowKit
set_option maxHeartbeats 4000000
set_option maxRecDepth 100000

def pointPost (s : ByteArray) (w : World) : Ending → World → Prop := fun e w' => e = .returned (.tuple #[.int .i32 ((pointAt s).1 : Nat), .int .i64 ((pointAt s).2 : Nat)]) ∧ w' = w

theorem pointAt_of {s : ByteArray} {b0 b1 b2 b3 : Nat} (h0 : b0 = (s[0]?.getD 0).toNat) (h1 : b1 = (s[1]?.getD 0).toNat) (h2 : b2 = (s[2]?.getD 0).toNat) (h3 : b3 = (s[3]?.getD 0).toNat) : pointAt s = pointN s.size b0 b1 b2 b3 := by
  unfold pointAt; rw [h0, h1, h2, h3]

theorem refpoint_any (s : ByteArray) (w : World) (h0 : 0 < s.size) (hs : s.size ≤ 1048576) :
    Calls Tryd.prog 39 #[.string s] w (pointPost s w) := by
  unfold pointPost
  obtain ⟨n, hn⟩ : ∃ n, n = s.size := ⟨_, rfl⟩
  have i0 := run_index_str (P := Tryd.prog) Tryd.underlying9 s 0 0 (by simp) h0
  have i1 := run_index_str (P := Tryd.prog) Tryd.underlying9 s 1 1 (by simp)
  have i2 := run_index_str (P := Tryd.prog) Tryd.underlying9 s 2 2 (by simp)
  have i3 := run_index_str (P := Tryd.prog) Tryd.underlying9 s 3 3 (by simp)
  obtain ⟨b0, hb0⟩ : ∃ x : Nat, x = (s[0]?.getD 0).toNat := ⟨_, rfl⟩
  obtain ⟨b1, hb1⟩ : ∃ x : Nat, x = (s[1]?.getD 0).toNat := ⟨_, rfl⟩
  obtain ⟨b2, hb2⟩ : ∃ x : Nat, x = (s[2]?.getD 0).toNat := ⟨_, rfl⟩
  obtain ⟨b3, hb3⟩ : ∃ x : Nat, x = (s[3]?.getD 0).toNat := ⟨_, rfl⟩
  have l0 : b0 < 256 := by have := UInt8.toNat_lt (s[0]?.getD 0); omega
  have l1 : b1 < 256 := by have := UInt8.toNat_lt (s[1]?.getD 0); omega
  have l2 : b2 < 256 := by have := UInt8.toNat_lt (s[2]?.getD 0); omega
  have l3 : b3 < 256 := by have := UInt8.toNat_lt (s[3]?.getD 0); omega
  have HP := Lib.hid (pointAt_of hb0 hb1 hb2 hb3)
  rw [← hb0] at i0
  rw [← hb1] at i1
  rw [← hb2] at i2
  rw [← hb3] at i3
  clear hb0 hb1 hb2 hb3
  by_cases c1 : b0 < 128
  · have hp := pointN_one (n := s.size) (b1 := b1) (b2 := b2) (b3 := b3) c1
    have HQ := Lib.hid hp
    clear hp
    go_enter Tryd.func39, Tryd.ntmps39
    go_wp2_with fail
    go_ret2
    exact ⟨by rw [HP.out, HQ.out]; rfl, rfl⟩
  by_cases c2 : b0 < 194
  · have hp := pointN_other (n := s.size) (b1 := b1) (b2 := b2) (b3 := b3) l0 (by omega)
    have HQ := Lib.hid hp
    clear hp
    go_enter Tryd.func39, Tryd.ntmps39
    go_wp2_with fail
    go_ret2
    exact ⟨by rw [HP.out, HQ.out]; rfl, rfl⟩
  by_cases c3 : 244 < b0
  · have hp := pointN_other (n := s.size) (b1 := b1) (b2 := b2) (b3 := b3) l0 (by omega)
    have HQ := Lib.hid hp
    clear hp
    go_enter Tryd.func39, Tryd.ntmps39
    go_wp2_with fail
    go_ret2
    exact ⟨by rw [HP.out, HQ.out]; rfl, rfl⟩
  by_cases c4 : b0 < 224
  · by_cases cn : s.size < 2
    · have HQ := Lib.hid (pointN_two_bad (n := s.size) (b0 := b0) (b1 := b1) (b2 := b2) (b3 := b3) (by omega) (by omega) l1)
      go_enter Tryd.func39, Tryd.ntmps39
      go_wp2_with fail
      go_ret2
      exact ⟨by rw [HP.out, HQ.out]; rfl, rfl⟩
    · have i1 := i1 (by omega)
      have z0 : (128:Int) ≤ b0 := by omega
      have z1 : ¬ (b0:Int) < 128 := by omega
      have z2 : (194:Int) ≤ b0 := by omega
      have z3 : (b0:Int) ≤ 223 := by omega
      have z4 : (2:Int) ≤ s.size := by omega
      have z5 : ¬ (s.size:Int) < 2 := by omega
      clear i2 i3
      go_enter Tryd.func39, Tryd.ntmps39
      go_wp2_with fail
      go_loopw [7, 6] (fun i r wr => wr = w ∧ ((i = .int .i64 1 ∧ r = .int .i32 ((b0 : Int) - 192)) ∨ (i = .int .i64 2 ∧ (128 ≤ b1 ∧ b1 ≤ 191) ∧ r = .int .i32 (64 * ((b0 : Int) - 192) + b1 - 128))))
        (fun i _ _ => 8 - (intOf i).toNat)
      case atStart => exact ⟨rfl, .inl ⟨rfl, rfl⟩⟩
      case round =>
        obtain ⟨rfl, ⟨rfl, rfl⟩ | ⟨rfl, ⟨g1, h1⟩, rfl⟩⟩ := hrel
        · by_cases d1 : b1 < 128
          · have HQ := Lib.hid (pointN_two_bad (n := s.size) (b0 := b0) (b1 := b1) (b2 := b2) (b3 := b3) (by omega) (by omega) l1)
            go_wp2_with fail
            go_ret2
            exact ⟨by rw [HP.out, HQ.out]; rfl, rfl⟩
          by_cases d2 : 191 < b1
          · have HQ := Lib.hid (pointN_two_bad (n := s.size) (b0 := b0) (b1 := b1) (b2 := b2) (b3 := b3) (by omega) (by omega) l1)
            go_wp2_with fail
            go_ret2
            exact ⟨by rw [HP.out, HQ.out]; rfl, rfl⟩
          · go_wp2_with fail
            go_roundw
            case rel => (repeat apply Exists.intro); first | exact ⟨trivial, .inr (⟨rfl, ⟨by omega, by omega⟩, rfl⟩)⟩ | exact ⟨⟨trivial, .inr (⟨rfl, ⟨by omega, by omega⟩, rfl⟩)⟩, rfl⟩
            case measure => simp [intOf]
        · have HQ := Lib.hid (pointN_two (n := s.size) (b0 := b0) (b1 := b1) (b2 := b2) (b3 := b3) (by omega) (by omega) ⟨g1, h1⟩)
          go_wp2_with fail
          go_ret2
          refine ⟨?_, rfl⟩
          rw [HP.out, HQ.out]
          simp
          omega
  by_cases c5 : b0 < 240
  · by_cases cn : s.size < 3
    · have HQ := Lib.hid (pointN_three_bad (n := s.size) (b0 := b0) (b1 := b1) (b2 := b2) (b3 := b3) (by omega) l1 l2 (by omega))
      go_enter Tryd.func39, Tryd.ntmps39
      go_wp2_with fail
      go_ret2
      exact ⟨by rw [HP.out, HQ.out]; rfl, rfl⟩
    · have i1 := i1 (by omega)
      have i2 := i2 (by omega)
      have z0 : (128:Int) ≤ b0 := by omega
      have z1 : ¬ (b0:Int) < 128 := by omega
      have z2 : (194:Int) ≤ b0 := by omega
      have z3 : ¬ (b0:Int) ≤ 223 := by omega
      have z4 : (224:Int) ≤ b0 := by omega
      have z5 : (b0:Int) ≤ 239 := by omega
      have z6 : (3:Int) ≤ s.size := by omega
      have z7 : ¬ (s.size:Int) < 3 := by omega
      clear i3
      go_enter Tryd.func39, Tryd.ntmps39
      go_wp2_with fail
      go_loopw [7, 6] (fun i r wr => wr = w ∧ ((i = .int .i64 1 ∧ r = .int .i32 ((b0 : Int) - 224)) ∨ (i = .int .i64 2 ∧ (128 ≤ b1 ∧ b1 ≤ 191) ∧ r = .int .i32 (64 * ((b0 : Int) - 224) + b1 - 128)) ∨ (i = .int .i64 3 ∧ (128 ≤ b1 ∧ b1 ≤ 191) ∧ (128 ≤ b2 ∧ b2 ≤ 191) ∧ r = .int .i32 (64 * (64 * ((b0 : Int) - 224) + b1 - 128) + b2 - 128))))
        (fun i _ _ => 8 - (intOf i).toNat)
      case atStart => exact ⟨rfl, .inl ⟨rfl, rfl⟩⟩
      case round =>
        obtain ⟨rfl, ⟨rfl, rfl⟩ | ⟨rfl, ⟨g1, h1⟩, rfl⟩ | ⟨rfl, ⟨g1, h1⟩, ⟨g2, h2⟩, rfl⟩⟩ := hrel
        · by_cases d1 : b1 < 128
          · have HQ := Lib.hid (pointN_three_bad (n := s.size) (b0 := b0) (b1 := b1) (b2 := b2) (b3 := b3) (by omega) l1 l2 (by omega))
            go_wp2_with fail
            go_ret2
            exact ⟨by rw [HP.out, HQ.out]; rfl, rfl⟩
          by_cases d2 : 191 < b1
          · have HQ := Lib.hid (pointN_three_bad (n := s.size) (b0 := b0) (b1 := b1) (b2 := b2) (b3 := b3) (by omega) l1 l2 (by omega))
            go_wp2_with fail
            go_ret2
            exact ⟨by rw [HP.out, HQ.out]; rfl, rfl⟩
          · go_wp2_with fail
            go_roundw
            case rel => (repeat apply Exists.intro); first | exact ⟨trivial, .inr (.inl ⟨rfl, ⟨by omega, by omega⟩, rfl⟩)⟩ | exact ⟨⟨trivial, .inr (.inl ⟨rfl, ⟨by omega, by omega⟩, rfl⟩)⟩, rfl⟩
            case measure => simp [intOf]
        · by_cases d1 : b2 < 128
          · have HQ := Lib.hid (pointN_three_bad (n := s.size) (b0 := b0) (b1 := b1) (b2 := b2) (b3 := b3) (by omega) l1 l2 (by omega))
            go_wp2_with fail
            go_ret2
            exact ⟨by rw [HP.out, HQ.out]; rfl, rfl⟩
          by_cases d2 : 191 < b2
          · have HQ := Lib.hid (pointN_three_bad (n := s.size) (b0 := b0) (b1 := b1) (b2 := b2) (b3 := b3) (by omega) l1 l2 (by omega))
            go_wp2_with fail
            go_ret2
            exact ⟨by rw [HP.out, HQ.out]; rfl, rfl⟩
          · go_wp2_with fail
            go_roundw
            case rel => (repeat apply Exists.intro); first | exact ⟨trivial, .inr (.inr (⟨rfl, ⟨by omega, by omega⟩, ⟨by omega, by omega⟩, rfl⟩))⟩ | exact ⟨⟨trivial, .inr (.inr (⟨rfl, ⟨by omega, by omega⟩, ⟨by omega, by omega⟩, rfl⟩))⟩, rfl⟩
            case measure => simp [intOf]
        · by_cases e1 : (64 * (64 * ((b0 : Int) - 224) + b1 - 128) + b2 - 128) < 2048
          · have HQ := Lib.hid (pointN_three_bad (n := s.size) (b0 := b0) (b1 := b1) (b2 := b2) (b3 := b3) (by omega) l1 l2 (by omega))
            go_wp2_with fail
            go_ret2
            exact ⟨by rw [HP.out, HQ.out]; rfl, rfl⟩
          by_cases e2 : (64 * (64 * ((b0 : Int) - 224) + b1 - 128) + b2 - 128) < 55296
          · have HQ := Lib.hid (pointN_three (n := s.size) (b0 := b0) (b1 := b1) (b2 := b2) (b3 := b3) (by omega) (by omega) ⟨g1, h1⟩ ⟨g2, h2⟩ (by omega))
            go_wp2_with fail
            go_ret2
            refine ⟨?_, rfl⟩
            rw [HP.out, HQ.out]
            simp
            omega
          by_cases e3 : (64 * (64 * ((b0 : Int) - 224) + b1 - 128) + b2 - 128) ≤ 57343
          · have HQ := Lib.hid (pointN_three_bad (n := s.size) (b0 := b0) (b1 := b1) (b2 := b2) (b3 := b3) (by omega) l1 l2 (by omega))
            go_wp2_with fail
            go_ret2
            exact ⟨by rw [HP.out, HQ.out]; rfl, rfl⟩
          · have HQ := Lib.hid (pointN_three (n := s.size) (b0 := b0) (b1 := b1) (b2 := b2) (b3 := b3) (by omega) (by omega) ⟨g1, h1⟩ ⟨g2, h2⟩ (by omega))
            go_wp2_with fail
            go_ret2
            refine ⟨?_, rfl⟩
            rw [HP.out, HQ.out]
            simp
            omega
  · by_cases cn : s.size < 4
    · have HQ := Lib.hid (pointN_four_bad (n := s.size) (b0 := b0) (b1 := b1) (b2 := b2) (b3 := b3) (by omega) l1 l2 l3 (by omega))
      go_enter Tryd.func39, Tryd.ntmps39
      go_wp2_with fail
      go_ret2
      exact ⟨by rw [HP.out, HQ.out]; rfl, rfl⟩
    · have i1 := i1 (by omega)
      have i2 := i2 (by omega)
      have i3 := i3 (by omega)
      have z0 : (128:Int) ≤ b0 := by omega
      have z1 : ¬ (b0:Int) < 128 := by omega
      have z2 : (194:Int) ≤ b0 := by omega
      have z3 : ¬ (b0:Int) ≤ 223 := by omega
      have z4 : (224:Int) ≤ b0 := by omega
      have z5 : ¬ (b0:Int) ≤ 239 := by omega
      have z6 : (240:Int) ≤ b0 := by omega
      have z7 : (b0:Int) ≤ 244 := by omega
      have z8 : (4:Int) ≤ s.size := by omega
      have z9 : ¬ (s.size:Int) < 4 := by omega
      skip
      go_enter Tryd.func39, Tryd.ntmps39
      go_wp2_with fail
      go_loopw [7, 6] (fun i r wr => wr = w ∧ ((i = .int .i64 1 ∧ r = .int .i32 ((b0 : Int) - 240)) ∨ (i = .int .i64 2 ∧ (128 ≤ b1 ∧ b1 ≤ 191) ∧ r = .int .i32 (64 * ((b0 : Int) - 240) + b1 - 128)) ∨ (i = .int .i64 3 ∧ (128 ≤ b1 ∧ b1 ≤ 191) ∧ (128 ≤ b2 ∧ b2 ≤ 191) ∧ r = .int .i32 (64 * (64 * ((b0 : Int) - 240) + b1 - 128) + b2 - 128)) ∨ (i = .int .i64 4 ∧ (128 ≤ b1 ∧ b1 ≤ 191) ∧ (128 ≤ b2 ∧ b2 ≤ 191) ∧ (128 ≤ b3 ∧ b3 ≤ 191) ∧ r = .int .i32 (64 * (64 * (64 * ((b0 : Int) - 240) + b1 - 128) + b2 - 128) + b3 - 128))))
        (fun i _ _ => 8 - (intOf i).toNat)
      case atStart => exact ⟨rfl, .inl ⟨rfl, rfl⟩⟩
      case round =>
        obtain ⟨rfl, ⟨rfl, rfl⟩ | ⟨rfl, ⟨g1, h1⟩, rfl⟩ | ⟨rfl, ⟨g1, h1⟩, ⟨g2, h2⟩, rfl⟩ | ⟨rfl, ⟨g1, h1⟩, ⟨g2, h2⟩, ⟨g3, h3⟩, rfl⟩⟩ := hrel
        · by_cases d1 : b1 < 128
          · have HQ := Lib.hid (pointN_four_bad (n := s.size) (b0 := b0) (b1 := b1) (b2 := b2) (b3 := b3) (by omega) l1 l2 l3 (by omega))
            go_wp2_with fail
            go_ret2
            exact ⟨by rw [HP.out, HQ.out]; rfl, rfl⟩
          by_cases d2 : 191 < b1
          · have HQ := Lib.hid (pointN_four_bad (n := s.size) (b0 := b0) (b1 := b1) (b2 := b2) (b3 := b3) (by omega) l1 l2 l3 (by omega))
            go_wp2_with fail
            go_ret2
            exact ⟨by rw [HP.out, HQ.out]; rfl, rfl⟩
          · go_wp2_with fail
            go_roundw
            case rel => (repeat apply Exists.intro); first | exact ⟨trivial, .inr (.inl ⟨rfl, ⟨by omega, by omega⟩, rfl⟩)⟩ | exact ⟨⟨trivial, .inr (.inl ⟨rfl, ⟨by omega, by omega⟩, rfl⟩)⟩, rfl⟩
            case measure => simp [intOf]
        · by_cases d1 : b2 < 128
          · have HQ := Lib.hid (pointN_four_bad (n := s.size) (b0 := b0) (b1 := b1) (b2 := b2) (b3 := b3) (by omega) l1 l2 l3 (by omega))
            go_wp2_with fail
            go_ret2
            exact ⟨by rw [HP.out, HQ.out]; rfl, rfl⟩
          by_cases d2 : 191 < b2
          · have HQ := Lib.hid (pointN_four_bad (n := s.size) (b0 := b0) (b1 := b1) (b2 := b2) (b3 := b3) (by omega) l1 l2 l3 (by omega))
            go_wp2_with fail
            go_ret2
            exact ⟨by rw [HP.out, HQ.out]; rfl, rfl⟩
          · go_wp2_with fail
            go_roundw
            case rel => (repeat apply Exists.intro); first | exact ⟨trivial, .inr (.inr (.inl ⟨rfl, ⟨by omega, by omega⟩, ⟨by omega, by omega⟩, rfl⟩))⟩ | exact ⟨⟨trivial, .inr (.inr (.inl ⟨rfl, ⟨by omega, by omega⟩, ⟨by omega, by omega⟩, rfl⟩))⟩, rfl⟩
            case measure => simp [intOf]
        · by_cases d1 : b3 < 128
          · have HQ := Lib.hid (pointN_four_bad (n := s.size) (b0 := b0) (b1 := b1) (b2 := b2) (b3 := b3) (by omega) l1 l2 l3 (by omega))
            go_wp2_with fail
            go_ret2
            exact ⟨by rw [HP.out, HQ.out]; rfl, rfl⟩
          by_cases d2 : 191 < b3
          · have HQ := Lib.hid (pointN_four_bad (n := s.size) (b0 := b0) (b1 := b1) (b2 := b2) (b3 := b3) (by omega) l1 l2 l3 (by omega))
            go_wp2_with fail
            go_ret2
            exact ⟨by rw [HP.out, HQ.out]; rfl, rfl⟩
          · go_wp2_with fail
            go_roundw
            case rel => (repeat apply Exists.intro); first | exact ⟨trivial, .inr (.inr (.inr (⟨rfl, ⟨by omega, by omega⟩, ⟨by omega, by omega⟩, ⟨by omega, by omega⟩, rfl⟩)))⟩ | exact ⟨⟨trivial, .inr (.inr (.inr (⟨rfl, ⟨by omega, by omega⟩, ⟨by omega, by omega⟩, ⟨by omega, by omega⟩, rfl⟩)))⟩, rfl⟩
            case measure => simp [intOf]
        · by_cases e1 : (64 * (64 * (64 * ((b0 : Int) - 240) + b1 - 128) + b2 - 128) + b3 - 128) < 65536
          · have HQ := Lib.hid (pointN_four_bad (n := s.size) (b0 := b0) (b1 := b1) (b2 := b2) (b3 := b3) (by omega) l1 l2 l3 (by omega))
            go_wp2_with fail
            go_ret2
            exact ⟨by rw [HP.out, HQ.out]; rfl, rfl⟩
          by_cases e3 : 1114111 < (64 * (64 * (64 * ((b0 : Int) - 240) + b1 - 128) + b2 - 128) + b3 - 128)
          · have HQ := Lib.hid (pointN_four_bad (n := s.size) (b0 := b0) (b1 := b1) (b2 := b2) (b3 := b3) (by omega) l1 l2 l3 (by omega))
            go_wp2_with fail
            go_ret2
            exact ⟨by rw [HP.out, HQ.out]; rfl, rfl⟩
          · have HQ := Lib.hid (pointN_four (n := s.size) (b0 := b0) (b1 := b1) (b2 := b2) (b3 := b3) (by omega) (by omega) ⟨g1, h1⟩ ⟨g2, h2⟩ ⟨g3, h3⟩ (by omega))
            go_wp2_with fail
            go_ret2
            refine ⟨?_, rfl⟩
            rw [HP.out, HQ.out]
            simp
            omega
end Go.Proofs.YthmdlnmbjgokaaaDoor
