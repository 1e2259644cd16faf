/- A node's kids by its rule: the plain law, and checker.kids. -/
import Derived.Test.YtgnpgdjjdhlhaaaDoorTFits
import Derived.Test.YtgnpgdjjdhlhaaaDoorTNamesV
namespace Go.Proofs.YtgnpgdjjdhlhaaaDoor
open Go.RowKit
set_option maxHeartbeats 4000000
set_option maxRecDepth 100000
attribute [local go_sem] Oper.semAt_some store_floatK

/-- kids as letters say, each with 0, * or ? behind it -/
def kidsT (F : Nat → Int → Bool) : List (Nat × Nat) → List Int → Bool
  | [], ks => ks.isEmpty
  | (a, m) :: r, ks => if m = 42 then kidsT F r (ks.dropWhile (F a)) else match ks with
    | [] => if m = 0 then false else kidsT F r []
    | k :: ks' => if F a k then kidsT F r ks' else if m = 0 then false else kidsT F r (k :: ks')
def bytesT : List (Nat × Nat) → List UInt8
  | [] => []
  | (a, m) :: r => if m = 0 then UInt8.ofNat a :: bytesT r else UInt8.ofNat a :: UInt8.ofNat m :: bytesT r
def tokOk (p : Nat × Nat) : Bool := letters.contains p.1 && ((p.2 == 0) || (p.2 == 42) || (p.2 == 63))
theorem bytes_cons (a m : Nat) (r : List (Nat × Nat)) : bytesT ((a, m) :: r) = UInt8.ofNat a :: (if m = 0 then bytesT r else UInt8.ofNat m :: bytesT r) := by
  conv => lhs; unfold bytesT
  split <;> rfl
theorem kidsT_nil {F : Nat → Int → Bool} {a m : Nat} {r : List (Nat × Nat)} : kidsT F ((a, m) :: r) [] = if m = 0 then false else kidsT F r [] := by
  conv => lhs; unfold kidsT
  by_cases h : m = 42
  · subst h; rfl
  · rw [if_neg h]
theorem kidsT_one {F : Nat → Int → Bool} {a m : Nat} {r : List (Nat × Nat)} {k : Int} {ks : List Int} (h : m ≠ 42) : kidsT F ((a, m) :: r) (k :: ks) = if F a k then kidsT F r ks else if m = 0 then false else kidsT F r (k :: ks) := by
  conv => lhs; unfold kidsT
  rw [if_neg h]
theorem kidsT_star {F : Nat → Int → Bool} {a : Nat} {r : List (Nat × Nat)} {ks : List Int} : kidsT F ((a, 42) :: r) ks = kidsT F r (ks.dropWhile (F a)) := by
  conv => lhs; unfold kidsT
  rw [if_pos rfl]
theorem letters_lt : letters.all (fun a => decide (a < 256) && !(a == 42) && !(a == 63)) = true := by decide +kernel
theorem drop_at {l : List Int} {k : Nat} {x : Int} (h : l[k]? = some x) : l.drop k = x :: l.drop (k + 1) := by
  rw [List.drop_eq_getElem_cons (List.getElem?_eq_some_iff.1 h).1, (List.getElem?_eq_some_iff.1 h).2]
theorem ext_tail {s : ByteArray} {b : UInt8} {r : List UInt8} (h : s.data.toList = b :: r) : (s.extract 1 s.size).data.toList = r := by
  have hs : s.size = r.length + 1 := by rw [← ba_len, h]; rfl
  simp only [ByteArray.data_extract, Array.toList_extract, hs]
  simp [h]
theorem ba_byte {s : ByteArray} {b : UInt8} {r : List UInt8} (h : s.data.toList = b :: r) : s[0]?.getD 0 = b := by
  have hs : s.size = r.length + 1 := by rw [← ba_len, h]; rfl
  have := ba_at (s := s) (k := 0) (by omega)
  rw [h] at this
  exact (Option.some.inj this).symm
theorem letters_T : letters.contains 84 = false := by decide +kernel
theorem tok_at {a m : Nat} {r : List (Nat × Nat)} (h : ((a, m) :: r).all tokOk = true) : a < 256 ∧ a ≠ 42 ∧ a ≠ 63 ∧ a ∈ letters ∧ (m = 0 ∨ m = 42 ∨ m = 63) ∧ r.all tokOk = true := by
  rw [List.all_cons, Bool.and_eq_true] at h
  obtain ⟨h1, h2⟩ := h
  unfold tokOk at h1
  simp only [Bool.and_eq_true, Bool.or_eq_true, beq_iff_eq] at h1
  have hm : a ∈ letters := by simpa using h1.1
  have h3 := List.all_eq_true.1 letters_lt a hm
  simp only [Bool.and_eq_true, decide_eq_true_eq, Bool.not_eq_true', beq_eq_false_iff_ne] at h3
  exact ⟨h3.1.1, h3.1.2, h3.2, hm, by omega, h2⟩
theorem ofNat_toNat {a : Nat} (h : a < 256) : (UInt8.ofNat a).toNat = a := by simp; omega
theorem bytes_T {TK : List (Nat × Nat)} (h : TK.all tokOk = true) {s : ByteArray} (hs : s.data.toList = bytesT TK) : (s.toList == [84]) = false := by
  rw [ByteArray.toList_eq, hs, beq_eq_false_iff_ne]
  intro he
  match TK, h, he with
  | (a, m) :: r, h, he =>
    obtain ⟨h1, _, _, h4, _, _⟩ := tok_at h
    have h5 : UInt8.ofNat a = 84 := by
      unfold bytesT at he
      split at he <;> exact (List.cons.inj he).1
    have h6 : a = 84 := by rw [← ofNat_toNat h1, h5]; rfl
    have h7 := letters_T
    rw [h6] at h4
    simp [h4] at h7
/-- kids in memory -/
def KidAt (w : World) (kA : Option Addr) (ks : List Int) : Prop := ks ≠ [] → ∃ kb ko, kA = some ⟨kb, ko, none⟩ ∧ kb < w.heap.size ∧ ∀ q y, ks[q]? = some y → w.cell? ⟨kb, ko + q, none⟩ = some (.int .i64 y)
theorem KidAt.of_row {w : World} {kA : Option Addr} {ks : List Int} (h : Row w w.heap.size kA 1 (ks.map kidC)) : KidAt w kA ks := fun h0 => by
  cases ks with
  | nil => exact absurd rfl h0
  | cons y r =>
    obtain ⟨kb, ko, rfl, hlt, _⟩ := h.kid (k := 0) rfl
    refine ⟨kb, ko, rfl, hlt, fun q z hz => ?_⟩
    obtain ⟨b', o', he, _, hc⟩ := h.kid hz
    cases he
    exact hc
theorem KidAt.head {w : World} {kA : Option Addr} {y : Int} {r : List Int} (h : KidAt w kA (y :: r)) : ∃ kb ko, kA = some ⟨kb, ko, none⟩ ∧ kb < w.heap.size ∧ w.cell? ⟨kb, ko, none⟩ = some (.int .i64 y) ∧ KidAt w (some ⟨kb, ko + 1, none⟩) r := by
  obtain ⟨kb, ko, h1, h2, h3⟩ := h (by simp)
  refine ⟨kb, ko, h1, h2, h3 0 y rfl, fun _ => ⟨kb, ko + 1, rfl, h2, fun q z hz => ?_⟩⟩
  have := h3 (q + 1) z hz
  rw [show ko + 1 + q = ko + (q + 1) by omega]
  exact this
theorem KidAt.nil (w : World) (kA : Option Addr) : KidAt w kA [] := fun h => absurd rfl h
theorem KidAt.len0 {w : World} {ks : List Int} (h : ks.length = 0) (kA : Option Addr) : KidAt w kA ks := fun h0 => absurd (List.length_eq_zero_iff.1 h) h0
section
variable {w : World} {A : Option Addr} {n c cb N f : Nat} {l : List Nd}
theorem kids_any (hC : Ck w cb A n c) (hN : Nds w w.heap.size A l) (hn : l.length = n) (hK : KidsOk l N) (hL : LabOk l N) (hU : FuncOk l N) (hNn : N ≤ n) (hNf : N ≤ f)
    {kA : Option Addr} {kn kC : Nat} {ks : List Int} (hks : ks.length = kn) (hkn : kn ≤ 3000) (hkC : kn ≤ kC) (hrow : Row w w.heap.size kA 1 (ks.map kidC)) (hin : ∀ y ∈ ks, 0 ≤ y ∧ y < N)
    {TK : List (Nat × Nat)} (hTK : TK.all tokOk = true) (hlen : TK.length ≤ 10) {s : ByteArray} (hs : s.data.toList = bytesT TK) :
    Calls Tryd.prog 37 #[.pointer (some ⟨cb, 0, none⟩), .slice kA kn kC, .string s] w fun e w' => e = .returned (.bool (kidsT (fitsB l f) TK ks)) ∧ Below w.heap.size w w' := by
  have hF : ∀ w', Below w.heap.size w w' → ∀ (k : Int) (a : Nat), k ∈ ks → a ∈ letters → Calls Tryd.prog 54 #[.pointer (some ⟨cb, 0, none⟩), .int .u8 (a : Nat), .int .i64 k] w' fun e w'' => e = .returned (.bool (fitsB l f a k)) ∧ Below w'.heap.size w' w'' := fun w' hb k a hk ha => by
    obtain ⟨h0, h1⟩ := hin k hk
    obtain ⟨q, rfl⟩ : ∃ q : Nat, k = q := ⟨k.toNat, by omega⟩
    exact fits_any (hC.below hb) (hN.below hb hb.size) hn hK hL hU hNn (by omega) (by omega) ha
  obtain ⟨F, hFF⟩ : ∃ F, fitsB l f = F := ⟨_, rfl⟩
  rw [hFF] at hF ⊢
  have HF := Lib.hid hF
  have HKS := Lib.hid hks
  have HTK := Lib.hid hTK
  have HS := Lib.hid hs
  have hTs := bytes_T hTK hs
  clear hF hks hTK hs hn hK hL hU hin hFF hC hN
  go_enter Tryd.func37, Tryd.ntmps37
  go_wp2_with fail
  go_loopw [1, 2] (fun v x wr => ∃ (kk : List Int) (m : Nat) (A' : Option Addr) (c' : Nat) (TK' : List (Nat × Nat)) (S : ByteArray), v = .slice A' m c' ∧ kk.length = m ∧ m ≤ 3000 ∧ m ≤ c' ∧ KidAt w A' kk ∧ (∀ y ∈ kk, y ∈ ks) ∧ x = .string S ∧ S.data.toList = bytesT TK' ∧ TK'.all tokOk = true ∧ TK'.length ≤ 10 ∧ Below w.heap.size w wr ∧ kidsT F TK ks = kidsT F TK' kk) (fun _ x _ => match x with | .string S => S.size | _ => 0)
  case atStart => exact ⟨ks, kn, kA, kC, TK, s, rfl, HKS.out, hkn, hkC, KidAt.of_row hrow, fun _ h => h, rfl, HS.out, HTK.out, hlen, Below.refl _ _, rfl⟩
  case round =>
    clear hrow hTs hkn hkC
    obtain ⟨kk, m, A', c', TK', S, rfl, hkl, hm3, hmc, hcell, hsub, rfl, hS, hTok, hTl, hb, hgo⟩ := hrel
    have HGO := Lib.hid hgo
    have HCELL := Lib.hid hcell
    have HSUB := Lib.hid hsub
    have HKL := Lib.hid hkl
    clear hgo hcell hsub hkl
    rcases TK' with _ | ⟨⟨a, mm⟩, r⟩
    · obtain rfl := ba_nil (s := S) (by rw [← ba_len, hS]; rfl)
      clear hS hTok hTl
      obtain ⟨v, hv⟩ : ∃ v, ((m : Int) == 0) = v := ⟨_, rfl⟩
      have hfin : kidsT F TK ks = v := by
        rw [HGO.out, ← hv]
        show kk.isEmpty = _
        rw [Bool.eq_iff_iff, List.isEmpty_iff, beq_iff_eq, ← List.length_eq_zero_iff, HKL.out]; omega
      have HFIN := Lib.hid hfin
      clear hfin
      go_wp2_with fail
      go_ret
      exact ⟨by rw [HFIN.out]; rfl, hb⟩
    · obtain ⟨ha, ha1, ha2, ha3, hmm, hTok'⟩ := tok_at hTok
      obtain ⟨tl, htl2⟩ : ∃ tl, (if mm = 0 then bytesT r else UInt8.ofNat mm :: bytesT r) = tl := ⟨_, rfl⟩
      have htl := bytes_cons a mm r
      rw [htl2] at htl
      rw [htl] at hS
      have hsz : S.size = tl.length + 1 := by rw [← ba_len, hS]; rfl
      have i1 := fun w => run_index_str (P := Tryd.prog) Tryd.underlying9 S (0 : Int) 0 rfl (by omega) w
      rw [ba_byte hS, ofNat_toNat ha] at i1
      have hx := ext_tail hS
      obtain ⟨S2, hS2⟩ : ∃ S2, S.extract 1 S.size = S2 := ⟨_, rfl⟩
      rw [hS2] at hx
      have hsz2 : S2.size = tl.length := by rw [← ba_len, hx]
      have hlt2 : S2.size < S.size := by omega
      rcases hmm with rfl | rfl | rfl
      · rw [if_pos rfl] at htl2
        subst htl2
        have HTOK := Lib.hid hTok'
        have HX := Lib.hid hx
        have hrl : r.length ≤ 10 := by simp at hTl; omega
        obtain ⟨wf, rfl⟩ : ∃ wf, wf = wr := ⟨_, rfl⟩
        rcases r with _ | ⟨⟨a2, m2⟩, r2⟩
        · have h0 := ba_nil (s := S2) (by rw [← ba_len, hx]; rfl)
          rw [h0] at hS2
          have HX0L := Lib.hid (show (⟨#[]⟩ : ByteArray).size < S.size from by rw [← h0]; exact hlt2)
          clear hS hTok hTok' hx htl hsz hsz2 h0
          rcases kk with _ | ⟨k, kk⟩
          · obtain rfl : m = 0 := HKL.out.symm
            have hfin : kidsT F TK ks = false := by rw [HGO.out, kidsT_nil]; rfl
            have HFIN := Lib.hid hfin
            clear hfin
            go_wp2_with fail
            go_ret
            exact ⟨by rw [HFIN.out]; rfl, hb⟩
          · obtain ⟨kb, ko, rfl, hkb, hc0, hct⟩ := HCELL.out.head
            obtain ⟨M, rfl⟩ : ∃ M, m = M + 1 := ⟨kk.length, by rw [← HKL.out]; rfl⟩
            have hcw := (hb.cell (p := ⟨kb, ko, none⟩) hkb).trans hc0
            have hcall := HF.out wf hb k a (HSUB.out k (by simp)) ha3
            obtain ⟨v, hv⟩ : ∃ v, F a k = v := ⟨_, rfl⟩
            have hgo2 : kidsT F TK ks = if v then kidsT F [] kk else false := by rw [HGO.out, kidsT_one (by decide), hv, if_pos rfl]
            rw [hv] at hcall
            have HG2 := Lib.hid hgo2
            have HCALL := Lib.hid hcall
            have HC2 := Lib.hid hct
            have HK2 := Lib.hid (show kk.length = M from by have := HKL.out; simpa using this)
            have HSUB2 := Lib.hid (fun y (hy : y ∈ kk) => HSUB.out y (List.mem_cons_of_mem _ hy))
            clear hcall hgo2 hv hc0 hct
            go_wp2_with fail
            refine HCALL.out.mono ?_
            rintro e w3 ⟨rfl, hb3⟩
            have hb4 := hb.trans (hb3.mono hb.size)
            cases v with
            | false =>
              have hfin : kidsT F TK ks = false := by rw [HG2.out]; rfl
              have HFIN := Lib.hid hfin
              clear hfin
              simp only
              go_wp2_with fail
              go_ret
              exact ⟨by rw [HFIN.out]; rfl, hb4⟩
            | true =>
              have hfin : kidsT F TK ks = kidsT F [] kk := by rw [HG2.out]; rfl
              have HFIN := Lib.hid hfin
              clear hfin
              simp only
              by_cases hc1 : c' = 1
              · obtain rfl : M = 0 := by omega
                subst hc1
                go_wp2_with fail
                go_roundw
                case rel => exact ⟨kk, 0, _, _, [], _, rfl, HK2.out, by omega, by omega, KidAt.len0 HK2.out _, HSUB2.out, rfl, rfl, HTOK.out, hrl, hb4, HFIN.out⟩
                case measure => exact HX0L.out
              · go_wp2_with fail
                go_roundw
                case rel => exact ⟨kk, M, _, _, [], _, rfl, HK2.out, by omega, by omega, HC2.out, HSUB2.out, rfl, rfl, HTOK.out, hrl, hb4, HFIN.out⟩
                case measure => exact HX0L.out
        · obtain ⟨ga, ga1, ga2, _, _, _⟩ := tok_at hTok'
          rw [bytes_cons] at hx
          have i2 := fun w => run_index_str (P := Tryd.prog) Tryd.underlying9 S2 (0 : Int) 0 rfl (by rw [hsz2, bytes_cons]; simp) w
          rw [ba_byte hx, ofNat_toNat ga] at i2
          have hne2 := (ba_empty (s := S2) (by rw [hsz2, bytes_cons]; simp)).1
          have g42 : ((a2 : Int) == 42) = false := by rw [beq_eq_false_iff_ne]; omega
          have g63 : ((a2 : Int) == 63) = false := by rw [beq_eq_false_iff_ne]; omega
          clear hS hTok hTok' hx htl hsz hsz2 ga ga1 ga2
          rcases kk with _ | ⟨k, kk⟩
          · obtain rfl : m = 0 := HKL.out.symm
            have hfin : kidsT F TK ks = false := by rw [HGO.out, kidsT_nil]; rfl
            have HFIN := Lib.hid hfin
            clear hfin
            go_wp2_with fail
            go_ret
            exact ⟨by rw [HFIN.out]; rfl, hb⟩
          · obtain ⟨kb, ko, rfl, hkb, hc0, hct⟩ := HCELL.out.head
            obtain ⟨M, rfl⟩ : ∃ M, m = M + 1 := ⟨kk.length, by rw [← HKL.out]; rfl⟩
            have hcw := (hb.cell (p := ⟨kb, ko, none⟩) hkb).trans hc0
            have hcall := HF.out wf hb k a (HSUB.out k (by simp)) ha3
            obtain ⟨v, hv⟩ : ∃ v, F a k = v := ⟨_, rfl⟩
            have hgo2 : kidsT F TK ks = if v then kidsT F ((a2, m2) :: r2) kk else false := by rw [HGO.out, kidsT_one (by decide), hv, if_pos rfl]
            rw [hv] at hcall
            have HG2 := Lib.hid hgo2
            have HCALL := Lib.hid hcall
            have HC2 := Lib.hid hct
            have HK2 := Lib.hid (show kk.length = M from by have := HKL.out; simpa using this)
            have HSUB2 := Lib.hid (fun y (hy : y ∈ kk) => HSUB.out y (List.mem_cons_of_mem _ hy))
            clear hcall hgo2 hv hc0 hct
            go_wp2_with fail
            refine HCALL.out.mono ?_
            rintro e w3 ⟨rfl, hb3⟩
            have hb4 := hb.trans (hb3.mono hb.size)
            cases v with
            | false =>
              have hfin : kidsT F TK ks = false := by rw [HG2.out]; rfl
              have HFIN := Lib.hid hfin
              clear hfin
              simp only
              go_wp2_with fail
              go_ret
              exact ⟨by rw [HFIN.out]; rfl, hb4⟩
            | true =>
              have hfin : kidsT F TK ks = kidsT F ((a2, m2) :: r2) kk := by rw [HG2.out]; rfl
              have HFIN := Lib.hid hfin
              clear hfin
              simp only
              by_cases hc1 : c' = 1
              · obtain rfl : M = 0 := by omega
                subst hc1
                go_wp2_with fail
                go_roundw
                case rel => exact ⟨kk, 0, _, _, ((a2, m2) :: r2), _, rfl, HK2.out, by omega, by omega, KidAt.len0 HK2.out _, HSUB2.out, rfl, HX.out, HTOK.out, hrl, hb4, HFIN.out⟩
                case measure => exact hlt2
              · go_wp2_with fail
                go_roundw
                case rel => exact ⟨kk, M, _, _, ((a2, m2) :: r2), _, rfl, HK2.out, by omega, by omega, HC2.out, HSUB2.out, rfl, HX.out, HTOK.out, hrl, hb4, HFIN.out⟩
                case measure => exact hlt2
      · rw [if_neg (by decide)] at htl2
        subst htl2
        have HTOK := Lib.hid hTok'
        have hrl : r.length ≤ 10 := by simp at hTl; omega
        have i2 := fun w => run_index_str (P := Tryd.prog) Tryd.underlying9 S2 (0 : Int) 0 rfl (by rw [hsz2]; simp) w
        rw [ba_byte hx] at i2
        have hne2 := (ba_empty (s := S2) (by rw [hsz2]; simp)).1
        have hx3 := ext_tail hx
        obtain ⟨S3, hS3⟩ : ∃ S3, S2.extract 1 S2.size = S3 := ⟨_, rfl⟩
        rw [hS3] at hx3
        have HX := Lib.hid hx3
        have hlt3 : S3.size < S.size := by
          have e3 : S3.size = (bytesT r).length := by rw [← ba_len, hx3]
          rw [e3, hsz]
          simp only [List.length_cons]
          omega
        have hsz2' : 1 ≤ S2.size := by rw [hsz2]; simp
        clear hS hTok hTok' hx hx3 htl hsz hsz2
        have i2 : ∀ w, (Instr.index 9 (.string S2) (.int .i64 0)).run Tryd.prog w = .ok (.int .u8 42) w := i2
        go_wp2_with fail
        refine wp_region_lin (fun w' => w' = wr.drew) [5] (.block 0 (.block 1 (.block 2 (.block 3 (.block 4 (.loop (.block 5 (.skip)))))))) (by kernel_rfl) (by kernel_rfl) (by kernel_rfl) (by kernel_rfl) (by kernel_rfl) rfl ?_
        repeat
          (refine lin_light (A1 := ?_) rfl rfl rfl rfl rfl (fun w' hS K hK => ?_) ?_ ?_
           rotate_left
           · obtain rfl := hS; go_step; exact hK
           · rfl)
        try refine lin_late ?_
        repeat
          (refine lin_light (A1 := ?_) rfl rfl rfl rfl rfl (fun w' hS K hK => ?_) ?_ ?_
           rotate_left
           · clear hS; go_step; exact hK
           · rfl)
        refine lin_end ?_
        have hbd : Below w.heap.size w wr.drew := hb.drew
        have HGO2 := Lib.hid (HGO.out.trans kidsT_star)
        clear i1 i2
        go_wp2_with fail
        obtain ⟨wf, rfl⟩ : ∃ wf, wf = wr := ⟨_, rfl⟩
        go_loopw [1] (fun v wr => ∃ (k2 : List Int) (m2 : Nat) (A2 : Option Addr) (c2 : Nat), v = .slice A2 m2 c2 ∧ k2.length = m2 ∧ m2 ≤ 3000 ∧ m2 ≤ c2 ∧ KidAt w A2 k2 ∧ (∀ y ∈ k2, y ∈ ks) ∧ Below w.heap.size w wr ∧ kk.dropWhile (F a) = k2.dropWhile (F a)) (fun v _ => match v with | .slice _ m _ => m | _ => 0)
        case atStart => exact ⟨kk, m, A', c', rfl, HKL.out, hm3, hmc, HCELL.out, HSUB.out, hbd, rfl⟩
        case round =>
          clear hbd hb hm3 hmc HCELL HSUB HKL
          obtain ⟨k2, m2, A2, c2, rfl, hkl, hm3, hmc, hcell, hsub, hb, hdw⟩ := hrel
          have HDW := Lib.hid hdw
          have HCELL := Lib.hid hcell
          have HSUB := Lib.hid hsub
          have HKL := Lib.hid hkl
          clear hdw hcell hsub hkl
          rcases k2 with _ | ⟨k, k2⟩
          · obtain rfl : m2 = 0 := HKL.out.symm
            have hfin : kidsT F TK ks = kidsT F r [] := by rw [HGO2.out, HDW.out]; rfl
            have HFIN := Lib.hid hfin
            clear hfin
            go_wp2_with fail
            go_roundw
            case rel => exact ⟨[], 0, _, _, r, S3, rfl, rfl, hm3, hmc, HCELL.out, HSUB.out, rfl, HX.out, HTOK.out, hrl, hb, HFIN.out⟩
            case measure => exact hlt3
          · obtain ⟨kb, ko, rfl, hkb, hc0, hct⟩ := HCELL.out.head
            obtain ⟨M, rfl⟩ : ∃ M, m2 = M + 1 := ⟨k2.length, by rw [← HKL.out]; rfl⟩
            have hcw := (hb.cell (p := ⟨kb, ko, none⟩) hkb).trans hc0
            have hcall := HF.out wr hb k a (HSUB.out k (by simp)) ha3
            obtain ⟨v, hv⟩ : ∃ v, F a k = v := ⟨_, rfl⟩
            have hdw : kk.dropWhile (F a) = if v then k2.dropWhile (F a) else k :: k2 := by
              rw [HDW.out, List.dropWhile_cons, hv]
            rw [hv] at hcall
            have HD2 := Lib.hid hdw
            have HCALL := Lib.hid hcall
            have HC2 := Lib.hid hct
            have HK2 := Lib.hid (show k2.length = M from by have := HKL.out; simpa using this)
            have HSUB2 := Lib.hid (fun y (hy : y ∈ k2) => HSUB.out y (List.mem_cons_of_mem _ hy))
            clear hcall hdw hv hc0 hct
            go_wp2_with fail
            refine HCALL.out.mono ?_
            rintro e w3 ⟨rfl, hb3⟩
            have hb4 := hb.trans (hb3.mono hb.size)
            cases v with
            | false =>
              have hfin : kidsT F TK ks = kidsT F r (k :: k2) := by rw [HGO2.out, HD2.out]; rfl
              have HFIN := Lib.hid hfin
              clear hfin
              simp only
              go_wp2_with fail
              go_roundw
              case rel => exact ⟨k :: k2, M + 1, _, _, r, S3, rfl, HKL.out, hm3, hmc, HCELL.out, HSUB.out, rfl, HX.out, HTOK.out, hrl, hb4, HFIN.out⟩
              case measure => exact hlt3
            | true =>
              have hfin : kk.dropWhile (F a) = k2.dropWhile (F a) := by rw [HD2.out]; rfl
              have HFIN := Lib.hid hfin
              clear hfin
              simp only
              by_cases hc1 : c2 = 1
              · obtain rfl : M = 0 := by omega
                subst hc1
                go_wp2_with fail
                go_roundw
                case rel => exact ⟨k2, 0, _, _, rfl, HK2.out, by omega, by omega, KidAt.len0 HK2.out _, HSUB2.out, hb4, HFIN.out⟩
                case measure => show 0 < 0 + 1; omega
              · go_wp2_with fail
                go_roundw
                case rel => exact ⟨k2, M, _, _, rfl, HK2.out, by omega, by omega, HC2.out, HSUB2.out, hb4, HFIN.out⟩
                case measure => show M < M + 1; omega
      · rw [if_neg (by decide)] at htl2
        subst htl2
        have HTOK := Lib.hid hTok'
        have hrl : r.length ≤ 10 := by simp at hTl; omega
        have i2 := fun w => run_index_str (P := Tryd.prog) Tryd.underlying9 S2 (0 : Int) 0 rfl (by rw [hsz2]; simp) w
        rw [ba_byte hx] at i2
        have hne2 := (ba_empty (s := S2) (by rw [hsz2]; simp)).1
        have hx3 := ext_tail hx
        obtain ⟨S3, hS3⟩ : ∃ S3, S2.extract 1 S2.size = S3 := ⟨_, rfl⟩
        rw [hS3] at hx3
        have HX := Lib.hid hx3
        have hlt3 : S3.size < S.size := by
          have e3 : S3.size = (bytesT r).length := by rw [← ba_len, hx3]
          rw [e3, hsz]
          simp only [List.length_cons]
          omega
        have hsz2' : 1 ≤ S2.size := by rw [hsz2]; simp
        clear hS hTok hTok' hx hx3 htl hsz hsz2
        have i2 : ∀ w, (Instr.index 9 (.string S2) (.int .i64 0)).run Tryd.prog w = .ok (.int .u8 63) w := i2
        go_wp2_with fail
        refine wp_region_lin (fun w' => w' = wr.drew) [5] (.block 0 (.block 1 (.block 2 (.block 3 (.block 4 (.loop (.block 5 (.skip)))))))) (by kernel_rfl) (by kernel_rfl) (by kernel_rfl) (by kernel_rfl) (by kernel_rfl) rfl ?_
        repeat
          (refine lin_light (A1 := ?_) rfl rfl rfl rfl rfl (fun w' hS K hK => ?_) ?_ ?_
           rotate_left
           · obtain rfl := hS; go_step; exact hK
           · rfl)
        try refine lin_late ?_
        repeat
          (refine lin_light (A1 := ?_) rfl rfl rfl rfl rfl (fun w' hS K hK => ?_) ?_ ?_
           rotate_left
           · clear hS; go_step; exact hK
           · rfl)
        refine lin_end ?_
        have hbd : Below w.heap.size w wr.drew := hb.drew
        clear i1 i2 hb
        obtain ⟨wf, hwf⟩ : ∃ wf, wr.drew = wf := ⟨_, rfl⟩
        rw [hwf] at hbd ⊢
        clear hwf
        have hb := hbd
        rcases kk with _ | ⟨k, kk⟩
        · obtain rfl : m = 0 := HKL.out.symm
          have hfin : kidsT F TK ks = kidsT F r [] := by rw [HGO.out, kidsT_nil]; rfl
          have HFIN := Lib.hid hfin
          clear hfin
          go_wp2_with fail
          go_roundw
          case rel => exact ⟨[], 0, _, _, r, _, rfl, rfl, hm3, hmc, HCELL.out, HSUB.out, rfl, HX.out, HTOK.out, hrl, hb, HFIN.out⟩
          case measure => exact hlt3
        · obtain ⟨kb, ko, rfl, hkb, hc0, hct⟩ := HCELL.out.head
          obtain ⟨M, rfl⟩ : ∃ M, m = M + 1 := ⟨kk.length, by rw [← HKL.out]; rfl⟩
          have hcw := (hb.cell (p := ⟨kb, ko, none⟩) hkb).trans hc0
          have hcall := HF.out wf hb k a (HSUB.out k (by simp)) ha3
          obtain ⟨v, hv⟩ : ∃ v, F a k = v := ⟨_, rfl⟩
          have hgo2 : kidsT F TK ks = if v then kidsT F r kk else kidsT F r (k :: kk) := by rw [HGO.out, kidsT_one (by decide), hv]; rfl
          rw [hv] at hcall
          have HG2 := Lib.hid hgo2
          have HCALL := Lib.hid hcall
          have HC2 := Lib.hid hct
          have HK2 := Lib.hid (show kk.length = M from by have := HKL.out; simpa using this)
          have HSUB2 := Lib.hid (fun y (hy : y ∈ kk) => HSUB.out y (List.mem_cons_of_mem _ hy))
          clear hcall hgo2 hv hc0 hct
          go_wp2_with fail
          refine HCALL.out.mono ?_
          rintro e w3 ⟨rfl, hb3⟩
          have hb4 := hb.trans (hb3.mono hb.size)
          cases v with
          | false =>
            have hfin : kidsT F TK ks = kidsT F r (k :: kk) := by rw [HG2.out]; rfl
            have HFIN := Lib.hid hfin
            clear hfin
            simp only
            go_wp2_with fail
            go_roundw
            case rel => exact ⟨k :: kk, M + 1, _, _, r, _, rfl, HKL.out, hm3, hmc, HCELL.out, HSUB.out, rfl, HX.out, HTOK.out, hrl, hb4, HFIN.out⟩
            case measure => exact hlt3
          | true =>
            have hfin : kidsT F TK ks = kidsT F r kk := by rw [HG2.out]; rfl
            have HFIN := Lib.hid hfin
            clear hfin
            simp only
            by_cases hc1 : c' = 1
            · obtain rfl : M = 0 := by omega
              subst hc1
              go_wp2_with fail
              go_roundw
              case rel => exact ⟨kk, 0, _, _, r, _, rfl, HK2.out, by omega, by omega, KidAt.len0 HK2.out _, HSUB2.out, rfl, HX.out, HTOK.out, hrl, hb4, HFIN.out⟩
              case measure => exact hlt3
            · go_wp2_with fail
              go_roundw
              case rel => exact ⟨kk, M, _, _, r, _, rfl, HK2.out, by omega, by omega, HC2.out, HSUB2.out, rfl, HX.out, HTOK.out, hrl, hb4, HFIN.out⟩
              case measure => exact hlt3
end
end Go.Proofs.YtgnpgdjjdhlhaaaDoor
