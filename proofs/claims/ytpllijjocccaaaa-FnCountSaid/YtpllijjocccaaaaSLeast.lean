/- CodeLeast, CodeCount of the reference. -/
import Derived.Test.YtpllijjocccaaaaSIs
namespace Go.Proofs.Ytpllijjocccaaaa
open Go.RowKit Go.Shelf
attribute [local go_sem] Oper.semAt_some

theorem leastTo_next' {P : Nat → Bool} {k : Nat} {acc : Option Nat} (h : leastTo P k = acc) : leastTo P (k + 1) = leastStep P acc k := by rw [leastTo_succ, h]
def lstN (n : Nat) (acc : Option Nat) : Int := match acc with | none => (n : Int) + 1 | some b => (card b : Int)
theorem lstN_none (n : Nat) : lstN n none = (n : Int) + 1 := rfl
theorem lstN_some (n b : Nat) : lstN n (some b) = (card b : Int) := rfl
set_option maxRecDepth 100000 in
set_option maxHeartbeats 4000000 in
theorem l2Least_any (a : Option Addr) (n cap : Nat) (zs : List Int) (kind M : Nat) (w : World) (hs : SlAt w a n zs) (hg : graphB zs = true) (hk3 : kind ≤ 3) (hM : 2 ^ n = M) :
    Calls Try.prog 67 #[.slice a n cap, .int .i64 kind] w fun e w' => e = .returned (.tuple #[.int .i64 (optN (leastTo (isB zs kind) M)), .bool (leastTo (isB zs kind) M).isSome]) ∧ Below w.heap.size w w' := by
  have hG := isG_of hg
  rw [← hs.len] at hG
  have hn2 := hG.le
  have hn1 := hG.pos
  have hM12 : M ≤ 4096 := by rw [← hM]; exact pow12 hn2
  have hM1 : 1 ≤ M := by rw [← hM]; exact Nat.one_le_two_pow
  have hw1 : IntKind.i64.wrap (2 ^ n) = (M : Int) := by
    have h1 := pow_int n
    rw [hM] at h1
    rw [← h1]; exact IntWalk.i64_in _ (by omega)
  have HM := Lib.hid hM
  have HG := Lib.hid hg
  have HS := Lib.hid hs
  clear hM hg
  go_enter Try.func67, Try.ntmps67
  go_wp2_with fail
  refine (l2Table_any _ _ _ _ _ HS.out hG).mono ?_
  rintro e w1 ⟨ta, tc, rfl, hT, hb1⟩
  have HT := Lib.hid hT.rowsAt
  have HS1 := Lib.hid (HS.out.below hb1)
  have HB1 := Lib.hid hb1
  clear hT hb1 hs
  go_wp2
  go_loopw [7, 8, 9] (fun bst lst p wr => ∃ (k : Nat) (acc : Option Nat), k ≤ M ∧ p = .int .i64 k ∧ bst = .int .i64 (optN acc) ∧ lst = .int .i64 (lstN n acc) ∧ Hid (leastTo (isB zs kind) k = acc) ∧ Below w1.heap.size w1 wr) (fun _ _ p _ => 4097 - (intOf p).toNat)
  case atStart => exact ⟨0, none, by omega, rfl, rfl, rfl, rfl, Below.refl _ _⟩
  case round =>
    obtain ⟨k, acc, hk', rfl, rfl, rfl, HL, hBl⟩ := hrel
    have HB := Lib.hid hBl
    clear hBl
    by_cases hlt : k < M
    · have hlt' : (k : Int) < M := by omega
      have hkn : k < 2 ^ n := by rw [HM.out]; omega
      obtain ⟨v, hv⟩ : ∃ v, isB zs kind k = v := ⟨_, rfl⟩
      obtain ⟨ck, hck⟩ : ∃ x, card k = x := ⟨_, rfl⟩
      have hckn : ck ≤ n := by rw [← hck]; exact card_le hkn hn2
      have HCK := Lib.hid hck
      have HV := Lib.hid hv
      have HKN := Lib.hid hkn
      have HS2 := Lib.hid (HS1.out.below HB.out)
      have HT2 := Lib.hid (HT.out.below HB.out)
      clear hck hv hkn
      cases acc with
      | none =>
        have hL2 := leastTo_next' HL.out
        have hlt3 : (ck : Int) < (n : Int) + 1 := by omega
        simp only [optN, lstN]
        cases v with
        | true =>
          have HL2 : Hid (leastTo (isB zs kind) (k + 1) = some k) := by show _ = _; rw [hL2]; simp [leastStep, HV.out]
          clear hL2
          go_wp2_with fail
          refine (scount_is _ k ck _ rfl (by omega) HCK.out).mono ?_
          rintro e w' ⟨rfl, rfl⟩
          go_wp2_with fail
          refine (sin_of true _ _ _ _ _ _ _ _ kind k _ HS2.out HT2.out HG.out rfl rfl hk3 (by omega) HKN.out HV.out).mono ?_
          rintro e w5 ⟨rfl, hb5⟩
          go_wp2
          go_roundw
          case rel => exact ⟨k + 1, some k, by omega, by go_num, rfl, by show _ = Value.int IntKind.i64 ((card k : Nat) : Int); rw [HCK.out], HL2, bnext HB.out hb5⟩
          case measure => simp [intOf]; omega
        | false =>
          have HL2 : Hid (leastTo (isB zs kind) (k + 1) = none) := by show _ = _; rw [hL2]; simp [leastStep, HV.out]
          clear hL2
          go_wp2_with fail
          refine (scount_is _ k ck _ rfl (by omega) HCK.out).mono ?_
          rintro e w' ⟨rfl, rfl⟩
          go_wp2_with fail
          refine (sin_of false _ _ _ _ _ _ _ _ kind k _ HS2.out HT2.out HG.out rfl rfl hk3 (by omega) HKN.out HV.out).mono ?_
          rintro e w5 ⟨rfl, hb5⟩
          go_wp2
          go_roundw
          case rel => exact ⟨k + 1, none, by omega, by go_num, rfl, rfl, HL2, bnext HB.out hb5⟩
          case measure => simp [intOf]; omega
      | some b =>
        have hL2 := leastTo_next' HL.out
        have hbk : b < k := by
          rcases leastTo_spec (isB zs kind) k with ⟨h, _⟩ | ⟨b', h, h2, _⟩
          · rw [HL.out] at h; cases h
          · rw [HL.out] at h; cases h; exact h2
        obtain ⟨cb, hcb⟩ : ∃ x, card b = x := ⟨_, rfl⟩
        have HCB := Lib.hid hcb
        simp only [optN, lstN, hcb]
        clear hcb
        by_cases hcc : ck < cb
        · have hcc' : (ck : Int) < cb := by omega
          cases v with
          | true =>
            have HL2 : Hid (leastTo (isB zs kind) (k + 1) = some k) := by show _ = _; rw [hL2]; simp [leastStep, HCK.out, HCB.out, hcc, HV.out]
            clear hL2
            go_wp2_with fail
            refine (scount_is _ k ck _ rfl (by omega) HCK.out).mono ?_
            rintro e w' ⟨rfl, rfl⟩
            go_wp2_with fail
            refine (sin_of true _ _ _ _ _ _ _ _ kind k _ HS2.out HT2.out HG.out rfl rfl hk3 (by omega) HKN.out HV.out).mono ?_
            rintro e w5 ⟨rfl, hb5⟩
            go_wp2
            go_roundw
            case rel => exact ⟨k + 1, some k, by omega, by go_num, rfl, by show _ = Value.int IntKind.i64 ((card k : Nat) : Int); rw [HCK.out], HL2, bnext HB.out hb5⟩
            case measure => simp [intOf]; omega
          | false =>
            have HL2 : Hid (leastTo (isB zs kind) (k + 1) = some b) := by show _ = _; rw [hL2]; simp [leastStep, HCK.out, HCB.out, hcc, HV.out]
            clear hL2
            go_wp2_with fail
            refine (scount_is _ k ck _ rfl (by omega) HCK.out).mono ?_
            rintro e w' ⟨rfl, rfl⟩
            go_wp2_with fail
            refine (sin_of false _ _ _ _ _ _ _ _ kind k _ HS2.out HT2.out HG.out rfl rfl hk3 (by omega) HKN.out HV.out).mono ?_
            rintro e w5 ⟨rfl, hb5⟩
            go_wp2
            go_roundw
            case rel => exact ⟨k + 1, some b, by omega, by go_num, rfl, by show _ = Value.int IntKind.i64 ((card b : Nat) : Int); rw [HCB.out], HL2, bnext HB.out hb5⟩
            case measure => simp [intOf]; omega
        · have hcc' : ¬ (ck : Int) < cb := by omega
          have HL2 : Hid (leastTo (isB zs kind) (k + 1) = some b) := by show _ = _; rw [hL2]; simp [leastStep, HCK.out, HCB.out, hcc]
          clear hL2
          go_wp2_with fail
          refine (scount_is _ k ck _ rfl (by omega) HCK.out).mono ?_
          rintro e w' ⟨rfl, rfl⟩
          go_wp2
          go_roundw
          case rel => exact ⟨k + 1, some b, by omega, by go_num, rfl, by show _ = Value.int IntKind.i64 ((card b : Nat) : Int); rw [HCB.out], HL2, HB.out⟩
          case measure => simp [intOf]; omega
    · obtain rfl : k = M := by omega
      have hlt' : ¬ (k : Int) < k := by omega
      have hfin : (decide (lstN n acc ≤ (n : Int))) = acc.isSome := by
        cases acc with
        | none => exact decide_eq_false (by rw [lstN_none]; omega)
        | some b =>
          have hb2 : b < 2 ^ n := by
            rcases leastTo_spec (isB zs kind) k with ⟨h, _⟩ | ⟨b', h, h2, _⟩
            · rw [HL.out] at h; cases h
            · rw [HL.out] at h; cases h; rw [HM.out]; exact h2
          have := card_le hb2 hn2
          exact decide_eq_true (by rw [lstN_some]; omega)
      have HF := Lib.hid hfin
      obtain ⟨lv, hlv⟩ : ∃ lv, lstN n acc = lv := ⟨_, rfl⟩
      rw [hlv] at HF ⊢
      clear hfin hlv
      go_wp2
      go_ret2
      exact ⟨by rw [HL.out, ← HF.out]; rfl, bnext HB1.out HB.out⟩
set_option maxRecDepth 100000 in
set_option maxHeartbeats 1000000 in
theorem sCodeLeast_any (a : Option Addr) (n cap : Nat) (zs : List Int) (kd : Int) (w : World) (hs : SlAt w a n zs) :
    Calls Try.prog 20 #[.slice a n cap, .int .i64 kd] w fun e w' => e = .returned (.tuple #[.int .i64 (optN (CodeLeastR zs kd)), .bool (CodeLeastR zs kd).isSome]) ∧ Below w.heap.size w w' := by
  cases hg : graphB zs with
  | false =>
    have HR := Lib.hid (show CodeLeastR zs kd = none by simp [CodeLeastR, leastOk, hg])
    have HG := Lib.hid hg
    clear hg
    go_enter Try.func20, Try.ntmps20
    go_wp2_with (go_at_call 60; refine (sGraphIn_is false _ _ _ _ _ hs HG.out).mono ?_; rintro e w1 ⟨rfl, hb1⟩)
    go_ret2
    exact ⟨by rw [HR.out]; rfl, hb1⟩
  | true =>
    cases hk : kindB kd with
    | false =>
      have HR := Lib.hid (show CodeLeastR zs kd = none by simp [CodeLeastR, leastOk, hk])
      have HG := Lib.hid hg
      have HK := Lib.hid hk
      clear hg hk
      go_enter Try.func20, Try.ntmps20
      go_wp2_with (first
        | (go_at_call 60; refine (sGraphIn_is true _ _ _ _ _ hs HG.out).mono ?_; rintro e w1 ⟨rfl, hb1⟩)
        | (go_at_call 61; refine (skind_is false _ _ HK.out).mono ?_; rintro e w' ⟨rfl, rfl⟩))
      go_ret2
      exact ⟨by rw [HR.out]; rfl, hb1⟩
    | true =>
      obtain ⟨kind, rfl, hk3⟩ := kindB_of hk
      have HR := Lib.hid (show CodeLeastR zs kind = leastTo (isB zs kind) (2 ^ n) by
        unfold CodeLeastR leastV; rw [if_pos (by simp [leastOk, hg, hk]), Int.toNat_natCast, ← hs.len])
      have HG := Lib.hid hg
      have HK := Lib.hid hk
      clear hg hk
      go_enter Try.func20, Try.ntmps20
      go_wp2_with fail
      refine (sGraphIn_is true _ _ _ _ _ hs HG.out).mono ?_
      rintro e w1 ⟨rfl, hb1⟩
      go_wp2_with fail
      refine (skind_is true _ _ HK.out).mono ?_
      rintro e w' ⟨rfl, rfl⟩
      go_wp2_with fail
      refine (l2Least_any _ _ _ _ kind (2 ^ n) _ (hs.below hb1) HG.out hk3 rfl).mono ?_
      rintro e w4 ⟨rfl, hb4⟩
      go_wp2
      go_ret2
      exact ⟨by rw [HR.out]; rfl, bnext hb1 hb4⟩
end Go.Proofs.Ytpllijjocccaaaa
