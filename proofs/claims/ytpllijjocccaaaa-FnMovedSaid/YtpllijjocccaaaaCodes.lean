/- CodeIn, CodeFind of the program. -/
import Derived.Test.YtpllijjocccaaaaIs
namespace Go.Proofs.Ytpllijjocccaaaa
open Go.RowKit Go.Shelf
attribute [local go_sem] Oper.semAt_some

theorem is_is (v : Bool) (B n : Nat) (zs : List Int) (kd cd : Int) (kind c : Nat) (w : World) (hB : BookAt w B n zs) (hG : IsG n zs) (hkd : kd = (kind : Int)) (hcd : cd = (c : Int)) (hk : kind ≤ 3) (hc : c < 4096) (hc2 : c < 2 ^ n) (hv : isB zs kind c = v) :
    Calls Try.prog 59 #[.pointer (some ⟨B, 0, none⟩), .int .i64 kd, .int .i64 cd] w fun e w' => e = .returned (.bool v) ∧ Below w.heap.size w w' := by
  subst hkd hcd hv; exact is_any B n zs kind c w hB hG hk hc hc2
theorem kindB_of {k : Int} (h : kindB k = true) : ∃ m : Nat, k = m ∧ m ≤ 3 := by
  simp only [kindB, Bool.and_eq_true, decide_eq_true_eq] at h
  exact ⟨k.toNat, by omega, by omega⟩
theorem setB_of {n : Nat} {c : Int} (hn : n ≤ 12) (h : (decide (0 ≤ c) && decide (c < 2 ^ n)) = true) : ∃ m : Nat, c = m ∧ m < 4096 ∧ m < 2 ^ n := by
  simp only [Bool.and_eq_true, decide_eq_true_eq] at h
  have e := pow_int n
  have e2 := pow12 hn
  exact ⟨c.toNat, by omega, by omega, by omega⟩
set_option maxRecDepth 100000 in
set_option maxHeartbeats 1000000 in
theorem CodeIn_any (a : Option Addr) (n cap : Nat) (zs : List Int) (kd cd : Int) (w : World) (hs : SlAt w a n zs) :
    Calls Try.prog 22 #[.slice a n cap, .int .i64 kd, .int .i64 cd] w fun e w' => e = .returned (.bool (codeInB zs kd cd)) ∧ Below w.heap.size w w' := by
  cases hg : graphB zs with
  | false =>
    have HR := Lib.hid (show codeInB zs kd cd = false by simp [codeInB, hg])
    have HG := Lib.hid hg
    clear hg
    go_enter Try.func22, Try.ntmps22
    go_wp2_with (go_at_call 54; refine (GraphIn_is false _ _ _ _ _ hs HG.out).mono ?_; rintro e w1 ⟨rfl, hb1⟩)
    go_ret
    exact ⟨by rw [HR.out]; rfl, hb1⟩
  | true =>
    have hn := (graphB_bd hg).2
    rw [← hs.len] at hn
    have hG := isG_of hg
    rw [← hs.len] at hG
    cases hk : kindB kd with
    | false =>
      have HR := Lib.hid (show codeInB zs kd cd = false by simp [codeInB, hk])
      have HG := Lib.hid hg
      have HK := Lib.hid hk
      clear hg hk
      go_enter Try.func22, Try.ntmps22
      go_wp2_with (first
        | (go_at_call 54; refine (GraphIn_is true _ _ _ _ _ hs HG.out).mono ?_; rintro e w1 ⟨rfl, hb1⟩)
        | (go_at_call 55; refine (isKind_is false _ _ HK.out).mono ?_; rintro e w' ⟨rfl, rfl⟩))
      go_ret
      exact ⟨by rw [HR.out]; rfl, hb1⟩
    | true =>
      cases hv : (decide (0 ≤ cd) && decide (cd < 2 ^ n)) with
      | false =>
        have HR := Lib.hid (show codeInB zs kd cd = false by unfold codeInB; rw [← hs.len, hv]; simp)
        have HG := Lib.hid hg
        have HK := Lib.hid hk
        have HV := Lib.hid hv
        clear hg hk hv
        go_enter Try.func22, Try.ntmps22
        go_wp2_with (first
          | (go_at_call 54; refine (GraphIn_is true _ _ _ _ _ hs HG.out).mono ?_; rintro e w1 ⟨rfl, hb1⟩)
          | (go_at_call 55; refine (isKind_is true _ _ HK.out).mono ?_; rintro e w' ⟨rfl, rfl⟩)
          | (go_at_call 68; refine (isSet_is false cd n _ (by omega) HV.out).mono ?_; rintro e w' ⟨rfl, rfl⟩))
        go_ret
        exact ⟨by rw [HR.out]; rfl, hb1⟩
      | true =>
        obtain ⟨kind, rfl, hk3⟩ := kindB_of hk
        obtain ⟨c, rfl, hc, hc2⟩ := setB_of hn hv
        obtain ⟨v, hiv⟩ : ∃ v, isB zs kind c = v := ⟨_, rfl⟩
        have HR := Lib.hid (show codeInB zs kind c = v by unfold codeInB; rw [← hs.len, hv, hg, hk, Int.toNat_natCast, Int.toNat_natCast, hiv]; simp)
        have HG := Lib.hid hg
        have HK := Lib.hid hk
        have HV := Lib.hid hv
        have HI := Lib.hid hiv
        have HC2 := Lib.hid hc2
        clear hg hk hv hiv hc2
        go_enter Try.func22, Try.ntmps22
        go_wp2_with fail
        refine (GraphIn_is true _ _ _ _ _ hs HG.out).mono ?_
        rintro e w1 ⟨rfl, hb1⟩
        go_wp2_with fail
        refine (isKind_is true _ _ HK.out).mono ?_
        rintro e w' ⟨rfl, rfl⟩
        go_wp2_with fail
        refine (isSet_is true c n _ (by omega) HV.out).mono ?_
        rintro e w' ⟨rfl, rfl⟩
        go_wp2_with fail
        refine (bookOf_any _ _ _ _ _ (hs.below hb1) HG.out).mono ?_
        rintro e w2 ⟨B, rfl, _, hBk, hb2⟩
        go_wp2_with fail
        refine (is_is v B n zs _ _ kind c _ hBk hG rfl rfl hk3 hc HC2.out HI.out).mono ?_
        rintro e w3 ⟨rfl, hb3⟩
        go_wp2
        go_ret
        exact ⟨by rw [HR.out]; rfl, bnext (bnext hb1 hb2) hb3⟩
theorem CodeIn_is (v : Bool) (a : Option Addr) (n cap : Nat) (zs : List Int) (kd cd : Int) (w : World) (hs : SlAt w a n zs) (hv : codeInB zs kd cd = v) :
    Calls Try.prog 22 #[.slice a n cap, .int .i64 kd, .int .i64 cd] w fun e w' => e = .returned (.bool v) ∧ Below w.heap.size w w' := by subst hv; exact CodeIn_any a n cap zs kd cd w hs
theorem codeIn_of {zs : List Int} {kd cd : Int} (h : codeInB zs kd cd = true) : graphB zs = true ∧ ∃ kind c : Nat, kd = kind ∧ cd = c ∧ kind ≤ 3 ∧ c < 4096 ∧ c < 2 ^ zs.length ∧ isB zs kind c = true := by
  simp only [codeInB, Bool.and_eq_true] at h
  obtain ⟨⟨⟨hg, hk⟩, hs⟩, hi⟩ := h
  obtain ⟨kind, rfl, hk3⟩ := kindB_of hk
  obtain ⟨c, rfl, h1, h2⟩ := setB_of (graphB_bd hg).2 (by rw [hs.1, hs.2]; rfl)
  exact ⟨hg, kind, c, rfl, rfl, hk3, h1, h2, by simpa using hi⟩

/-! ### CodeFind -/
def findB (zs : List Int) (cd u : Int) : Int := if codeInB zs 2 cd then idxOf (marksV zs cd.toNat) u else -1
def CodeFindR (zs : List Int) (cd u : Int) : Int := if 0 ≤ findB zs cd u then findB zs cd u else 0
set_option maxRecDepth 100000 in
set_option maxHeartbeats 1000000 in
theorem CodeFind_any (a : Option Addr) (n cap : Nat) (zs : List Int) (cd u : Int) (w : World) (hs : SlAt w a n zs) :
    Calls Try.prog 49 #[.slice a n cap, .int .i64 cd, .int .i64 u] w fun e w' => e = .returned (.tuple #[.int .i64 (CodeFindR zs cd u), .bool (decide (0 ≤ findB zs cd u))]) ∧ Below w.heap.size w w' := by
  cases hi : codeInB zs 2 cd with
  | false =>
    have HF := Lib.hid (show findB zs cd u = -1 by simp [findB, hi])
    have HI := Lib.hid hi
    clear hi
    go_enter Try.func49, Try.ntmps49
    go_wp2_with (go_at_call 22; refine (CodeIn_is false _ _ _ _ _ _ _ hs HI.out).mono ?_; rintro e w1 ⟨rfl, hb1⟩)
    go_ret2
    exact ⟨by unfold CodeFindR; rw [HF.out]; rfl, hb1⟩
  | true =>
    obtain ⟨hg, kind, c, hk2, rfl, hk3, hc, hc2, hiv⟩ := codeIn_of hi
    clear hk2 hk3 hiv
    have hG := isG_of hg
    rw [← hs.len] at hG
    have HF := Lib.hid (show findB zs c u = idxOf (marksV zs c) u by simp [findB, hi])
    have HI := Lib.hid hi
    have HG := Lib.hid hg
    clear hi hg hc2
    go_enter Try.func49, Try.ntmps49
    go_wp2_with fail
    refine (CodeIn_is true _ _ _ _ _ _ _ hs HI.out).mono ?_
    rintro e w1 ⟨rfl, hb1⟩
    go_wp2_with fail
    refine (bookOf_any _ _ _ _ _ (hs.below hb1) HG.out).mono ?_
    rintro e w2 ⟨B, rfl, _, hBk, hb2⟩
    go_wp2_with fail
    refine (marks_any B n zs c w2 hBk hG hc).mono ?_
    rintro e w3 ⟨a3, c3, rfl, hA3, hb3⟩
    go_wp2_with fail
    refine (index_any _ _ _ _ u _ hA3.sl).mono ?_
    rintro e w' ⟨rfl, rfl⟩
    obtain ⟨d, hd⟩ : ∃ d, idxOf (marksV zs c) u = d := ⟨_, rfl⟩
    rw [hd]
    have HD := Lib.hid hd
    have hB := bnext (bnext hb1 hb2) hb3
    clear hd
    by_cases hd0 : 0 ≤ d
    · have hd0' : ¬ d < 0 := by omega
      go_wp2
      go_ret2
      exact ⟨by unfold CodeFindR; rw [HF.out, HD.out, if_pos hd0, decide_eq_true hd0]; rfl, hB⟩
    · have hd0' : d < 0 := by omega
      go_wp2
      go_ret2
      exact ⟨by unfold CodeFindR; rw [HF.out, HD.out, if_neg (by omega)]; rfl, hB⟩
end Go.Proofs.Ytpllijjocccaaaa
