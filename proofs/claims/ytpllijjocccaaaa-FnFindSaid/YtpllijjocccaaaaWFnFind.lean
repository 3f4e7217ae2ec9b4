/- The law FnFind, walked. -/
import Derived.Test.YtpllijjocccaaaaDraws2
import Derived.Test.YtpllijjocccaaaaCodeL4
import Derived.Test.YtpllijjocccaaaaSMarks
import Derived.Test.YtpllijjocccaaaaSCodes
import Derived.Test.YtpllijjocccaaaaLawKit
namespace Go.Proofs.Ytpllijjocccaaaa
open Go.RowKit Go.Shelf

theorem CodeFind_is (v : Bool) (x : Int) (a : Option Addr) (n cap : Nat) (zs : List Int) (cd u : Int) (w : World) (hs : SlAt w a n zs) (hx : CodeFindR zs cd u = x) (hv : decide (0 ≤ findB zs cd u) = v) :
    Calls Try.prog 49 #[.slice a n cap, .int .i64 cd, .int .i64 u] w fun e w' => e = .returned (.tuple #[.int .i64 x, .bool v]) ∧ Below w.heap.size w w' := by subst hx hv; exact CodeFind_any a n cap zs cd u w hs
theorem sCodeFind_is (v : Bool) (x : Int) (a : Option Addr) (n cap : Nat) (zs : List Int) (cd u : Int) (w : World) (hs : SlAt w a n zs) (hx : CodeFindR zs cd u = x) (hv : decide (0 ≤ findB zs cd u) = v) :
    Calls Try.prog 50 #[.slice a n cap, .int .i64 cd, .int .i64 u] w fun e w' => e = .returned (.tuple #[.int .i64 x, .bool v]) ∧ Below w.heap.size w w' := by subst hx hv; exact sCodeFind_any a n cap zs cd u w hs
set_option maxRecDepth 100000 in
set_option maxHeartbeats 4000000 in
theorem FnFind_walk (w : World) (a : Option Addr) (n cap : Nat) (h : BytesAt w a n cap) :
    Calls Try.prog 14 #[.slice a n cap] w fun e w' => e = .returned (.bool true) ∧ Below w.heap.size w w' := by
  have hbd := h.bd
  by_cases hn : n ≤ 1048576
  case neg =>
    have hn' : (1048576 : Int) < n := by omega
    go_enter Try.func14, Try.ntmps14
    go_wp2
    go_ret
    exact ⟨rfl, Below.refl _ _⟩
  have hn' : ¬ (1048576 : Int) < n := by omega
  go_enter Try.func14, Try.ntmps14
  go_wp2_with fail
  refine (DrawCodeFind_any _ _ _ _ h).mono ?_
  rintro e w1 ⟨ga, gn, gc, c, u, zs, rfl, G1, hn1, hn7, _, hc, hb1⟩
  have hpw : 2 ^ gn ≤ 4096 := Nat.pow_le_pow_right (n := 2) (by omega) (show gn ≤ 12 by omega)
  have hlz := Lib.hid G1.len
  obtain ⟨x, hx⟩ : ∃ x, CodeFindR zs c u = x := ⟨_, rfl⟩
  cases hv : decide (0 ≤ findB zs c u) with
  | false =>
    have HX := Lib.hid hx
    have HV := Lib.hid hv
    clear hx hv
    go_wp2_with fail
    refine (CodeFind_is false x _ _ _ _ _ _ _ G1.sl HX.out HV.out).mono ?_
    rintro e w2 ⟨rfl, hb2⟩
    have G2 := G1.below hb2
    have B2 := bnext hb1 hb2
    go_wp2_with fail
    refine (sCodeFind_is false x _ _ _ _ _ _ _ G2.sl HX.out HV.out).mono ?_
    rintro e w3 ⟨rfl, hb3⟩
    go_wp2
    go_ret
    exact ⟨by simp, bnext B2 hb3⟩
  | true =>
    obtain ⟨k, hk1, hkn, _, hin, hmk, hu⟩ := find_law (of_decide_eq_true hv)
    obtain rfl : x = k := by rw [← hx, hk1]
    have hg : graphB zs = true := (codeIn_iff (kind := 2)).1 hin |>.1
    have hfit : fitsB zs c = true := by
      have e := pow_int zs.length
      have h3 := ((codeIn_iff (kind := 2)).1 hin).2.2.1
      simp only [fitsB, hg, Bool.true_and, Bool.and_eq_true, decide_eq_true_eq]
      omega
    have hR : CodeMarksR zs c = marksV zs c := by rw [CodeMarksR, if_pos hfit, Int.toNat_natCast]
    have HU : (u == (0 : Int)) = false := by simpa using hu
    have HUN := Lib.hid hu
    have HX := Lib.hid hx
    have HV := Lib.hid hv
    have HF := Lib.hid hfit
    have HR := Lib.hid hR
    have HM := Lib.hid hmk
    have HK := Lib.hid hkn
    clear hx hv hk1 hin hmk hu hg hfit hR hkn
    go_wp2_with fail
    refine (CodeFind_is true k _ _ _ _ _ _ _ G1.sl HX.out HV.out).mono ?_
    rintro e w2 ⟨rfl, hb2⟩
    have G2 := G1.below hb2
    have B2 := bnext hb1 hb2
    go_wp2_with fail
    refine (sCodeFind_is true k _ _ _ _ _ _ _ G2.sl HX.out HV.out).mono ?_
    rintro e w3 ⟨rfl, hb3⟩
    have G3 := G2.below hb3
    have B3 := bnext B2 hb3
    clear G1 G2 hb1 hb2 hb3 B2
    go_wp2_with fail
    refine (CodeMarks_any _ _ _ _ _ _ G3.sl (by omega)).mono ?_
    rintro e w4 ⟨oa, on, oc, rfl, O4, hb4⟩
    have B4 := bnext B3 hb4
    rw [HR.out] at O4
    rw [HF.out]
    have hkn := HK.out
    rw [← hlz.out] at hkn
    obtain rfl : on = gn := by rw [O4.len, marksV_len, ← hlz.out]
    obtain ⟨b, off, rfl⟩ := O4.sl.addr (by omega)
    have hcell := O4.sl.at1 hkn
    rw [marksV_at HK.out, HM.out] at hcell
    have hkn' : (k : Int) < on := by omega
    clear O4 G3 B3 hb4
    go_wp2
    go_ret
    exact ⟨by simpa using HUN.out, B4⟩
end Go.Proofs.Ytpllijjocccaaaa
