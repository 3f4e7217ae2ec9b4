/- The law FnPlace, walked. -/
import Derived.Test.YtpllijjocccaaaaDraws2
import Derived.Test.YtpllijjocccaaaaCodeL4
import Derived.Test.YtpllijjocccaaaaSCodes
import Derived.Test.YtpllijjocccaaaaLawKit
namespace Go.Proofs.Ytpllijjocccaaaa
open Go.RowKit Go.Shelf

theorem CodePlace_is (v : Bool) (x : Int) (a : Option Addr) (n cap : Nat) (zs : List Int) (cd : Int) (b : Option Addr) (m cb : Nat) (ys : List Int) (w : World) (hs : SlAt w a n zs) (ht : SlAt w b m ys) (hx : CodePlaceR zs cd ys = x) (hv : decide (0 ≤ placeB zs cd ys) = v) :
    Calls Try.prog 24 #[.slice a n cap, .int .i64 cd, .slice b m cb] w fun e w' => e = .returned (.tuple #[.int .i64 x, .bool v]) ∧ Below w.heap.size w w' := by subst hx hv; exact CodePlace_any a n cap zs cd b m cb ys w hs ht
theorem sCodePlace_is (v : Bool) (x : Int) (a : Option Addr) (n cap : Nat) (zs : List Int) (cd : Int) (b : Option Addr) (m cb : Nat) (ys : List Int) (w : World) (hs : SlAt w a n zs) (ht : SlAt w b m ys) (hx : CodePlaceR zs cd ys = x) (hv : decide (0 ≤ placeB zs cd ys) = v) :
    Calls Try.prog 25 #[.slice a n cap, .int .i64 cd, .slice b m cb] w fun e w' => e = .returned (.tuple #[.int .i64 x, .bool v]) ∧ Below w.heap.size w w' := by subst hx hv; exact sCodePlace_any a n cap zs cd b m cb ys w hs ht
set_option maxRecDepth 100000 in
set_option maxHeartbeats 4000000 in
theorem FnPlace_walk (w : World) (a : Option Addr) (n cap : Nat) (h : BytesAt w a n cap) :
    Calls Try.prog 5 #[.slice a n cap] w fun e w' => e = .returned (.bool true) ∧ Below w.heap.size w w' := by
  have hbd := h.bd
  by_cases hn : n ≤ 1048576
  case neg =>
    have hn' : (1048576 : Int) < n := by omega
    go_enter Try.func5, Try.ntmps5
    go_wp2
    go_ret
    exact ⟨rfl, Below.refl _ _⟩
  have hn' : ¬ (1048576 : Int) < n := by omega
  go_enter Try.func5, Try.ntmps5
  go_wp2_with fail
  refine (DrawCodePlace_any _ _ _ _ h).mono ?_
  rintro e w1 ⟨ga, gn, gc, c, pa, pn, pc, ys, zs, rfl, G1, P1, hn1, hn7, _, hc, hb1⟩
  have hpw : 2 ^ gn ≤ 4096 := Nat.pow_le_pow_right (n := 2) (by omega) (show gn ≤ 12 by omega)
  have hlz := Lib.hid G1.len
  obtain ⟨x, hx⟩ : ∃ x, CodePlaceR zs c ys = x := ⟨_, rfl⟩
  cases hv : decide (0 ≤ placeB zs c ys) with
  | false =>
    have HX := Lib.hid hx
    have HV := Lib.hid hv
    clear hx hv
    go_wp2_with fail
    refine (CodePlace_is false x _ _ _ _ _ _ _ _ _ _ G1.sl P1 HX.out HV.out).mono ?_
    rintro e w2 ⟨rfl, hb2⟩
    have G2 := G1.below hb2
    have P2 := P1.below hb2
    have B2 := bnext hb1 hb2
    go_wp2_with fail
    refine (sCodePlace_is false x _ _ _ _ _ _ _ _ _ _ G2.sl P2 HX.out HV.out).mono ?_
    rintro e w3 ⟨rfl, hb3⟩
    go_wp2
    go_ret
    exact ⟨by simp, bnext B2 hb3⟩
  | true =>
    obtain ⟨k, hk1, hkn, _, hin, huniq⟩ := place_law (of_decide_eq_true hv)
    obtain rfl : x = k := by rw [← hx, hk1]
    have hg : graphB zs = true := (codeIn_iff (kind := 3)).1 hin |>.1
    have hfit : fitsB zs c = true := by
      have e := pow_int zs.length
      have h3 := ((codeIn_iff (kind := 3)).1 hin).2.2.1
      simp only [fitsB, hg, Bool.true_and, Bool.and_eq_true, decide_eq_true_eq]
      omega
    have hR : CodeVectorsR zs c = vecsV zs c := by rw [CodeVectorsR, if_pos hfit, Int.toNat_natCast]
    have HX := Lib.hid hx
    have HV := Lib.hid hv
    have HF := Lib.hid hfit
    have HR := Lib.hid hR
    have HU := Lib.hid huniq
    have HK := Lib.hid hkn
    clear hx hv hk1 hin huniq hg hfit hR hkn
    go_wp2_with fail
    refine (CodePlace_is true k _ _ _ _ _ _ _ _ _ _ G1.sl P1 HX.out HV.out).mono ?_
    rintro e w2 ⟨rfl, hb2⟩
    have G2 := G1.below hb2
    have P2 := P1.below hb2
    have B2 := bnext hb1 hb2
    go_wp2_with fail
    refine (sCodePlace_is true k _ _ _ _ _ _ _ _ _ _ G2.sl P2 HX.out HV.out).mono ?_
    rintro e w3 ⟨rfl, hb3⟩
    have G3 := G2.below hb3
    have P3 := P2.below hb3
    have B3 := bnext B2 hb3
    clear G1 G2 hb1 hb2 hb3 B2 P1 P2
    go_wp2_with fail
    refine (CodeVectors_any _ _ _ _ _ _ G3.sl (by omega)).mono ?_
    rintro e w4 ⟨oa, on, oc, rfl, O4, hb4⟩
    have P4 := Lib.hid (P3.below hb4)
    have B4 := Lib.hid (bnext B3 hb4)
    have O4 := O4.rowsAt
    rw [HR.out] at O4
    rw [HF.out]
    obtain rfl : on = gn := by rw [O4.len, vecsV_len, ← hlz.out]
    obtain ⟨b, off, rfl⟩ := O4.addr (by omega)
    have O4 := Lib.hid O4
    clear G3 P3 B3 hb4
    go_wp2
    go_loopw [12] (fun p wr => ∃ i : Nat, i ≤ on ∧ p = .int .i64 i ∧ RowsAt wr (some ⟨b, off, none⟩) on (vecsV zs c) ∧ SlAt wr pa pn ys ∧ Below w.heap.size w wr) (fun p _ => 12 - (intOf p).toNat)
    case atStart => exact ⟨0, by omega, rfl, O4.out, P4.out, B4.out⟩
    case round =>
      obtain ⟨i, hi, rfl, hS, hP, hB⟩ := hrel
      by_cases hlt : i < on
      · have hlt' : (i : Int) < on := by omega
        obtain ⟨ra, rn, rc, hcell, hrow⟩ := hS.at1 hlt
        have hrv : (vecsV zs c).getD i [] = vecV zs c i := by
          rw [List.getD_eq_getElem?_getD]; simp [vecsV, hlz.out ▸ hlt]
        rw [hrv] at hrow
        have hu := HU.out i (by rw [← hlz.out]; exact hlt)
        by_cases hik : i = k
        · subst hik
          have hv := hu.2 rfl
          have HS := Lib.hid hS
          have HB := Lib.hid hB
          clear hS hB hrv hu
          go_wp2_with fail
          refine (sameInts_yes _ _ _ _ _ _ _ _ _ hrow hP hv).mono ?_
          rintro e w5 ⟨rfl, hb5⟩
          go_wp2
          go_roundw
          case rel => exact ⟨i + 1, by omega, by go_num, HS.out.below hb5, hP.below hb5, bnext HB.out hb5⟩
          case measure => simp [intOf]; omega
        · have hv : decide (vecV zs c i = ys) = false := decide_eq_false fun e => hik (hu.1 e)
          have hik' : ((i : Int) == k) = false := by simp; omega
          have HS := Lib.hid hS
          have HB := Lib.hid hB
          clear hS hB hrv hu
          go_wp2_with fail
          refine (sameInts_is false _ _ _ _ _ _ _ _ _ hrow hP hv).mono ?_
          rintro e w5 ⟨rfl, hb5⟩
          go_wp2
          go_roundw
          case rel => exact ⟨i + 1, by omega, by go_num, HS.out.below hb5, hP.below hb5, bnext HB.out hb5⟩
          case measure => simp [intOf]; omega
      · obtain rfl : on = i := by omega
        go_wp2
        go_ret
        exact ⟨by simp, hB⟩
end Go.Proofs.Ytpllijjocccaaaa
