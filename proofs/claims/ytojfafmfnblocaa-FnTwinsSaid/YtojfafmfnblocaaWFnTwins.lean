/- The law FnTwins, walked. -/
import Derived.Test.YtojfafmfnblocaaDraws
import Derived.Test.YtojfafmfnblocaaGL1
import Derived.Test.YtojfafmfnblocaaLawKit
namespace Go.Proofs.Ytojfafmfnblocaa
open Go.RowKit Go.Shelf

set_option maxRecDepth 100000 in
set_option maxHeartbeats 4000000 in
theorem FnTwins_walk (w : World) (a : Option Addr) (n cap : Nat) (h : BytesAt w a n cap) :
    Calls Try.prog 8 #[.slice a n cap] w fun e w' => e = .returned (.bool true) ∧ Below w.heap.size w w' := by
  have hbd := h.bd
  by_cases hn : n ≤ 1048576
  case neg =>
    have hn' : (1048576 : Int) < n := by omega
    go_enter Try.func8, Try.ntmps8
    go_wp2
    go_ret
    exact ⟨rfl, Below.refl _ _⟩
  have hn' : ¬ (1048576 : Int) < n := by omega
  go_enter Try.func8, Try.ntmps8
  go_wp2_with fail
  refine (DrawGraphTwins_any _ _ _ _ h).mono ?_
  rintro e w1 ⟨ga, gn, gc, zs, rfl, G1, hn1, hn7, _, hb1⟩
  go_wp2_with fail
  refine (GraphTwins_any _ _ _ _ _ G1.sl).mono ?_
  rintro e w2 ⟨ta, tn, tc, rfl, T2, hb2⟩
  have G2 := G1.below hb2
  have B2 := bnext hb1 hb2
  go_wp2_with fail
  refine (sGraphTwins_any _ _ _ _ _ G2.sl).mono ?_
  rintro e w3 ⟨sa, sn, sc, rfl, S3, hb3⟩
  have G3 := G2.below hb3
  have B3 := bnext B2 hb3
  have T3 := T2.below hb3
  clear hb1 hb2 hb3 G1 G2 B2 T2
  cases hg : graphB zs with
  | false =>
    go_wp2_with fail
    refine (sameRows_yes _ _ _ _ _ _ _ _ _ T3.rowsAt S3.rowsAt rfl).mono ?_
    rintro e w4 ⟨rfl, hb4⟩
    have T4 := T3.below hb4
    have S4 := S3.below hb4
    have B4 := bnext B3 hb4
    go_wp2_with fail
    refine (sameRows_yes _ _ _ _ _ _ _ _ _ T4.rowsAt S4.rowsAt rfl).mono ?_
    rintro e w5 ⟨rfl, hb5⟩
    go_wp2
    go_ret
    exact ⟨rfl, bnext B4 hb5⟩
  | true =>
    have hG0 := isG_of hg
    rw [← G3.len] at hG0
    have HL := Lib.hid G3.len
    have HG := Lib.hid hG0
    have HGB := Lib.hid hg
    have hR : GraphTwinsR zs = twV zs := by rw [GraphTwinsR, if_pos hg]
    go_wp2_with fail
    refine (sameRows_yes _ _ _ _ _ _ _ _ _ T3.rowsAt S3.rowsAt rfl).mono ?_
    rintro e w4 ⟨rfl, hb4⟩
    have G4 := G3.below hb4
    have B4 := bnext B3 hb4
    have T4 := (T3.below hb4).rowsAt
    rw [hR] at T4
    clear S3 T3 B3 G3 hb4 hG0 hR hg
    go_wp2_with fail
    refine (GraphBalls_any _ _ _ _ _ G4.sl).mono ?_
    rintro e w5 ⟨ba, bn, bc, rfl, L5, hb5⟩
    rw [HGB.out]
    have G5 := (G4.below hb5).sl
    have B5 := Lib.hid (bnext B4 hb5)
    have T5 := T4.below hb5
    have L5 := L5.sl
    rw [show GraphBallsR zs = ballsV zs by rw [GraphBallsR, if_pos HGB.out]] at L5
    obtain rfl : bn = gn := by rw [L5.len, ballsV_len, ← HL.out]
    obtain ⟨b1, o1, rfl⟩ := G5.addr (by omega)
    obtain ⟨b2, o2, rfl⟩ := L5.addr (by omega)
    have htl : tn ≤ 4096 := by
      have h1 := twTo_len zs zs.length
      have h2 := T5.len
      have h3 : zs.length * zs.length ≤ 12 * 12 := Nat.mul_le_mul (by rw [← HL.out]; omega) (by rw [← HL.out]; omega)
      rw [twV] at h2
      omega
    have HT := Lib.hid T5.len
    have G5 := Lib.hid G5
    have L5 := Lib.hid L5
    have T5 := Lib.hid T5
    clear T4 G4 B4 hb5
    go_wp2
    go_loopw [10] (fun p wr => ∃ i : Nat, i ≤ tn ∧ p = .int .i64 i ∧ RowsAt wr ta tn (twV zs) ∧ SlAt wr (some ⟨b1, o1, none⟩) bn zs ∧ SlAt wr (some ⟨b2, o2, none⟩) bn (ballsV zs) ∧ Below w.heap.size w wr) (fun p _ => 4096 - (intOf p).toNat)
    case atStart => exact ⟨0, by omega, rfl, T5.out, G5.out, L5.out, B5.out⟩
    case round =>
      obtain ⟨i, hi, rfl, hT, hS, hL, hB⟩ := hrel
      by_cases hlt : i < tn
      · have hlt' : (i : Int) < tn := by omega
        obtain ⟨tb, to, rfl⟩ := hT.addr (by omega)
        obtain ⟨ra, rn, rc, hcell, hrow⟩ := hT.at1 hlt
        have hmem : (twV zs).getD i [] ∈ twV zs := by
          rw [List.getD_eq_getElem?_getD, List.getElem?_eq_getElem (by rw [← HT.out]; exact hlt)]
          exact List.getElem_mem _
        obtain ⟨x, y, hxy, hlt2, hyn, heq, hadj⟩ := twin_mem (HL.out ▸ HG.out) hmem
        rw [hxy] at hrow
        rw [← HL.out] at hyn
        have hrn : rn = 2 := hrow.len
        subst hrn
        obtain ⟨rb, ro, rfl⟩ := hrow.addr (by omega)
        have c0 := hrow.at1 (j := 0) (by omega)
        have c1 := hrow.at1 (j := 1) (by omega)
        simp only [List.getElem?_cons_zero, List.getElem?_cons_succ, Option.getD_some, Nat.add_zero] at c0 c1
        have cx := hS.at1 (j := x) (by omega)
        have bx := hL.at1 (j := x) (by omega)
        have by' := hL.at1 (j := y) (by omega)
        rw [ballsV_at (by rw [← HL.out]; omega)] at bx by'
        have hbv : ballV zs x = ballV zs y := by show ((bN zs x : Nat) : Int) = ((bN zs y : Nat) : Int); rw [heq]
        rw [← hbv] at by'
        obtain ⟨g1, g2, g3⟩ := gN_lt HG.out (i := x) (by omega)
        rw [g3] at cx
        have hbit := bit_yes (s := gN zs x) (i := y) (by omega) hadj
        obtain ⟨gx, hgx⟩ : ∃ gx, gN zs x = gx := ⟨_, rfl⟩
        rw [hgx] at cx hbit g2
        obtain ⟨bv, hbv2⟩ : ∃ bv, ballV zs x = bv := ⟨_, rfl⟩
        rw [hbv2] at bx by'
        have hx' : (x : Int) < y := by omega
        have hx1 : (x : Int) < bn := by omega
        have hy1 : (y : Int) < bn := by omega
        have HHT := Lib.hid hT
        have HHS := Lib.hid hS
        have HHL := Lib.hid hL
        have HHB := Lib.hid hB
        clear hT hS hL hB hrow hmem hxy heq hadj hbv hgx hbv2 g1 g3
        go_wp2
        go_quiet (fail)
        go_wp2
        go_roundw
        case rel => exact ⟨i + 1, by omega, by go_num, HHT.out.below (bdrewN _ _), HHS.out.below (bdrewN _ _), HHL.out.below (bdrewN _ _), bnext HHB.out (bdrewN _ _)⟩
        case measure => simp [intOf]; omega
      · obtain rfl : tn = i := by omega
        have HHB := Lib.hid hB
        clear hT hS hL hB
        go_wp2
        go_ret
        exact ⟨rfl, HHB.out⟩
end Go.Proofs.Ytojfafmfnblocaa
