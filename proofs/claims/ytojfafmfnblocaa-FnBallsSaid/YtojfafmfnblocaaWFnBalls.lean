/- The law FnBalls, walked. -/
import Derived.Test.YtojfafmfnblocaaDraws
import Derived.Test.YtojfafmfnblocaaGL1
import Derived.Test.YtojfafmfnblocaaLawKit
namespace Go.Proofs.Ytojfafmfnblocaa
open Go.RowKit Go.Shelf

theorem lsize_of (s : Nat) (v : Int) (w : World) (h : s < 4096 ∧ (card s : Int) = v) : Calls Try.prog 23 #[.int .i64 s] w fun e w' => e = .returned (.int .i64 v) ∧ w = w' := by
  obtain ⟨hs, rfl⟩ := h; exact lsize_any s w hs

set_option maxRecDepth 100000 in
set_option maxHeartbeats 4000000 in
theorem FnBalls_walk (w : World) (a : Option Addr) (n cap : Nat) (h : BytesAt w a n cap) :
    Calls Try.prog 4 #[.slice a n cap] w fun e w' => e = .returned (.bool true) ∧ Below w.heap.size w w' := by
  have hbd := h.bd
  by_cases hn : n ≤ 1048576
  case neg =>
    have hn' : (1048576 : Int) < n := by omega
    go_enter Try.func4, Try.ntmps4
    go_wp2
    go_ret
    exact ⟨rfl, Below.refl _ _⟩
  have hn' : ¬ (1048576 : Int) < n := by omega
  go_enter Try.func4, Try.ntmps4
  go_wp2_with fail
  refine (DrawGraphBalls_any _ _ _ _ h).mono ?_
  rintro e w1 ⟨ga, gn, gc, zs, rfl, G1, hn1, hn7, _, hb1⟩
  go_wp2_with fail
  refine (GraphBalls_any _ _ _ _ _ G1.sl).mono ?_
  rintro e w2 ⟨ta, tn, tc, rfl, T2, hb2⟩
  have G2 := G1.below hb2
  have B2 := bnext hb1 hb2
  go_wp2_with fail
  refine (sGraphBalls_any _ _ _ _ _ G2.sl).mono ?_
  rintro e w3 ⟨sa, sn, sc, rfl, S3, hb3⟩
  have G3 := G2.below hb3
  have B3 := bnext B2 hb3
  have T3 := T2.below hb3
  clear hb1 hb2 hb3 G1 G2 B2 T2
  cases hg : graphB zs with
  | false =>
    go_wp2_with fail
    refine (sameInts_yes _ _ _ _ _ _ _ _ _ T3.sl S3.sl rfl).mono ?_
    rintro e w4 ⟨rfl, hb4⟩
    have T4 := T3.below hb4
    have S4 := S3.below hb4
    have B4 := bnext B3 hb4
    go_wp2_with fail
    refine (sameInts_yes _ _ _ _ _ _ _ _ _ T4.sl S4.sl rfl).mono ?_
    rintro e w5 ⟨rfl, hb5⟩
    go_wp2
    go_ret
    exact ⟨rfl, bnext B4 hb5⟩
  | true =>
    have hG0 := isG_of hg
    rw [← G3.len] at hG0
    have HL := Lib.hid G3.len
    have HG := Lib.hid hG0
    have hR : GraphBallsR zs = ballsV zs := by rw [GraphBallsR, if_pos hg]
    go_wp2_with fail
    refine (sameInts_yes _ _ _ _ _ _ _ _ _ T3.sl S3.sl rfl).mono ?_
    rintro e w4 ⟨rfl, hb4⟩
    have G4 := (G3.below hb4).sl
    have B4 := Lib.hid (bnext B3 hb4)
    have T4 := (T3.below hb4).sl
    rw [hR] at T4
    obtain rfl : tn = gn := by rw [T4.len, ballsV_len, ← HL.out]
    obtain ⟨b1, o1, rfl⟩ := G4.addr (by omega)
    obtain ⟨b2, o2, rfl⟩ := T4.addr (by omega)
    have G4 := Lib.hid G4
    have T4 := Lib.hid T4
    clear S3 T3 B3 G3 hb4 hG0 hR hg
    go_wp2
    go_loopw [8] (fun p wr => ∃ i : Nat, i ≤ tn ∧ p = .int .i64 i ∧ SlAt wr (some ⟨b1, o1, none⟩) tn zs ∧ SlAt wr (some ⟨b2, o2, none⟩) tn (ballsV zs) ∧ Below w.heap.size w wr) (fun p _ => 12 - (intOf p).toNat)
    case atStart => exact ⟨0, by omega, rfl, G4.out, T4.out, B4.out⟩
    case round =>
      obtain ⟨i, hi, rfl, hS, hL, hB⟩ := hrel
      by_cases hlt : i < tn
      · have hlt' : (i : Int) < tn := by omega
        have cx := hS.at1 hlt
        have bx := hL.at1 hlt
        rw [ballsV_at (by rw [← HL.out]; exact hlt)] at bx
        obtain ⟨g1, g2, g3⟩ := gN_lt HG.out hlt
        have hb12 := bN_lt HG.out hlt
        have hp12 := pow12 HG.out.le
        have hcd := ball_card HG.out hlt
        have hself := bN_self zs i
        have hdiff := ball_diff HG.out i
        rw [show ballV zs i = ((bN zs i : Nat) : Int) from rfl] at bx
        rw [g3] at cx
        obtain ⟨x, hx⟩ : ∃ x, bN zs i = x := ⟨_, rfl⟩
        obtain ⟨y, hy⟩ : ∃ y, gN zs i = y := ⟨_, rfl⟩
        rw [hx] at bx hb12 hcd hself hdiff
        rw [hy] at cx g1 g2 hcd hdiff
        have hx4 : x < 4096 := by omega
        have hbit := bit_yes (s := x) (i := i) (by omega) hself
        obtain ⟨m, hm, hm2, hm3, hm4, hw⟩ := pow_name (i := i) (by omega)
        rw [hm] at hdiff
        rw [hm2] at hbit
        have e1 := andNot_nat (show x ≤ 4096 by omega) hm4 hdiff
        have hcy := card_le g1 (by omega)
        obtain ⟨u, hu⟩ : ∃ u, card y = u := ⟨_, rfl⟩
        have HX : Hid (x < 4096 ∧ (card x : Int) = (u : Int) + 1) := ⟨hx4, by omega⟩
        have HY : Hid (y < 4096 ∧ (card y : Int) = (u : Int)) := ⟨g2, by omega⟩
        have hu12 : (u : Int) ≤ 12 := by omega
        have HS := Lib.hid hS
        have HHL := Lib.hid hL
        have HB := Lib.hid hB
        clear hS hL hB hcd hself hdiff hm hx hy hb12 g1 g3 hcy hp12 hu
        go_wp2
        go_quiet ((go_at_call 23; exact quiet_mine (lsize_of _ _ _ (by first | exact HX.out | exact HY.out))))
        go_wp2
        go_roundw
        case rel => exact ⟨i + 1, by omega, by go_num, HS.out.below (bdrewN _ _), HHL.out.below (bdrewN _ _), bnext HB.out (bdrewN _ _)⟩
        case measure => simp [intOf]; omega
      · obtain rfl : tn = i := by omega
        have HB := Lib.hid hB
        clear hS hL hB
        go_wp2
        go_ret
        exact ⟨by simp, HB.out⟩
end Go.Proofs.Ytojfafmfnblocaa
