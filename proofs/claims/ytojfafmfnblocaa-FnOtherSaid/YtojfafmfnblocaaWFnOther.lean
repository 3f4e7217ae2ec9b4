/- The law FnOther, walked. -/
import Derived.Test.YtojfafmfnblocaaDraws
import Derived.Test.YtojfafmfnblocaaGL1
import Derived.Test.YtojfafmfnblocaaLawKit
namespace Go.Proofs.Ytojfafmfnblocaa
open Go.RowKit Go.Shelf

theorem GraphConnected_is (v : Bool) (a : Option Addr) (n cap : Nat) (zs : List Int) (w : World) (hs : SlAt w a n zs) (hv : connB zs = v) :
    Calls Try.prog 27 #[.slice a n cap] w fun e w' => e = .returned (.bool v) ∧ Below w.heap.size w w' := by subst hv; exact GraphConnected_any a n cap zs w hs
set_option maxRecDepth 100000 in
set_option maxHeartbeats 4000000 in
theorem FnOther_walk (w : World) (a : Option Addr) (n cap : Nat) (h : BytesAt w a n cap) :
    Calls Try.prog 5 #[.slice a n cap] w fun e w' => e = .returned (.bool true) ∧ Below w.heap.size w w' := by
  have hbd := h.bd
  by_cases hn : n ≤ 1048576
  case neg =>
    have hn' : (1048576 : Int) < n := by omega
    go_enter Try.func5, Try.ntmps5
    go_wp2
    go_ret
    exact ⟨rfl, Below.refl _ _⟩
  have hn' : ¬ (1048576 : Int) < n := by omega
  go_enter Try.func5, Try.ntmps5
  go_wp2_with fail
  refine (DrawGraphOther_any _ _ _ _ h).mono ?_
  rintro e w1 ⟨ga, gn, gc, zs, rfl, G1, hn1, hn7, _, hb1⟩
  go_wp2_with fail
  refine (GraphOther_any _ _ _ _ _ G1.sl).mono ?_
  rintro e w2 ⟨ta, tn, tc, rfl, T2, hb2⟩
  have G2 := G1.below hb2
  have B2 := bnext hb1 hb2
  go_wp2_with fail
  refine (sGraphOther_any _ _ _ _ _ G2.sl).mono ?_
  rintro e w3 ⟨sa, sn, sc, rfl, S3, hb3⟩
  have G3 := G2.below hb3
  have B3 := bnext B2 hb3
  have T3 := T2.below hb3
  clear hb1 hb2 hb3 G1 G2 B2 T2
  cases hg : graphB zs with
  | false =>
    go_wp2_with fail
    refine (sameInts_yes _ _ _ _ _ _ _ _ _ T3.sl S3.sl rfl).mono ?_
    rintro e w4 ⟨rfl, hb4⟩
    have T4 := T3.below hb4
    have S4 := S3.below hb4
    have B4 := bnext B3 hb4
    go_wp2_with fail
    refine (sameInts_yes _ _ _ _ _ _ _ _ _ T4.sl S4.sl rfl).mono ?_
    rintro e w5 ⟨rfl, hb5⟩
    go_wp2
    go_ret
    exact ⟨rfl, bnext B4 hb5⟩
  | true =>
    have hG0 := isG_of hg
    have hg2 := graphB_isG (other_isG hG0)
    have hoo := other_other hG0
    have hcn : connB zs = true ∨ (connB zs = false ∧ connB (othersV zs) = true) := by
      cases hc : connB zs with
      | true => exact .inl rfl
      | false => exact .inr ⟨rfl, other_conn hG0 hc⟩
    have hR : GraphOtherR zs = othersV zs := by rw [GraphOtherR, if_pos hg]
    have hR2 : GraphOtherR (othersV zs) = zs := by rw [GraphOtherR, if_pos hg2, hoo]
    go_wp2_with fail
    refine (sameInts_yes _ _ _ _ _ _ _ _ _ T3.sl S3.sl rfl).mono ?_
    rintro e w4 ⟨rfl, hb4⟩
    have G4 := (G3.below hb4).sl
    have B4 := bnext B3 hb4
    have T4 := (T3.below hb4).sl
    rw [hR] at T4
    have HG2 := Lib.hid hg2
    have HR2 := Lib.hid hR2
    clear S3 T3 B3 G3 hb4 hG0 hR hg hg2 hoo hR2
    go_wp2_with fail
    refine (GraphOther_any _ _ _ _ _ T4).mono ?_
    rintro e w5 ⟨ua, un, uc, rfl, U5, hb5⟩
    rw [HG2.out]
    have G5 := G4.below hb5
    have T5 := T4.below hb5
    have B5 := bnext B4 hb5
    have U5 := U5.sl
    rw [HR2.out] at U5
    clear G4 T4 B4 hb5 HR2 HG2
    go_wp2_with fail
    refine (sameInts_yes _ _ _ _ _ _ _ _ _ U5 G5 rfl).mono ?_
    rintro e w6 ⟨rfl, hb6⟩
    have G6 := G5.below hb6
    have T6 := T5.below hb6
    have B6 := bnext B5 hb6
    clear G5 T5 B5 hb6 U5
    rcases hcn with hc | ⟨hc, hc2⟩
    · have HC := Lib.hid hc
      clear hc
      go_wp2_with fail
      refine (GraphConnected_is true _ _ _ _ _ G6 HC.out).mono ?_
      rintro e w7 ⟨rfl, hb7⟩
      have B7 := bnext B6 hb7
      go_wp2
      go_ret
      exact ⟨rfl, B7⟩
    · have HC := Lib.hid hc
      have HC2 := Lib.hid hc2
      clear hc hc2
      go_wp2_with fail
      refine (GraphConnected_is false _ _ _ _ _ G6 HC.out).mono ?_
      rintro e w7 ⟨rfl, hb7⟩
      have T7 := T6.below hb7
      have B7 := bnext B6 hb7
      go_wp2_with fail
      refine (GraphConnected_is true _ _ _ _ _ T7 HC2.out).mono ?_
      rintro e w8 ⟨rfl, hb8⟩
      have B8 := bnext B7 hb8
      go_wp2
      go_ret
      exact ⟨rfl, B8⟩
end Go.Proofs.Ytojfafmfnblocaa
