/- The law FnLeaves, walked. -/
import Derived.Test.YtojfafmfnblocaaDrawT
import Derived.Test.YtojfafmfnblocaaTree
namespace Go.Proofs.Ytojfafmfnblocaa
open Go.RowKit Go.Shelf

set_option maxRecDepth 100000 in
set_option maxHeartbeats 4000000 in
theorem FnLeaves_walk (w : World) (a : Option Addr) (n cap : Nat) (h : BytesAt w a n cap) :
    Calls Try.prog 10 #[.slice a n cap] w fun e w' => e = .returned (.bool true) ∧ Below w.heap.size w w' := by
  have hbd := h.bd
  by_cases hn : n ≤ 1048576
  case neg =>
    have hn' : (1048576 : Int) < n := by omega
    go_enter Try.func10, Try.ntmps10
    go_wp2
    go_ret
    exact ⟨rfl, Below.refl _ _⟩
  have hn' : ¬ (1048576 : Int) < n := by omega
  go_enter Try.func10, Try.ntmps10
  go_wp2_with fail
  refine (DrawTreeLeaves_any _ _ _ _ h).mono ?_
  rintro e w1 ⟨ga, gn, gc, zs, rfl, G1, hn1, hn9, hbd2, hb1⟩
  have HZ := Lib.hid (bd12_wf hbd2)
  clear hbd2
  obtain ⟨x, hx⟩ : ∃ x, TreeLeavesR zs = x := ⟨_, rfl⟩
  cases ht : treeB zs with
  | false =>
    have HT := Lib.hid ht
    have HX := Lib.hid hx
    clear ht hx
    go_wp2_with fail
    refine (TreeLeaves_is false x _ _ _ _ _ G1.sl HZ.out HX.out HT.out).mono ?_
    rintro e w2 ⟨rfl, hb2⟩
    have G2 := G1.below hb2
    have B2 := bnext hb1 hb2
    go_wp2_with fail
    refine (sTreeLeaves_is false x _ _ _ _ _ G2.sl HZ.out HX.out HT.out).mono ?_
    rintro e w3 ⟨rfl, hb3⟩
    go_wp2
    go_ret
    exact ⟨by simp, bnext B2 hb3⟩
  | true =>
    have hG := isG_of (tree_graph ht)
    rw [← G1.len] at hG
    have HL := Lib.hid G1.len
    have hxl : leafTo zs gn = x := by rw [← hx, leavesR_yes hG ht]
    have HG := Lib.hid hG
    have hn12 := hG.le
    have hx4 : x < 4096 := by rw [← hxl]; exact leaf_4096 hn12
    have hx2 : 2 ≤ gn → 2 ≤ card x := fun h2 => by rw [← hxl]; exact tree_leaves hG ht h2
    have hx1 : gn < 2 → x = 0 := fun h1 => by rw [← hxl]; exact one_leaf hG h1
    have HB0 : Hid (∀ i, i < gn → x.testBit i = decide (degN zs i = 1)) := fun i hi => by
      rw [← hxl, leafTo_bit, decide_eq_true hi]; rfl
    have HT := Lib.hid ht
    have HX := Lib.hid hx
    clear ht hx hxl hG
    go_wp2_with fail
    refine (TreeLeaves_is true x _ _ _ _ _ G1.sl HZ.out HX.out HT.out).mono ?_
    rintro e w2 ⟨rfl, hb2⟩
    have G2 := G1.below hb2
    have B2 := bnext hb1 hb2
    go_wp2_with fail
    refine (sTreeLeaves_is true x _ _ _ _ _ G2.sl HZ.out HX.out HT.out).mono ?_
    rintro e w3 ⟨rfl, hb3⟩
    have G3 := (G2.below hb3).sl
    have B3 := Lib.hid (bnext B2 hb3)
    obtain ⟨b1, o1, rfl⟩ := G3.addr (by omega)
    have G3 := Lib.hid G3
    have HX2 := Lib.hid hx2
    have HX1 := Lib.hid hx1
    clear G1 G2 hb1 hb2 hb3 B2 hx2 hx1
    go_wp2
    go_loopw [8] (fun p wr => ∃ i : Nat, i ≤ gn ∧ p = .int .i64 i ∧ SlAt wr (some ⟨b1, o1, none⟩) gn zs ∧ Below w.heap.size w wr) (fun p _ => 12 - (intOf p).toNat)
    case atStart => exact ⟨0, by omega, rfl, G3.out, B3.out⟩
    case round =>
      obtain ⟨i, hi, rfl, hS, hB⟩ := hrel
      by_cases hlt : i < gn
      · have hlt' : (i : Int) < gn := by omega
        have gi := hS.at1 hlt
        obtain ⟨g1, g2, g3⟩ := gN_lt HG.out hlt
        rw [g3] at gi
        have hcd := card_le g1 hn12
        have hbit := bit_nat x i (by omega)
        rw [HB0.out i hlt] at hbit
        have hdg : degN zs i = card (gN zs i) := rfl
        obtain ⟨gx, hgx⟩ : ∃ gx, gN zs i = gx := ⟨_, rfl⟩
        rw [hgx] at gi g2 hcd hdg
        obtain ⟨m, hm⟩ : ∃ m, card gx = m := ⟨_, rfl⟩
        rw [hm] at hcd hdg
        rw [hdg] at hbit
        have HM := Lib.hid hm
        have HS := Lib.hid hS
        have HB := Lib.hid hB
        clear hS hB g1 g3 hgx hm hdg
        obtain ⟨v, hv⟩ : ∃ v, decide (m = 1) = v := ⟨_, rfl⟩
        have hv1 : ((m : Int) == 1) = v := by rw [← hv, Bool.eq_iff_iff]; simp; omega
        rw [hv] at hbit
        clear hv
        cases v <;> (
          simp only [Bool.false_eq_true, if_false, if_true] at hbit
          go_wp2
          go_quiet ((go_at_call 23; exact quiet_mine (lsize_is m gx _ g2 HM.out)))
          go_wp2
          go_roundw
          case rel => exact ⟨i + 1, by omega, by go_num, HS.out.below (bdrewN _ _), bnext HB.out (bdrewN _ _)⟩
          case measure => simp [intOf]; omega)
      · obtain rfl : gn = i := by omega
        have HB := Lib.hid hB
        clear hS hB
        by_cases h2 : 2 ≤ gn
        · have hx2 := HX2.out h2
          have h2' : ¬ (gn : Int) < 2 := by omega
          obtain ⟨m, hm⟩ : ∃ m, card x = m := ⟨_, rfl⟩
          have HM := Lib.hid hm
          rw [hm] at hx2
          have hx2' : (2 : Int) ≤ m := by omega
          clear hm
          go_wp2_with fail
          refine (lsize_is m x _ hx4 HM.out).mono ?_
          rintro e w5 ⟨rfl, rfl⟩
          go_wp2
          go_ret
          exact ⟨by simp, HB.out⟩
        · have hx1 := HX1.out (by omega)
          subst hx1
          have h2' : (gn : Int) < 2 := by omega
          go_wp2
          go_ret
          exact ⟨by simp, HB.out⟩
end Go.Proofs.Ytojfafmfnblocaa
