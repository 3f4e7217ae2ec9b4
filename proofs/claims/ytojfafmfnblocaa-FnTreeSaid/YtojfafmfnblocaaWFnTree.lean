/- The law FnTree, walked. -/
import Derived.Test.YtojfafmfnblocaaDrawT
import Derived.Test.YtojfafmfnblocaaTree
namespace Go.Proofs.Ytojfafmfnblocaa
open Go.RowKit Go.Shelf

theorem GraphTwins_yes (n' : Nat) (a : Option Addr) (n cap : Nat) (zs : List Int) (w : World) (hs : SlAt w a n zs) (hg : graphB zs = true) (hn : (GraphTwinsR zs).length = n') :
    Calls Try.prog 34 #[.slice a n cap] w fun e w' => ∃ a' c', e = .returned (.tuple #[.slice a' n' c', .bool true]) ∧ Below w.heap.size w w' := by
  refine (GraphTwins_any a n cap zs w hs).mono ?_
  rintro e w' ⟨a', m, c', rfl, hA, hb⟩
  obtain rfl : m = n' := hA.rowsAt.len.trans hn
  exact ⟨a', c', by rw [hg], hb⟩
set_option maxRecDepth 100000 in
set_option maxHeartbeats 4000000 in
theorem FnTree_walk (w : World) (a : Option Addr) (n cap : Nat) (h : BytesAt w a n cap) :
    Calls Try.prog 9 #[.slice a n cap] w fun e w' => e = .returned (.bool true) ∧ Below w.heap.size w w' := by
  have hbd := h.bd
  by_cases hn : n ≤ 1048576
  case neg =>
    have hn' : (1048576 : Int) < n := by omega
    go_enter Try.func9, Try.ntmps9
    go_wp2
    go_ret
    exact ⟨rfl, Below.refl _ _⟩
  have hn' : ¬ (1048576 : Int) < n := by omega
  go_enter Try.func9, Try.ntmps9
  go_wp2_with fail
  refine (DrawTreeIn_any _ _ _ _ h).mono ?_
  rintro e w1 ⟨ga, gn, gc, zs, rfl, G1, hn1, hn9, hbd2, hb1⟩
  have HZ := Lib.hid (bd12_wf hbd2)
  clear hbd2
  cases ht : treeB zs with
  | false =>
    have HT := Lib.hid ht
    clear ht
    go_wp2_with fail
    refine (TreeIn_is false _ _ _ _ _ G1.sl HZ.out HT.out).mono ?_
    rintro e w2 ⟨rfl, hb2⟩
    have G2 := G1.below hb2
    have B2 := bnext hb1 hb2
    go_wp2_with fail
    refine (sTreeIn_is false _ _ _ _ _ G2.sl HZ.out HT.out).mono ?_
    rintro e w3 ⟨rfl, hb3⟩
    go_wp2
    go_ret
    exact ⟨rfl, bnext B2 hb3⟩
  | true =>
    have hG := isG_of (tree_graph ht)
    rw [← G1.len] at hG
    have HGB := Lib.hid (tree_graph ht)
    have HC := Lib.hid (tree_of hG ht).1
    obtain ⟨m, hm⟩ : ∃ m, (GraphTwinsR zs).length = m := ⟨_, rfl⟩
    have hm0 : 3 ≤ gn → m = 0 := fun h3 => by rw [← hm]; exact (twins_none (tree_graph ht)).2 (tree_twins hG ht h3)
    have HM := Lib.hid hm
    have HT := Lib.hid ht
    clear ht hG hm
    go_wp2_with fail
    refine (TreeIn_is true _ _ _ _ _ G1.sl HZ.out HT.out).mono ?_
    rintro e w2 ⟨rfl, hb2⟩
    have G2 := G1.below hb2
    have B2 := bnext hb1 hb2
    go_wp2_with fail
    refine (sTreeIn_is true _ _ _ _ _ G2.sl HZ.out HT.out).mono ?_
    rintro e w3 ⟨rfl, hb3⟩
    have G3 := G2.below hb3
    have B3 := bnext B2 hb3
    clear G1 G2 hb1 hb2 hb3 B2
    go_wp2_with fail
    refine (GraphTwins_yes m _ _ _ _ _ G3.sl HGB.out HM.out).mono ?_
    rintro e w4 ⟨ta, tc, rfl, hb4⟩
    have G4 := G3.below hb4
    have B4 := bnext B3 hb4
    clear G3 B3 hb4
    go_wp2_with fail
    refine (GraphConnected_is true _ _ _ _ _ G4.sl HC.out).mono ?_
    rintro e w5 ⟨rfl, hb5⟩
    have B5 := bnext B4 hb5
    by_cases h3 : 3 ≤ gn
    · have hm1 := hm0 h3
      subst hm1
      have h3' : ¬ (gn : Int) < 3 := by omega
      clear hm0
      go_wp2
      go_ret
      exact ⟨rfl, B5⟩
    · have h3' : (gn : Int) < 3 := by omega
      clear hm0
      go_wp2
      go_ret
      exact ⟨rfl, B5⟩
end Go.Proofs.Ytojfafmfnblocaa
