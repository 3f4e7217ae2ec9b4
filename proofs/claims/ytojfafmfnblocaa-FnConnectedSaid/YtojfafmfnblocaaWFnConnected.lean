/- The law FnConnected, walked. -/
import Derived.Test.YtojfafmfnblocaaDraws
import Derived.Test.YtojfafmfnblocaaGL2
import Derived.Test.YtojfafmfnblocaaLawKit
namespace Go.Proofs.Ytojfafmfnblocaa
open Go.RowKit Go.Shelf

theorem GraphConnected_is (v : Bool) (a : Option Addr) (n cap : Nat) (zs : List Int) (w : World) (hs : SlAt w a n zs) (hv : connB zs = v) :
    Calls Try.prog 27 #[.slice a n cap] w fun e w' => e = .returned (.bool v) ∧ Below w.heap.size w w' := by subst hv; exact GraphConnected_any a n cap zs w hs
theorem sGraphConnected_is (v : Bool) (a : Option Addr) (n cap : Nat) (zs : List Int) (w : World) (hs : SlAt w a n zs) (hv : connB zs = v) :
    Calls Try.prog 32 #[.slice a n cap] w fun e w' => e = .returned (.bool v) ∧ Below w.heap.size w w' := by subst hv; exact sGraphConnected_any a n cap zs w hs
theorem degSum_bd {zs : List Int} {n : Nat} (hG : IsG n zs) : ∀ k : Nat, k ≤ n → degSum zs k ≤ 12 * k
  | 0, _ => by simp [degSum, sumTo]
  | k + 1, h => by
    have ih := degSum_bd hG k (by omega)
    have h1 := card_le (gN_lt hG (i := k) (by omega)).1 hG.le
    have h2 := hG.le
    have e : degSum zs (k + 1) = degSum zs k + card (gN zs k) := rfl
    omega
set_option maxRecDepth 100000 in
set_option maxHeartbeats 4000000 in
theorem FnConnected_walk (w : World) (a : Option Addr) (n cap : Nat) (h : BytesAt w a n cap) :
    Calls Try.prog 7 #[.slice a n cap] w fun e w' => e = .returned (.bool true) ∧ Below w.heap.size w w' := by
  have hbd := h.bd
  by_cases hn : n ≤ 1048576
  case neg =>
    have hn' : (1048576 : Int) < n := by omega
    go_enter Try.func7, Try.ntmps7
    go_wp2
    go_ret
    exact ⟨rfl, Below.refl _ _⟩
  have hn' : ¬ (1048576 : Int) < n := by omega
  go_enter Try.func7, Try.ntmps7
  go_wp2_with fail
  refine (DrawGraphConnected_any _ _ _ _ h).mono ?_
  rintro e w1 ⟨ga, gn, gc, zs, rfl, G1, hn1, hn7, _, hb1⟩
  cases hg : connB zs with
  | false =>
    have HGB := Lib.hid hg
    clear hg
    go_wp2_with fail
    refine (GraphConnected_is false _ _ _ _ _ G1.sl HGB.out).mono ?_
    rintro e w2 ⟨rfl, hb2⟩
    have G2 := G1.below hb2
    have B2 := bnext hb1 hb2
    go_wp2_with fail
    refine (sGraphConnected_is false _ _ _ _ _ G2.sl HGB.out).mono ?_
    rintro e w3 ⟨rfl, hb3⟩
    have B3 := bnext B2 hb3
    go_wp2
    go_ret
    exact ⟨rfl, B3⟩
  | true =>
    have hgb : graphB zs = true := by
      have := hg
      simp only [connB, Bool.and_eq_true] at this; exact this.1
    have hG0 := isG_of hgb
    rw [← G1.len] at hG0
    have hedge := conn_edges hG0 hg
    have HC := Lib.hid ((connB_iff hG0).1 hg)
    have HL := Lib.hid G1.len
    have HG := Lib.hid hG0
    have HGB := Lib.hid hg
    have hn12 := hG0.le
    have hd0 : distOk zs 0 = true := by
      simp only [distOk, hgb, Bool.true_and, Bool.and_eq_true, decide_eq_true_eq]
      have := HL.out; omega
    have HD0 := Lib.hid hd0
    have HDR : Hid (GraphDistancesR zs 0 = distsV zs 0) := by show _ = _; rw [GraphDistancesR, if_pos hd0]; rfl
    have HE := Lib.hid hedge
    clear hg hgb hG0 hd0 hedge
    go_wp2_with fail
    refine (GraphConnected_is true _ _ _ _ _ G1.sl HGB.out).mono ?_
    rintro e w2 ⟨rfl, hb2⟩
    have G2 := G1.below hb2
    have B2 := bnext hb1 hb2
    go_wp2_with fail
    refine (sGraphConnected_is true _ _ _ _ _ G2.sl HGB.out).mono ?_
    rintro e w3 ⟨rfl, hb3⟩
    have G3 := G2.below hb3
    have B3 := bnext B2 hb3
    clear G1 G2 hb1 hb2 hb3 B2
    go_wp2_with fail
    refine (GraphDistances_any _ _ _ _ _ _ G3.sl (by omega)).mono ?_
    rintro e w4 ⟨oa, on, oc, rfl, O4, hb4⟩
    rw [HD0.out]
    have G4 := (G3.below hb4).sl
    have B4 := Lib.hid (bnext B3 hb4)
    have O4 := O4.sl
    rw [HDR.out] at O4
    obtain rfl : on = gn := by rw [O4.len, distsV_len, ← HL.out]
    obtain ⟨b1, o1, rfl⟩ := G4.addr (by omega)
    obtain ⟨b2, o2, rfl⟩ := O4.addr (by omega)
    have G4 := Lib.hid G4
    have O4 := Lib.hid O4
    clear G3 B3 hb4
    go_wp2
    go_loopw [8, 9] (fun u p wr => ∃ i : Nat, i ≤ on ∧ p = .int .i64 i ∧ u = .int .i64 (degSum zs i : Nat) ∧ SlAt wr (some ⟨b1, o1, none⟩) on zs ∧ SlAt wr (some ⟨b2, o2, none⟩) on (distsV zs 0) ∧ Below w.heap.size w wr) (fun _ p _ => 12 - (intOf p).toNat)
    case atStart => exact ⟨0, by omega, rfl, rfl, G4.out, O4.out, B4.out⟩
    case round =>
      obtain ⟨i, hi, rfl, rfl, hS, hT, hB⟩ := hrel
      have hbd := degSum_bd HG.out i hi
      by_cases hlt : i < on
      · have hlt' : (i : Int) < on := by omega
        have gi := hS.at1 hlt
        have ti := hT.at1 hlt
        rw [distsV_at (by rw [← HL.out]; exact hlt)] at ti
        obtain ⟨q, hq, hq12⟩ : ∃ q : Nat, distV zs 0 i = q ∧ q ≤ 12 := by
          have := dist_le12 HG.out HG.out.pos i
          exact ⟨(distV zs 0 i).toNat, by omega, by omega⟩
        have hne := HC.out i hlt
        rw [hq] at ti hne
        have hne' : ((q : Int) == 12) = false := by simpa using hne
        obtain ⟨g1, g2, g3⟩ := gN_lt HG.out hlt
        rw [g3] at gi
        have hcd := card_le g1 hn12
        have hs1 : degSum zs (i + 1) = degSum zs i + card (gN zs i) := rfl
        obtain ⟨gx, hgx⟩ : ∃ gx, gN zs i = gx := ⟨_, rfl⟩
        rw [hgx] at gi g2 hcd hs1
        obtain ⟨m, hm⟩ : ∃ m, card gx = m := ⟨_, rfl⟩
        rw [hm] at hcd hs1
        obtain ⟨s, hs⟩ : ∃ s, degSum zs i = s := ⟨_, rfl⟩
        rw [hs] at hs1 hbd ⊢
        have HM := Lib.hid hm
        have HS1 := Lib.hid hs1
        have HS := Lib.hid hS
        have HT := Lib.hid hT
        have HB := Lib.hid hB
        clear hS hT hB hq hne g1 g3 hgx hm hs hs1
        go_wp2_with fail
        refine (lsize_is m _ _ g2 HM.out).mono ?_
        rintro e w5 ⟨rfl, rfl⟩
        go_wp2
        go_roundw
        case rel => exact ⟨i + 1, by omega, by go_num, by rw [HS1.out]; go_num, HS.out, HT.out, HB.out⟩
        case measure => simp [intOf]; omega
      · obtain rfl : on = i := by omega
        have HB := Lib.hid hB
        have hee := HE.out
        obtain ⟨s, hs⟩ : ∃ s, degSum zs on = s := ⟨_, rfl⟩
        rw [hs] at hbd hee ⊢
        clear hS hT hB hs
        have h1 : (2 : Int) * ((on : Int) - 1) ≤ s := by omega
        go_wp2
        go_ret
        exact ⟨by simp, HB.out⟩
end Go.Proofs.Ytojfafmfnblocaa
