/- The law FnDistances, walked. -/
import Derived.Test.YtojfafmfnblocaaDraws3
import Derived.Test.YtojfafmfnblocaaGL1
import Derived.Test.YtojfafmfnblocaaLawKit
namespace Go.Proofs.Ytojfafmfnblocaa
open Go.RowKit Go.Shelf

theorem int_name {z : Int} (h : 0 ≤ z ∧ z ≤ 12) : ∃ m : Nat, z = m ∧ m ≤ 12 := ⟨z.toNat, by omega, by omega⟩
set_option maxRecDepth 100000 in
set_option maxHeartbeats 4000000 in
theorem FnDistances_walk (w : World) (a : Option Addr) (n cap : Nat) (h : BytesAt w a n cap) :
    Calls Try.prog 6 #[.slice a n cap] w fun e w' => e = .returned (.bool true) ∧ Below w.heap.size w w' := by
  have hbd := h.bd
  by_cases hn : n ≤ 1048576
  case neg =>
    have hn' : (1048576 : Int) < n := by omega
    go_enter Try.func6, Try.ntmps6
    go_wp2
    go_ret
    exact ⟨rfl, Below.refl _ _⟩
  have hn' : ¬ (1048576 : Int) < n := by omega
  go_enter Try.func6, Try.ntmps6
  go_wp2_with fail
  refine (DrawGraphDistances_any _ _ _ _ h).mono ?_
  rintro e w1 ⟨ga, gn, gc, x, zs, rfl, G1, hn1, hn7, _, hx0, hx12, hb1⟩
  go_wp2_with fail
  refine (GraphDistances_any _ _ _ _ _ _ G1.sl (by omega)).mono ?_
  rintro e w2 ⟨ta, tn, tc, rfl, T2, hb2⟩
  have G2 := G1.below hb2
  have B2 := bnext hb1 hb2
  go_wp2_with fail
  refine (sGraphDistances_any _ _ _ _ _ _ G2.sl (by omega)).mono ?_
  rintro e w3 ⟨sa, sn, sc, rfl, S3, hb3⟩
  have G3 := G2.below hb3
  have B3 := bnext B2 hb3
  have T3 := T2.below hb3
  clear hb1 hb2 hb3 G1 G2 B2 T2
  cases hg : distOk zs x with
  | false =>
    go_wp2_with fail
    refine (sameInts_yes _ _ _ _ _ _ _ _ _ T3.sl S3.sl rfl).mono ?_
    rintro e w4 ⟨rfl, hb4⟩
    have T4 := T3.below hb4
    have S4 := S3.below hb4
    have B4 := bnext B3 hb4
    go_wp2_with fail
    refine (sameInts_yes _ _ _ _ _ _ _ _ _ T4.sl S4.sl rfl).mono ?_
    rintro e w5 ⟨rfl, hb5⟩
    go_wp2
    go_ret
    exact ⟨rfl, bnext B4 hb5⟩
  | true =>
    have hR : GraphDistancesR zs x = distsV zs x.toNat := by rw [GraphDistancesR, if_pos hg]
    simp only [distOk, Bool.and_eq_true, decide_eq_true_eq] at hg
    obtain ⟨hgb, hxp, hxn⟩ := hg
    obtain ⟨s, rfl⟩ : ∃ s : Nat, x = s := ⟨x.toNat, by omega⟩
    rw [Int.toNat_natCast] at hR
    have hG0 := isG_of hgb
    rw [← G3.len] at hG0
    have hsn : s < gn := by have := G3.len; omega
    have HL := Lib.hid G3.len
    have HG := Lib.hid hG0
    have HD := Lib.hid (fun i (hi : i < gn) => (by
      have h1 : distOk zs (i : Nat) = true := by
        simp only [distOk, hgb, Bool.true_and, Bool.and_eq_true, decide_eq_true_eq]
        have := HL.out; omega
      exact ⟨h1, by rw [GraphDistancesR, if_pos h1, Int.toNat_natCast]⟩ : distOk zs (i : Nat) = true ∧ GraphDistancesR zs (i : Nat) = distsV zs i))
    go_wp2_with fail
    refine (sameInts_yes _ _ _ _ _ _ _ _ _ T3.sl S3.sl rfl).mono ?_
    rintro e w4 ⟨rfl, hb4⟩
    have G4 := (G3.below hb4).sl
    have B4 := Lib.hid (bnext B3 hb4)
    have T4 := (T3.below hb4).sl
    rw [hR] at T4
    obtain rfl : tn = gn := by rw [T4.len, distsV_len, ← HL.out]
    obtain ⟨b1, o1, rfl⟩ := G4.addr (by omega)
    obtain ⟨b2, o2, rfl⟩ := T4.addr (by omega)
    have G4 := Lib.hid G4
    have T4 := Lib.hid T4
    clear S3 T3 B3 G3 hb4 hG0 hR hgb hxp hxn hx0 hx12
    go_wp2
    go_loopw [9] (fun p wr => ∃ i : Nat, i ≤ tn ∧ p = .int .i64 i ∧ SlAt wr (some ⟨b1, o1, none⟩) tn zs ∧ SlAt wr (some ⟨b2, o2, none⟩) tn (distsV zs s) ∧ Below w.heap.size w wr) (fun p _ => 12 - (intOf p).toNat)
    case atStart => exact ⟨0, by omega, rfl, G4.out, T4.out, B4.out⟩
    case round =>
      obtain ⟨i, hi, rfl, hS, hT, hB⟩ := hrel
      by_cases hlt : i < tn
      · have hlt' : (i : Int) < tn := by omega
        have hDi := HD.out i hlt
        go_wp2_with fail
        refine (GraphDistances_any _ _ _ _ i _ hS (by omega)).mono ?_
        rintro e w5 ⟨oa, on, oc, rfl, O5, hb5⟩
        have hS5 := hS.below hb5
        have hT5 := hT.below hb5
        have hB5 := bnext hB hb5
        have O5 := O5.sl
        rw [hDi.2] at O5
        rw [hDi.1]
        obtain rfl : on = tn := by rw [O5.len, distsV_len, ← HL.out]
        obtain ⟨b3, o3, rfl⟩ := O5.addr (by omega)
        have hsn' : (s : Int) < on := by omega
        have cO := O5.at1 hsn
        have cT := hT5.at1 hlt
        have cS := hS5.at1 hsn
        rw [distsV_at (by rw [← HL.out]; exact hsn)] at cO
        rw [distsV_at (by rw [← HL.out]; exact hlt)] at cT
        rw [dist_symm HG.out hlt hsn] at cO
        obtain ⟨m, hm, hm12⟩ := int_name (dist_le12 HG.out hsn i)
        have hz0 := dist_zero HG.out (j := i) hsn
        have hz1 := dist_one HG.out (j := i) hsn
        rw [hm] at cO cT hz0 hz1
        obtain ⟨g1, g2, g3⟩ := gN_lt HG.out hsn
        rw [g3] at cS
        have hbit := bit_nat (gN zs s) i (by omega)
        rw [gN_bit] at hbit
        obtain ⟨gs, hgs⟩ : ∃ gs, gN zs s = gs := ⟨_, rfl⟩
        rw [hgs] at cS hbit g2
        have t0 : ((m : Int) == 0) = ((i : Int) == (s : Int)) := by
          rw [Bool.eq_iff_iff]; simp only [beq_iff_eq]; rw [show ((m : Int) = 0) = ((m : Int) = 0) from rfl, hz0]; omega
        have t1 : ((m : Int) == 1) = adjB zs s i := by
          rw [Bool.eq_iff_iff]; simp only [beq_iff_eq]; exact hz1
        have HM := Lib.hid hm
        have HS := Lib.hid hS5
        have HT := Lib.hid hT5
        have HB := Lib.hid hB5
        obtain ⟨wo, hwo⟩ : ∃ wo : World, wo = w5 := ⟨_, rfl⟩
        subst hwo
        clear hS hT hB hb5 O5 hS5 hT5 hB5 hDi hm hgs g1 g3 hz0 hz1
        obtain ⟨z, hz⟩ : ∃ z, ((i : Int) == (s : Int)) = z := ⟨_, rfl⟩
        obtain ⟨y, hy⟩ : ∃ y, adjB zs s i = y := ⟨_, rfl⟩
        rw [hz] at t0
        rw [hy] at t1 hbit
        clear hy cT
        cases z <;> cases y <;> (
          simp only [Bool.false_eq_true, if_false, if_true] at hbit
          have cT := HT.out.at1 hlt
          rw [distsV_at (by rw [← HL.out]; exact hlt), HM.out] at cT
          go_wp2
          go_quiet (fail)
          go_wp2
          clear cO cS cT hbit t0 t1 hz
          go_loopw [12, 13] (fun p d wr => ∃ k : Nat, k ≤ i ∧ p = .int .i64 k ∧ SlAt wr (some ⟨b1, o1, none⟩) on zs ∧ SlAt wr (some ⟨b2, o2, none⟩) on (distsV zs s) ∧ Below w.heap.size w wr) (fun p _ _ => 12 - (intOf p).toNat)
          case atStart => exact ⟨0, by omega, rfl, HS.out.below (bdrewN _ _), HT.out.below (bdrewN _ _), bnext HB.out (bdrewN _ _)⟩
          case round =>
            obtain ⟨k, hk, rfl, hS, hT, hB⟩ := hrel
            by_cases hlk : k < i
            · have hlk' : (k : Int) < i := by omega
              have hkn : (k : Int) < on := by omega
              have ci := hT.at1 hlt
              have ck := hT.at1 (j := k) (by omega)
              have gi := hS.at1 hlt
              rw [distsV_at (by rw [← HL.out]; exact hlt), HM.out] at ci
              rw [distsV_at (by rw [← HL.out]; omega)] at ck
              obtain ⟨q, hq, hq12⟩ := int_name (dist_le12 HG.out hsn k)
              obtain ⟨g1, g2, g3⟩ := gN_lt HG.out hlt
              rw [g3] at gi
              rw [hq] at ck
              have hbit := bit_nat (gN zs i) k (by omega)
              rw [gN_bit] at hbit
              have htri : adjB zs i k = true → (m : Int) - q ≤ 1 ∧ -1 ≤ (m : Int) - q := fun ha => by
                have h1 := dist_tri HG.out hsn ha
                have h2 := dist_tri HG.out hsn (adj_symm HG.out _ _ ha)
                have h3 := HM.out
                omega
              obtain ⟨gx, hgx⟩ : ∃ gx, gN zs i = gx := ⟨_, rfl⟩
              rw [hgx] at gi hbit g2
              have HS2 := Lib.hid hS
              have HT2 := Lib.hid hT
              have HB2 := Lib.hid hB
              clear hS hT hB hq g1 g3 hgx
              cases ha : adjB zs i k with
              | true =>
                obtain ⟨h1, h2⟩ := htri ha
                rw [ha] at hbit
                simp only [if_true] at hbit
                clear htri ha
                have h1' : ¬ (1 : Int) < (m : Int) - q := by omega
                have h2' : ¬ (m : Int) - q < -1 := by omega
                go_wp2
                go_quiet (fail)
                go_wp2
                go_roundw
                case rel => exact ⟨k + 1, by omega, by go_num, HS2.out.below (bdrewN _ _), HT2.out.below (bdrewN _ _), bnext HB2.out (bdrewN _ _)⟩
                case measure => simp [intOf]; omega
              | false =>
                rw [ha] at hbit
                simp only [Bool.false_eq_true, if_false] at hbit
                clear htri ha
                go_wp2
                go_quiet (fail)
                go_wp2
                go_roundw
                case rel => exact ⟨k + 1, by omega, by go_num, HS2.out.below (bdrewN _ _), HT2.out.below (bdrewN _ _), bnext HB2.out (bdrewN _ _)⟩
                case measure => simp [intOf]; omega
            · obtain rfl : i = k := by omega
              have HS2 := Lib.hid hS
              have HT2 := Lib.hid hT
              have HB2 := Lib.hid hB
              clear hS hT hB
              go_wp2
              go_roundw
              case rel => exact ⟨i + 1, by omega, by go_num, HS2.out, HT2.out, HB2.out⟩
              case measure => simp [intOf]; omega)
      · obtain rfl : tn = i := by omega
        have HB := Lib.hid hB
        clear hS hT hB
        go_wp2
        go_ret
        exact ⟨rfl, HB.out⟩
end Go.Proofs.Ytojfafmfnblocaa
