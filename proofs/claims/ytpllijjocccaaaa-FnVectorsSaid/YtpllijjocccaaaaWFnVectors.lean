/- The law FnVectors, walked. -/
import Derived.Test.YtpllijjocccaaaaDraws
import Derived.Test.YtpllijjocccaaaaCodeL4
import Derived.Test.YtpllijjocccaaaaSVec
import Derived.Test.YtpllijjocccaaaaLawKit
namespace Go.Proofs.Ytpllijjocccaaaa
open Go.RowKit Go.Shelf

/-- z says whether one of the first k numbers is zero -/
def ZeroTo (r : List Int) (k : Nat) (z : Bool) : Prop := z = true ↔ ∃ j, j < k ∧ r[j]?.getD 1 = 0
theorem ZeroTo.zero (r : List Int) : ZeroTo r 0 false := by simp [ZeroTo]
theorem ZeroTo.keep {r : List Int} {k : Nat} (h : ZeroTo r k true) : ZeroTo r (k + 1) true := by
  obtain ⟨j, hj, e⟩ := h.1 rfl
  exact ⟨fun _ => ⟨j, by omega, e⟩, fun _ => rfl⟩
theorem ZeroTo.next {r : List Int} {k : Nat} {z : Bool} (h : ZeroTo r k false) (hk : k < r.length) (hz : (r[k]?.getD 0 == 0) = z) : ZeroTo r (k + 1) z := by
  have e : r[k]?.getD 1 = r[k]?.getD 0 := by rw [List.getElem?_eq_getElem hk]; rfl
  constructor
  · intro hzt
    rw [hzt] at hz
    exact ⟨k, by omega, by rw [e]; exact eq_of_beq hz⟩
  · rintro ⟨j, hj, hj0⟩
    rcases Nat.lt_succ_iff_lt_or_eq.1 hj with h1 | rfl
    · have := h.2 ⟨j, h1, hj0⟩; cases this
    · rw [← hz, ← e, hj0]; rfl
theorem ZeroTo.all {r : List Int} {z : Bool} (h : ZeroTo r r.length z) : z = true ↔ (0 : Int) ∈ r := by
  refine Iff.trans h ?_
  constructor
  · rintro ⟨j, hj, e⟩
    rw [List.getElem?_eq_getElem hj] at e
    have e' : r[j] = 0 := e
    rw [← e']; exact List.getElem_mem hj
  · intro hm
    obtain ⟨j, hj, e⟩ := List.getElem_of_mem hm
    exact ⟨j, hj, by rw [List.getElem?_eq_getElem hj, e]; rfl⟩
set_option maxRecDepth 100000 in
set_option maxHeartbeats 4000000 in
theorem FnVectors_walk (w : World) (a : Option Addr) (n cap : Nat) (h : BytesAt w a n cap) :
    Calls Try.prog 12 #[.slice a n cap] w fun e w' => e = .returned (.bool true) ∧ Below w.heap.size w w' := by
  have hbd := h.bd
  by_cases hn : n ≤ 1048576
  case neg =>
    have hn' : (1048576 : Int) < n := by omega
    go_enter Try.func12, Try.ntmps12
    go_wp2
    go_ret
    exact ⟨rfl, Below.refl _ _⟩
  have hn' : ¬ (1048576 : Int) < n := by omega
  go_enter Try.func12, Try.ntmps12
  go_wp2_with fail
  refine (DrawCodeVectors_any _ _ _ _ h).mono ?_
  rintro e w1 ⟨ga, gn, gc, c, zs, rfl, G1, hn1, hn7, _, hc, hb1⟩
  have hpw : 2 ^ gn ≤ 4096 := Nat.pow_le_pow_right (n := 2) (by omega) (show gn ≤ 12 by omega)
  have hlz := Lib.hid G1.len
  go_wp2_with fail
  refine (CodeVectors_any _ _ _ _ _ _ G1.sl (by omega)).mono ?_
  rintro e w2 ⟨oa, on, oc, rfl, O2, hb2⟩
  have G2 := G1.below hb2
  have B2 := bnext hb1 hb2
  go_wp2_with fail
  refine (sCodeVectors_any _ _ _ _ _ _ G2.sl (by omega)).mono ?_
  rintro e w3 ⟨sa, sn, sc, rfl, S3, hb3⟩
  have O3 := O2.below hb3
  have B3 := bnext B2 hb3
  clear G1 G2 O2 hb1 hb2 hb3 B2
  cases hf : fitsB zs c with
  | false =>
    go_wp2_with fail
    refine (sameRows_yes _ _ _ _ _ _ _ _ _ O3.rowsAt S3.rowsAt rfl).mono ?_
    rintro e w4 ⟨rfl, hb4⟩
    have O4 := O3.below hb4
    have S4 := S3.below hb4
    have B4 := bnext B3 hb4
    go_wp2_with fail
    refine (sameRows_yes _ _ _ _ _ _ _ _ _ O4.rowsAt S4.rowsAt rfl).mono ?_
    rintro e w5 ⟨rfl, hb5⟩
    go_wp2
    go_ret
    exact ⟨rfl, bnext B4 hb5⟩
  | true =>
    have hR : CodeVectorsR zs c = vecsV zs c := by rw [CodeVectorsR, if_pos hf, Int.toNat_natCast]
    have hon : on = gn := by rw [O3.rowsAt.len, hR, vecsV_len, ← hlz.out]
    subst hon
    have hfi := hf
    simp only [fitsB, Bool.and_eq_true] at hfi
    have hG0 := isG_of hfi.1
    rw [← hlz.out] at hG0
    have HG := Lib.hid hG0
    have HC := Lib.hid hc
    go_wp2_with fail
    refine (sameRows_yes _ _ _ _ _ _ _ _ _ O3.rowsAt S3.rowsAt rfl).mono ?_
    rintro e w4 ⟨rfl, hb4⟩
    have O4 := (O3.below hb4).rowsAt
    have B4 := Lib.hid (bnext B3 hb4)
    rw [hR] at O4
    obtain ⟨b, off, rfl⟩ := O4.addr (by omega)
    have O4 := Lib.hid O4
    have hc4 : c ≤ 4096 := by omega
    have hc5 : c < 4096 := by omega
    clear hf hfi hG0 hR S3 O3 B3 hb4 hc
    go_wp2
    go_loopw [9] (fun p wr => ∃ i : Nat, i ≤ on ∧ p = .int .i64 i ∧ RowsAt wr (some ⟨b, off, none⟩) on (vecsV zs c) ∧ Below w.heap.size w wr) (fun p _ => 12 - (intOf p).toNat)
    case atStart => exact ⟨0, by omega, rfl, O4.out, B4.out⟩
    case round =>
      obtain ⟨i, hi, rfl, hS, hB⟩ := hrel
      by_cases hlt : i < on
      · have hlt' : (i : Int) < on := by omega
        obtain ⟨ra, rn, rc, hcell, hrow⟩ := hS.at1 hlt
        have hbl := hS.lt1 (by omega)
        have hrv : (vecsV zs c).getD i [] = vecV zs c i := by
          rw [List.getD_eq_getElem?_getD]; simp [vecsV, hlz.out ▸ hlt]
        rw [hrv] at hrow
        have hrn : rn = card c := by rw [hrow.len, vecV_len']
        have hcd := card_le HC.out HG.out.le
        have h12 := HG.out.le
        have hV0 := Lib.hid (vec_zero HG.out HC.out hlt)
        have HCA := Lib.hid hrn
        have HS := Lib.hid hS
        have HB := Lib.hid hB
        have HROW := Lib.hid hrow
        have hrn2 : rn ≤ 12 := by omega
        have HLEN := Lib.hid hrow.len
        clear hS hB hrv hrow hrn hcd
        obtain ⟨wo, hwo⟩ : ∃ wo : World, wo = wr := ⟨_, rfl⟩
        subst hwo
        go_wp2
        go_loopw [10, 11] (fun u p wr => ∃ (k : Nat) (z : Bool), k ≤ rn ∧ p = .int .i64 k ∧ u = .bool z ∧ ZeroTo (vecV zs c i) k z ∧ ∃ q, wo.drewN q = wr) (fun _ p _ => 12 - (intOf p).toNat)
        case atStart => exact ⟨0, false, by omega, rfl, rfl, ZeroTo.zero _, 0, rfl⟩
        case round =>
          obtain ⟨k, z, hk, rfl, rfl, hz, q, rfl⟩ := hrel
          have hcq : (wo.drewN q).cell? ⟨b, off + i, none⟩ = some (.slice ra rn rc) := (cell_drewN hbl q).trans hcell
          have HZ := Lib.hid hz
          clear hz
          by_cases hlk : k < rn
          · have hlk' : (k : Int) < rn := by omega
            obtain ⟨rb, ro, rfl⟩ := HROW.out.addr (by omega)
            have hv := (HROW.out.drewN q).at1 hlk
            cases z with
            | true =>
              go_wp2
              go_roundw
              case rel => exact ⟨k + 1, true, by omega, by go_num, rfl, HZ.out.keep, q, rfl⟩
              case measure => simp [intOf]; omega
            | false =>
              cases hv0 : ((vecV zs c i)[k]?.getD 0 == 0) with
              | true =>
                have HN := Lib.hid (HZ.out.next (by rw [← HLEN.out]; exact hlk) hv0)
                go_wp2
                go_roundw
                case rel => exact ⟨k + 1, true, by omega, by go_num, rfl, HN.out, q, rfl⟩
                case measure => simp [intOf]; omega
              | false =>
                have HN := Lib.hid (HZ.out.next (by rw [← HLEN.out]; exact hlk) hv0)
                go_wp2
                go_roundw
                case rel => exact ⟨k + 1, false, by omega, by go_num, rfl, HN.out, q, rfl⟩
                case measure => simp [intOf]; omega
          · obtain rfl : rn = k := by omega
            have hzc : z = c.testBit i := by
              have h1 := HZ.out
              rw [HLEN.out] at h1
              rw [Bool.eq_iff_iff, h1.all, hV0.out]
            obtain ⟨wq, hwq⟩ : ∃ wq, wo.drewN q = wq := ⟨_, rfl⟩
            have HS2 := Lib.hid (HS.out.below (bdrewN wo q))
            have HB2 := Lib.hid (bnext HB.out (bdrewN wo q))
            rw [hwq] at hcq HS2 HB2 ⊢
            clear hwq HS HB HROW hcell
            cases hb : c.testBit i with
            | true =>
              have hbv := bit_yes hc4 hb
              rw [hb] at hzc
              subst hzc
              clear hb
              go_wp2
              go_quiet ((go_at_call 21; exact quiet_mine (lsize_is rn c _ hc5 HCA.out.symm)))
              go_wp2
              go_roundw
              case rel => exact ⟨i + 1, by omega, by go_num, (HS2.out.below (bdrewN _ _)), bnext HB2.out (bdrewN _ _)⟩
              case measure => simp [intOf]; omega
            | false =>
              have hbv := bit_no hc4 hb
              rw [hb] at hzc
              subst hzc
              clear hb
              go_wp2
              go_quiet ((go_at_call 21; exact quiet_mine (lsize_is rn c _ hc5 HCA.out.symm)))
              go_wp2
              go_roundw
              case rel => exact ⟨i + 1, by omega, by go_num, (HS2.out.below (bdrewN _ _)), bnext HB2.out (bdrewN _ _)⟩
              case measure => simp [intOf]; omega
      · obtain rfl : on = i := by omega
        go_wp2
        go_ret
        exact ⟨by simp, hB⟩
end Go.Proofs.Ytpllijjocccaaaa
