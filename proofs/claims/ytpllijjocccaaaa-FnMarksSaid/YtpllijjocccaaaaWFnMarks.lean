/- The law FnMarks, walked. -/
import Derived.Test.YtpllijjocccaaaaDraws
import Derived.Test.YtpllijjocccaaaaCodeL4
import Derived.Test.YtpllijjocccaaaaSMarks
import Derived.Test.YtpllijjocccaaaaLawKit
namespace Go.Proofs.Ytpllijjocccaaaa
open Go.RowKit Go.Shelf

set_option maxRecDepth 100000 in
set_option maxHeartbeats 4000000 in
theorem FnMarks_walk (w : World) (a : Option Addr) (n cap : Nat) (h : BytesAt w a n cap) :
    Calls Try.prog 7 #[.slice a n cap] w fun e w' => e = .returned (.bool true) ∧ Below w.heap.size w w' := by
  have hbd := h.bd
  by_cases hn : n ≤ 1048576
  case neg =>
    have hn' : (1048576 : Int) < n := by omega
    go_enter Try.func7, Try.ntmps7
    go_wp2
    go_ret
    exact ⟨rfl, Below.refl _ _⟩
  have hn' : ¬ (1048576 : Int) < n := by omega
  go_enter Try.func7, Try.ntmps7
  go_wp2_with fail
  refine (DrawCodeMarks_any _ _ _ _ h).mono ?_
  rintro e w1 ⟨ga, gn, gc, c, zs, rfl, G1, hn1, hn7, _, hc, hb1⟩
  have hpw : 2 ^ gn ≤ 4096 := Nat.pow_le_pow_right (n := 2) (by omega) (show gn ≤ 12 by omega)
  have hlz := Lib.hid G1.len
  go_wp2_with fail
  refine (CodeMarks_any _ _ _ _ _ _ G1.sl (by omega)).mono ?_
  rintro e w2 ⟨oa, on, oc, rfl, O2, hb2⟩
  have G2 := G1.below hb2
  have B2 := bnext hb1 hb2
  go_wp2_with fail
  refine (sCodeMarks_any _ _ _ _ _ _ G2.sl (by omega)).mono ?_
  rintro e w3 ⟨sa, sn, sc, rfl, S3, hb3⟩
  have O3 := O2.below hb3
  have B3 := bnext B2 hb3
  clear G1 G2 O2 hb1 hb2 hb3 B2
  cases hf : fitsB zs c with
  | false =>
    go_wp2_with fail
    refine (sameInts_yes _ _ _ _ _ _ _ _ _ O3.sl S3.sl rfl).mono ?_
    rintro e w4 ⟨rfl, hb4⟩
    have O4 := O3.below hb4
    have S4 := S3.below hb4
    have B4 := bnext B3 hb4
    go_wp2_with fail
    refine (sameInts_yes _ _ _ _ _ _ _ _ _ O4.sl S4.sl rfl).mono ?_
    rintro e w5 ⟨rfl, hb5⟩
    go_wp2
    go_ret
    exact ⟨rfl, bnext B4 hb5⟩
  | true =>
    have hR : CodeMarksR zs c = marksV zs c := by rw [CodeMarksR, if_pos hf, Int.toNat_natCast]
    have hon : on = gn := by rw [O3.len, hR, marksV_len, ← hlz.out]
    subst hon
    have hfi := hf
    simp only [fitsB, Bool.and_eq_true] at hfi
    have hG0 := isG_of hfi.1
    rw [← hlz.out] at hG0
    have HG := Lib.hid hG0
    go_wp2_with fail
    refine (sameInts_yes _ _ _ _ _ _ _ _ _ O3.sl S3.sl rfl).mono ?_
    rintro e w4 ⟨rfl, hb4⟩
    have O4 := O3.below hb4
    have B4 := Lib.hid (bnext B3 hb4)
    rw [hR] at O4
    obtain ⟨b, off, rfl⟩ := O4.sl.addr (by omega)
    have O4 := Lib.hid O4.sl
    have HX := Lib.hid (fun (wr : World) (hw : SlAt wr (some ⟨b, off, none⟩) on (marksV zs c)) (i : Nat) (hi : i < on) => (by
      have := hw.at1 hi
      rwa [marksV_at (by rw [← hlz.out]; exact hi), markV_bN] at this : wr.cell? ⟨b, off + i, none⟩ = some (.int .i64 ((bN zs i &&& c : Nat) : Int))))
    have hc4 : c ≤ 4096 := by omega
    have HB := Lib.hid (fun i : Nat => (Nat.le_trans Nat.and_le_right hc4 : bN zs i &&& c ≤ 4096))
    clear hf hfi hG0 hR S3 O3 B3 hb4
    go_wp2
    go_loopw [9] (fun p wr => ∃ i : Nat, i ≤ on ∧ p = .int .i64 i ∧ SlAt wr (some ⟨b, off, none⟩) on (marksV zs c) ∧ Below w.heap.size w wr) (fun p _ => 12 - (intOf p).toNat)
    case atStart => exact ⟨0, by omega, rfl, O4.out, B4.out⟩
    case round =>
      obtain ⟨i, hi, rfl, hS, hB⟩ := hrel
      by_cases hlt : i < on
      · have hlt' : (i : Int) < on := by omega
        have hx := HX.out _ hS i hlt
        have HS := Lib.hid hS
        have HBB := Lib.hid hB
        clear hS hB
        obtain ⟨x, hxe⟩ : ∃ x, bN zs i &&& c = x := ⟨_, rfl⟩
        have hx4 := HB.out i
        have e1 := andNot_nat hx4 hc4 (mark_sub zs c i)
        rw [hxe] at hx hx4 e1
        have HXE := Lib.hid hxe
        clear hxe
        cases hci : c.testBit i with
        | true =>
          have hb1 := bit_yes hc4 hci
          have hb2 := bit_yes (i := i) hx4 (by rw [← HXE.out]; exact mark_self hci)
          have HCI := Lib.hid hci
          clear hci
          go_wp2
          go_loopw [10] (fun p wr => ∃ k : Nat, k ≤ on ∧ p = .int .i64 k ∧ SlAt wr (some ⟨b, off, none⟩) on (marksV zs c) ∧ Below w.heap.size w wr) (fun p _ => 12 - (intOf p).toNat)
          case atStart => exact ⟨0, by omega, rfl, HS.out, HBB.out⟩
          case round =>
            obtain ⟨k, hk, rfl, hS, hB⟩ := hrel
            by_cases hlk : k < on
            · have hlk' : (k : Int) < on := by omega
              have hy := HX.out _ hS k hlk
              have HS2 := Lib.hid hS
              have HB2 := Lib.hid hB
              clear hS hB
              obtain ⟨y, hye⟩ : ∃ y, bN zs k &&& c = y := ⟨_, rfl⟩
              have hy4 := HB.out k
              rw [hye] at hy hy4
              cases hck : c.testBit k with
              | true =>
                have hb3 := bit_yes hc4 hck
                have hsym := mark_symm HG.out HCI.out hck
                rw [HXE.out, hye] at hsym
                have hx5 := HX.out _ HS2.out i hlt
                rw [HXE.out] at hx5
                cases hxk : x.testBit k with
                | true =>
                  have hb4 := bit_yes hx4 hxk
                  have hb5 := bit_yes (i := i) hy4 (by rw [← hsym]; exact hxk)
                  clear hck hsym hxk hye
                  go_wp2
                  go_quiet (fail)
                  go_wp2
                  go_roundw
                  case rel => exact ⟨k + 1, by omega, by go_num, HS2.out.below (bdrewN _ _), bnext HB2.out (bdrewN _ _)⟩
                  case measure => simp [intOf]; omega
                | false =>
                  have hb4 := bit_no hx4 hxk
                  have hb5 := bit_no (i := i) hy4 (by rw [← hsym]; exact hxk)
                  clear hck hsym hxk hye
                  go_wp2
                  go_quiet (fail)
                  go_wp2
                  go_roundw
                  case rel => exact ⟨k + 1, by omega, by go_num, HS2.out.below (bdrewN _ _), bnext HB2.out (bdrewN _ _)⟩
                  case measure => simp [intOf]; omega
              | false =>
                have hb3 := bit_no hc4 hck
                clear hck hye
                go_wp2
                go_quiet (fail)
                go_wp2
                go_roundw
                case rel => exact ⟨k + 1, by omega, by go_num, HS2.out.below (bdrewN _ _), bnext HB2.out (bdrewN _ _)⟩
                case measure => simp [intOf]; omega
            · obtain rfl : on = k := by omega
              have HS2 := Lib.hid hS
              have HB2 := Lib.hid hB
              clear hS hB
              go_wp2
              go_roundw
              case rel => exact ⟨i + 1, by omega, by go_num, HS2.out, HB2.out⟩
              case measure => simp [intOf]; omega
        | false =>
          have hb1 := bit_no hc4 hci
          clear hci
          go_wp2
          go_loopw [10] (fun p wr => ∃ k : Nat, k ≤ on ∧ p = .int .i64 k ∧ SlAt wr (some ⟨b, off, none⟩) on (marksV zs c) ∧ Below w.heap.size w wr) (fun p _ => 12 - (intOf p).toNat)
          case atStart => exact ⟨0, by omega, rfl, HS.out, HBB.out⟩
          case round =>
            obtain ⟨k, hk, rfl, hS, hB⟩ := hrel
            have HS2 := Lib.hid hS
            have HB2 := Lib.hid hB
            clear hS hB
            by_cases hlk : k < on
            · have hlk' : (k : Int) < on := by omega
              go_wp2
              go_quiet (fail)
              go_wp2
              go_roundw
              case rel => exact ⟨k + 1, by omega, by go_num, HS2.out.below (bdrewN _ _), bnext HB2.out (bdrewN _ _)⟩
              case measure => simp [intOf]; omega
            · obtain rfl : on = k := by omega
              go_wp2
              go_roundw
              case rel => exact ⟨i + 1, by omega, by go_num, HS2.out, HB2.out⟩
              case measure => simp [intOf]; omega
      · obtain rfl : on = i := by omega
        go_wp2
        go_ret
        exact ⟨by simp, hB⟩
end Go.Proofs.Ytpllijjocccaaaa
