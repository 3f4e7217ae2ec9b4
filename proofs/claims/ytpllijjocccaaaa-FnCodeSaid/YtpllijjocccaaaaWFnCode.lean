/- The law FnCode, walked. -/
import Derived.Test.YtpllijjocccaaaaDraws
import Derived.Test.YtpllijjocccaaaaCodeL2
import Derived.Test.YtpllijjocccaaaaSIs
namespace Go.Proofs.Ytpllijjocccaaaa
open Go.RowKit Go.Shelf

set_option maxRecDepth 100000 in
set_option maxHeartbeats 4000000 in
theorem FnCode_walk (w : World) (a : Option Addr) (n cap : Nat) (h : BytesAt w a n cap) :
    Calls Try.prog 9 #[.slice a n cap] w fun e w' => e = .returned (.bool true) ∧ Below w.heap.size w w' := by
  have hbd := h.bd
  by_cases hn : n ≤ 1048576
  case neg =>
    have hn' : (1048576 : Int) < n := by omega
    go_enter Try.func9, Try.ntmps9
    go_wp2
    go_ret
    exact ⟨rfl, Below.refl _ _⟩
  have hn' : ¬ (1048576 : Int) < n := by omega
  go_enter Try.func9, Try.ntmps9
  go_wp2_with fail
  refine (DrawCodeIn_any _ _ _ _ h).mono ?_
  rintro e w1 ⟨ga, gn, gc, kd, c, zs, rfl, G1, hn1, hn7, _, hkd, hc, hb1⟩
  cases hv : codeInB zs kd c with
  | false =>
    have HV := Lib.hid hv
    clear hv
    go_wp2_with fail
    refine (CodeIn_is false _ _ _ _ _ _ _ G1.sl HV.out).mono ?_
    rintro e w2 ⟨rfl, hb2⟩
    have G2 := G1.below hb2
    have B2 := bnext hb1 hb2
    go_wp2_with fail
    refine (sCodeIn_is false _ _ _ _ _ _ _ G2.sl HV.out).mono ?_
    rintro e w3 ⟨rfl, hb3⟩
    go_wp2
    go_ret
    exact ⟨rfl, bnext B2 hb3⟩
  | true =>
    have hpw : 2 ^ gn ≤ 4096 := Nat.pow_le_pow_right (n := 2) (by omega) (show gn ≤ 12 by omega)
    have HL := Lib.hid G1.len
    have HV := Lib.hid hv
    have hk3 := (codeIn_iff.1 hv).2.1
    clear hv
    go_wp2_with fail
    refine (CodeIn_is true _ _ _ _ _ _ _ G1.sl HV.out).mono ?_
    rintro e w2 ⟨rfl, hb2⟩
    have G2 := G1.below hb2
    have B2 := bnext hb1 hb2
    go_wp2_with fail
    refine (sCodeIn_is true _ _ _ _ _ _ _ G2.sl HV.out).mono ?_
    rintro e w3 ⟨rfl, hb3⟩
    have G3 := Lib.hid (G2.below hb3)
    have B3 := Lib.hid (bnext B2 hb3)
    clear hb1 hb2 hb3 G1 G2 B2
    go_wp2
    go_loopw [8] (fun p wr => ∃ i : Nat, i ≤ gn ∧ p = .int .i64 i ∧ Arr wr w.heap.size ga gn gc zs ∧ Below w.heap.size w wr) (fun p _ => 12 - (intOf p).toNat)
    case atStart => exact ⟨0, by omega, rfl, G3.out, B3.out⟩
    case round =>
      obtain ⟨i, hi, rfl, hA, hB⟩ := hrel
      by_cases hlt : i < gn
      · have hlt' : (i : Int) < gn := by omega
        have hor := Lib.hid (codeIn_or HV.out (by rw [← HL.out]; exact hlt))
        have hk2 : 2 ^ i ≤ 4096 := Nat.le_trans (Nat.pow_le_pow_right (n := 2) (by omega) hi) hpw
        obtain ⟨m, hm⟩ : ∃ m, 2 ^ i = m := ⟨_, rfl⟩
        have hkc : (2 : Int) ^ i = (m : Int) := by rw [← hm]; simp
        rw [hm] at hor hk2
        have e1 : bits BinOp.or IntKind.i64 (c : Int) (m : Int) = ((c ||| m : Nat) : Int) := i64_or_nat _ _ (by omega) (by omega)
        have hw : IntKind.i64.wrap (m : Int) = m := IntWalk.i64_in _ (by omega)
        clear hm
        go_wp2_with fail
        refine (CodeIn_is true _ _ _ _ _ _ _ hA.sl hor.out).mono ?_
        rintro e w4 ⟨rfl, hb4⟩
        have hA4 := hA.below hb4
        have hB4 := bnext hB hb4
        clear hA hB hb4
        go_wp2
        go_roundw
        case rel => exact ⟨i + 1, by omega, by go_num, hA4, hB4⟩
        case measure => simp [intOf]; omega
      · obtain rfl : gn = i := by omega
        rcases (show kd = 0 ∨ kd = 1 ∨ kd = 2 ∨ kd = 3 by omega) with rfl | rfl | rfl | rfl
        · go_wp2
          go_ret
          exact ⟨rfl, hB⟩
        · have h0 := Lib.hid (codeIn_10 HV.out)
          go_wp2_with fail
          refine (CodeIn_is true _ _ _ _ _ _ _ hA.sl h0.out).mono ?_
          rintro e w4 ⟨rfl, hb4⟩
          have hB4 := bnext hB hb4
          go_wp2
          go_ret
          exact ⟨rfl, hB4⟩
        · have h0 := Lib.hid (codeIn_21 HV.out)
          go_wp2_with fail
          refine (CodeIn_is true _ _ _ _ _ _ _ hA.sl h0.out).mono ?_
          rintro e w4 ⟨rfl, hb4⟩
          have hB4 := bnext hB hb4
          go_wp2
          go_ret
          exact ⟨rfl, hB4⟩
        · go_wp2
          go_ret
          exact ⟨rfl, hB⟩
end Go.Proofs.Ytpllijjocccaaaa
