/- The law FnExactCodeVectors, walked. -/
import Derived.Test.YtipimkfmkdihpaaSVec
import Derived.Test.YtipimkfmkdihpaaRwsL
import Derived.Test.YtipimkfmkdihpaaRwsM
namespace Go.Proofs.Ytipimkfmkdihpaa
open Go.RowKit Go.Shelf

set_option linter.unusedVariables false
set_option maxRecDepth 100000 in
set_option maxHeartbeats 4000000 in
theorem FnExactCodeVectors_walk (w : World) (a0 : Option Addr) (n0 cap0 : Nat) (z0 : List Int) (hs0 : SlAt w a0 n0 z0) (hz0 : ∀ z ∈ z0, -9223372036854775808 ≤ z ∧ z ≤ 9223372036854775807) (i1 : Int) (hi1 : -9223372036854775808 ≤ i1 ∧ i1 ≤ 9223372036854775807) :
    Calls Try.prog 4 #[.slice a0 n0 cap0, .int .i64 i1] w fun e w' => e = .returned (.bool true) ∧ Below w.heap.size w w' := by
  have hbd0 := hs0.bd
  by_cases hn0 : n0 ≤ 1048576
  case neg =>
    have hn' : (1048576 : Int) < n0 := by omega
    go_enter Try.func4, Try.ntmps4
    go_wp2
    go_ret
    exact ⟨rfl, Below.refl _ _⟩
  have hm0 : ¬ (1048576 : Int) < n0 := by omega
  have HZ0 := Lib.hid hz0
  clear hz0
  go_enter Try.func4, Try.ntmps4
  have B0 : Below w.heap.size w w := Below.refl _ _
  have s0_0 := hs0
  go_wp2_with fail
  refine (toIntS_any a0 n0 cap0 z0 _ s0_0 hn0).mono ?_
  rintro e w1 ⟨pT0, cT0, rfl, T0_1, hb1⟩
  have B1 := bnext B0 hb1
  have s0_1 := hs0.below B1
  clear hb1 s0_0
  go_wp2_with fail
  refine (sCodeVectors_any _ _ _ _ _ _ T0_1.sl hi1).mono ?_
  rintro e w2 ⟨pW0, mW0, cW0, rfl, ⟨vW0, W0_2⟩, hb2⟩
  have B2 := bnext B1 hb2
  have T0_2 := T0_1.below hb2
  have s0_2 := hs0.below B2
  clear hb2 s0_1
  clear T0_2
  go_wp2_with fail
  refine (toIntS_any a0 n0 cap0 z0 _ s0_2 hn0).mono ?_
  rintro e w3 ⟨pX0, cX0, rfl, X0_3, hb3⟩
  have B3 := bnext B2 hb3
  have W0_3 := W0_2.below hb3
  have s0_3 := hs0.below B3
  clear hb3 s0_2
  go_wp2_with fail
  refine (CodeVectors_any _ _ _ _ _ _ X0_3.sl hi1).mono ?_
  rintro e w4 ⟨pG0, mG0, cG0, rfl, ⟨vG0, G0_4⟩, hb4⟩
  have B4 := bnext B3 hb4
  have W0_4 := W0_3.below hb4
  have X0_4 := X0_3.below hb4
  have s0_4 := hs0.below B4
  clear hb4 s0_3
  go_wp2_with fail
  refine (eqIntSS_same _ _ _ _ _ _ _ _ G0_4.rowsAt W0_4.rowsAt).mono ?_
  rintro e w5 ⟨rfl, hb5⟩
  have B5 := bnext B4 hb5
  have W0_5 := W0_4.below hb5
  have X0_5 := X0_4.below hb5
  have G0_5 := G0_4.below hb5
  have s0_5 := hs0.below B5
  clear hb5 s0_4
  go_wp2_with fail
  refine (toIntS_any a0 n0 cap0 z0 _ s0_5 hn0).mono ?_
  rintro e w6 ⟨pY0, cY0, rfl, Y0_6, hb6⟩
  have B6 := bnext B5 hb6
  have W0_6 := W0_5.below hb6
  have X0_6 := X0_5.below hb6
  have G0_6 := G0_5.below hb6
  have s0_6 := hs0.below B6
  clear hb6 s0_5
  go_wp2_with fail
  refine (eqIntS_same _ _ _ _ _ _ _ _ X0_6.sl Y0_6.sl).mono ?_
  rintro e w7 ⟨rfl, hb7⟩
  have B7 := bnext B6 hb7
  have W0_7 := W0_6.below hb7
  have X0_7 := X0_6.below hb7
  have G0_7 := G0_6.below hb7
  have Y0_7 := Y0_6.below hb7
  have s0_7 := hs0.below B7
  clear hb7 s0_6
  clear Y0_7
  go_wp2_with fail
  refine (markIntS_any _ _ _ _ _ _ _ X0_7 (by omega) (by omega) (by omega)).mono ?_
  rintro e w8 ⟨rfl, X0_8, hS8⟩
  have W0_8 := W0_7.stay' hS8 (apartO W0_2.lt' X0_7.ge)
  have G0_8 := G0_7.stay' hS8 (apartN G0_7.ge X0_3.lt')
  have B8 := sbelow B7 hS8 (fun k hk => Nat.le_trans B2.size (X0_7.ge k hk)) B7.size
  have s0_8 := hs0.below B8
  clear hS8
  clear X0_8
  go_wp2_with fail
  refine (eqIntSS_same _ _ _ _ _ _ _ _ G0_8.rowsAt W0_8.rowsAt).mono ?_
  rintro e w9 ⟨rfl, hb9⟩
  have B9 := bnext B8 hb9
  have W0_9 := W0_8.below hb9
  have G0_9 := G0_8.below hb9
  have s0_9 := hs0.below B9
  clear hb9 s0_8
  have nbG : mG0 ≤ 4096 := by rw [G0_9.len]; exact CodeVectors_small.1
  go_wp2_with fail
  refine (markIntSS_any _ _ _ _ _ _ _ _ G0_9 (by omega) (by omega) (by omega) (Nat.le_trans CodeVectors_small.2 (by omega))).mono ?_
  rintro e w10 ⟨rfl, G0_10, hS10⟩
  have W0_10 := W0_9.stay' hS10 (apartO W0_3.lt' G0_9.ge)
  have B10 := sbelow B9 hS10 (fun k hk => Nat.le_trans B3.size (G0_9.ge k hk)) B9.size
  have s0_10 := hs0.below B10
  clear hS10
  go_wp2_with fail
  refine (heldIntSS_any _ _ _ _ _ _ G0_10.rowsAt (by omega) (by omega) (by omega) (Nat.le_trans CodeVectors_small.2 (by omega))).mono ?_
  rintro e w11 ⟨rfl, rfl⟩
  go_wp2_with fail
  refine (toIntS_any a0 n0 cap0 z0 _ s0_10 hn0).mono ?_
  rintro e w11 ⟨pH0, cH0, rfl, H0_11, hb11⟩
  have B11 := bnext B10 hb11
  have W0_11 := W0_10.below hb11
  have G0_11 := G0_10.below hb11
  have s0_11 := hs0.below B11
  clear hb11 s0_10
  go_wp2_with fail
  refine (CodeVectors_any _ _ _ _ _ _ H0_11.sl hi1).mono ?_
  rintro e w12 ⟨pH9, mH9, cH9, rfl, ⟨vH9, H9_12⟩, hb12⟩
  have B12 := bnext B11 hb12
  have W0_12 := W0_11.below hb12
  have G0_12 := G0_11.below hb12
  have H0_12 := H0_11.below hb12
  have s0_12 := hs0.below B12
  clear hb12 s0_11
  clear H0_12
  go_wp2_with fail
  refine (eqIntSS_same _ _ _ _ _ _ _ _ H9_12.rowsAt W0_12.rowsAt).mono ?_
  rintro e w13 ⟨rfl, hb13⟩
  have B13 := bnext B12 hb13
  have W0_13 := W0_12.below hb13
  have G0_13 := G0_12.below hb13
  have H9_13 := H9_12.below hb13
  have s0_13 := hs0.below B13
  clear hb13 s0_12
  go_wp2_with fail
  refine (heldIntSS_any _ _ _ _ _ _ G0_13.rowsAt (by omega) (by omega) (by omega) (Nat.le_trans CodeVectors_small.2 (by omega))).mono ?_
  rintro e w' ⟨rfl, rfl⟩
  go_wp2
  go_ret
  exact ⟨rfl, B13⟩
end Go.Proofs.Ytipimkfmkdihpaa
