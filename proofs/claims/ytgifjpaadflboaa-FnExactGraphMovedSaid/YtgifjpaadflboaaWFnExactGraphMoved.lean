/- The law FnExactGraphMoved, walked. -/
import Derived.Test.YtgifjpaadflboaaMovedI
import Derived.Test.YtgifjpaadflboaaRws
import Derived.Test.YtgifjpaadflboaaRwsL
import Derived.Test.YtgifjpaadflboaaRwsM
import Derived.Test.YtgifjpaadflboaaFrameR
namespace Go.Proofs.Ytgifjpaadflboaa
open Go.RowKit Go.Shelf

set_option linter.unusedVariables false
set_option maxRecDepth 100000 in
set_option maxHeartbeats 4000000 in
theorem FnExactGraphMoved_walk (w : World) (a0 : Option Addr) (n0 cap0 : Nat) (z0 : List Int) (hs0 : SlAt w a0 n0 z0) (hz0 : ∀ z ∈ z0, -9223372036854775808 ≤ z ∧ z ≤ 9223372036854775807) (a1 : Option Addr) (n1 cap1 : Nat) (z1 : List Int) (hs1 : SlAt w a1 n1 z1) (hz1 : ∀ z ∈ z1, -9223372036854775808 ≤ z ∧ z ≤ 9223372036854775807) :
    Calls Try.prog 9 #[.slice a0 n0 cap0, .slice a1 n1 cap1] w fun e w' => e = .returned (.bool true) ∧ Below w.heap.size w w' := by
  have hbd0 := hs0.bd
  have hbd1 := hs1.bd
  by_cases hn0 : n0 ≤ 1048576
  case neg =>
    have hn' : (1048576 : Int) < n0 := by omega
    go_enter Try.func9, Try.ntmps9
    go_wp2
    go_ret
    exact ⟨rfl, Below.refl _ _⟩
  by_cases hn1 : n1 ≤ 1048576
  case neg =>
    have hn' : (1048576 : Int) < n1 := by omega
    have hm0 : ¬ (1048576 : Int) < n0 := by omega
    go_enter Try.func9, Try.ntmps9
    go_wp2
    go_ret
    exact ⟨rfl, Below.refl _ _⟩
  have hm0 : ¬ (1048576 : Int) < n0 := by omega
  have hm1 : ¬ (1048576 : Int) < n1 := by omega
  have HZ0 := Lib.hid hz0
  clear hz0
  have HZ1 := Lib.hid hz1
  clear hz1
  go_enter Try.func9, Try.ntmps9
  have B0 : Below w.heap.size w w := Below.refl _ _
  have s0_0 := hs0
  have s1_0 := hs1
  go_wp2_with fail
  refine (toIntS_any a0 n0 cap0 z0 _ s0_0 hn0).mono ?_
  rintro e w1 ⟨pT0, cT0, rfl, T0_1, hb1⟩
  have B1 := bnext B0 hb1
  have s0_1 := hs0.below B1
  have s1_1 := hs1.below B1
  clear hb1 s0_0 s1_0
  go_wp2_with fail
  refine (toIntS_any a1 n1 cap1 z1 _ s1_1 hn1).mono ?_
  rintro e w2 ⟨pT1, cT1, rfl, T1_2, hb2⟩
  have B2 := bnext B1 hb2
  have T0_2 := T0_1.below hb2
  have s0_2 := hs0.below B2
  have s1_2 := hs1.below B2
  clear hb2 s0_1 s1_1
  go_wp2_with fail
  refine (sGraphMoved_any _ _ _ _ _ _ _ _ _ T0_2.sl T1_2.sl).mono ?_
  rintro e w3 ⟨pW0, mW0, cW0, rfl, W0_3, hb3⟩
  have B3 := bnext B2 hb3
  have T0_3 := T0_2.below hb3
  have T1_3 := T1_2.below hb3
  have s0_3 := hs0.below B3
  have s1_3 := hs1.below B3
  clear hb3 s0_2 s1_2
  clear T0_3
  clear T1_3
  go_wp2_with fail
  refine (toIntS_any a0 n0 cap0 z0 _ s0_3 hn0).mono ?_
  rintro e w4 ⟨pX0, cX0, rfl, X0_4, hb4⟩
  have B4 := bnext B3 hb4
  have W0_4 := W0_3.below hb4
  have s0_4 := hs0.below B4
  have s1_4 := hs1.below B4
  clear hb4 s0_3 s1_3
  go_wp2_with fail
  refine (toIntS_any a1 n1 cap1 z1 _ s1_4 hn1).mono ?_
  rintro e w5 ⟨pX1, cX1, rfl, X1_5, hb5⟩
  have B5 := bnext B4 hb5
  have W0_5 := W0_4.below hb5
  have X0_5 := X0_4.below hb5
  have s0_5 := hs0.below B5
  have s1_5 := hs1.below B5
  clear hb5 s0_4 s1_4
  go_wp2_with fail
  refine (GraphMoved_any _ _ _ _ _ _ _ _ _ X0_5.sl X1_5.sl).mono ?_
  rintro e w6 ⟨pG0, mG0, cG0, rfl, G0_6, hb6⟩
  have B6 := bnext B5 hb6
  have W0_6 := W0_5.below hb6
  have X0_6 := X0_5.below hb6
  have X1_6 := X1_5.below hb6
  have s0_6 := hs0.below B6
  have s1_6 := hs1.below B6
  clear hb6 s0_5 s1_5
  go_wp2_with fail
  refine (eqIntS_same _ _ _ _ _ _ _ _ G0_6.sl W0_6.sl).mono ?_
  rintro e w7 ⟨rfl, hb7⟩
  have B7 := bnext B6 hb7
  have W0_7 := W0_6.below hb7
  have X0_7 := X0_6.below hb7
  have X1_7 := X1_6.below hb7
  have G0_7 := G0_6.below hb7
  have s0_7 := hs0.below B7
  have s1_7 := hs1.below B7
  clear hb7 s0_6 s1_6
  go_wp2_with fail
  refine (toIntS_any a0 n0 cap0 z0 _ s0_7 hn0).mono ?_
  rintro e w8 ⟨pY0, cY0, rfl, Y0_8, hb8⟩
  have B8 := bnext B7 hb8
  have W0_8 := W0_7.below hb8
  have X0_8 := X0_7.below hb8
  have X1_8 := X1_7.below hb8
  have G0_8 := G0_7.below hb8
  have s0_8 := hs0.below B8
  have s1_8 := hs1.below B8
  clear hb8 s0_7 s1_7
  go_wp2_with fail
  refine (eqIntS_same _ _ _ _ _ _ _ _ X0_8.sl Y0_8.sl).mono ?_
  rintro e w9 ⟨rfl, hb9⟩
  have B9 := bnext B8 hb9
  have W0_9 := W0_8.below hb9
  have X0_9 := X0_8.below hb9
  have X1_9 := X1_8.below hb9
  have G0_9 := G0_8.below hb9
  have Y0_9 := Y0_8.below hb9
  have s0_9 := hs0.below B9
  have s1_9 := hs1.below B9
  clear hb9 s0_8 s1_8
  clear Y0_9
  go_wp2_with fail
  refine (toIntS_any a1 n1 cap1 z1 _ s1_9 hn1).mono ?_
  rintro e w10 ⟨pY1, cY1, rfl, Y1_10, hb10⟩
  have B10 := bnext B9 hb10
  have W0_10 := W0_9.below hb10
  have X0_10 := X0_9.below hb10
  have X1_10 := X1_9.below hb10
  have G0_10 := G0_9.below hb10
  have s0_10 := hs0.below B10
  have s1_10 := hs1.below B10
  clear hb10 s0_9 s1_9
  go_wp2_with fail
  refine (eqIntS_same _ _ _ _ _ _ _ _ X1_10.sl Y1_10.sl).mono ?_
  rintro e w11 ⟨rfl, hb11⟩
  have B11 := bnext B10 hb11
  have W0_11 := W0_10.below hb11
  have X0_11 := X0_10.below hb11
  have X1_11 := X1_10.below hb11
  have G0_11 := G0_10.below hb11
  have Y1_11 := Y1_10.below hb11
  have s0_11 := hs0.below B11
  have s1_11 := hs1.below B11
  clear hb11 s0_10 s1_10
  clear Y1_11
  go_wp2_with fail
  refine (markIntS_any _ _ _ _ _ _ _ X0_11 (by omega) (by omega) (by omega)).mono ?_
  rintro e w12 ⟨rfl, X0_12, hS12⟩
  have W0_12 := W0_11.stay' hS12 (apartO W0_3.lt' X0_11.ge)
  have X1_12 := X1_11.stay' hS12 (apartN X1_11.ge X0_4.lt')
  have G0_12 := G0_11.stay' hS12 (apartN G0_11.ge X0_5.lt')
  have B12 := sbelow B11 hS12 (fun k hk => Nat.le_trans B3.size (X0_11.ge k hk)) B11.size
  have s0_12 := hs0.below B12
  have s1_12 := hs1.below B12
  clear hS12
  go_wp2_with fail
  refine (markIntS_any _ _ _ _ _ _ _ X1_12 (by omega) (by omega) (by omega)).mono ?_
  rintro e w13 ⟨rfl, X1_13, hS13⟩
  have W0_13 := W0_12.stay' hS13 (apartO W0_4.lt' X1_12.ge)
  have X0_13 := X0_12.stay' hS13 (apartO X0_4.lt' X1_12.ge)
  have G0_13 := G0_12.stay' hS13 (apartN G0_12.ge X1_5.lt')
  have B13 := sbelow B12 hS13 (fun k hk => Nat.le_trans B4.size (X1_12.ge k hk)) B12.size
  have s0_13 := hs0.below B13
  have s1_13 := hs1.below B13
  clear hS13
  clear X0_13
  clear X1_13
  go_wp2_with fail
  refine (eqIntS_same _ _ _ _ _ _ _ _ G0_13.sl W0_13.sl).mono ?_
  rintro e w14 ⟨rfl, hb14⟩
  have B14 := bnext B13 hb14
  have W0_14 := W0_13.below hb14
  have G0_14 := G0_13.below hb14
  have s0_14 := hs0.below B14
  have s1_14 := hs1.below B14
  clear hb14 s0_13 s1_13
  have nbG : mG0 ≤ 4096 := by rw [G0_14.len]; exact GraphMoved_small
  go_wp2_with fail
  refine (markIntS_any _ _ _ _ _ _ _ G0_14 (by omega) (by omega) (by omega)).mono ?_
  rintro e w15 ⟨rfl, G0_15, hS15⟩
  have W0_15 := W0_14.stay' hS15 (apartO W0_5.lt' G0_14.ge)
  have B15 := sbelow B14 hS15 (fun k hk => Nat.le_trans B5.size (G0_14.ge k hk)) B14.size
  have s0_15 := hs0.below B15
  have s1_15 := hs1.below B15
  clear hS15
  go_wp2_with fail
  refine (heldIntS_any _ _ _ _ _ G0_15.sl (by omega) (by omega) (by omega)).mono ?_
  rintro e w16 ⟨rfl, rfl⟩
  go_wp2_with fail
  refine (toIntS_any a0 n0 cap0 z0 _ s0_15 hn0).mono ?_
  rintro e w16 ⟨pH0, cH0, rfl, H0_16, hb16⟩
  have B16 := bnext B15 hb16
  have W0_16 := W0_15.below hb16
  have G0_16 := G0_15.below hb16
  have s0_16 := hs0.below B16
  have s1_16 := hs1.below B16
  clear hb16 s0_15 s1_15
  go_wp2_with fail
  refine (toIntS_any a1 n1 cap1 z1 _ s1_16 hn1).mono ?_
  rintro e w17 ⟨pH1, cH1, rfl, H1_17, hb17⟩
  have B17 := bnext B16 hb17
  have W0_17 := W0_16.below hb17
  have G0_17 := G0_16.below hb17
  have H0_17 := H0_16.below hb17
  have s0_17 := hs0.below B17
  have s1_17 := hs1.below B17
  clear hb17 s0_16 s1_16
  go_wp2_with fail
  refine (GraphMoved_any _ _ _ _ _ _ _ _ _ H0_17.sl H1_17.sl).mono ?_
  rintro e w18 ⟨pH9, mH9, cH9, rfl, H9_18, hb18⟩
  have B18 := bnext B17 hb18
  have W0_18 := W0_17.below hb18
  have G0_18 := G0_17.below hb18
  have H0_18 := H0_17.below hb18
  have H1_18 := H1_17.below hb18
  have s0_18 := hs0.below B18
  have s1_18 := hs1.below B18
  clear hb18 s0_17 s1_17
  clear H0_18
  clear H1_18
  go_wp2_with fail
  refine (eqIntS_same _ _ _ _ _ _ _ _ H9_18.sl W0_18.sl).mono ?_
  rintro e w19 ⟨rfl, hb19⟩
  have B19 := bnext B18 hb19
  have W0_19 := W0_18.below hb19
  have G0_19 := G0_18.below hb19
  have H9_19 := H9_18.below hb19
  have s0_19 := hs0.below B19
  have s1_19 := hs1.below B19
  clear hb19 s0_18 s1_18
  go_wp2_with fail
  refine (heldIntS_any _ _ _ _ _ G0_19.sl (by omega) (by omega) (by omega)).mono ?_
  rintro e w' ⟨rfl, rfl⟩
  go_wp2
  go_ret
  exact ⟨rfl, B19⟩
end Go.Proofs.Ytgifjpaadflboaa
