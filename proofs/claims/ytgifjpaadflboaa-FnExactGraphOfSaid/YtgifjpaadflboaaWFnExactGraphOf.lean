/- The law FnExactGraphOf, walked. -/
import Derived.Test.YtgifjpaadflboaaSGraphOf
namespace Go.Proofs.Ytgifjpaadflboaa
open Go.RowKit Go.Shelf

set_option linter.unusedVariables false
set_option maxRecDepth 100000 in
set_option maxHeartbeats 4000000 in
theorem FnExactGraphOf_walk (w : World) (i0 : Int) (hi0 : -9223372036854775808 ≤ i0 ∧ i0 ≤ 9223372036854775807) (a1 : Option Addr) (n1 cap1 : Nat) (z1 : List (List Int)) (hs1 : RowsAt w a1 n1 z1) (hz1 : ∀ r ∈ z1, ∀ z ∈ r, -9223372036854775808 ≤ z ∧ z ≤ 9223372036854775807) :
    Calls Try.prog 8 #[.int .i64 i0, .slice a1 n1 cap1] w fun e w' => e = .returned (.bool true) ∧ Below w.heap.size w w' := by
  have hbd1 := hs1.bd
  have HZ1 := Lib.hid hz1
  clear hz1
  go_enter Try.func8, Try.ntmps8
  go_wp2_with fail
  refine (szIntSS_any a1 n1 cap1 z1 1048576 w hs1 (by omega) (by omega)).mono ?_
  rintro e w' ⟨left, rfl, hleft, rfl⟩
  rcases hleft with rfl | ⟨hl0, hl1⟩
  · go_wp2
    go_ret
    exact ⟨rfl, Below.refl _ _⟩
  have hneg : ¬ left < 0 := by omega
  have ht1 : totLen z1 ≤ 1048576 := by omega
  have hn1 : n1 ≤ 1048576 := by omega
  clear hl1
  have B0 : Below w.heap.size w w := Below.refl _ _
  have s1_0 := hs1
  go_wp2_with fail
  refine (toIntSS_any a1 n1 cap1 z1 _ s1_0 hn1 (fun r hr => Nat.le_trans (row_le_totLen hr) ht1)).mono ?_
  rintro e w1 ⟨pT1, cT1, rfl, ⟨vT1, T1_1⟩, hb1⟩
  have B1 := bnext B0 hb1
  have s1_1 := hs1.below B1
  clear hb1 s1_0
  go_wp2_with fail
  refine (sGraphOf_any _ _ _ _ _ _ hi0 T1_1.rowsAt).mono ?_
  rintro e w2 ⟨pW0, mW0, cW0, rfl, W0_2, hb2⟩
  have B2 := bnext B1 hb2
  have T1_2 := T1_1.below hb2
  have s1_2 := hs1.below B2
  clear hb2 s1_1
  clear T1_2
  go_wp2_with fail
  refine (toIntSS_any a1 n1 cap1 z1 _ s1_2 hn1 (fun r hr => Nat.le_trans (row_le_totLen hr) ht1)).mono ?_
  rintro e w3 ⟨pX1, cX1, rfl, ⟨vX1, X1_3⟩, hb3⟩
  have B3 := bnext B2 hb3
  have W0_3 := W0_2.below hb3
  have s1_3 := hs1.below B3
  clear hb3 s1_2
  go_wp2_with fail
  refine (GraphOf_any _ _ _ _ _ _ hi0 X1_3.rowsAt).mono ?_
  rintro e w4 ⟨pG0, mG0, cG0, rfl, G0_4, hb4⟩
  have B4 := bnext B3 hb4
  have W0_4 := W0_3.below hb4
  have X1_4 := X1_3.below hb4
  have s1_4 := hs1.below B4
  clear hb4 s1_3
  go_wp2_with fail
  refine (eqIntS_same _ _ _ _ _ _ _ _ G0_4.sl W0_4.sl).mono ?_
  rintro e w5 ⟨rfl, hb5⟩
  have B5 := bnext B4 hb5
  have W0_5 := W0_4.below hb5
  have X1_5 := X1_4.below hb5
  have G0_5 := G0_4.below hb5
  have s1_5 := hs1.below B5
  clear hb5 s1_4
  go_wp2_with fail
  refine (toIntSS_any a1 n1 cap1 z1 _ s1_5 hn1 (fun r hr => Nat.le_trans (row_le_totLen hr) ht1)).mono ?_
  rintro e w6 ⟨pY1, cY1, rfl, ⟨vY1, Y1_6⟩, hb6⟩
  have B6 := bnext B5 hb6
  have W0_6 := W0_5.below hb6
  have X1_6 := X1_5.below hb6
  have G0_6 := G0_5.below hb6
  have s1_6 := hs1.below B6
  clear hb6 s1_5
  go_wp2_with fail
  refine (eqIntSS_same _ _ _ _ _ _ _ _ X1_6.rowsAt Y1_6.rowsAt).mono ?_
  rintro e w7 ⟨rfl, hb7⟩
  have B7 := bnext B6 hb7
  have W0_7 := W0_6.below hb7
  have X1_7 := X1_6.below hb7
  have G0_7 := G0_6.below hb7
  have Y1_7 := Y1_6.below hb7
  have s1_7 := hs1.below B7
  clear hb7 s1_6
  clear Y1_7
  go_wp2_with fail
  refine (markIntSS_any _ _ _ _ _ _ _ _ X1_7 (by omega) (by omega) (by omega) (Nat.le_trans ht1 (by omega))).mono ?_
  rintro e w8 ⟨rfl, X1_8, hS8⟩
  have W0_8 := W0_7.stay' hS8 (apartO W0_2.lt' X1_7.ge)
  have G0_8 := G0_7.stay' hS8 (apartN G0_7.ge X1_3.lt')
  have B8 := sbelow B7 hS8 (fun k hk => Nat.le_trans B2.size (X1_7.ge k hk)) B7.size
  have s1_8 := hs1.below B8
  clear hS8
  clear X1_8
  go_wp2_with fail
  refine (eqIntS_same _ _ _ _ _ _ _ _ G0_8.sl W0_8.sl).mono ?_
  rintro e w9 ⟨rfl, hb9⟩
  have B9 := bnext B8 hb9
  have W0_9 := W0_8.below hb9
  have G0_9 := G0_8.below hb9
  have s1_9 := hs1.below B9
  clear hb9 s1_8
  have nbG : mG0 ≤ 4096 := by rw [G0_9.len]; exact GraphOf_small
  go_wp2_with fail
  refine (markIntS_any _ _ _ _ _ _ _ G0_9 (by omega) (by omega) (by omega)).mono ?_
  rintro e w10 ⟨rfl, G0_10, hS10⟩
  have W0_10 := W0_9.stay' hS10 (apartO W0_3.lt' G0_9.ge)
  have B10 := sbelow B9 hS10 (fun k hk => Nat.le_trans B3.size (G0_9.ge k hk)) B9.size
  have s1_10 := hs1.below B10
  clear hS10
  go_wp2_with fail
  refine (heldIntS_any _ _ _ _ _ G0_10.sl (by omega) (by omega) (by omega)).mono ?_
  rintro e w11 ⟨rfl, rfl⟩
  go_wp2_with fail
  refine (toIntSS_any a1 n1 cap1 z1 _ s1_10 hn1 (fun r hr => Nat.le_trans (row_le_totLen hr) ht1)).mono ?_
  rintro e w11 ⟨pH1, cH1, rfl, ⟨vH1, H1_11⟩, hb11⟩
  have B11 := bnext B10 hb11
  have W0_11 := W0_10.below hb11
  have G0_11 := G0_10.below hb11
  have s1_11 := hs1.below B11
  clear hb11 s1_10
  go_wp2_with fail
  refine (GraphOf_any _ _ _ _ _ _ hi0 H1_11.rowsAt).mono ?_
  rintro e w12 ⟨pH9, mH9, cH9, rfl, H9_12, hb12⟩
  have B12 := bnext B11 hb12
  have W0_12 := W0_11.below hb12
  have G0_12 := G0_11.below hb12
  have H1_12 := H1_11.below hb12
  have s1_12 := hs1.below B12
  clear hb12 s1_11
  clear H1_12
  go_wp2_with fail
  refine (eqIntS_same _ _ _ _ _ _ _ _ H9_12.sl W0_12.sl).mono ?_
  rintro e w13 ⟨rfl, hb13⟩
  have B13 := bnext B12 hb13
  have W0_13 := W0_12.below hb13
  have G0_13 := G0_12.below hb13
  have H9_13 := H9_12.below hb13
  have s1_13 := hs1.below B13
  clear hb13 s1_12
  go_wp2_with fail
  refine (heldIntS_any _ _ _ _ _ G0_13.sl (by omega) (by omega) (by omega)).mono ?_
  rintro e w' ⟨rfl, rfl⟩
  go_wp2
  go_ret
  exact ⟨rfl, B13⟩
end Go.Proofs.Ytgifjpaadflboaa
