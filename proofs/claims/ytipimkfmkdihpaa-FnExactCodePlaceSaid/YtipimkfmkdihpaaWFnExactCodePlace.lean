/- The law FnExactCodePlace, walked. -/
import Derived.Test.YtipimkfmkdihpaaSCodes
import Derived.Test.YtipimkfmkdihpaaThin
namespace Go.Proofs.Ytipimkfmkdihpaa
open Go.RowKit Go.Shelf

set_option linter.unusedVariables false
set_option maxRecDepth 100000 in
set_option maxHeartbeats 4000000 in
theorem FnExactCodePlace_walk (w : World) (a0 : Option Addr) (n0 cap0 : Nat) (z0 : List Int) (hs0 : SlAt w a0 n0 z0) (hz0 : ∀ z ∈ z0, -9223372036854775808 ≤ z ∧ z ≤ 9223372036854775807) (i1 : Int) (hi1 : -9223372036854775808 ≤ i1 ∧ i1 ≤ 9223372036854775807) (a2 : Option Addr) (n2 cap2 : Nat) (z2 : List Int) (hs2 : SlAt w a2 n2 z2) (hz2 : ∀ z ∈ z2, -9223372036854775808 ≤ z ∧ z ≤ 9223372036854775807) :
    Calls Try.prog 13 #[.slice a0 n0 cap0, .int .i64 i1, .slice a2 n2 cap2] w fun e w' => e = .returned (.bool true) ∧ Below w.heap.size w w' := by
  have hbd0 := hs0.bd
  have hbd2 := hs2.bd
  by_cases hn0 : n0 ≤ 1048576
  case neg =>
    have hn' : (1048576 : Int) < n0 := by omega
    go_enter Try.func13, Try.ntmps13
    go_wp2
    go_ret
    exact ⟨rfl, Below.refl _ _⟩
  by_cases hn2 : n2 ≤ 1048576
  case neg =>
    have hn' : (1048576 : Int) < n2 := by omega
    have hm0 : ¬ (1048576 : Int) < n0 := by omega
    go_enter Try.func13, Try.ntmps13
    go_wp2
    go_ret
    exact ⟨rfl, Below.refl _ _⟩
  have hm0 : ¬ (1048576 : Int) < n0 := by omega
  have hm2 : ¬ (1048576 : Int) < n2 := by omega
  have HZ0 := Lib.hid hz0
  clear hz0
  have HZ2 := Lib.hid hz2
  clear hz2
  go_enter Try.func13, Try.ntmps13
  have B0 : Below w.heap.size w w := Below.refl _ _
  have s0_0 := hs0
  have s2_0 := hs2
  go_wp2_with fail
  refine (toIntS_any a0 n0 cap0 z0 _ s0_0 hn0).mono ?_
  rintro e w1 ⟨pT0, cT0, rfl, T0_1, hb1⟩
  have B1 := bnext B0 hb1
  have s0_1 := hs0.below B1
  have s2_1 := hs2.below B1
  clear hb1 s0_0 s2_0
  go_wp2_with fail
  refine (toIntS_any a2 n2 cap2 z2 _ s2_1 hn2).mono ?_
  rintro e w2 ⟨pT2, cT2, rfl, T2_2, hb2⟩
  have B2 := bnext B1 hb2
  have T0_2 := T0_1.below hb2
  have s0_2 := hs0.below B2
  have s2_2 := hs2.below B2
  clear hb2 s0_1 s2_1
  go_wp2_with fail
  refine (sCodePlace_any _ _ _ _ _ _ _ _ _ _ T0_2.sl T2_2.sl).mono ?_
  rintro e w3 ⟨rfl, hb3⟩
  have B3 := bnext B2 hb3
  have T0_3 := T0_2.below hb3
  have T2_3 := T2_2.below hb3
  have s0_3 := hs0.below B3
  have s2_3 := hs2.below B3
  clear hb3 s0_2 s2_2
  clear T0_3
  clear T2_3
  go_wp2_with fail
  refine (toIntS_any a0 n0 cap0 z0 _ s0_3 hn0).mono ?_
  rintro e w4 ⟨pX0, cX0, rfl, X0_4, hb4⟩
  have B4 := bnext B3 hb4
  have s0_4 := hs0.below B4
  have s2_4 := hs2.below B4
  clear hb4 s0_3 s2_3
  go_wp2_with fail
  refine (toIntS_any a2 n2 cap2 z2 _ s2_4 hn2).mono ?_
  rintro e w5 ⟨pX2, cX2, rfl, X2_5, hb5⟩
  have B5 := bnext B4 hb5
  have X0_5 := X0_4.below hb5
  have s0_5 := hs0.below B5
  have s2_5 := hs2.below B5
  clear hb5 s0_4 s2_4
  go_wp2_with fail
  refine (CodePlace_any _ _ _ _ _ _ _ _ _ _ X0_5.sl X2_5.sl).mono ?_
  rintro e w6 ⟨rfl, hb6⟩
  have B6 := bnext B5 hb6
  have X0_6 := X0_5.below hb6
  have X2_6 := X2_5.below hb6
  have s0_6 := hs0.below B6
  have s2_6 := hs2.below B6
  clear hb6 s0_5 s2_5
  go_wp2_with fail
  refine (toIntS_any a0 n0 cap0 z0 _ s0_6 hn0).mono ?_
  rintro e w7 ⟨pY0, cY0, rfl, Y0_7, hb7⟩
  have B7 := bnext B6 hb7
  have X0_7 := X0_6.below hb7
  have X2_7 := X2_6.below hb7
  have s0_7 := hs0.below B7
  have s2_7 := hs2.below B7
  clear hb7 s0_6 s2_6
  go_wp2_with fail
  refine (eqIntS_same _ _ _ _ _ _ _ _ X0_7.sl Y0_7.sl).mono ?_
  rintro e w8 ⟨rfl, hb8⟩
  have B8 := bnext B7 hb8
  have X0_8 := X0_7.below hb8
  have X2_8 := X2_7.below hb8
  have Y0_8 := Y0_7.below hb8
  have s0_8 := hs0.below B8
  have s2_8 := hs2.below B8
  clear hb8 s0_7 s2_7
  clear Y0_8
  go_wp2_with fail
  refine (toIntS_any a2 n2 cap2 z2 _ s2_8 hn2).mono ?_
  rintro e w9 ⟨pY2, cY2, rfl, Y2_9, hb9⟩
  have B9 := bnext B8 hb9
  have X0_9 := X0_8.below hb9
  have X2_9 := X2_8.below hb9
  have s0_9 := hs0.below B9
  have s2_9 := hs2.below B9
  clear hb9 s0_8 s2_8
  go_wp2_with fail
  refine (eqIntS_same _ _ _ _ _ _ _ _ X2_9.sl Y2_9.sl).mono ?_
  rintro e w10 ⟨rfl, hb10⟩
  have B10 := bnext B9 hb10
  have X0_10 := X0_9.below hb10
  have X2_10 := X2_9.below hb10
  have Y2_10 := Y2_9.below hb10
  have s0_10 := hs0.below B10
  have s2_10 := hs2.below B10
  clear hb10 s0_9 s2_9
  clear Y2_10
  go_wp2
  go_ret
  exact ⟨rfl, B10⟩
end Go.Proofs.Ytipimkfmkdihpaa
