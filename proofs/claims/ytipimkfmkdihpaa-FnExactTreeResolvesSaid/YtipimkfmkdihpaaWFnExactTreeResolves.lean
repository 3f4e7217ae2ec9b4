/- The law FnExactTreeResolves, walked. -/
import Derived.Test.YtipimkfmkdihpaaForks
namespace Go.Proofs.Ytipimkfmkdihpaa
open Go.RowKit Go.Shelf

set_option linter.unusedVariables false
set_option maxRecDepth 100000 in
set_option maxHeartbeats 4000000 in
theorem FnExactTreeResolves_walk (w : World) (a0 : Option Addr) (n0 cap0 : Nat) (z0 : List Int) (hs0 : SlAt w a0 n0 z0) (hz0 : ∀ z ∈ z0, -9223372036854775808 ≤ z ∧ z ≤ 9223372036854775807) :
    Calls Try.prog 10 #[.slice a0 n0 cap0] w fun e w' => e = .returned (.bool true) ∧ Below w.heap.size w w' := by
  have hbd0 := hs0.bd
  by_cases hn0 : n0 ≤ 1048576
  case neg =>
    have hn' : (1048576 : Int) < n0 := by omega
    go_enter Try.func10, Try.ntmps10
    go_wp2
    go_ret
    exact ⟨rfl, Below.refl _ _⟩
  have hm0 : ¬ (1048576 : Int) < n0 := by omega
  have HZ0 := Lib.hid hz0
  clear hz0
  go_enter Try.func10, Try.ntmps10
  have B0 : Below w.heap.size w w := Below.refl _ _
  have s0_0 := hs0
  go_wp2_with fail
  refine (toIntS_any a0 n0 cap0 z0 _ s0_0 hn0).mono ?_
  rintro e w1 ⟨pT0, cT0, rfl, T0_1, hb1⟩
  have B1 := bnext B0 hb1
  have s0_1 := hs0.below B1
  clear hb1 s0_0
  go_wp2_with fail
  refine (sTreeResolves_any _ _ _ _ _ T0_1.sl HZ0.out).mono ?_
  rintro e w2 ⟨rfl, hb2⟩
  have B2 := bnext B1 hb2
  have T0_2 := T0_1.below hb2
  have s0_2 := hs0.below B2
  clear hb2 s0_1
  clear T0_2
  go_wp2_with fail
  refine (toIntS_any a0 n0 cap0 z0 _ s0_2 hn0).mono ?_
  rintro e w3 ⟨pX0, cX0, rfl, X0_3, hb3⟩
  have B3 := bnext B2 hb3
  have s0_3 := hs0.below B3
  clear hb3 s0_2
  go_wp2_with fail
  refine (TreeResolves_any _ _ _ _ _ X0_3.sl HZ0.out).mono ?_
  rintro e w4 ⟨rfl, hb4⟩
  have B4 := bnext B3 hb4
  have X0_4 := X0_3.below hb4
  have s0_4 := hs0.below B4
  clear hb4 s0_3
  go_wp2_with fail
  refine (toIntS_any a0 n0 cap0 z0 _ s0_4 hn0).mono ?_
  rintro e w5 ⟨pY0, cY0, rfl, Y0_5, hb5⟩
  have B5 := bnext B4 hb5
  have X0_5 := X0_4.below hb5
  have s0_5 := hs0.below B5
  clear hb5 s0_4
  go_wp2_with fail
  refine (eqIntS_same _ _ _ _ _ _ _ _ X0_5.sl Y0_5.sl).mono ?_
  rintro e w6 ⟨rfl, hb6⟩
  have B6 := bnext B5 hb6
  have X0_6 := X0_5.below hb6
  have Y0_6 := Y0_5.below hb6
  have s0_6 := hs0.below B6
  clear hb6 s0_5
  clear Y0_6
  go_wp2
  go_ret
  exact ⟨rfl, B6⟩
end Go.Proofs.Ytipimkfmkdihpaa
