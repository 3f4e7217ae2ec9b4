/- The law FnExactGraphKind, walked. -/
import Derived.Test.YtjjnjmemfeadnaaKind
namespace Go.Proofs.Ytjjnjmemfeadnaa
open Go.RowKit Go.Shelf

set_option linter.unusedVariables false
set_option maxRecDepth 100000 in
set_option maxHeartbeats 4000000 in
theorem FnExactGraphKind_walk (w : World) (i0 : Int) (hi0 : -9223372036854775808 ≤ i0 ∧ i0 ≤ 9223372036854775807) (i1 : Int) (hi1 : -9223372036854775808 ≤ i1 ∧ i1 ≤ 9223372036854775807) :
    Calls Try.prog 8 #[.int .i64 i0, .int .i64 i1] w fun e w' => e = .returned (.bool true) ∧ Below w.heap.size w w' := by
  go_enter Try.func8, Try.ntmps8
  have B0 : Below w.heap.size w w := Below.refl _ _
  go_wp2_with fail
  refine (sGraphKind_any _ _ _ hi0 hi1).mono ?_
  rintro e w1 ⟨pW0, mW0, cW0, rfl, W0_1, hb1⟩
  have B1 := bnext B0 hb1
  clear hb1
  go_wp2_with fail
  refine (GraphKind_any _ _ _ hi0 hi1).mono ?_
  rintro e w2 ⟨pG0, mG0, cG0, rfl, G0_2, hb2⟩
  have B2 := bnext B1 hb2
  have W0_2 := W0_1.below hb2
  clear hb2
  go_wp2_with fail
  refine (eqIntS_same _ _ _ _ _ _ _ _ G0_2.sl W0_2.sl).mono ?_
  rintro e w3 ⟨rfl, hb3⟩
  have B3 := bnext B2 hb3
  have W0_3 := W0_2.below hb3
  have G0_3 := G0_2.below hb3
  clear hb3
  have nbG : mG0 ≤ 4096 := by rw [G0_3.len]; exact GraphKind_small
  go_wp2_with fail
  refine (markIntS_any _ _ _ _ _ _ _ G0_3 (by omega) (by omega) (by omega)).mono ?_
  rintro e w4 ⟨rfl, G0_4, hS4⟩
  have W0_4 := W0_3.stay' hS4 (apartO W0_1.lt' G0_3.ge)
  have B4 := sbelow B3 hS4 (fun k hk => Nat.le_trans B1.size (G0_3.ge k hk)) B3.size
  clear hS4
  go_wp2_with fail
  refine (heldIntS_any _ _ _ _ _ G0_4.sl (by omega) (by omega) (by omega)).mono ?_
  rintro e w5 ⟨rfl, rfl⟩
  go_wp2_with fail
  refine (GraphKind_any _ _ _ hi0 hi1).mono ?_
  rintro e w5 ⟨pH9, mH9, cH9, rfl, H9_5, hb5⟩
  have B5 := bnext B4 hb5
  have W0_5 := W0_4.below hb5
  have G0_5 := G0_4.below hb5
  clear hb5
  go_wp2_with fail
  refine (eqIntS_same _ _ _ _ _ _ _ _ H9_5.sl W0_5.sl).mono ?_
  rintro e w6 ⟨rfl, hb6⟩
  have B6 := bnext B5 hb6
  have W0_6 := W0_5.below hb6
  have G0_6 := G0_5.below hb6
  have H9_6 := H9_5.below hb6
  clear hb6
  go_wp2_with fail
  refine (heldIntS_any _ _ _ _ _ G0_6.sl (by omega) (by omega) (by omega)).mono ?_
  rintro e w' ⟨rfl, rfl⟩
  go_wp2
  go_ret
  exact ⟨rfl, B6⟩
end Go.Proofs.Ytjjnjmemfeadnaa
