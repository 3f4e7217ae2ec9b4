/- The law FnLocatingResolves, walked. -/
import Derived.Test.YtpllijjocccaaaaDraws
import Derived.Test.YtpllijjocccaaaaCodeL2
import Derived.Test.YtpllijjocccaaaaSIs
namespace Go.Proofs.Ytpllijjocccaaaa
open Go.RowKit Go.Shelf

set_option maxRecDepth 100000 in
set_option maxHeartbeats 4000000 in
theorem FnLocatingResolves_walk (w : World) (a : Option Addr) (n cap : Nat) (h : BytesAt w a n cap) :
    Calls Try.prog 10 #[.slice a n cap] w fun e w' => e = .returned (.bool true) ∧ Below w.heap.size w w' := by
  have hbd := h.bd
  by_cases hn : n ≤ 1048576
  case neg =>
    have hn' : (1048576 : Int) < n := by omega
    go_enter Try.func10, Try.ntmps10
    go_wp2
    go_ret
    exact ⟨rfl, Below.refl _ _⟩
  have hn' : ¬ (1048576 : Int) < n := by omega
  go_enter Try.func10, Try.ntmps10
  go_wp2_with fail
  refine (DrawCodeIn_any _ _ _ _ h).mono ?_
  rintro e w1 ⟨ga, gn, gc, kd, c, zs, rfl, G1, hn1, hn7, _, hkd, hc, hb1⟩
  cases hv : codeInB zs kd c with
  | false =>
    have HV := Lib.hid hv
    clear hv
    go_wp2_with fail
    refine (CodeIn_is false _ _ _ _ _ _ _ G1.sl HV.out).mono ?_
    rintro e w2 ⟨rfl, hb2⟩
    have G2 := G1.below hb2
    have B2 := bnext hb1 hb2
    go_wp2_with fail
    refine (sCodeIn_is false _ _ _ _ _ _ _ G2.sl HV.out).mono ?_
    rintro e w3 ⟨rfl, hb3⟩
    go_wp2
    go_ret
    exact ⟨rfl, bnext B2 hb3⟩
  | true =>
    have HV := Lib.hid hv
    have hk3 := (codeIn_iff.1 hv).2.1
    clear hv
    go_wp2_with fail
    refine (CodeIn_is true _ _ _ _ _ _ _ G1.sl HV.out).mono ?_
    rintro e w2 ⟨rfl, hb2⟩
    have G2 := G1.below hb2
    have B2 := bnext hb1 hb2
    go_wp2_with fail
    refine (sCodeIn_is true _ _ _ _ _ _ _ G2.sl HV.out).mono ?_
    rintro e w3 ⟨rfl, hb3⟩
    have G3 := G2.below hb3
    have B3 := bnext B2 hb3
    clear hb1 hb2 hb3 G1 G2 B2
    rcases (show kd = 0 ∨ kd = 1 ∨ kd = 2 ∨ kd = 3 by omega) with rfl | rfl | rfl | rfl
    · go_wp2
      go_ret
      exact ⟨rfl, B3⟩
    · have h0 := Lib.hid (codeIn_13 HV.out)
      go_wp2_with fail
      refine (CodeIn_is true _ _ _ _ _ _ _ G3.sl h0.out).mono ?_
      rintro e w4 ⟨rfl, hb4⟩
      have hB4 := bnext B3 hb4
      go_wp2
      go_ret
      exact ⟨rfl, hB4⟩
    · go_wp2
      go_ret
      exact ⟨rfl, B3⟩
    · go_wp2
      go_ret
      exact ⟨rfl, B3⟩
end Go.Proofs.Ytpllijjocccaaaa
