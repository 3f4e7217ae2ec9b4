/- The law FnExactLeastBound, walked. -/
import Derived.Test.YtgifjpaadflboaaLeastBound
namespace Go.Proofs.Ytgifjpaadflboaa
open Go.RowKit Go.Shelf

set_option maxRecDepth 100000 in
set_option maxHeartbeats 1000000 in
theorem FnExactLeastBound_walk (w : World) (a : Option Addr) (n cap : Nat) (zs : List Int) (hs : SlAt w a n zs) (_ : ∀ z ∈ zs, -9223372036854775808 ≤ z ∧ z ≤ 9223372036854775807) :
    Calls Try.prog 3 #[.slice a n cap] w fun e w' => e = .returned (.bool true) ∧ Below w.heap.size w w' := by
  have hbd := hs.bd
  by_cases hn : n ≤ 1048576
  · have hn' : ¬ (1048576 : Int) < n := by omega
    go_enter Try.func3, Try.ntmps3
    go_wp2_with fail
    refine (toIntS_any a n cap zs _ hs hn).mono ?_
    rintro e w1 ⟨a1, c1, rfl, hA1, hb1⟩
    go_wp2_with fail
    refine (sLeastBound_any _ _ _ _ _ hA1.sl).mono ?_
    rintro e w2 ⟨rfl, hb2⟩
    have hs2 := (hs.below hb1).below hb2
    go_wp2_with fail
    refine (toIntS_any a n cap zs _ hs2 hn).mono ?_
    rintro e w3 ⟨a3, c3, rfl, hA3, hb3⟩
    go_wp2_with fail
    refine (LeastBound_any _ _ _ _ _ hA3.sl).mono ?_
    rintro e w4 ⟨rfl, hb4⟩
    have hs4 := (hs2.below hb3).below hb4
    go_wp2_with fail
    refine (toIntS_any a n cap zs _ hs4 hn).mono ?_
    rintro e w5 ⟨a5, c5, rfl, hA5, hb5⟩
    go_wp2_with fail
    refine (eqIntS_any _ _ _ _ _ _ _ _ _ ((hA3.below hb4).below hb5).sl hA5.sl).mono ?_
    rintro e w6 ⟨rfl, q, rfl⟩
    go_wp2
    go_ret
    exact ⟨rfl, bnext (bnext (bnext (bnext (bnext hb1 hb2) hb3) hb4) hb5) (bdrewN _ _)⟩
  · have hn' : (1048576 : Int) < n := by omega
    go_enter Try.func3, Try.ntmps3
    go_wp2
    go_ret
    exact ⟨rfl, Below.refl _ _⟩
end Go.Proofs.Ytgifjpaadflboaa
