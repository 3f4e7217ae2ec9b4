/- The law FnHas, walked. -/
import Derived.Test.YtpllijjocccaaaaDraws
import Derived.Test.YtpllijjocccaaaaCodeL
import Derived.Test.YtpllijjocccaaaaCodes
namespace Go.Proofs.Ytpllijjocccaaaa
open Go.RowKit Go.Shelf

theorem CodeHas_is (v : Bool) (a : Option Addr) (n cap : Nat) (zs : List Int) (w : World) (hs : SlAt w a n zs) (hv : codeHasB zs = v) :
    Calls Try.prog 29 #[.slice a n cap] w fun e w' => e = .returned (.bool v) ∧ Below w.heap.size w w' := by subst hv; exact CodeHas_any a n cap zs w hs
theorem sCodeHas_is (v : Bool) (a : Option Addr) (n cap : Nat) (zs : List Int) (w : World) (hs : SlAt w a n zs) (hv : codeHasB zs = v) :
    Calls Try.prog 30 #[.slice a n cap] w fun e w' => e = .returned (.bool v) ∧ Below w.heap.size w w' := by subst hv; exact sCodeHas_any a n cap zs w hs
set_option maxRecDepth 100000 in
set_option maxHeartbeats 4000000 in
theorem FnHas_walk (w : World) (a : Option Addr) (n cap : Nat) (h : BytesAt w a n cap) :
    Calls Try.prog 6 #[.slice a n cap] w fun e w' => e = .returned (.bool true) ∧ Below w.heap.size w w' := by
  have hbd := h.bd
  by_cases hn : n ≤ 1048576
  case neg =>
    have hn' : (1048576 : Int) < n := by omega
    go_enter Try.func6, Try.ntmps6
    go_wp2
    go_ret
    exact ⟨rfl, Below.refl _ _⟩
  have hn' : ¬ (1048576 : Int) < n := by omega
  go_enter Try.func6, Try.ntmps6
  go_wp2_with fail
  refine (DrawCodeHas_any _ _ _ _ h).mono ?_
  rintro e w1 ⟨ga, gn, gc, zs, rfl, G1, hn1, hn7, _, hb1⟩
  cases hv : codeHasB zs with
  | false =>
    have HV := Lib.hid hv
    clear hv
    go_wp2_with fail
    refine (CodeHas_is false _ _ _ _ _ G1.sl HV.out).mono ?_
    rintro e w2 ⟨rfl, hb2⟩
    have G2 := G1.below hb2
    have B2 := bnext hb1 hb2
    go_wp2_with fail
    refine (sCodeHas_is false _ _ _ _ _ G2.sl HV.out).mono ?_
    rintro e w3 ⟨rfl, hb3⟩
    go_wp2
    go_ret
    exact ⟨rfl, bnext B2 hb3⟩
  | true =>
    have hc := has_all hv
    rw [← G1.len] at hc
    have hpw : 2 ^ gn ≤ 4096 := Nat.pow_le_pow_right (n := 2) (by omega) (show gn ≤ 12 by omega)
    have hpb : ((2 ^ gn : Nat) : Int) = (2 : Int) ^ gn := by simp
    have hpi : (2 : Int) ^ gn ≤ 4096 ∧ 1 ≤ (2 : Int) ^ gn := by have := Nat.two_pow_pos gn; omega
    have e1 : IntKind.i64.wrap ((2 : Int) ^ gn) = 2 ^ gn := IntWalk.i64_in _ (by omega)
    have HV := Lib.hid hv
    have HC := Lib.hid hc
    clear hv hc hpb hpw
    go_wp2_with fail
    refine (CodeHas_is true _ _ _ _ _ G1.sl HV.out).mono ?_
    rintro e w2 ⟨rfl, hb2⟩
    have G2 := G1.below hb2
    have B2 := bnext hb1 hb2
    go_wp2_with fail
    refine (sCodeHas_is true _ _ _ _ _ G2.sl HV.out).mono ?_
    rintro e w3 ⟨rfl, hb3⟩
    have G3 := G2.below hb3
    have B3 := bnext B2 hb3
    go_wp2_with fail
    refine (CodeIn_is true _ _ _ _ _ _ _ G3.sl HC.out).mono ?_
    rintro e w4 ⟨rfl, hb4⟩
    go_wp2
    go_ret
    exact ⟨rfl, bnext B3 hb4⟩
end Go.Proofs.Ytpllijjocccaaaa
