/- The law FnLeast, walked. -/
import Derived.Test.YtpllijjocccaaaaDraws2
import Derived.Test.YtpllijjocccaaaaCodeL4
import Derived.Test.YtpllijjocccaaaaSCodes
import Derived.Test.YtpllijjocccaaaaLeast
import Derived.Test.YtpllijjocccaaaaLawKit
namespace Go.Proofs.Ytpllijjocccaaaa
open Go.RowKit Go.Shelf

theorem CodeLeast_at (o : Option Nat) (a : Option Addr) (n cap : Nat) (zs : List Int) (kd : Int) (w : World) (hs : SlAt w a n zs) (ho : CodeLeastR zs kd = o) :
    Calls Try.prog 18 #[.slice a n cap, .int .i64 kd] w fun e w' => e = .returned (.tuple #[.int .i64 (optN o), .bool o.isSome]) ∧ Below w.heap.size w w' := by subst ho; exact CodeLeast_any a n cap zs kd w hs
theorem sCodeLeast_at (o : Option Nat) (a : Option Addr) (n cap : Nat) (zs : List Int) (kd : Int) (w : World) (hs : SlAt w a n zs) (ho : CodeLeastR zs kd = o) :
    Calls Try.prog 20 #[.slice a n cap, .int .i64 kd] w fun e w' => e = .returned (.tuple #[.int .i64 (optN o), .bool o.isSome]) ∧ Below w.heap.size w w' := by subst ho; exact sCodeLeast_any a n cap zs kd w hs
theorem CodeCount_at (v : Bool) (x : Nat) (a : Option Addr) (n cap : Nat) (zs : List Int) (kd mn : Int) (w : World) (hs : SlAt w a n zs) (hx : CodeCountR zs kd mn = x) (hv : countOk zs kd mn = v) :
    Calls Try.prog 16 #[.slice a n cap, .int .i64 kd, .int .i64 mn] w fun e w' => e = .returned (.tuple #[.int .i64 x, .bool v]) ∧ Below w.heap.size w w' := by subst hx hv; exact CodeCount_any a n cap zs kd mn w hs
/-- what the law FnLeast says -/
theorem least_law {zs : List Int} {kind b : Nat} (h : CodeLeastR zs kind = some b) : b < 2 ^ zs.length ∧ b < 4096 ∧ card b ≤ 12 ∧ codeInB zs kind b = true ∧
    countOk zs kind (card b : Nat) = true ∧ 1 ≤ CodeCountR zs kind (card b : Nat) ∧ (1 ≤ card b → countOk zs kind ((card b : Int) - 1) = true ∧ CodeCountR zs kind ((card b : Int) - 1) = 0) := by
  unfold CodeLeastR at h
  split at h
  case isFalse => cases h
  rename_i hok
  have hk := leastOk_of hok
  rw [Int.toNat_natCast, leastV] at h
  rcases leastTo_spec (isB zs kind) (2 ^ zs.length) with ⟨h1, _⟩ | ⟨b', h1, h2, h3, h4⟩
  · rw [h1] at h; cases h
  · rw [h1] at h
    cases h
    have hG := isG_of hk.1
    have hp := pow12 hG.le
    have hc := card_le h2 hG.le
    have hle := hG.le
    have hk3 : kind ≤ 3 := by have := hk.2; simp only [kindB, Bool.and_eq_true, decide_eq_true_eq] at this; omega
    refine ⟨h2, by omega, by omega, codeIn_iff.2 ⟨hk.1, hk3, h2, h3⟩, ?_, ?_, fun h0 => ?_⟩
    · simp [countOk, hok]
    · have e : countOk zs kind (card b : Nat) = true := by simp [countOk, hok]
      rw [CodeCountR, if_pos e, Int.toNat_natCast]
      exact count_pos h2 rfl h3
    · have e : countOk zs kind ((card b : Int) - 1) = true := by simp [countOk, hok]; omega
      refine ⟨e, ?_⟩
      rw [CodeCountR, if_pos e, Int.toNat_natCast]
      exact count_none fun s hs hp => by have := h4 s hs hp; omega
set_option maxRecDepth 100000 in
set_option maxHeartbeats 4000000 in
theorem FnLeast_walk (w : World) (a : Option Addr) (n cap : Nat) (h : BytesAt w a n cap) :
    Calls Try.prog 4 #[.slice a n cap] w fun e w' => e = .returned (.bool true) ∧ Below w.heap.size w w' := by
  have hbd := h.bd
  by_cases hn : n ≤ 1048576
  case neg =>
    have hn' : (1048576 : Int) < n := by omega
    go_enter Try.func4, Try.ntmps4
    go_wp2
    go_ret
    exact ⟨rfl, Below.refl _ _⟩
  have hn' : ¬ (1048576 : Int) < n := by omega
  go_enter Try.func4, Try.ntmps4
  go_wp2_with fail
  refine (DrawCodeLeast_any _ _ _ _ h).mono ?_
  rintro e w1 ⟨ga, gn, gc, kd, zs, rfl, G1, hn1, hn7, _, hk7, hb1⟩
  rcases ho : CodeLeastR zs kd with _ | b
  · have HO := Lib.hid ho
    clear ho
    go_wp2_with fail
    refine (CodeLeast_at none _ _ _ _ _ _ G1.sl HO.out).mono ?_
    rintro e w2 ⟨rfl, hb2⟩
    have G2 := G1.below hb2
    have B2 := bnext hb1 hb2
    simp only [optN, Option.isSome]
    go_wp2_with fail
    refine (sCodeLeast_at none _ _ _ _ _ _ G2.sl HO.out).mono ?_
    rintro e w3 ⟨rfl, hb3⟩
    simp only [optN, Option.isSome]
    go_wp2
    go_ret
    exact ⟨by simp, bnext B2 hb3⟩
  · obtain ⟨l1, l2, l3, l4, l5, l6, l7⟩ := least_law ho
    have HO := Lib.hid ho
    have L4 := Lib.hid l4
    have L5 := Lib.hid l5
    have L7 := Lib.hid l7
    obtain ⟨x, hx⟩ : ∃ x, CodeCountR zs kd (card b : Nat) = x := ⟨_, rfl⟩
    have HX := Lib.hid hx
    rw [hx] at l6
    have hc3 := l3
    obtain ⟨m, hm⟩ : ∃ m, card b = m := ⟨_, rfl⟩
    have HM := Lib.hid hm
    rw [hm] at hc3
    clear ho l1 l4 l5 l7 l3 hx hm
    go_wp2_with fail
    refine (CodeLeast_at (some b) _ _ _ _ _ _ G1.sl HO.out).mono ?_
    rintro e w2 ⟨rfl, hb2⟩
    have G2 := G1.below hb2
    have B2 := bnext hb1 hb2
    simp only [optN, Option.isSome]
    go_wp2_with fail
    refine (sCodeLeast_at (some b) _ _ _ _ _ _ G2.sl HO.out).mono ?_
    rintro e w3 ⟨rfl, hb3⟩
    have G3 := G2.below hb3
    have B3 := bnext B2 hb3
    simp only [optN, Option.isSome]
    clear G1 G2 hb1 hb2 hb3 B2
    go_wp2_with fail
    refine (lsize_any b _ l2).mono ?_
    rintro e w3' ⟨rfl, rfl⟩
    rw [HM.out]
    go_wp2_with fail
    refine (CodeCount_at true x _ _ _ _ _ _ _ G3.sl (by rw [← HM.out]; exact HX.out) (by rw [← HM.out]; exact L5.out)).mono ?_
    rintro e w4 ⟨rfl, hb4⟩
    have G4 := G3.below hb4
    have B4 := bnext B3 hb4
    clear G3 hb4 B3
    have hx1 : (1 : Int) ≤ x := by omega
    by_cases h0 : 1 ≤ m
    · have h0' : (0 : Int) < m := by omega
      have LL := Lib.hid (L7.out (by rw [HM.out]; exact h0))
      go_wp2_with fail
      refine (CodeCount_at true 0 _ _ _ _ _ _ _ G4.sl (by rw [← HM.out]; exact LL.out.2) (by rw [← HM.out]; exact LL.out.1)).mono ?_
      rintro e w5 ⟨rfl, hb5⟩
      have G5 := G4.below hb5
      have B5 := bnext B4 hb5
      clear G4 hb5 B4
      go_wp2_with fail
      refine (CodeIn_is true _ _ _ _ _ _ _ G5.sl L4.out).mono ?_
      rintro e w6 ⟨rfl, hb6⟩
      have B6 := bnext B5 hb6
      go_wp2
      go_ret
      exact ⟨by simp, B6⟩
    · obtain rfl : m = 0 := by omega
      go_wp2_with fail
      refine (CodeIn_is true _ _ _ _ _ _ _ G4.sl L4.out).mono ?_
      rintro e w6 ⟨rfl, hb6⟩
      have B6 := bnext B4 hb6
      go_wp2
      go_ret
      exact ⟨by simp, B6⟩
end Go.Proofs.Ytpllijjocccaaaa
