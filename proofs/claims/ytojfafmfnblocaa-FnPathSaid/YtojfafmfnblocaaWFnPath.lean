/- The law FnPath, walked. -/
import Derived.Test.YtojfafmfnblocaaDraws3
import Derived.Test.YtojfafmfnblocaaNumber
import Derived.Test.YtojfafmfnblocaaPathM
import Derived.Test.YtojfafmfnblocaaFormS
namespace Go.Proofs.Ytojfafmfnblocaa
open Go.RowKit Go.Shelf

theorem GraphKind_yes (x y : Nat) (w : World) (h : kindOk x y = true) :
    Calls Try.prog 46 #[.int .i64 x, .int .i64 y] w fun e w' => ∃ a' n' c', e = .returned (.tuple #[.slice a' n' c', .bool true]) ∧ Arr w' w.heap.size a' n' c' (kTo x y y) ∧ Below w.heap.size w w' := by
  have hk := kindOk_of h
  refine (GraphKind_any x y w (by omega) (by omega)).mono ?_
  rintro e w' ⟨a', n', c', rfl, hA, hb⟩
  rw [GraphKindR, if_pos h, Int.toNat_natCast, Int.toNat_natCast] at hA
  exact ⟨a', n', c', by rw [h], hA, hb⟩
set_option maxRecDepth 100000 in
set_option maxHeartbeats 4000000 in
theorem FnPath_walk (w : World) (a : Option Addr) (n cap : Nat) (h : BytesAt w a n cap) :
    Calls Try.prog 11 #[.slice a n cap] w fun e w' => e = .returned (.bool true) ∧ Below w.heap.size w w' := by
  have hbd := h.bd
  by_cases hn : n ≤ 1048576
  case neg =>
    have hn' : (1048576 : Int) < n := by omega
    go_enter Try.func11, Try.ntmps11
    go_wp2
    go_ret
    exact ⟨rfl, Below.refl _ _⟩
  have hn' : ¬ (1048576 : Int) < n := by omega
  go_enter Try.func11, Try.ntmps11
  go_wp2_with fail
  refine (DrawPathIdentifies_any _ _ _ _ h).mono ?_
  rintro e w1 ⟨x, rfl, hx, hb1⟩
  rcases (show (x = 1) ∨ (3 ≤ x ∧ x ≤ 12) ∨ (x ≠ 1 ∧ ¬ (3 ≤ x ∧ x ≤ 12)) by omega) with hc | hc | hc
  · obtain ⟨b, hb, hcb⟩ := path_all (n := x) (by omega)
    obtain ⟨m, hm⟩ : ∃ m, card b = m := ⟨_, rfl⟩
    have hmv : (1 : Int) = m := by rw [← hm, hcb]; omega
    have hko : kindOk (0 : Nat) x = true := by simp [kindOk]; omega
    have HO := Lib.hid hb
    have HM := Lib.hid hm
    have HK := Lib.hid hko
    have hm12 : m ≤ 12 := by omega
    have C1 : ∀ wv : World, Calls Try.prog 44 #[.int .i64 x] wv fun e w' => e = .returned (.tuple #[.int .i64 m, .bool true]) ∧ wv = w' := fun wv => (PathIdentifies_0 x wv (by omega) (by omega)).mono fun e w' ⟨h1, h2⟩ => ⟨by rw [h1, hmv], h2⟩
    have C2 : ∀ wv : World, Calls Try.prog 45 #[.int .i64 x] wv fun e w' => e = .returned (.tuple #[.int .i64 m, .bool true]) ∧ wv = w' := fun wv => (sPathIdentifies_0 x wv (by omega) (by omega)).mono fun e w' ⟨h1, h2⟩ => ⟨by rw [h1, hmv], h2⟩
    have HC1 := Lib.hid C1
    have HC2 := Lib.hid C2
    clear C1 C2 hb hcb hm hko hmv hc
    go_wp2_with fail
    refine (HC1.out _).mono ?_
    rintro e w2 ⟨rfl, rfl⟩
    go_wp2_with fail
    refine (HC2.out _).mono ?_
    rintro e w3 ⟨rfl, rfl⟩
    go_wp2_with fail
    refine (GraphKind_yes 0 x _ HK.out).mono ?_
    rintro e w4 ⟨ga, gn, gc, rfl, G4, hb4⟩
    have B4 := bnext hb1 hb4
    go_wp2_with fail
    refine (LeastNumber_some b m _ _ _ _ _ _ G4.sl HO.out HM.out).mono ?_
    rintro e w5 ⟨rfl, hb5⟩
    have B5 := bnext B4 hb5
    go_wp2
    go_ret
    exact ⟨by simp, B5⟩
  · obtain ⟨b, hb, hcb⟩ := path_all (n := x) (by omega)
    obtain ⟨m, hm⟩ : ∃ m, card b = m := ⟨_, rfl⟩
    have hmv : ((x : Int) / 2 + 1 : Int) = m := by rw [← hm, hcb]; omega
    have hko : kindOk (0 : Nat) x = true := by simp [kindOk]; omega
    have HO := Lib.hid hb
    have HM := Lib.hid hm
    have HK := Lib.hid hko
    have hm12 : m ≤ 12 := by omega
    have C1 : ∀ wv : World, Calls Try.prog 44 #[.int .i64 x] wv fun e w' => e = .returned (.tuple #[.int .i64 m, .bool true]) ∧ wv = w' := fun wv => (PathIdentifies_1 x wv (by omega) (by omega)).mono fun e w' ⟨h1, h2⟩ => ⟨by rw [h1, hmv], h2⟩
    have C2 : ∀ wv : World, Calls Try.prog 45 #[.int .i64 x] wv fun e w' => e = .returned (.tuple #[.int .i64 m, .bool true]) ∧ wv = w' := fun wv => (sPathIdentifies_1 x wv (by omega) (by omega)).mono fun e w' ⟨h1, h2⟩ => ⟨by rw [h1, hmv], h2⟩
    have HC1 := Lib.hid C1
    have HC2 := Lib.hid C2
    clear C1 C2 hb hcb hm hko hmv hc
    go_wp2_with fail
    refine (HC1.out _).mono ?_
    rintro e w2 ⟨rfl, rfl⟩
    go_wp2_with fail
    refine (HC2.out _).mono ?_
    rintro e w3 ⟨rfl, rfl⟩
    go_wp2_with fail
    refine (GraphKind_yes 0 x _ HK.out).mono ?_
    rintro e w4 ⟨ga, gn, gc, rfl, G4, hb4⟩
    have B4 := bnext hb1 hb4
    go_wp2_with fail
    refine (LeastNumber_some b m _ _ _ _ _ _ G4.sl HO.out HM.out).mono ?_
    rintro e w5 ⟨rfl, hb5⟩
    have B5 := bnext B4 hb5
    go_wp2
    go_ret
    exact ⟨by simp, B5⟩
  · go_wp2_with fail
    refine (PathIdentifies_2 x _ (by omega) (by omega)).mono ?_
    rintro e w2 ⟨rfl, rfl⟩
    go_wp2_with fail
    refine (sPathIdentifies_2 x _ (by omega) (by omega)).mono ?_
    rintro e w3 ⟨rfl, rfl⟩
    go_wp2
    go_ret
    exact ⟨rfl, hb1⟩
end Go.Proofs.Ytojfafmfnblocaa
