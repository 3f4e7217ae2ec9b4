import Derived.Test.YtjjnjmemfeadnaaGraphIn
import Derived.Test.YtjjnjmemfeadnaaSGraphIn
/- The laws of the formulas, walked. -/
namespace Go.Proofs.Ytjjnjmemfeadnaa
open Go.RowKit Go.Shelf
set_option linter.unusedVariables false

theorem FnExactConstants_walk (w : World) :
    Calls Try.prog 3 #[] w fun e w' => e = .returned (.bool true) ∧ Below w.heap.size w w' := by
  go_enter Try.func3, Try.ntmps3
  go_wp2
  go_ret
  exact ⟨rfl, Below.refl _ _⟩
theorem pair_same {a b : Int} {c d : Bool} (h1 : a = b) (h2 : c = d) : (#[.int .i64 a, .bool c] : Array Value) = #[.int .i64 b, .bool d] := by rw [h1, h2]

set_option maxHeartbeats 600000 in
theorem RingDominates_0 (n : Int) (w : World) (hb : -9223372036854775808 ≤ n ∧ n ≤ 9223372036854775807) (h : 3 ≤ n ∧ n ≤ 12) :
    Calls Try.prog 10 #[.int .i64 n] w fun e w' => e = .returned (.tuple #[.int .i64 ((n + 2) / 3), .bool true]) ∧ w = w' := by
  have d1 : (decide ((3 : Int) ≤ n) && decide ((n : Int) ≤ 12)) = true := by simp; omega
  go_enter Try.func10, Try.ntmps10
  go_wp2_with (go_at_call 24; refine (in_any _ _ _ _).mono ?_; rintro e w' ⟨rfl, rfl⟩; rw [d1])
  go_ret2
  exact ⟨rfl, rfl⟩
set_option maxHeartbeats 600000 in
theorem RingDominates_1 (n : Int) (w : World) (hb : -9223372036854775808 ≤ n ∧ n ≤ 9223372036854775807) (h : ¬ (3 ≤ n ∧ n ≤ 12)) :
    Calls Try.prog 10 #[.int .i64 n] w fun e w' => e = .returned (.tuple #[.int .i64 (0), .bool false]) ∧ w = w' := by
  have d1 : (decide ((3 : Int) ≤ n) && decide ((n : Int) ≤ 12)) = false := by simp; omega
  go_enter Try.func10, Try.ntmps10
  go_wp2_with (go_at_call 24; refine (in_any _ _ _ _).mono ?_; rintro e w' ⟨rfl, rfl⟩; rw [d1])
  go_ret2
  exact ⟨rfl, rfl⟩
set_option maxHeartbeats 600000 in
theorem sRingDominates_0 (n : Int) (w : World) (hb : -9223372036854775808 ≤ n ∧ n ≤ 9223372036854775807) (h : 3 ≤ n ∧ n ≤ 12) :
    Calls Try.prog 9 #[.int .i64 n] w fun e w' => e = .returned (.tuple #[.int .i64 ((n + 2) / 3), .bool true]) ∧ w = w' := by
  go_enter Try.func9, Try.ntmps9
  go_wp2_with (go_at_call 23; refine (sin_yes _ _ _ (by omega) (by omega) _).mono ?_; rintro e w' ⟨rfl, rfl⟩)
  go_ret2
  exact ⟨rfl, rfl⟩
set_option maxHeartbeats 600000 in
theorem sRingDominates_1 (n : Int) (w : World) (hb : -9223372036854775808 ≤ n ∧ n ≤ 9223372036854775807) (h : ¬ (3 ≤ n ∧ n ≤ 12)) :
    Calls Try.prog 9 #[.int .i64 n] w fun e w' => e = .returned (.tuple #[.int .i64 (0), .bool false]) ∧ w = w' := by
  go_enter Try.func9, Try.ntmps9
  go_wp2_with (go_at_call 23; refine (sin_no _ _ _ (by omega) _).mono ?_; rintro e w' ⟨rfl, rfl⟩)
  go_ret2
  exact ⟨rfl, rfl⟩
set_option maxHeartbeats 600000 in
theorem FnExactRingDominates_walk (w : World) (n : Int) (hb : -9223372036854775808 ≤ n ∧ n ≤ 9223372036854775807) :
    Calls Try.prog 4 #[.int .i64 n] w fun e w' => e = .returned (.bool true) ∧ Below w.heap.size w w' := by
  have hc : (3 ≤ n ∧ n ≤ 12) ∨ (¬ (3 ≤ n ∧ n ≤ 12)) := by omega
  rcases hc with h | h
  · go_enter Try.func4, Try.ntmps4
    go_wp2_with (first | (go_at_call 9; refine (sRingDominates_0 n _ hb h).mono ?_; rintro e w' ⟨rfl, rfl⟩) | (go_at_call 10; refine (RingDominates_0 n _ hb h).mono ?_; rintro e w' ⟨rfl, rfl⟩))
    go_ret
    exact ⟨rfl, Below.refl _ _⟩
  · go_enter Try.func4, Try.ntmps4
    go_wp2_with (first | (go_at_call 9; refine (sRingDominates_1 n _ hb h).mono ?_; rintro e w' ⟨rfl, rfl⟩) | (go_at_call 10; refine (RingDominates_1 n _ hb h).mono ?_; rintro e w' ⟨rfl, rfl⟩))
    go_ret
    exact ⟨rfl, Below.refl _ _⟩
set_option maxHeartbeats 600000 in
theorem PathIdentifies_0 (n : Int) (w : World) (hb : -9223372036854775808 ≤ n ∧ n ≤ 9223372036854775807) (h : n = 1) :
    Calls Try.prog 12 #[.int .i64 n] w fun e w' => e = .returned (.tuple #[.int .i64 (1), .bool true]) ∧ w = w' := by
  subst h
  go_enter Try.func12, Try.ntmps12
  go_wp2
  go_ret2
  exact ⟨rfl, rfl⟩
set_option maxHeartbeats 600000 in
theorem PathIdentifies_1 (n : Int) (w : World) (hb : -9223372036854775808 ≤ n ∧ n ≤ 9223372036854775807) (h : 3 ≤ n ∧ n ≤ 12) :
    Calls Try.prog 12 #[.int .i64 n] w fun e w' => e = .returned (.tuple #[.int .i64 (n / 2 + 1), .bool true]) ∧ w = w' := by
  have d1 : (decide ((3 : Int) ≤ n) && decide ((n : Int) ≤ 12)) = true := by simp; omega
  go_enter Try.func12, Try.ntmps12
  go_wp2_with (go_at_call 24; refine (in_any _ _ _ _).mono ?_; rintro e w' ⟨rfl, rfl⟩; rw [d1])
  go_ret2
  exact ⟨rfl, rfl⟩
set_option maxHeartbeats 600000 in
theorem PathIdentifies_2 (n : Int) (w : World) (hb : -9223372036854775808 ≤ n ∧ n ≤ 9223372036854775807) (h : n ≠ 1 ∧ ¬ (3 ≤ n ∧ n ≤ 12)) :
    Calls Try.prog 12 #[.int .i64 n] w fun e w' => e = .returned (.tuple #[.int .i64 (0), .bool false]) ∧ w = w' := by
  have d1 : (decide ((3 : Int) ≤ n) && decide ((n : Int) ≤ 12)) = false := by simp; omega
  go_enter Try.func12, Try.ntmps12
  go_wp2_with (go_at_call 24; refine (in_any _ _ _ _).mono ?_; rintro e w' ⟨rfl, rfl⟩; rw [d1])
  go_ret2
  exact ⟨rfl, rfl⟩
set_option maxHeartbeats 600000 in
theorem sPathIdentifies_0 (n : Int) (w : World) (hb : -9223372036854775808 ≤ n ∧ n ≤ 9223372036854775807) (h : n = 1) :
    Calls Try.prog 11 #[.int .i64 n] w fun e w' => e = .returned (.tuple #[.int .i64 (1), .bool true]) ∧ w = w' := by
  subst h
  go_enter Try.func11, Try.ntmps11
  go_wp2_with (go_at_call 23; refine (sin_yes _ _ _ (by omega) (by omega) _).mono ?_; rintro e w' ⟨rfl, rfl⟩)
  go_ret2
  exact ⟨rfl, rfl⟩
set_option maxHeartbeats 600000 in
theorem sPathIdentifies_1 (n : Int) (w : World) (hb : -9223372036854775808 ≤ n ∧ n ≤ 9223372036854775807) (h : 3 ≤ n ∧ n ≤ 12) :
    Calls Try.prog 11 #[.int .i64 n] w fun e w' => e = .returned (.tuple #[.int .i64 (n / 2 + 1), .bool true]) ∧ w = w' := by
  go_enter Try.func11, Try.ntmps11
  go_wp2_with (go_at_call 23; refine (sin_yes _ _ _ (by omega) (by omega) _).mono ?_; rintro e w' ⟨rfl, rfl⟩)
  go_ret2
  exact ⟨rfl, rfl⟩
set_option maxHeartbeats 600000 in
theorem sPathIdentifies_2 (n : Int) (w : World) (hb : -9223372036854775808 ≤ n ∧ n ≤ 9223372036854775807) (h : n ≠ 1 ∧ ¬ (3 ≤ n ∧ n ≤ 12)) :
    Calls Try.prog 11 #[.int .i64 n] w fun e w' => e = .returned (.tuple #[.int .i64 (0), .bool false]) ∧ w = w' := by
  by_cases h2 : n = 2
  · subst h2
    go_enter Try.func11, Try.ntmps11
    go_wp2_with (go_at_call 23; refine (sin_yes _ _ _ (by omega) (by omega) _).mono ?_; rintro e w' ⟨rfl, rfl⟩)
    go_ret2
    exact ⟨rfl, rfl⟩
  · go_enter Try.func11, Try.ntmps11
    go_wp2_with (go_at_call 23; refine (sin_no _ _ _ (by omega) _).mono ?_; rintro e w' ⟨rfl, rfl⟩)
    go_ret2
    exact ⟨rfl, rfl⟩
set_option maxHeartbeats 600000 in
theorem FnExactPathIdentifies_walk (w : World) (n : Int) (hb : -9223372036854775808 ≤ n ∧ n ≤ 9223372036854775807) :
    Calls Try.prog 5 #[.int .i64 n] w fun e w' => e = .returned (.bool true) ∧ Below w.heap.size w w' := by
  have hc : (n = 1) ∨ (3 ≤ n ∧ n ≤ 12) ∨ (n ≠ 1 ∧ ¬ (3 ≤ n ∧ n ≤ 12)) := by omega
  rcases hc with h | h | h
  · subst h
    go_enter Try.func5, Try.ntmps5
    go_wp2_with (first | (go_at_call 11; refine (sPathIdentifies_0 1 _ hb rfl).mono ?_; rintro e w' ⟨rfl, rfl⟩) | (go_at_call 12; refine (PathIdentifies_0 1 _ hb rfl).mono ?_; rintro e w' ⟨rfl, rfl⟩))
    go_ret
    exact ⟨rfl, Below.refl _ _⟩
  · go_enter Try.func5, Try.ntmps5
    go_wp2_with (first | (go_at_call 11; refine (sPathIdentifies_1 n _ hb h).mono ?_; rintro e w' ⟨rfl, rfl⟩) | (go_at_call 12; refine (PathIdentifies_1 n _ hb h).mono ?_; rintro e w' ⟨rfl, rfl⟩))
    go_ret
    exact ⟨rfl, Below.refl _ _⟩
  · go_enter Try.func5, Try.ntmps5
    go_wp2_with (first | (go_at_call 11; refine (sPathIdentifies_2 n _ hb h).mono ?_; rintro e w' ⟨rfl, rfl⟩) | (go_at_call 12; refine (PathIdentifies_2 n _ hb h).mono ?_; rintro e w' ⟨rfl, rfl⟩))
    go_ret
    exact ⟨rfl, Below.refl _ _⟩
set_option maxHeartbeats 600000 in
theorem RingIdentifies_0 (n : Int) (w : World) (hb : -9223372036854775808 ≤ n ∧ n ≤ 9223372036854775807) (h : ¬ (4 ≤ n ∧ n ≤ 12)) :
    Calls Try.prog 14 #[.int .i64 n] w fun e w' => e = .returned (.tuple #[.int .i64 (0), .bool false]) ∧ w = w' := by
  have d1 : (decide ((4 : Int) ≤ n) && decide ((n : Int) ≤ 12)) = false := by simp; omega
  go_enter Try.func14, Try.ntmps14
  go_wp2_with (go_at_call 24; refine (in_any _ _ _ _).mono ?_; rintro e w' ⟨rfl, rfl⟩; rw [d1])
  go_ret2
  exact ⟨rfl, rfl⟩
set_option maxHeartbeats 600000 in
theorem RingIdentifies_1 (n : Int) (w : World) (hb : -9223372036854775808 ≤ n ∧ n ≤ 9223372036854775807) (h : 4 ≤ n ∧ n ≤ 5) :
    Calls Try.prog 14 #[.int .i64 n] w fun e w' => e = .returned (.tuple #[.int .i64 (3), .bool true]) ∧ w = w' := by
  have d1 : (decide ((4 : Int) ≤ n) && decide ((n : Int) ≤ 12)) = true := by simp; omega
  go_enter Try.func14, Try.ntmps14
  go_wp2_with (go_at_call 24; refine (in_any _ _ _ _).mono ?_; rintro e w' ⟨rfl, rfl⟩; rw [d1])
  go_ret2
  exact ⟨rfl, rfl⟩
set_option maxHeartbeats 600000 in
theorem RingIdentifies_2 (n : Int) (w : World) (hb : -9223372036854775808 ≤ n ∧ n ≤ 9223372036854775807) (h : 6 ≤ n ∧ n ≤ 12 ∧ n % 2 = 0) :
    Calls Try.prog 14 #[.int .i64 n] w fun e w' => e = .returned (.tuple #[.int .i64 (n / 2), .bool true]) ∧ w = w' := by
  have d1 : (decide ((4 : Int) ≤ n) && decide ((n : Int) ≤ 12)) = true := by simp; omega
  go_enter Try.func14, Try.ntmps14
  go_wp2_with (go_at_call 24; refine (in_any _ _ _ _).mono ?_; rintro e w' ⟨rfl, rfl⟩; rw [d1])
  go_ret2
  exact ⟨rfl, rfl⟩
set_option maxHeartbeats 600000 in
theorem RingIdentifies_3 (n : Int) (w : World) (hb : -9223372036854775808 ≤ n ∧ n ≤ 9223372036854775807) (h : 6 ≤ n ∧ n ≤ 12 ∧ n % 2 = 1) :
    Calls Try.prog 14 #[.int .i64 n] w fun e w' => e = .returned (.tuple #[.int .i64 ((n + 3) / 2), .bool true]) ∧ w = w' := by
  have d1 : (decide ((4 : Int) ≤ n) && decide ((n : Int) ≤ 12)) = true := by simp; omega
  go_enter Try.func14, Try.ntmps14
  go_wp2_with (go_at_call 24; refine (in_any _ _ _ _).mono ?_; rintro e w' ⟨rfl, rfl⟩; rw [d1])
  go_ret2
  exact ⟨rfl, rfl⟩
set_option maxHeartbeats 600000 in
theorem sRingIdentifies_0 (n : Int) (w : World) (hb : -9223372036854775808 ≤ n ∧ n ≤ 9223372036854775807) (h : ¬ (4 ≤ n ∧ n ≤ 12)) :
    Calls Try.prog 13 #[.int .i64 n] w fun e w' => e = .returned (.tuple #[.int .i64 (0), .bool false]) ∧ w = w' := by
  go_enter Try.func13, Try.ntmps13
  go_wp2_with (go_at_call 23; refine (sin_no _ _ _ (by omega) _).mono ?_; rintro e w' ⟨rfl, rfl⟩)
  go_ret2
  exact ⟨rfl, rfl⟩
set_option maxHeartbeats 600000 in
theorem sRingIdentifies_1 (n : Int) (w : World) (hb : -9223372036854775808 ≤ n ∧ n ≤ 9223372036854775807) (h : 4 ≤ n ∧ n ≤ 5) :
    Calls Try.prog 13 #[.int .i64 n] w fun e w' => e = .returned (.tuple #[.int .i64 (3), .bool true]) ∧ w = w' := by
  go_enter Try.func13, Try.ntmps13
  go_wp2_with (go_at_call 23; refine (sin_yes _ _ _ (by omega) (by omega) _).mono ?_; rintro e w' ⟨rfl, rfl⟩)
  go_ret2
  exact ⟨rfl, rfl⟩
set_option maxHeartbeats 600000 in
theorem sRingIdentifies_2 (n : Int) (w : World) (hb : -9223372036854775808 ≤ n ∧ n ≤ 9223372036854775807) (h : 6 ≤ n ∧ n ≤ 12 ∧ n % 2 = 0) :
    Calls Try.prog 13 #[.int .i64 n] w fun e w' => e = .returned (.tuple #[.int .i64 (n / 2), .bool true]) ∧ w = w' := by
  go_enter Try.func13, Try.ntmps13
  go_wp2_with (go_at_call 23; refine (sin_yes _ _ _ (by omega) (by omega) _).mono ?_; rintro e w' ⟨rfl, rfl⟩)
  go_ret2
  exact ⟨rfl, rfl⟩
set_option maxHeartbeats 600000 in
theorem sRingIdentifies_3 (n : Int) (w : World) (hb : -9223372036854775808 ≤ n ∧ n ≤ 9223372036854775807) (h : 6 ≤ n ∧ n ≤ 12 ∧ n % 2 = 1) :
    Calls Try.prog 13 #[.int .i64 n] w fun e w' => e = .returned (.tuple #[.int .i64 ((n + 3) / 2), .bool true]) ∧ w = w' := by
  go_enter Try.func13, Try.ntmps13
  go_wp2_with (go_at_call 23; refine (sin_yes _ _ _ (by omega) (by omega) _).mono ?_; rintro e w' ⟨rfl, rfl⟩)
  go_ret2
  exact ⟨rfl, rfl⟩
set_option maxHeartbeats 600000 in
theorem FnExactRingIdentifies_walk (w : World) (n : Int) (hb : -9223372036854775808 ≤ n ∧ n ≤ 9223372036854775807) :
    Calls Try.prog 6 #[.int .i64 n] w fun e w' => e = .returned (.bool true) ∧ Below w.heap.size w w' := by
  have hc : (¬ (4 ≤ n ∧ n ≤ 12)) ∨ (4 ≤ n ∧ n ≤ 5) ∨ (6 ≤ n ∧ n ≤ 12 ∧ n % 2 = 0) ∨ (6 ≤ n ∧ n ≤ 12 ∧ n % 2 = 1) := by omega
  rcases hc with h | h | h | h
  · go_enter Try.func6, Try.ntmps6
    go_wp2_with (first | (go_at_call 13; refine (sRingIdentifies_0 n _ hb h).mono ?_; rintro e w' ⟨rfl, rfl⟩) | (go_at_call 14; refine (RingIdentifies_0 n _ hb h).mono ?_; rintro e w' ⟨rfl, rfl⟩))
    go_ret
    exact ⟨rfl, Below.refl _ _⟩
  · go_enter Try.func6, Try.ntmps6
    go_wp2_with (first | (go_at_call 13; refine (sRingIdentifies_1 n _ hb h).mono ?_; rintro e w' ⟨rfl, rfl⟩) | (go_at_call 14; refine (RingIdentifies_1 n _ hb h).mono ?_; rintro e w' ⟨rfl, rfl⟩))
    go_ret
    exact ⟨rfl, Below.refl _ _⟩
  · go_enter Try.func6, Try.ntmps6
    go_wp2_with (first | (go_at_call 13; refine (sRingIdentifies_2 n _ hb h).mono ?_; rintro e w' ⟨rfl, rfl⟩) | (go_at_call 14; refine (RingIdentifies_2 n _ hb h).mono ?_; rintro e w' ⟨rfl, rfl⟩))
    go_ret
    exact ⟨rfl, Below.refl _ _⟩
  · go_enter Try.func6, Try.ntmps6
    go_wp2_with (first | (go_at_call 13; refine (sRingIdentifies_3 n _ hb h).mono ?_; rintro e w' ⟨rfl, rfl⟩) | (go_at_call 14; refine (RingIdentifies_3 n _ hb h).mono ?_; rintro e w' ⟨rfl, rfl⟩))
    go_ret
    exact ⟨rfl, Below.refl _ _⟩
end Go.Proofs.Ytjjnjmemfeadnaa
