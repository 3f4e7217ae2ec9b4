import Derived.Test.YtojfafmfnblocaaSGraphIn
/- The laws of the formulas, walked. -/
namespace Go.Proofs.Ytojfafmfnblocaa
open Go.RowKit Go.Shelf
set_option linter.unusedVariables false

theorem pair_same {a b : Int} {c d : Bool} (h1 : a = b) (h2 : c = d) : (#[.int .i64 a, .bool c] : Array Value) = #[.int .i64 b, .bool d] := by rw [h1, h2]

set_option maxHeartbeats 600000 in
theorem RingDominates_0 (n : Int) (w : World) (hb : -9223372036854775808 ≤ n ∧ n ≤ 9223372036854775807) (h : 3 ≤ n ∧ n ≤ 12) :
    Calls Try.prog 49 #[.int .i64 n] w fun e w' => e = .returned (.tuple #[.int .i64 ((n + 2) / 3), .bool true]) ∧ w = w' := by
  have d1 : (decide ((3 : Int) ≤ n) && decide ((n : Int) ≤ 12)) = true := by simp; omega
  go_enter Try.func49, Try.ntmps49
  go_wp2_with (go_at_call 59; refine (in_any _ _ _ _).mono ?_; rintro e w' ⟨rfl, rfl⟩; rw [d1])
  go_ret2
  exact ⟨rfl, rfl⟩
set_option maxHeartbeats 600000 in
theorem RingDominates_1 (n : Int) (w : World) (hb : -9223372036854775808 ≤ n ∧ n ≤ 9223372036854775807) (h : ¬ (3 ≤ n ∧ n ≤ 12)) :
    Calls Try.prog 49 #[.int .i64 n] w fun e w' => e = .returned (.tuple #[.int .i64 (0), .bool false]) ∧ w = w' := by
  have d1 : (decide ((3 : Int) ≤ n) && decide ((n : Int) ≤ 12)) = false := by simp; omega
  go_enter Try.func49, Try.ntmps49
  go_wp2_with (go_at_call 59; refine (in_any _ _ _ _).mono ?_; rintro e w' ⟨rfl, rfl⟩; rw [d1])
  go_ret2
  exact ⟨rfl, rfl⟩
set_option maxHeartbeats 600000 in
theorem sRingDominates_0 (n : Int) (w : World) (hb : -9223372036854775808 ≤ n ∧ n ≤ 9223372036854775807) (h : 3 ≤ n ∧ n ≤ 12) :
    Calls Try.prog 50 #[.int .i64 n] w fun e w' => e = .returned (.tuple #[.int .i64 ((n + 2) / 3), .bool true]) ∧ w = w' := by
  go_enter Try.func50, Try.ntmps50
  go_wp2_with (go_at_call 63; refine (sin_yes _ _ _ (by omega) (by omega) _).mono ?_; rintro e w' ⟨rfl, rfl⟩)
  go_ret2
  exact ⟨rfl, rfl⟩
set_option maxHeartbeats 600000 in
theorem sRingDominates_1 (n : Int) (w : World) (hb : -9223372036854775808 ≤ n ∧ n ≤ 9223372036854775807) (h : ¬ (3 ≤ n ∧ n ≤ 12)) :
    Calls Try.prog 50 #[.int .i64 n] w fun e w' => e = .returned (.tuple #[.int .i64 (0), .bool false]) ∧ w = w' := by
  go_enter Try.func50, Try.ntmps50
  go_wp2_with (go_at_call 63; refine (sin_no _ _ _ (by omega) _).mono ?_; rintro e w' ⟨rfl, rfl⟩)
  go_ret2
  exact ⟨rfl, rfl⟩
set_option maxHeartbeats 600000 in
theorem PathIdentifies_0 (n : Int) (w : World) (hb : -9223372036854775808 ≤ n ∧ n ≤ 9223372036854775807) (h : n = 1) :
    Calls Try.prog 44 #[.int .i64 n] w fun e w' => e = .returned (.tuple #[.int .i64 (1), .bool true]) ∧ w = w' := by
  subst h
  go_enter Try.func44, Try.ntmps44
  go_wp2
  go_ret2
  exact ⟨rfl, rfl⟩
set_option maxHeartbeats 600000 in
theorem PathIdentifies_1 (n : Int) (w : World) (hb : -9223372036854775808 ≤ n ∧ n ≤ 9223372036854775807) (h : 3 ≤ n ∧ n ≤ 12) :
    Calls Try.prog 44 #[.int .i64 n] w fun e w' => e = .returned (.tuple #[.int .i64 (n / 2 + 1), .bool true]) ∧ w = w' := by
  have d1 : (decide ((3 : Int) ≤ n) && decide ((n : Int) ≤ 12)) = true := by simp; omega
  go_enter Try.func44, Try.ntmps44
  go_wp2_with (go_at_call 59; refine (in_any _ _ _ _).mono ?_; rintro e w' ⟨rfl, rfl⟩; rw [d1])
  go_ret2
  exact ⟨rfl, rfl⟩
set_option maxHeartbeats 600000 in
theorem PathIdentifies_2 (n : Int) (w : World) (hb : -9223372036854775808 ≤ n ∧ n ≤ 9223372036854775807) (h : n ≠ 1 ∧ ¬ (3 ≤ n ∧ n ≤ 12)) :
    Calls Try.prog 44 #[.int .i64 n] w fun e w' => e = .returned (.tuple #[.int .i64 (0), .bool false]) ∧ w = w' := by
  have d1 : (decide ((3 : Int) ≤ n) && decide ((n : Int) ≤ 12)) = false := by simp; omega
  go_enter Try.func44, Try.ntmps44
  go_wp2_with (go_at_call 59; refine (in_any _ _ _ _).mono ?_; rintro e w' ⟨rfl, rfl⟩; rw [d1])
  go_ret2
  exact ⟨rfl, rfl⟩
set_option maxHeartbeats 600000 in
theorem sPathIdentifies_0 (n : Int) (w : World) (hb : -9223372036854775808 ≤ n ∧ n ≤ 9223372036854775807) (h : n = 1) :
    Calls Try.prog 45 #[.int .i64 n] w fun e w' => e = .returned (.tuple #[.int .i64 (1), .bool true]) ∧ w = w' := by
  subst h
  go_enter Try.func45, Try.ntmps45
  go_wp2_with (go_at_call 63; refine (sin_yes _ _ _ (by omega) (by omega) _).mono ?_; rintro e w' ⟨rfl, rfl⟩)
  go_ret2
  exact ⟨rfl, rfl⟩
set_option maxHeartbeats 600000 in
theorem sPathIdentifies_1 (n : Int) (w : World) (hb : -9223372036854775808 ≤ n ∧ n ≤ 9223372036854775807) (h : 3 ≤ n ∧ n ≤ 12) :
    Calls Try.prog 45 #[.int .i64 n] w fun e w' => e = .returned (.tuple #[.int .i64 (n / 2 + 1), .bool true]) ∧ w = w' := by
  go_enter Try.func45, Try.ntmps45
  go_wp2_with (go_at_call 63; refine (sin_yes _ _ _ (by omega) (by omega) _).mono ?_; rintro e w' ⟨rfl, rfl⟩)
  go_ret2
  exact ⟨rfl, rfl⟩
set_option maxHeartbeats 600000 in
theorem sPathIdentifies_2 (n : Int) (w : World) (hb : -9223372036854775808 ≤ n ∧ n ≤ 9223372036854775807) (h : n ≠ 1 ∧ ¬ (3 ≤ n ∧ n ≤ 12)) :
    Calls Try.prog 45 #[.int .i64 n] w fun e w' => e = .returned (.tuple #[.int .i64 (0), .bool false]) ∧ w = w' := by
  by_cases h2 : n = 2
  · subst h2
    go_enter Try.func45, Try.ntmps45
    go_wp2_with (go_at_call 63; refine (sin_yes _ _ _ (by omega) (by omega) _).mono ?_; rintro e w' ⟨rfl, rfl⟩)
    go_ret2
    exact ⟨rfl, rfl⟩
  · go_enter Try.func45, Try.ntmps45
    go_wp2_with (go_at_call 63; refine (sin_no _ _ _ (by omega) _).mono ?_; rintro e w' ⟨rfl, rfl⟩)
    go_ret2
    exact ⟨rfl, rfl⟩
set_option maxHeartbeats 600000 in
theorem RingIdentifies_0 (n : Int) (w : World) (hb : -9223372036854775808 ≤ n ∧ n ≤ 9223372036854775807) (h : ¬ (4 ≤ n ∧ n ≤ 12)) :
    Calls Try.prog 52 #[.int .i64 n] w fun e w' => e = .returned (.tuple #[.int .i64 (0), .bool false]) ∧ w = w' := by
  have d1 : (decide ((4 : Int) ≤ n) && decide ((n : Int) ≤ 12)) = false := by simp; omega
  go_enter Try.func52, Try.ntmps52
  go_wp2_with (go_at_call 59; refine (in_any _ _ _ _).mono ?_; rintro e w' ⟨rfl, rfl⟩; rw [d1])
  go_ret2
  exact ⟨rfl, rfl⟩
set_option maxHeartbeats 600000 in
theorem RingIdentifies_1 (n : Int) (w : World) (hb : -9223372036854775808 ≤ n ∧ n ≤ 9223372036854775807) (h : 4 ≤ n ∧ n ≤ 5) :
    Calls Try.prog 52 #[.int .i64 n] w fun e w' => e = .returned (.tuple #[.int .i64 (3), .bool true]) ∧ w = w' := by
  have d1 : (decide ((4 : Int) ≤ n) && decide ((n : Int) ≤ 12)) = true := by simp; omega
  go_enter Try.func52, Try.ntmps52
  go_wp2_with (go_at_call 59; refine (in_any _ _ _ _).mono ?_; rintro e w' ⟨rfl, rfl⟩; rw [d1])
  go_ret2
  exact ⟨rfl, rfl⟩
set_option maxHeartbeats 600000 in
theorem RingIdentifies_2 (n : Int) (w : World) (hb : -9223372036854775808 ≤ n ∧ n ≤ 9223372036854775807) (h : 6 ≤ n ∧ n ≤ 12 ∧ n % 2 = 0) :
    Calls Try.prog 52 #[.int .i64 n] w fun e w' => e = .returned (.tuple #[.int .i64 (n / 2), .bool true]) ∧ w = w' := by
  have d1 : (decide ((4 : Int) ≤ n) && decide ((n : Int) ≤ 12)) = true := by simp; omega
  go_enter Try.func52, Try.ntmps52
  go_wp2_with (go_at_call 59; refine (in_any _ _ _ _).mono ?_; rintro e w' ⟨rfl, rfl⟩; rw [d1])
  go_ret2
  exact ⟨rfl, rfl⟩
set_option maxHeartbeats 600000 in
theorem RingIdentifies_3 (n : Int) (w : World) (hb : -9223372036854775808 ≤ n ∧ n ≤ 9223372036854775807) (h : 6 ≤ n ∧ n ≤ 12 ∧ n % 2 = 1) :
    Calls Try.prog 52 #[.int .i64 n] w fun e w' => e = .returned (.tuple #[.int .i64 ((n + 3) / 2), .bool true]) ∧ w = w' := by
  have d1 : (decide ((4 : Int) ≤ n) && decide ((n : Int) ≤ 12)) = true := by simp; omega
  go_enter Try.func52, Try.ntmps52
  go_wp2_with (go_at_call 59; refine (in_any _ _ _ _).mono ?_; rintro e w' ⟨rfl, rfl⟩; rw [d1])
  go_ret2
  exact ⟨rfl, rfl⟩
set_option maxHeartbeats 600000 in
theorem sRingIdentifies_0 (n : Int) (w : World) (hb : -9223372036854775808 ≤ n ∧ n ≤ 9223372036854775807) (h : ¬ (4 ≤ n ∧ n ≤ 12)) :
    Calls Try.prog 53 #[.int .i64 n] w fun e w' => e = .returned (.tuple #[.int .i64 (0), .bool false]) ∧ w = w' := by
  go_enter Try.func53, Try.ntmps53
  go_wp2_with (go_at_call 63; refine (sin_no _ _ _ (by omega) _).mono ?_; rintro e w' ⟨rfl, rfl⟩)
  go_ret2
  exact ⟨rfl, rfl⟩
set_option maxHeartbeats 600000 in
theorem sRingIdentifies_1 (n : Int) (w : World) (hb : -9223372036854775808 ≤ n ∧ n ≤ 9223372036854775807) (h : 4 ≤ n ∧ n ≤ 5) :
    Calls Try.prog 53 #[.int .i64 n] w fun e w' => e = .returned (.tuple #[.int .i64 (3), .bool true]) ∧ w = w' := by
  go_enter Try.func53, Try.ntmps53
  go_wp2_with (go_at_call 63; refine (sin_yes _ _ _ (by omega) (by omega) _).mono ?_; rintro e w' ⟨rfl, rfl⟩)
  go_ret2
  exact ⟨rfl, rfl⟩
set_option maxHeartbeats 600000 in
theorem sRingIdentifies_2 (n : Int) (w : World) (hb : -9223372036854775808 ≤ n ∧ n ≤ 9223372036854775807) (h : 6 ≤ n ∧ n ≤ 12 ∧ n % 2 = 0) :
    Calls Try.prog 53 #[.int .i64 n] w fun e w' => e = .returned (.tuple #[.int .i64 (n / 2), .bool true]) ∧ w = w' := by
  go_enter Try.func53, Try.ntmps53
  go_wp2_with (go_at_call 63; refine (sin_yes _ _ _ (by omega) (by omega) _).mono ?_; rintro e w' ⟨rfl, rfl⟩)
  go_ret2
  exact ⟨rfl, rfl⟩
set_option maxHeartbeats 600000 in
theorem sRingIdentifies_3 (n : Int) (w : World) (hb : -9223372036854775808 ≤ n ∧ n ≤ 9223372036854775807) (h : 6 ≤ n ∧ n ≤ 12 ∧ n % 2 = 1) :
    Calls Try.prog 53 #[.int .i64 n] w fun e w' => e = .returned (.tuple #[.int .i64 ((n + 3) / 2), .bool true]) ∧ w = w' := by
  go_enter Try.func53, Try.ntmps53
  go_wp2_with (go_at_call 63; refine (sin_yes _ _ _ (by omega) (by omega) _).mono ?_; rintro e w' ⟨rfl, rfl⟩)
  go_ret2
  exact ⟨rfl, rfl⟩
end Go.Proofs.Ytojfafmfnblocaa
