/- LeastBound of the program and of the reference. -/
import Derived.Test.YtojfafmfnblocaaSGraphIn
namespace Go.Proofs.Ytojfafmfnblocaa
open Go.RowKit Go.Shelf

theorem graphB_bd {zs : List Int} (h : graphB zs = true) : 1 ≤ zs.length ∧ zs.length ≤ 12 := by
  refine Classical.byContradiction fun hn => ?_
  rw [graphB_len hn] at h; cases h
/-- the least k with n < 2 ^ k -/
def lbV (n : Nat) : Nat := n.log2 + 1
theorem lb_step {n k : Nat} (hn : 1 ≤ n) : (decide ((2 : Int) ^ k ≤ n)) = decide (k < lbV n) := by
  have e : ((2 ^ k : Nat) : Int) = (2 : Int) ^ k := by simp
  rw [← e]
  refine decide_eq_decide.2 ?_
  have := Nat.le_log2 (n := n) (k := k) (by omega)
  unfold lbV; omega
theorem lb_bd {n : Nat} (hn : 1 ≤ n) (h : n ≤ 12) : 1 ≤ lbV n ∧ lbV n ≤ 4 := by
  have h2 : n.log2 < 4 := (Nat.log2_lt (by omega)).2 (by omega)
  unfold lbV; omega

def LeastBoundR (zs : List Int) : Int := if graphB zs then lbV zs.length else 0
set_option maxRecDepth 100000 in
set_option maxHeartbeats 1000000 in
theorem LeastBound_any (a : Option Addr) (n cap : Nat) (zs : List Int) (w : World) (hs : SlAt w a n zs) :
    Calls Try.prog 55 #[.slice a n cap] w fun e w' => e = .returned (.tuple #[.int .i64 (LeastBoundR zs), .bool (graphB zs)]) ∧ Below w.heap.size w w' := by
  cases hg : graphB zs with
  | false =>
    have HR := Lib.hid (show LeastBoundR zs = 0 by simp [LeastBoundR, hg])
    have HG := Lib.hid hg
    clear hg
    go_enter Try.func55, Try.ntmps55
    go_wp2_with (go_at_call 16; refine (GraphIn_is false _ _ _ _ _ hs HG.out).mono ?_; rintro e w1 ⟨rfl, hb1⟩)
    go_ret2
    exact ⟨by rw [HR.out]; rfl, hb1⟩
  | true =>
    obtain ⟨hn1, hn2⟩ := graphB_bd hg
    have hl := hs.len
    rw [← hl] at hn1 hn2
    have HR := Lib.hid (show LeastBoundR zs = lbV n by simp [LeastBoundR, hg, hl])
    have HG := Lib.hid hg
    have hlb := lb_bd hn1 hn2
    clear hg hl
    go_enter Try.func55, Try.ntmps55
    go_wp2_with (go_at_call 16; refine (GraphIn_is true _ _ _ _ _ hs HG.out).mono ?_; rintro e w1 ⟨rfl, hb1⟩)
    go_loop [4] (fun p => ∃ k : Nat, k ≤ lbV n ∧ p = .int .i64 k) (fun p => 12 - (intOf p).toNat)
    case atStart => exact ⟨0, by omega, rfl⟩
    case round =>
      obtain ⟨k, hk, rfl⟩ := hrel
      have hst := lb_step (n := n) (k := k) hn1
      have hpk := npow_bd k (by omega)
      by_cases hlt : k < lbV n
      · rw [decide_eq_true hlt] at hst
        go_wp2
        go_round
        case rel => exact ⟨k + 1, by omega, by go_num⟩
        case measure => simp [intOf]; omega
      · rw [decide_eq_false hlt] at hst
        obtain rfl : k = lbV n := by omega
        go_wp2
        go_ret2
        exact ⟨by rw [HR.out]; rfl, hb1⟩
set_option maxRecDepth 100000 in
set_option maxHeartbeats 1000000 in
theorem sLeastBound_any (a : Option Addr) (n cap : Nat) (zs : List Int) (w : World) (hs : SlAt w a n zs) :
    Calls Try.prog 56 #[.slice a n cap] w fun e w' => e = .returned (.tuple #[.int .i64 (LeastBoundR zs), .bool (graphB zs)]) ∧ Below w.heap.size w w' := by
  cases hg : graphB zs with
  | false =>
    have HR := Lib.hid (show LeastBoundR zs = 0 by simp [LeastBoundR, hg])
    have HG := Lib.hid hg
    clear hg
    go_enter Try.func56, Try.ntmps56
    go_wp2_with (go_at_call 17; refine (sGraphIn_is false _ _ _ _ _ hs HG.out).mono ?_; rintro e w1 ⟨rfl, hb1⟩)
    go_ret2
    exact ⟨by rw [HR.out]; rfl, hb1⟩
  | true =>
    obtain ⟨hn1, hn2⟩ := graphB_bd hg
    have hl := hs.len
    rw [← hl] at hn1 hn2
    have HR := Lib.hid (show LeastBoundR zs = lbV n by simp [LeastBoundR, hg, hl])
    have HG := Lib.hid hg
    have hlb := lb_bd hn1 hn2
    clear hg hl
    go_enter Try.func56, Try.ntmps56
    go_wp2_with (go_at_call 17; refine (sGraphIn_is true _ _ _ _ _ hs HG.out).mono ?_; rintro e w1 ⟨rfl, hb1⟩)
    go_loop [4] (fun p => ∃ k : Nat, k ≤ lbV n ∧ p = .int .i64 k) (fun p => 12 - (intOf p).toNat)
    case atStart => exact ⟨0, by omega, rfl⟩
    case round =>
      obtain ⟨k, hk, rfl⟩ := hrel
      have hst := lb_step (n := n) (k := k) hn1
      have hpk := npow_bd k (by omega)
      by_cases hlt : k < lbV n
      · rw [decide_eq_true hlt] at hst
        go_wp2
        go_round
        case rel => exact ⟨k + 1, by omega, by go_num⟩
        case measure => simp [intOf]; omega
      · rw [decide_eq_false hlt] at hst
        obtain rfl : k = lbV n := by omega
        go_wp2
        go_ret2
        exact ⟨by rw [HR.out]; rfl, hb1⟩
end Go.Proofs.Ytojfafmfnblocaa
