/- What the Draw functions leave (printed by gendraws.py). -/
import Derived.Test.YtojfafmfnblocaaDrawG
import Derived.Test.YtojfafmfnblocaaSLeast
namespace Go.Proofs.Ytojfafmfnblocaa
open Go.RowKit Go.Shelf
attribute [local go_sem] Oper.semAt_some

/-- a drawn graph -/
def DrawnL (most : Nat) (w : World) (e : Ending) (w' : World) : Prop :=
  ∃ (a : Option Addr) (n c : Nat) (zs : List Int), e = .returned (.slice a n c) ∧ Arr w' w.heap.size a n c zs ∧ 1 ≤ n ∧ n ≤ most ∧ Bd12 zs ∧ Below w.heap.size w w'

set_option maxRecDepth 100000 in
set_option maxHeartbeats 1000000 in
theorem DrawGraphIn_any (a : Option Addr) (n cap : Nat) (w : World) (h : BytesAt w a n cap) : Calls Try.prog 15 #[.slice a n cap] w (DrawnL 8 w) := by
  go_enter Try.func15, Try.ntmps15
  go_wp2_with fail
  refine (l6Open_any _ _ _ _ h).mono ?_
  rintro e w1 ⟨R, rfl, hR, hb1⟩
  go_wp2_with fail
  refine (l91Graph_any _ _ _ 8 _ hR (by omega) (by omega) (by omega)).mono ?_
  rintro e w2 ⟨ga, gn, gc, p', zs, rfl, hA, hn1, hn, hbd, hR2, hp, hS⟩
  have hlo := hR.lo
  go_wp2
  go_ret
  exact ⟨_, _, _, _, rfl, hA.mono hb1.size, hn1, hn, hbd, hb1.trans (hS.below hb1.size (by simp; omega))⟩

set_option maxRecDepth 100000 in
set_option maxHeartbeats 1000000 in
theorem DrawGraphBalls_any (a : Option Addr) (n cap : Nat) (w : World) (h : BytesAt w a n cap) : Calls Try.prog 20 #[.slice a n cap] w (DrawnL 8 w) := by
  go_enter Try.func20, Try.ntmps20
  go_wp2_with fail
  refine (l6Open_any _ _ _ _ h).mono ?_
  rintro e w1 ⟨R, rfl, hR, hb1⟩
  go_wp2_with fail
  refine (l91Graph_any _ _ _ 8 _ hR (by omega) (by omega) (by omega)).mono ?_
  rintro e w2 ⟨ga, gn, gc, p', zs, rfl, hA, hn1, hn, hbd, hR2, hp, hS⟩
  have hlo := hR.lo
  go_wp2
  go_ret
  exact ⟨_, _, _, _, rfl, hA.mono hb1.size, hn1, hn, hbd, hb1.trans (hS.below hb1.size (by simp; omega))⟩

set_option maxRecDepth 100000 in
set_option maxHeartbeats 1000000 in
theorem DrawGraphOther_any (a : Option Addr) (n cap : Nat) (w : World) (h : BytesAt w a n cap) : Calls Try.prog 24 #[.slice a n cap] w (DrawnL 8 w) := by
  go_enter Try.func24, Try.ntmps24
  go_wp2_with fail
  refine (l6Open_any _ _ _ _ h).mono ?_
  rintro e w1 ⟨R, rfl, hR, hb1⟩
  go_wp2_with fail
  refine (l91Graph_any _ _ _ 8 _ hR (by omega) (by omega) (by omega)).mono ?_
  rintro e w2 ⟨ga, gn, gc, p', zs, rfl, hA, hn1, hn, hbd, hR2, hp, hS⟩
  have hlo := hR.lo
  go_wp2
  go_ret
  exact ⟨_, _, _, _, rfl, hA.mono hb1.size, hn1, hn, hbd, hb1.trans (hS.below hb1.size (by simp; omega))⟩

set_option maxRecDepth 100000 in
set_option maxHeartbeats 1000000 in
theorem DrawGraphConnected_any (a : Option Addr) (n cap : Nat) (w : World) (h : BytesAt w a n cap) : Calls Try.prog 31 #[.slice a n cap] w (DrawnL 8 w) := by
  go_enter Try.func31, Try.ntmps31
  go_wp2_with fail
  refine (l6Open_any _ _ _ _ h).mono ?_
  rintro e w1 ⟨R, rfl, hR, hb1⟩
  go_wp2_with fail
  refine (l91Graph_any _ _ _ 8 _ hR (by omega) (by omega) (by omega)).mono ?_
  rintro e w2 ⟨ga, gn, gc, p', zs, rfl, hA, hn1, hn, hbd, hR2, hp, hS⟩
  have hlo := hR.lo
  go_wp2
  go_ret
  exact ⟨_, _, _, _, rfl, hA.mono hb1.size, hn1, hn, hbd, hb1.trans (hS.below hb1.size (by simp; omega))⟩

set_option maxRecDepth 100000 in
set_option maxHeartbeats 1000000 in
theorem DrawGraphTwins_any (a : Option Addr) (n cap : Nat) (w : World) (h : BytesAt w a n cap) : Calls Try.prog 33 #[.slice a n cap] w (DrawnL 8 w) := by
  go_enter Try.func33, Try.ntmps33
  go_wp2_with fail
  refine (l6Open_any _ _ _ _ h).mono ?_
  rintro e w1 ⟨R, rfl, hR, hb1⟩
  go_wp2_with fail
  refine (l91Graph_any _ _ _ 8 _ hR (by omega) (by omega) (by omega)).mono ?_
  rintro e w2 ⟨ga, gn, gc, p', zs, rfl, hA, hn1, hn, hbd, hR2, hp, hS⟩
  have hlo := hR.lo
  go_wp2
  go_ret
  exact ⟨_, _, _, _, rfl, hA.mono hb1.size, hn1, hn, hbd, hb1.trans (hS.below hb1.size (by simp; omega))⟩

set_option maxRecDepth 100000 in
set_option maxHeartbeats 1000000 in
theorem DrawLeastBound_any (a : Option Addr) (n cap : Nat) (w : World) (h : BytesAt w a n cap) : Calls Try.prog 54 #[.slice a n cap] w (DrawnL 8 w) := by
  go_enter Try.func54, Try.ntmps54
  go_wp2_with fail
  refine (l6Open_any _ _ _ _ h).mono ?_
  rintro e w1 ⟨R, rfl, hR, hb1⟩
  go_wp2_with fail
  refine (l91Graph_any _ _ _ 8 _ hR (by omega) (by omega) (by omega)).mono ?_
  rintro e w2 ⟨ga, gn, gc, p', zs, rfl, hA, hn1, hn, hbd, hR2, hp, hS⟩
  have hlo := hR.lo
  go_wp2
  go_ret
  exact ⟨_, _, _, _, rfl, hA.mono hb1.size, hn1, hn, hbd, hb1.trans (hS.below hb1.size (by simp; omega))⟩

theorem CodeLeastR_lt {zs : List Int} {kd : Int} {b : Nat} (h : CodeLeastR zs kd = some b) : b < 2 ^ zs.length := by
  unfold CodeLeastR at h
  split at h
  · rcases leastTo_spec (isB zs kd.toNat) (2 ^ zs.length) with ⟨h1, _⟩ | ⟨b', h1, h2, _, _⟩
    · rw [leastV, h1] at h; cases h
    · rw [leastV, h1] at h; cases h; exact h2
  · cases h

/-- a drawn graph and a set -/
def DrawnGC (w : World) (e : Ending) (w' : World) : Prop :=
  ∃ (a : Option Addr) (n cap c : Nat) (zs : List Int), e = .returned (.tuple #[.slice a n cap, .int .i64 c]) ∧ Arr w' w.heap.size a n cap zs ∧ 1 ≤ n ∧ n ≤ 6 ∧ Bd12 zs ∧ c < 2 ^ n ∧ Below w.heap.size w w'
/-- a drawn graph, a kind and a set -/
def DrawnGKC (w : World) (e : Ending) (w' : World) : Prop :=
  ∃ (a : Option Addr) (n cap k c : Nat) (zs : List Int), e = .returned (.tuple #[.slice a n cap, .int .i64 k, .int .i64 c]) ∧ Arr w' w.heap.size a n cap zs ∧ 1 ≤ n ∧ n ≤ 6 ∧ Bd12 zs ∧ k ≤ 7 ∧ c < 2 ^ n ∧ Below w.heap.size w w'
end Go.Proofs.Ytojfafmfnblocaa
