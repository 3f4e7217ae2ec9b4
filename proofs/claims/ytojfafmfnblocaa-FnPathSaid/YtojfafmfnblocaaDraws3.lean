/- What the Draw functions of nodes, numbers and trees leave. -/
import Derived.Test.YtojfafmfnblocaaDraws
namespace Go.Proofs.Ytojfafmfnblocaa
open Go.RowKit Go.Shelf
attribute [local go_sem] Oper.semAt_some

/-- a drawn graph and a node, seldom -1 -/
def DrawnGX (w : World) (e : Ending) (w' : World) : Prop :=
  ∃ (a : Option Addr) (n cap : Nat) (x : Int) (zs : List Int), e = .returned (.tuple #[.slice a n cap, .int .i64 x]) ∧ Arr w' w.heap.size a n cap zs ∧ 1 ≤ n ∧ n ≤ 7 ∧ Bd12 zs ∧ -1 ≤ x ∧ x ≤ 12 ∧ Below w.heap.size w w'
set_option maxRecDepth 100000 in
set_option maxHeartbeats 1000000 in
theorem l91Node_any (a : Option Addr) (n cap : Nat) (w : World) (h : BytesAt w a n cap) : Calls Try.prog 73 #[.slice a n cap] w (DrawnGX w) := by
  go_enter Try.func73, Try.ntmps73
  go_wp2_with fail
  refine (l6Open_any _ _ _ _ h).mono ?_
  rintro e w1 ⟨R, rfl, hR, hb1⟩
  go_wp2_with fail
  refine (l91Graph_any _ _ _ 7 _ hR (by omega) (by omega) (by omega)).mono ?_
  rintro e w2 ⟨ga, gn, gc, p', zs, rfl, hA, hn1, hn, hbd, hR2, hp, hS⟩
  have hlo := hR.lo
  have hB2 := hb1.trans (hS.below hb1.size (by simp; omega))
  have hA2 := hA.mono hb1.size
  have hge : ∀ k ∈ blk ga, k ≠ R := fun k hk => by have := hA.ge k hk; have := hR.lt; omega
  clear hA hS hR
  go_wp2_with fail
  refine (pick_any _ _ _ _ _ hR2 (by omega) (by omega)).mono ?_
  rintro e w3 ⟨x, hx, rfl, hR3, hS3⟩
  have hx' := inPick_lt hx (by omega)
  have hA3 := hA2.stay' hS3 (fun k hk hm => hge k hk (by simpa using hm))
  have hB3 := hB2.trans (hS3.below hB2.size (by simp; omega))
  clear hx hA2 hB2 hS3 hR2
  go_wp2_with fail
  refine (pick_any _ _ _ _ _ hR3 (by omega) (by omega)).mono ?_
  rintro e w4 ⟨y, hy, rfl, hR4, hS4⟩
  have hy' := inPick_lt hy (by omega)
  have hA4 := hA3.stay' hS4 (fun k hk hm => hge k hk (by simpa using hm))
  have hB4 := hB3.trans (hS4.below hB3.size (by simp; omega))
  clear hy hA3 hB3 hS4 hR3
  obtain ⟨t, ht, ht1⟩ : ∃ t : Nat, Int.tdiv (y : Int) 19 = t ∧ t ≤ 1 := ⟨y / 19, by exact tdiv_nat y 19, by omega⟩
  go_wp2
  go_ret2
  exact ⟨_, _, _, _, _, rfl, hA4, hn1, hn, hbd, by omega, by omega, hB4⟩
set_option maxRecDepth 100000 in
set_option maxHeartbeats 1000000 in
theorem DrawGraphDistances_any (a : Option Addr) (n cap : Nat) (w : World) (h : BytesAt w a n cap) : Calls Try.prog 28 #[.slice a n cap] w (DrawnGX w) := by
  go_enter Try.func28, Try.ntmps28
  go_wp2_with fail
  refine (l91Node_any _ _ _ _ h).mono ?_
  rintro e w1 ⟨ga, gn, gc, x, zs, rfl, h1⟩
  go_wp2
  go_ret2
  exact ⟨_, _, _, _, _, rfl, h1⟩

/-- a drawn number -/
def DrawnN (w : World) (e : Ending) (w' : World) : Prop := ∃ x : Nat, e = .returned (.int .i64 x) ∧ x ≤ 13 ∧ Below w.heap.size w w'
set_option maxRecDepth 100000 in
set_option maxHeartbeats 1000000 in
theorem DrawPathIdentifies_any (a : Option Addr) (n cap : Nat) (w : World) (h : BytesAt w a n cap) : Calls Try.prog 43 #[.slice a n cap] w (DrawnN w) := by
  go_enter Try.func43, Try.ntmps43
  go_wp2_with fail
  refine (l6Open_any _ _ _ _ h).mono ?_
  rintro e w1 ⟨R, rfl, hR, hb1⟩
  have hlo := hR.lo
  go_wp2_with fail
  refine (pick_any _ _ _ _ _ hR (by omega) (by omega)).mono ?_
  rintro e w2 ⟨x, hx, rfl, hR2, hS2⟩
  have hx' := inPick_lt hx (by omega)
  have hB2 := hb1.trans (hS2.below hb1.size (by simp; omega))
  clear hx hb1 hS2 hR hR2
  go_wp2
  go_ret
  exact ⟨x, rfl, by omega, hB2⟩
set_option maxRecDepth 100000 in
theorem DrawRingIdentifies_any (a : Option Addr) (n cap : Nat) (w : World) (h : BytesAt w a n cap) : Calls Try.prog 51 #[.slice a n cap] w (DrawnN w) := by
  go_enter Try.func51, Try.ntmps51
  go_wp2_with fail
  refine (DrawPathIdentifies_any _ _ _ _ h).mono ?_
  rintro e w1 ⟨x, rfl, h1⟩
  go_wp2
  go_ret
  exact ⟨x, rfl, h1⟩
set_option maxRecDepth 100000 in
theorem DrawRingDominates_any (a : Option Addr) (n cap : Nat) (w : World) (h : BytesAt w a n cap) : Calls Try.prog 48 #[.slice a n cap] w (DrawnN w) := by
  go_enter Try.func48, Try.ntmps48
  go_wp2_with fail
  refine (DrawPathIdentifies_any _ _ _ _ h).mono ?_
  rintro e w1 ⟨x, rfl, h1⟩
  go_wp2
  go_ret
  exact ⟨x, rfl, h1⟩
end Go.Proofs.Ytojfafmfnblocaa
