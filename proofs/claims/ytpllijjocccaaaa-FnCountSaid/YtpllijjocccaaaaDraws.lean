/- What the Draw functions leave (printed by gendraws.py). -/
import Derived.Test.YtpllijjocccaaaaDrawG
import Derived.Test.YtpllijjocccaaaaSLeast
namespace Go.Proofs.Ytpllijjocccaaaa
open Go.RowKit Go.Shelf
attribute [local go_sem] Oper.semAt_some

/-- a drawn graph -/
def DrawnL (most : Nat) (w : World) (e : Ending) (w' : World) : Prop :=
  ∃ (a : Option Addr) (n c : Nat) (zs : List Int), e = .returned (.slice a n c) ∧ Arr w' w.heap.size a n c zs ∧ 1 ≤ n ∧ n ≤ most ∧ Bd12 zs ∧ Below w.heap.size w w'

set_option maxRecDepth 100000 in
set_option maxHeartbeats 1000000 in
theorem DrawGraphTwins_any (a : Option Addr) (n cap : Nat) (w : World) (h : BytesAt w a n cap) : Calls Try.prog 34 #[.slice a n cap] w (DrawnL 8 w) := by
  go_enter Try.func34, Try.ntmps34
  go_wp2_with fail
  refine (l6Open_any _ _ _ _ h).mono ?_
  rintro e w1 ⟨R, rfl, hR, hb1⟩
  go_wp2_with fail
  refine (l91Graph_any _ _ _ 8 _ hR (by omega) (by omega) (by omega)).mono ?_
  rintro e w2 ⟨ga, gn, gc, p', zs, rfl, hA, hn1, hn, hbd, hR2, hp, hS⟩
  have hlo := hR.lo
  go_wp2
  go_ret
  exact ⟨_, _, _, _, rfl, hA.mono hb1.size, hn1, hn, hbd, hb1.trans (hS.below hb1.size (by simp; omega))⟩

set_option maxRecDepth 100000 in
set_option maxHeartbeats 1000000 in
theorem DrawCodeHas_any (a : Option Addr) (n cap : Nat) (w : World) (h : BytesAt w a n cap) : Calls Try.prog 28 #[.slice a n cap] w (DrawnL 7 w) := by
  go_enter Try.func28, Try.ntmps28
  go_wp2_with fail
  refine (l6Open_any _ _ _ _ h).mono ?_
  rintro e w1 ⟨R, rfl, hR, hb1⟩
  go_wp2_with fail
  refine (l91Graph_any _ _ _ 7 _ hR (by omega) (by omega) (by omega)).mono ?_
  rintro e w2 ⟨ga, gn, gc, p', zs, rfl, hA, hn1, hn, hbd, hR2, hp, hS⟩
  have hlo := hR.lo
  go_wp2
  go_ret
  exact ⟨_, _, _, _, rfl, hA.mono hb1.size, hn1, hn, hbd, hb1.trans (hS.below hb1.size (by simp; omega))⟩

theorem CodeLeastR_lt {zs : List Int} {kd : Int} {b : Nat} (h : CodeLeastR zs kd = some b) : b < 2 ^ zs.length := by
  unfold CodeLeastR at h
  split at h
  · rcases leastTo_spec (isB zs kd.toNat) (2 ^ zs.length) with ⟨h1, _⟩ | ⟨b', h1, h2, _, _⟩
    · rw [leastV, h1] at h; cases h
    · rw [leastV, h1] at h; cases h; exact h2
  · cases h

set_option maxRecDepth 100000 in
set_option maxHeartbeats 2000000 in
theorem l91Code_any (B R p : Nat) (a : Option Addr) (n cap : Nat) (zs : List Int) (kd : Int) (w : World) (h : RdAt w B R p) (hp : p ≤ 900000) (hs : SlAt w a n zs) (hn1 : 1 ≤ n) (hn : n ≤ 12) :
    Calls Try.prog 69 #[.pointer (some ⟨R, 0, none⟩), .slice a n cap, .int .i64 kd] w fun e w' => ∃ (c p' : Nat), e = .returned (.int .i64 c) ∧ c < 2 ^ n ∧ RdAt w' B R p' ∧ p' ≤ p + 3 ∧ Stay w.heap.size [R] w w' := by
  have hR := h.lt
  have hpw : 2 ^ n ≤ 4096 := Nat.pow_le_pow_right (n := 2) (by omega) hn
  have hpb : ((2 ^ n : Nat) : Int) = (2 : Int) ^ n := by simp
  have hp1 := Nat.two_pow_pos n
  have hnI : (n : Int) < 64 := by omega
  have hpi : (1 : Int) ≤ 2 ^ n ∧ (2 : Int) ^ n ≤ 4096 := by omega
  rcases hcl : CodeLeastR zs kd with _ | b
  · have HC := Lib.hid hcl
    clear hcl
    go_enter Try.func69, Try.ntmps69
    go_wp2_with fail
    refine (sCodeLeast_any _ _ _ _ _ _ hs).mono ?_
    rintro e w1 ⟨rfl, hb1⟩
    rw [HC.out]
    simp only [optN, Option.isSome]
    have h1 := h.below hb1
    go_wp2_with fail
    refine (pick_any _ _ _ _ _ h1 (by omega) (by omega)).mono ?_
    rintro e w2 ⟨x, hx, rfl, h2, hS2⟩
    have hx' := inPick_lt hx (by omega)
    go_wp2
    go_ret
    exact ⟨x, _, rfl, by omega, h2, by omega, (Below.stay hb1 [R]).next hS2 hb1.size⟩
  · have hbl := CodeLeastR_lt hcl
    rw [← hs.len] at hbl
    have HC := Lib.hid hcl
    clear hcl
    go_enter Try.func69, Try.ntmps69
    go_wp2_with fail
    refine (sCodeLeast_any _ _ _ _ _ _ hs).mono ?_
    rintro e w1 ⟨rfl, hb1⟩
    rw [HC.out]
    simp only [optN, Option.isSome]
    have h1 := h.below hb1
    go_wp2_with fail
    refine (pick_any _ _ _ _ _ h1 (by omega) (by omega)).mono ?_
    rintro e w2 ⟨x, hx, rfl, h2, hS2⟩
    have hS2' := (Below.stay hb1 [R]).next hS2 hb1.size
    clear hx hS2 h1
    rcases Bool.eq_false_or_eq_true ((x : Int) == 0) with hx0 | hx0
    · go_wp2_with fail
      refine (pick_any _ _ _ _ _ h2 (by omega) (by omega)).mono ?_
      rintro e w3 ⟨k, hk, rfl, h3, hS3⟩
      have hk' := inPick_lt hk (by omega)
      have hk1 : k < n := by omega
      have hor : b ||| 2 ^ k < 2 ^ n := Nat.or_lt_two_pow hbl (Nat.pow_lt_pow_right (by omega) hk1)
      have hk2 : 2 ^ k ≤ 4096 := Nat.le_trans (Nat.pow_le_pow_right (n := 2) (by omega) (Nat.le_of_lt hk1)) hpw
      obtain ⟨m, hm⟩ : ∃ m, 2 ^ k = m := ⟨_, rfl⟩
      have hkc : (2 : Int) ^ k = (m : Int) := by rw [← hm]; simp
      rw [hm] at hor hk2
      have e1 : bits BinOp.or IntKind.i64 (b : Int) (m : Int) = ((b ||| m : Nat) : Int) := i64_or_nat _ _ (by omega) (by omega)
      have hw : IntKind.i64.wrap (m : Int) = m := IntWalk.i64_in _ (by omega)
      clear hm hpb
      go_wp2
      go_ret
      exact ⟨_, _, rfl, hor, h3, by omega, hS2'.next hS3 hS2'.size⟩
    · go_wp2_with fail
      refine (pick_any _ _ _ _ _ h2 (by omega) (by omega)).mono ?_
      rintro e w3 ⟨y, hy, rfl, h3, hS3⟩
      have hS3' := hS2'.next hS3 hS2'.size
      clear hy hS3 h2 hS2'
      rcases Bool.eq_false_or_eq_true ((y : Int) == 0) with hy0 | hy0
      · go_wp2
        go_ret
        exact ⟨b, _, rfl, hbl, h3, by omega, hS3'⟩
      · go_wp2_with fail
        refine (pick_any _ _ _ _ _ h3 (by omega) (by omega)).mono ?_
        rintro e w4 ⟨z, hz, rfl, h4, hS4⟩
        have hz' := inPick_lt hz (by omega)
        go_wp2
        go_ret
        exact ⟨z, _, rfl, by omega, h4, by omega, hS3'.next hS4 hS3'.size⟩

/-- a drawn graph and a set -/
def DrawnGC (w : World) (e : Ending) (w' : World) : Prop :=
  ∃ (a : Option Addr) (n cap c : Nat) (zs : List Int), e = .returned (.tuple #[.slice a n cap, .int .i64 c]) ∧ Arr w' w.heap.size a n cap zs ∧ 1 ≤ n ∧ n ≤ 6 ∧ Bd12 zs ∧ c < 2 ^ n ∧ Below w.heap.size w w'
/-- a drawn graph, a kind and a set -/
def DrawnGKC (w : World) (e : Ending) (w' : World) : Prop :=
  ∃ (a : Option Addr) (n cap k c : Nat) (zs : List Int), e = .returned (.tuple #[.slice a n cap, .int .i64 k, .int .i64 c]) ∧ Arr w' w.heap.size a n cap zs ∧ 1 ≤ n ∧ n ≤ 6 ∧ Bd12 zs ∧ k ≤ 7 ∧ c < 2 ^ n ∧ Below w.heap.size w w'
set_option maxRecDepth 100000 in
set_option maxHeartbeats 1000000 in
theorem l91Given_any (a : Option Addr) (n cap : Nat) (kd : Int) (w : World) (h : BytesAt w a n cap) : Calls Try.prog 77 #[.slice a n cap, .int .i64 kd] w (DrawnGC w) := by
  go_enter Try.func77, Try.ntmps77
  go_wp2_with fail
  refine (l6Open_any _ _ _ _ h).mono ?_
  rintro e w1 ⟨R, rfl, hR, hb1⟩
  go_wp2_with fail
  refine (l91Graph_any _ _ _ 6 _ hR (by omega) (by omega) (by omega)).mono ?_
  rintro e w2 ⟨ga, gn, gc, p', zs, rfl, hA, hn1, hn, hbd, hR2, hp, hS⟩
  have hlo := hR.lo
  have hB2 := hb1.trans (hS.below hb1.size (by simp; omega))
  have hA2 := hA.mono hb1.size
  have hge : ∀ k ∈ blk ga, k ≠ R := fun k hk => by have := hA.ge k hk; have := hR.lt; omega
  have hs2 := hA.sl
  clear hA hS hR
  go_wp2_with fail
  refine (l91Code_any _ _ _ _ _ _ _ _ _ hR2 (by omega) hs2 hn1 (by omega)).mono ?_
  rintro e w3 ⟨c, p3, rfl, hc, hR3, hp3, hS3⟩
  have hA3 := hA2.stay' hS3 (fun k hk hm => hge k hk (by simpa using hm))
  have hB3 := hB2.trans (hS3.below hB2.size (by simp; omega))
  clear hA2 hB2 hS3 hs2
  go_wp2
  go_ret2
  exact ⟨_, _, _, _, _, rfl, hA3, hn1, hn, hbd, hc, hB3⟩

set_option maxRecDepth 100000 in
set_option maxHeartbeats 1000000 in
theorem DrawCodeMarks_any (a : Option Addr) (n cap : Nat) (w : World) (h : BytesAt w a n cap) : Calls Try.prog 31 #[.slice a n cap] w (DrawnGC w) := by
  go_enter Try.func31, Try.ntmps31
  go_wp2_with fail
  refine (l91Given_any _ _ _ 2 _ h).mono ?_
  rintro e w1 ⟨ga, gn, gc, c, zs, rfl, h1⟩
  go_wp2
  go_ret2
  exact ⟨_, _, _, _, _, rfl, h1⟩

set_option maxRecDepth 100000 in
set_option maxHeartbeats 1000000 in
theorem DrawCodeVectors_any (a : Option Addr) (n cap : Nat) (w : World) (h : BytesAt w a n cap) : Calls Try.prog 43 #[.slice a n cap] w (DrawnGC w) := by
  go_enter Try.func43, Try.ntmps43
  go_wp2_with fail
  refine (l91Given_any _ _ _ 3 _ h).mono ?_
  rintro e w1 ⟨ga, gn, gc, c, zs, rfl, h1⟩
  go_wp2
  go_ret2
  exact ⟨_, _, _, _, _, rfl, h1⟩

set_option maxRecDepth 100000 in
set_option maxHeartbeats 1000000 in
theorem DrawCodeIn_any (a : Option Addr) (n cap : Nat) (w : World) (h : BytesAt w a n cap) : Calls Try.prog 38 #[.slice a n cap] w (DrawnGKC w) := by
  go_enter Try.func38, Try.ntmps38
  go_wp2_with fail
  refine (l6Open_any _ _ _ _ h).mono ?_
  rintro e w1 ⟨R, rfl, hR, hb1⟩
  go_wp2_with fail
  refine (l91Graph_any _ _ _ 6 _ hR (by omega) (by omega) (by omega)).mono ?_
  rintro e w2 ⟨ga, gn, gc, p', zs, rfl, hA, hn1, hn, hbd, hR2, hp, hS⟩
  have hlo := hR.lo
  have hB2 := hb1.trans (hS.below hb1.size (by simp; omega))
  have hA2 := hA.mono hb1.size
  have hge : ∀ k ∈ blk ga, k ≠ R := fun k hk => by have := hA.ge k hk; have := hR.lt; omega
  clear hA hS hR
  go_wp2_with fail
  refine (pick_any _ _ _ _ _ hR2 (by omega) (by omega)).mono ?_
  rintro e w3 ⟨x, hx, rfl, hR3, hS3⟩
  have hx' := inPick_lt hx (by omega)
  have hA3 := hA2.stay' hS3 (fun k hk hm => hge k hk (by simpa using hm))
  have hB3 := hB2.trans (hS3.below hB2.size (by simp; omega))
  clear hx hA2 hB2 hS3 hR2
  go_wp2_with fail
  refine (pick_any _ _ _ _ _ hR3 (by omega) (by omega)).mono ?_
  rintro e w4 ⟨y, hy, rfl, hR4, hS4⟩
  have hy' := inPick_lt hy (by omega)
  have hA4 := hA3.stay' hS4 (fun k hk hm => hge k hk (by simpa using hm))
  have hB4 := hB3.trans (hS4.below hB3.size (by simp; omega))
  have hs4 := hA4.sl
  clear hy hA3 hB3 hS4 hR3
  obtain ⟨t, ht, ht1⟩ : ∃ t : Nat, Int.tdiv (y : Int) 19 = t ∧ t ≤ 1 := ⟨y / 19, by exact tdiv_nat y 19, by omega⟩
  obtain ⟨kd, hkd⟩ : ∃ kd : Nat, x + t * 4 = kd := ⟨_, rfl⟩
  have hkd' : (x : Int) + (t : Int) * 4 = kd := by omega
  go_wp2_with fail
  refine (l91Code_any _ _ _ _ _ _ _ _ _ hR4 (by omega) hs4 hn1 (by omega)).mono ?_
  rintro e w5 ⟨c, p5, rfl, hc, hR5, hp5, hS5⟩
  have hA5 := hA4.stay' hS5 (fun k hk hm => hge k hk (by simpa using hm))
  have hB5 := hB4.trans (hS5.below hB4.size (by simp; omega))
  clear hA4 hB4 hS5 hs4
  go_wp2
  go_ret3
  exact ⟨_, _, _, kd, _, _, rfl, hA5, hn1, hn, hbd, by omega, hc, hB5⟩
end Go.Proofs.Ytpllijjocccaaaa
