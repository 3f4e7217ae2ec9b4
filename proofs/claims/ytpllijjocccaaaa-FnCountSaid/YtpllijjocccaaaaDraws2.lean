/- What more Draw functions leave. -/
import Derived.Test.YtpllijjocccaaaaDraws
import Derived.Test.YtpllijjocccaaaaSMarks
import Derived.Test.YtpllijjocccaaaaSVec
namespace Go.Proofs.Ytpllijjocccaaaa
open Go.RowKit Go.Shelf
attribute [local go_sem] Oper.semAt_some

/-- a drawn graph and a kind -/
def DrawnGK (w : World) (e : Ending) (w' : World) : Prop :=
  ∃ (a : Option Addr) (n cap k : Nat) (zs : List Int), e = .returned (.tuple #[.slice a n cap, .int .i64 k]) ∧ Arr w' w.heap.size a n cap zs ∧ 1 ≤ n ∧ n ≤ 7 ∧ Bd12 zs ∧ k ≤ 7 ∧ Below w.heap.size w w'
set_option maxRecDepth 100000 in
set_option maxHeartbeats 1000000 in
theorem DrawCodeLeast_any (a : Option Addr) (n cap : Nat) (w : World) (h : BytesAt w a n cap) : Calls Try.prog 19 #[.slice a n cap] w (DrawnGK w) := by
  go_enter Try.func19, Try.ntmps19
  go_wp2_with fail
  refine (l6Open_any _ _ _ _ h).mono ?_
  rintro e w1 ⟨R, rfl, hR, hb1⟩
  go_wp2_with fail
  refine (l91Graph_any _ _ _ 7 _ hR (by omega) (by omega) (by omega)).mono ?_
  rintro e w2 ⟨ga, gn, gc, p', zs, rfl, hA, hn1, hn, hbd, hR2, hp, hS⟩
  have hlo := hR.lo
  have hB2 := hb1.trans (hS.below hb1.size (by simp; omega))
  have hA2 := hA.mono hb1.size
  have hge : ∀ k ∈ blk ga, k ≠ R := fun k hk => by have := hA.ge k hk; have := hR.lt; omega
  clear hA hS hR
  go_wp2_with fail
  refine (pick_any _ _ _ _ _ hR2 (by omega) (by omega)).mono ?_
  rintro e w3 ⟨x, hx, rfl, hR3, hS3⟩
  have hx' := inPick_lt hx (by omega)
  have hA3 := hA2.stay' hS3 (fun k hk hm => hge k hk (by simpa using hm))
  have hB3 := hB2.trans (hS3.below hB2.size (by simp; omega))
  clear hx hA2 hB2 hS3 hR2
  go_wp2_with fail
  refine (pick_any _ _ _ _ _ hR3 (by omega) (by omega)).mono ?_
  rintro e w4 ⟨y, hy, rfl, hR4, hS4⟩
  have hy' := inPick_lt hy (by omega)
  have hA4 := hA3.stay' hS4 (fun k hk hm => hge k hk (by simpa using hm))
  have hB4 := hB3.trans (hS4.below hB3.size (by simp; omega))
  clear hy hA3 hB3 hS4 hR3
  obtain ⟨t, ht, ht1⟩ : ∃ t : Nat, Int.tdiv (y : Int) 19 = t ∧ t ≤ 1 := ⟨y / 19, by exact tdiv_nat y 19, by omega⟩
  obtain ⟨kd, hkd⟩ : ∃ kd : Nat, x + t * 4 = kd := ⟨_, rfl⟩
  have hkd' : (x : Int) + (t : Int) * 4 = kd := by omega
  go_wp2
  go_ret2
  exact ⟨_, _, _, kd, _, rfl, hA4, hn1, hn, hbd, by omega, hB4⟩

/-- a drawn graph, a kind and a number -/
def DrawnGKM (w : World) (e : Ending) (w' : World) : Prop :=
  ∃ (a : Option Addr) (n cap k : Nat) (m : Int) (zs : List Int), e = .returned (.tuple #[.slice a n cap, .int .i64 k, .int .i64 m]) ∧ Arr w' w.heap.size a n cap zs ∧ 1 ≤ n ∧ n ≤ 6 ∧ Bd12 zs ∧ k ≤ 3 ∧ -1 ≤ m ∧ m ≤ 6 ∧ Below w.heap.size w w'
set_option maxRecDepth 100000 in
set_option maxHeartbeats 1000000 in
theorem DrawCodeCount_any (a : Option Addr) (n cap : Nat) (w : World) (h : BytesAt w a n cap) : Calls Try.prog 15 #[.slice a n cap] w (DrawnGKM w) := by
  go_enter Try.func15, Try.ntmps15
  go_wp2_with fail
  refine (l6Open_any _ _ _ _ h).mono ?_
  rintro e w1 ⟨R, rfl, hR, hb1⟩
  go_wp2_with fail
  refine (l91Graph_any _ _ _ 6 _ hR (by omega) (by omega) (by omega)).mono ?_
  rintro e w2 ⟨ga, gn, gc, p', zs, rfl, hA, hn1, hn, hbd, hR2, hp, hS⟩
  have hlo := hR.lo
  have hB2 := hb1.trans (hS.below hb1.size (by simp; omega))
  have hA2 := hA.mono hb1.size
  have hge : ∀ k ∈ blk ga, k ≠ R := fun k hk => by have := hA.ge k hk; have := hR.lt; omega
  clear hA hS hR
  go_wp2_with fail
  refine (pick_any _ _ _ _ _ hR2 (by omega) (by omega)).mono ?_
  rintro e w3 ⟨x, hx, rfl, hR3, hS3⟩
  have hx' := inPick_lt hx (by omega)
  have hA3 := hA2.stay' hS3 (fun k hk hm => hge k hk (by simpa using hm))
  have hB3 := hB2.trans (hS3.below hB2.size (by simp; omega))
  clear hx hA2 hB2 hS3 hR2
  go_wp2_with fail
  refine (pick_any _ _ _ _ _ hR3 (by omega) (by omega)).mono ?_
  rintro e w4 ⟨y, hy, rfl, hR4, hS4⟩
  have hy' := inPick_lt hy (by omega)
  have hA4 := hA3.stay' hS4 (fun k hk hm => hge k hk (by simpa using hm))
  have hB4 := hB3.trans (hS4.below hB3.size (by simp; omega))
  clear hy hA3 hB3 hS4 hR3
  go_wp2_with fail
  refine (pick_any _ _ _ _ _ hR4 (by omega) (by omega)).mono ?_
  rintro e w5 ⟨z, hz, rfl, hR5, hS5⟩
  have hz' := inPick_lt hz (by omega)
  have hA5 := hA4.stay' hS5 (fun k hk hm => hge k hk (by simpa using hm))
  have hB5 := hB4.trans (hS5.below hB4.size (by simp; omega))
  clear hz hA4 hB4 hS5 hR4
  obtain ⟨t, ht, ht1⟩ : ∃ t : Nat, Int.tdiv (z : Int) 19 = t ∧ t ≤ 1 := ⟨z / 19, by exact tdiv_nat z 19, by omega⟩
  go_wp2
  go_ret3
  exact ⟨_, _, _, x, _, _, rfl, hA5, hn1, hn, hbd, by omega, by omega, by omega, hB5⟩

/-- a drawn graph, a set and a number -/
def DrawnGCU (w : World) (e : Ending) (w' : World) : Prop :=
  ∃ (a : Option Addr) (n cap c : Nat) (u : Int) (zs : List Int), e = .returned (.tuple #[.slice a n cap, .int .i64 c, .int .i64 u]) ∧ Arr w' w.heap.size a n cap zs ∧ 1 ≤ n ∧ n ≤ 6 ∧ Bd12 zs ∧ c < 2 ^ n ∧ Below w.heap.size w w'
set_option maxRecDepth 100000 in
set_option maxHeartbeats 1000000 in
theorem DrawCodeFind_any (a : Option Addr) (n cap : Nat) (w : World) (h : BytesAt w a n cap) : Calls Try.prog 48 #[.slice a n cap] w (DrawnGCU w) := by
  go_enter Try.func48, Try.ntmps48
  go_wp2_with fail
  refine (l6Open_any _ _ _ _ h).mono ?_
  rintro e w1 ⟨R, rfl, hR, hb1⟩
  go_wp2_with fail
  refine (l91Graph_any _ _ _ 6 _ hR (by omega) (by omega) (by omega)).mono ?_
  rintro e w2 ⟨ga, gn, gc, p', zs, rfl, hA, hn1, hn, hbd, hR2, hp, hS⟩
  have hlo := hR.lo
  have hB2 := hb1.trans (hS.below hb1.size (by simp; omega))
  have hA2 := hA.mono hb1.size
  have hge : ∀ k ∈ blk ga, k ≠ R := fun k hk => by have := hA.ge k hk; have := hR.lt; omega
  have hs2 := hA.sl
  have hpw : 2 ^ gn ≤ 4096 := Nat.pow_le_pow_right (n := 2) (by omega) (show gn ≤ 12 by omega)
  have hpb : ((2 ^ gn : Nat) : Int) = (2 : Int) ^ gn := by simp
  have hpi : (1 : Int) ≤ 2 ^ gn ∧ (2 : Int) ^ gn ≤ 4096 := by have := Nat.two_pow_pos gn; omega
  have hnI : (gn : Int) < 64 := by omega
  clear hA hS hR
  go_wp2_with fail
  refine (l91Code_any _ _ _ _ _ _ _ _ _ hR2 (by omega) hs2 hn1 (by omega)).mono ?_
  rintro e w3 ⟨c, p3, rfl, hc, hR3, hp3, hS3⟩
  have hA3 := hA2.stay' hS3 (fun k hk hm => hge k hk (by simpa using hm))
  have hB3 := hB2.trans (hS3.below hB2.size (by simp; omega))
  have hs3 := hA3.sl
  clear hA2 hB2 hS3 hs2
  go_wp2_with fail
  refine (sCodeMarks_any _ _ _ _ _ _ hs3 (by omega)).mono ?_
  rintro e w4 ⟨ma, mn, mc, rfl, M4, hb4⟩
  have hA4 := hA3.below hb4
  have hB4 := bnext hB3 hb4
  have hR4 := hR3.below hb4
  have hR3' := hR3.lt
  have hml : fitsB zs c = true → mn = gn := fun hf => by
    rw [M4.len, CodeMarksR, if_pos hf, marksV_len, ← hA4.len]
  have hML := Lib.hid hml
  have M4' := M4.sl
  have hMR : ∀ k ∈ blk ma, k ≠ R := fun k hk => by have := M4.ge k hk; omega
  clear hA3 hB3 hb4 hR3 hs3 hml
  cases hf : fitsB zs c with
  | false =>
    clear hML M4 M4' hMR
    go_wp2_with fail
    refine (pick_any _ _ _ _ _ hR4 (by omega) (by omega)).mono ?_
    rintro e w5 ⟨y, hy, rfl, hR5, hS5⟩
    have hA5 := hA4.stay' hS5 (fun k hk hm => hge k hk (by simpa using hm))
    have hB5 := hB4.trans (hS5.below hB4.size (by simp; omega))
    go_wp2
    go_ret3
    exact ⟨_, _, _, _, _, _, rfl, hA5, hn1, hn, hbd, hc, hB5⟩
  | true =>
    obtain rfl : mn = gn := hML.out hf
    clear hML hf
    go_wp2_with fail
    refine (pick_any _ _ _ _ _ hR4 (by omega) (by omega)).mono ?_
    rintro e w5 ⟨y, hy, rfl, hR5, hS5⟩
    have hA5 := hA4.stay' hS5 (fun k hk hm => hge k hk (by simpa using hm))
    have M5 := M4.stay' hS5 (fun k hk hm => hMR k hk (by simpa using hm))
    have hB5 := hB4.trans (hS5.below hB4.size (by simp; omega))
    clear hA4 hB4 hS5 hR4 M4 M4' hy
    rcases Bool.eq_false_or_eq_true (decide ((0 : Int) < y)) with hy0 | hy0
    · have hy1 : (0 : Int) < y := by simpa using hy0
      have hBd : Below w5.heap.size w5 w5.drew := (Below.refl _ _).drew
      have hA5 := hA5.below hBd
      have M5 := M5.below hBd
      have hR5 := hR5.below hBd
      have hB5 := bnext hB5 hBd
      clear hBd hy0
      go_wp2
      go_region_law (go_simp; go_at_call 53; refine (pick_any _ _ _ _ _ hR5 (by omega) (by omega)).mono ?_; rintro e w6 ⟨z, hz, rfl, hR6, hS6⟩; have hz' := inPick_lt hz (by omega); have hA6 := hA5.stay' hS6 (fun k hk hm => hge k hk (by simpa using hm)); have M6 := M5.stay' hS6 (fun k hk hm => hMR k hk (by simpa using hm)); have hB6 := hB5.trans (hS6.below hB5.size (by simp; omega)); obtain ⟨b, off, rfl, hb, hcl⟩ := M6.sl.at' (by omega); have hx := hcl z (by omega); have hzn : (z : Int) < mn := (by omega); clear hz hA5 hB5 hS6 hR5 M5 M6 hcl)
      go_wp2
      go_ret3
      exact ⟨_, _, _, _, _, _, rfl, hA6, hn1, hn, hbd, hc, hB6⟩
    · have hy1 : ¬ (0 : Int) < y := by simpa using hy0
      clear M5 hMR
      go_wp2_with fail
      refine (pick_any _ _ _ _ _ hR5 (by omega) (by omega)).mono ?_
      rintro e w6 ⟨z, hz, rfl, hR6, hS6⟩
      have hA6 := hA5.stay' hS6 (fun k hk hm => hge k hk (by simpa using hm))
      have hB6 := hB5.trans (hS6.below hB5.size (by simp; omega))
      go_wp2
      go_ret3
      exact ⟨_, _, _, _, _, _, rfl, hA6, hn1, hn, hbd, hc, hB6⟩

/-- a drawn graph, a set and a list -/
def DrawnGCL (w : World) (e : Ending) (w' : World) : Prop :=
  ∃ (a : Option Addr) (n cap c : Nat) (b : Option Addr) (m cb : Nat) (ys zs : List Int), e = .returned (.tuple #[.slice a n cap, .int .i64 c, .slice b m cb]) ∧ Arr w' w.heap.size a n cap zs ∧ SlAt w' b m ys ∧ 1 ≤ n ∧ n ≤ 6 ∧ Bd12 zs ∧ c < 2 ^ n ∧ Below w.heap.size w w'
theorem pair_sl (w : World) (x y : Int) : SlAt (w.alloc (.cells #[.int .i64 x, .int .i64 y] 3)) (some ⟨w.heap.size, 0, none⟩) 2 [x, y] :=
  ⟨rfl, by omega, fun _ => ⟨_, _, rfl, by simp, fun j hj => by
    rcases (show j = 0 ∨ j = 1 by omega) with rfl | rfl <;> (unfold World.cell?; rw [World.alloc_heap_new]; rfl)⟩⟩
set_option maxRecDepth 100000 in
set_option maxHeartbeats 1000000 in
theorem DrawCodePlace_any (a : Option Addr) (n cap : Nat) (w : World) (h : BytesAt w a n cap) : Calls Try.prog 23 #[.slice a n cap] w (DrawnGCL w) := by
  go_enter Try.func23, Try.ntmps23
  go_wp2_with fail
  refine (l6Open_any _ _ _ _ h).mono ?_
  rintro e w1 ⟨R, rfl, hR, hb1⟩
  go_wp2_with fail
  refine (l91Graph_any _ _ _ 6 _ hR (by omega) (by omega) (by omega)).mono ?_
  rintro e w2 ⟨ga, gn, gc, p', zs, rfl, hA, hn1, hn, hbd, hR2, hp, hS⟩
  have hlo := hR.lo
  have hB2 := hb1.trans (hS.below hb1.size (by simp; omega))
  have hA2 := hA.mono hb1.size
  have hge : ∀ k ∈ blk ga, k ≠ R := fun k hk => by have := hA.ge k hk; have := hR.lt; omega
  have hs2 := hA.sl
  have hpw : 2 ^ gn ≤ 4096 := Nat.pow_le_pow_right (n := 2) (by omega) (show gn ≤ 12 by omega)
  clear hA hS hR
  go_wp2_with fail
  refine (l91Code_any _ _ _ _ _ _ _ _ _ hR2 (by omega) hs2 hn1 (by omega)).mono ?_
  rintro e w3 ⟨c, p3, rfl, hc, hR3, hp3, hS3⟩
  have hA3 := hA2.stay' hS3 (fun k hk hm => hge k hk (by simpa using hm))
  have hB3 := hB2.trans (hS3.below hB2.size (by simp; omega))
  have hs3 := hA3.sl
  clear hA2 hB2 hS3 hs2
  go_wp2_with fail
  refine (sCodeVectors_any _ _ _ _ _ _ hs3 (by omega)).mono ?_
  rintro e w4 ⟨ma, mn, mc, rfl, ⟨vs, M4⟩, hb4⟩
  have hA4 := hA3.below hb4
  have hB4 := bnext hB3 hb4
  have hR4 := hR3.below hb4
  have hR3' := hR3.lt
  have hml : fitsB zs c = true → mn = gn := fun hf => by
    rw [M4.rowsAt.len, CodeVectorsR, if_pos hf, vecsV_len, ← hA4.len]
  have hML := Lib.hid hml
  have hMR : R < w3.heap.size := hR3'
  clear hA3 hB3 hb4 hR3 hs3 hml
  cases hf : fitsB zs c with
  | false =>
    clear hML M4 hMR
    go_wp2_with fail
    refine (pick_any _ _ _ _ _ hR4 (by omega) (by omega)).mono ?_
    rintro e w5 ⟨y, hy, rfl, hR5, hS5⟩
    have hA5 := hA4.stay' hS5 (fun k hk hm => hge k hk (by simpa using hm))
    have hB5 := hB4.trans (hS5.below hB4.size (by simp; omega))
    clear hA4 hB4 hS5 hR4 hy
    go_wp2_with fail
    refine (pick_any _ _ _ _ _ hR5 (by omega) (by omega)).mono ?_
    rintro e w6 ⟨z, hz, rfl, hR6, hS6⟩
    have hA6 := hA5.stay' hS6 (fun k hk hm => hge k hk (by simpa using hm))
    have hB6 := hB5.trans (hS6.below hB5.size (by simp; omega))
    clear hA5 hB5 hS6 hR5 hz
    go_wp2
    go_ret3
    exact ⟨_, _, _, _, _, _, _, _, _, rfl, hA6.alloc _, pair_sl _ _ _, hn1, hn, hbd, hc, hB6.alloc hB6.size _⟩
  | true =>
    obtain rfl : mn = gn := hML.out hf
    clear hML hf
    go_wp2_with fail
    refine (pick_any _ _ _ _ _ hR4 (by omega) (by omega)).mono ?_
    rintro e w5 ⟨y, hy, rfl, hR5, hS5⟩
    have hA5 := hA4.stay' hS5 (fun k hk hm => hge k hk (by simpa using hm))
    have M5 : ArrR w5 w3.heap.size _ _ _ _ := ArrR.stayR ⟨vs, M4⟩ hS5 hMR
    have hB5 := hB4.trans (hS5.below hB4.size (by simp; omega))
    clear hA4 hB4 hS5 hR4 M4 hy
    rcases Bool.eq_false_or_eq_true (decide ((0 : Int) < y)) with hy0 | hy0
    · have hy1 : (0 : Int) < y := by simpa using hy0
      have hBd : Below w5.heap.size w5 w5.drew := (Below.refl _ _).drew
      have hA5 := hA5.below hBd
      have M5 := M5.below hBd
      have hR5 := hR5.below hBd
      have hB5 := bnext hB5 hBd
      clear hBd hy0
      go_wp2
      go_region_law (go_simp; go_at_call 53; refine (pick_any _ _ _ _ _ hR5 (by omega) (by omega)).mono ?_; rintro e w6 ⟨z, hz, rfl, hR6, hS6⟩; have hz' := inPick_lt hz (by omega); have hA6 := hA5.stay' hS6 (fun k hk hm => hge k hk (by simpa using hm)); have M6 : ArrR w6 w3.heap.size _ _ _ _ := ArrR.stayR M5 hS6 hMR; have hB6 := hB5.trans (hS6.below hB5.size (by simp; omega)); obtain ⟨b, off, rfl, hb, hcl⟩ := M6.rowsAt.at' (by omega); obtain ⟨ra, rn, rc, hx, hrow⟩ := hcl z (by omega); have hzn : (z : Int) < mn := (by omega); clear hz hA5 hB5 hS6 hR5 M5 M6 hcl)
      go_wp2
      go_ret3
      exact ⟨_, _, _, _, _, _, _, _, _, rfl, hA6, hrow, hn1, hn, hbd, hc, hB6⟩
    · have hy1 : ¬ (0 : Int) < y := by simpa using hy0
      clear M5 hMR
      go_wp2_with fail
      refine (pick_any _ _ _ _ _ hR5 (by omega) (by omega)).mono ?_
      rintro e w6 ⟨z, hz, rfl, hR6, hS6⟩
      have hA6 := hA5.stay' hS6 (fun k hk hm => hge k hk (by simpa using hm))
      have hB6 := hB5.trans (hS6.below hB5.size (by simp; omega))
      clear hA5 hB5 hS6 hR5 hz
      go_wp2_with fail
      refine (pick_any _ _ _ _ _ hR6 (by omega) (by omega)).mono ?_
      rintro e w7 ⟨z2, hz2, rfl, hR7, hS7⟩
      have hA7 := hA6.stay' hS7 (fun k hk hm => hge k hk (by simpa using hm))
      have hB7 := hB6.trans (hS7.below hB6.size (by simp; omega))
      clear hA6 hB6 hS7 hR6 hz2
      go_wp2
      go_ret3
      exact ⟨_, _, _, _, _, _, _, _, _, rfl, hA7.alloc _, pair_sl _ _ _, hn1, hn, hbd, hc, hB7.alloc hB7.size _⟩

set_option maxRecDepth 100000 in
set_option maxHeartbeats 1000000 in
theorem DrawCodeThin_any (a : Option Addr) (n cap : Nat) (w : World) (h : BytesAt w a n cap) : Calls Try.prog 45 #[.slice a n cap] w (DrawnGKC w) := by
  go_enter Try.func45, Try.ntmps45
  go_wp2_with fail
  refine (l6Open_any _ _ _ _ h).mono ?_
  rintro e w1 ⟨R, rfl, hR, hb1⟩
  go_wp2_with fail
  refine (l91Graph_any _ _ _ 6 _ hR (by omega) (by omega) (by omega)).mono ?_
  rintro e w2 ⟨ga, gn, gc, p', zs, rfl, hA, hn1, hn, hbd, hR2, hp, hS⟩
  have hlo := hR.lo
  have hB2 := hb1.trans (hS.below hb1.size (by simp; omega))
  have hA2 := hA.mono hb1.size
  have hge : ∀ k ∈ blk ga, k ≠ R := fun k hk => by have := hA.ge k hk; have := hR.lt; omega
  clear hA hS hR
  go_wp2_with fail
  refine (pick_any _ _ _ _ _ hR2 (by omega) (by omega)).mono ?_
  rintro e w3 ⟨x, hx, rfl, hR3, hS3⟩
  have hx' := inPick_lt hx (by omega)
  have hA3 := hA2.stay' hS3 (fun k hk hm => hge k hk (by simpa using hm))
  have hB3 := hB2.trans (hS3.below hB2.size (by simp; omega))
  clear hx hA2 hB2 hS3 hR2
  go_wp2_with fail
  refine (pick_any _ _ _ _ _ hR3 (by omega) (by omega)).mono ?_
  rintro e w4 ⟨y, hy, rfl, hR4, hS4⟩
  have hA4 := hA3.stay' hS4 (fun k hk hm => hge k hk (by simpa using hm))
  have hB4 := hB3.trans (hS4.below hB3.size (by simp; omega))
  clear hy hA3 hB3 hS4 hR3
  rcases Bool.eq_false_or_eq_true ((y : Int) == 0) with hy0 | hy0
  · obtain ⟨m, hm⟩ : ∃ m, 2 ^ gn = m := ⟨_, rfl⟩
    have hkc : (2 : Int) ^ gn = (m : Int) := by rw [← hm]; simp
    have hm1 : 1 ≤ m := by rw [← hm]; exact Nat.two_pow_pos gn
    have hm2 : m ≤ 4096 := by rw [← hm]; exact Nat.pow_le_pow_right (n := 2) (by omega) (show gn ≤ 12 by omega)
    have hw : IntKind.i64.wrap (m : Int) = m := IntWalk.i64_in _ (by omega)
    have hw1 : IntKind.i64.wrap ((m : Int) - 1) = (m : Int) - 1 := IntWalk.i64_in _ (by omega)
    have HM := Lib.hid hm
    have HA := Lib.hid hA4
    have HB := Lib.hid hB4
    clear hm hA4 hB4
    go_wp2
    go_quiet (fail)
    go_wp2
    go_ret3
    exact ⟨_, _, _, x, m - 1, _, by rw [show ((m - 1 : Nat) : Int) = (m : Int) - 1 by omega]; rfl, HA.out.below (bdrewN _ _), hn1, hn, hbd, by omega, by rw [HM.out]; omega, bnext HB.out (bdrewN _ _)⟩
  · have hs4 := hA4.sl
    go_wp2_with fail
    refine (l91Code_any _ _ _ _ _ _ _ _ _ hR4 (by omega) hs4 hn1 (by omega)).mono ?_
    rintro e w5 ⟨c, p5, rfl, hc, hR5, hp5, hS5⟩
    have hA5 := hA4.stay' hS5 (fun k hk hm => hge k hk (by simpa using hm))
    have hB5 := hB4.trans (hS5.below hB4.size (by simp; omega))
    clear hA4 hB4 hS5 hs4
    go_wp2
    go_ret3
    exact ⟨_, _, _, x, _, _, rfl, hA5, hn1, hn, hbd, by omega, hc, hB5⟩
end Go.Proofs.Ytpllijjocccaaaa
