/- impl.LeastNumber; codes that identify are not small. -/
import Derived.Test.YtojfafmfnblocaaLeast
import Derived.Test.YtojfafmfnblocaaCodeL3
import Derived.Test.YtojfafmfnblocaaLawKit
import Derived.Test.YtojfafmfnblocaaLeastBound
namespace Go.Proofs.Ytojfafmfnblocaa
open Go.RowKit Go.Shelf

theorem CodeLeast_opt (o : Option Nat) (a : Option Addr) (n cap : Nat) (zs : List Int) (kd : Int) (w : World) (hs : SlAt w a n zs) (ho : CodeLeastR zs kd = o) :
    Calls Try.prog 81 #[.slice a n cap, .int .i64 kd] w fun e w' => e = .returned (.tuple #[.int .i64 (optN o), .bool o.isSome]) ∧ Below w.heap.size w w' := by subst ho; exact CodeLeast_any a n cap zs kd w hs
theorem num_size (s : Int) (t m : Nat) (w : World) (hst : s = (t : Int)) (ht : t < 4096) (hm : card t = m) : Calls Try.prog 77 #[.int .i64 s] w fun e w' => e = .returned (.int .i64 m) ∧ w = w' := by subst hst hm; exact size_any t w ht
theorem least_lt {zs : List Int} {kd : Int} {b : Nat} (h : CodeLeastR zs kd = some b) : b < 2 ^ zs.length ∧ b < 4096 ∧ isB zs kd.toNat b = true ∧ graphB zs = true := by
  unfold CodeLeastR at h
  split at h
  case isFalse => cases h
  rename_i hok
  simp only [leastOk, Bool.and_eq_true] at hok
  rw [leastV] at h
  rcases leastTo_spec (isB zs kd.toNat) (2 ^ zs.length) with ⟨h1, _⟩ | ⟨b', h1, h2, h3, _⟩
  · rw [h1] at h; cases h
  · rw [h1] at h; cases h
    have := pow12 (isG_of hok.1).le
    exact ⟨h2, by omega, h3, hok.1⟩
set_option maxRecDepth 100000 in
theorem LeastNumber_some (b m : Nat) (a : Option Addr) (n cap : Nat) (zs : List Int) (kd : Int) (w : World) (hs : SlAt w a n zs) (ho : CodeLeastR zs kd = some b) (hm : card b = m) :
    Calls Try.prog 47 #[.slice a n cap, .int .i64 kd] w fun e w' => e = .returned (.tuple #[.int .i64 m, .bool true]) ∧ Below w.heap.size w w' := by
  have hb := (least_lt ho).2.1
  have HO := Lib.hid ho
  have HM := Lib.hid hm
  clear ho hm
  go_enter Try.func47, Try.ntmps47
  go_wp2_with fail
  refine (CodeLeast_opt (some b) _ _ _ _ _ _ hs HO.out).mono ?_
  rintro e w1 ⟨rfl, hb1⟩
  simp only [optN, Option.isSome]
  go_wp2_with fail
  refine (num_size _ b m _ rfl hb HM.out).mono ?_
  rintro e w2 ⟨rfl, rfl⟩
  go_wp2
  go_ret2
  exact ⟨rfl, hb1⟩
set_option maxRecDepth 100000 in
theorem LeastNumber_none (a : Option Addr) (n cap : Nat) (zs : List Int) (kd : Int) (w : World) (hs : SlAt w a n zs) (ho : CodeLeastR zs kd = none) :
    Calls Try.prog 47 #[.slice a n cap, .int .i64 kd] w fun e w' => e = .returned (.tuple #[.int .i64 0, .bool false]) ∧ Below w.heap.size w w' := by
  have HO := Lib.hid ho
  clear ho
  go_enter Try.func47, Try.ntmps47
  go_wp2_with fail
  refine (CodeLeast_opt none _ _ _ _ _ _ hs HO.out).mono ?_
  rintro e w1 ⟨rfl, hb1⟩
  simp only [optN, Option.isSome]
  go_wp2_with fail
  refine (num_size _ 0 0 _ rfl (by omega) card_zero).mono ?_
  rintro e w2 ⟨rfl, rfl⟩
  go_wp2
  go_ret2
  exact ⟨rfl, hb1⟩

/-! ### Codes that identify are not small -/
/-- all sets made of a list's numbers -/
def subsL : List Nat → List Nat
  | [] => [0]
  | x :: l => subsL l ++ (subsL l).map fun s => s ||| 2 ^ x
theorem subsL_len : ∀ l : List Nat, (subsL l).length = 2 ^ l.length
  | [] => rfl
  | x :: l => by rw [subsL, List.length_append, List.length_map, subsL_len l, List.length_cons, Nat.pow_succ]; omega
theorem subsL_mem : ∀ (l : List Nat) (s : Nat), (∀ x, s.testBit x = true → x ∈ l) → s ∈ subsL l
  | [], s, h => by
    have : s = 0 := by
      apply Nat.eq_of_testBit_eq
      intro i
      rw [Nat.zero_testBit]
      cases hb : s.testBit i with
      | false => rfl
      | true => have := h i hb; cases this
    subst this; simp [subsL]
  | x :: l, s, h => by
    rw [subsL, List.mem_append]
    by_cases hx : s.testBit x = true
    · refine .inr (List.mem_map.2 ⟨bdiff s (2 ^ x), subsL_mem l _ fun y hy => ?_, ?_⟩)
      · rw [testBit_bdiff, Nat.testBit_two_pow, Bool.and_eq_true] at hy
        rcases List.mem_cons.1 (h y hy.1) with rfl | h1
        · simp at hy
        · exact h1
      · apply Nat.eq_of_testBit_eq
        intro i
        rw [Nat.testBit_or, testBit_bdiff, Nat.testBit_two_pow]
        by_cases hi : x = i
        · subst hi; simp [hx]
        · simp [hi]
    · refine .inl (subsL_mem l s fun y hy => ?_)
      rcases List.mem_cons.1 (h y hy) with rfl | h1
      · exact absurd hy hx
      · exact h1
/-- n nodes with unlike marks that are not empty: fewer than the sets of the code's nodes -/
theorem id_bound {zs : List Int} {c : Nat} (hg : graphB zs = true) (hc : c < 2 ^ zs.length) (h : isB zs 2 c = true) : zs.length < 2 ^ card c := by
  have hG := isG_of hg
  rw [isB_2, Bool.and_eq_true, covB_iff, unlB_iff] at h
  have hne : ∀ i, i < zs.length → bN zs i &&& c ≠ 0 := by
    intro i hi h0
    obtain ⟨x, h1, h2⟩ := h.1 i hi
    have h3 := congrArg (fun t => t.testBit x) h0
    simp [Nat.testBit_and, h1, h2] at h3
  have hdf : ∀ i k, i < zs.length → k < i → bN zs i &&& c ≠ bN zs k &&& c := by
    intro i k hi hk he
    have h1 := h.2 i k hi hk (by rw [allV_bit]; simpa using hi) (by rw [allV_bit]; simp; omega)
    refine (mark_dif zs c i k).2 h1 ?_
    rw [markV_bN, markV_bN, he]
  have hnd : (0 :: (List.range zs.length).map fun i => bN zs i &&& c).Nodup := by
    refine List.nodup_cons.2 ⟨?_, List.pairwise_map.2 (List.Pairwise.imp_of_mem ?_ List.pairwise_lt_range)⟩
    · intro hm
      obtain ⟨i, hi, e⟩ := List.mem_map.1 hm
      exact hne i (List.mem_range.1 hi) e
    · intro i k _ hk hik he
      exact hdf k i (List.mem_range.1 hk) hik he.symm
  have hsub : (0 :: (List.range zs.length).map fun i => bN zs i &&& c) ⊆ subsL (bitsOf c) := by
    intro s hs
    refine subsL_mem _ s fun x hx => ?_
    have key : c.testBit x = true := by
      rcases List.mem_cons.1 hs with rfl | hs
      · rw [Nat.zero_testBit] at hx; cases hx
      · obtain ⟨i, _, rfl⟩ := List.mem_map.1 hs
        rw [Nat.testBit_and, Bool.and_eq_true] at hx; exact hx.2
    have h12 := hG.le
    refine mem_bitsOf.2 ⟨?_, key⟩
    refine Nat.lt_of_not_le fun hle => ?_
    rw [Nat.testBit_lt_two_pow (Nat.lt_of_lt_of_le hc (Nat.pow_le_pow_right (by omega) (Nat.le_trans h12 hle)))] at key; cases key
  have := hnd.length_le_of_subset hsub
  rw [subsL_len, List.length_cons, List.length_map, List.length_range] at this
  show _ < 2 ^ (bitsOf c).length
  omega
theorem bound_law {zs : List Int} {b : Nat} (h : CodeLeastR zs (2 : Int) = some b) : lbV zs.length ≤ card b := by
  obtain ⟨h1, _, h2, hg⟩ := least_lt h
  have h3 := id_bound hg h1 h2
  have h4 := (Nat.log2_lt (n := zs.length) (k := card b) (by have := (isG_of hg).pos; omega)).2 h3
  unfold lbV; omega
theorem lb_pow : ∀ n : Nat, n ≤ 12 → n = 0 ∨ (n < 2 ^ lbV n ∧ 2 ^ lbV n ≤ 2 * n) := by decide +kernel
end Go.Proofs.Ytojfafmfnblocaa
