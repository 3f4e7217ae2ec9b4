/- Plain mathematics of bits and node sets. No program in sight. -/
import Derived.WalkKit
namespace Go.Proofs.Ytpllijjocccaaaa
open Go.RowKit

/-! ### Bit operations of int on small numbers -/
theorem ofInt_i64 (a : Nat) (ha : a < 9223372036854775808) : (BitVec.ofInt 64 (a : Int)).toNat = a := by
  rw [BitVec.toNat_ofInt]; omega
theorem i64_wrap_nat (a : Nat) (ha : a < 9223372036854775808) : IntKind.i64.wrap (a : Int) = a := IntWalk.i64_in _ (by omega)
theorem i64_and_nat (a b : Nat) (ha : a < 9223372036854775808) (hb : b < 9223372036854775808) : bits .and .i64 (a : Int) (b : Int) = ((a &&& b : Nat) : Int) := by
  show IntKind.i64.wrap ((BitVec.ofInt 64 (a : Int) &&& BitVec.ofInt 64 (b : Int)).toNat : Int) = _
  rw [BitVec.toNat_and, ofInt_i64 a ha, ofInt_i64 b hb]
  exact i64_wrap_nat _ (Nat.lt_of_le_of_lt Nat.and_le_left ha)
theorem i64_or_nat (a b : Nat) (ha : a < 9223372036854775808) (hb : b < 9223372036854775808) : bits .or .i64 (a : Int) (b : Int) = ((a ||| b : Nat) : Int) := by
  show IntKind.i64.wrap ((BitVec.ofInt 64 (a : Int) ||| BitVec.ofInt 64 (b : Int)).toNat : Int) = _
  rw [BitVec.toNat_or, ofInt_i64 a ha, ofInt_i64 b hb]
  exact i64_wrap_nat _ (Nat.or_lt_two_pow (n := 63) ha hb)
/-- a without the nodes of b -/
def bdiff (a b : Nat) : Nat := a ^^^ (a &&& b)
theorem testBit_bdiff (a b i : Nat) : (bdiff a b).testBit i = (a.testBit i && !b.testBit i) := by
  unfold bdiff; rw [Nat.testBit_xor, Nat.testBit_and]; cases a.testBit i <;> cases b.testBit i <;> rfl
theorem bdiff_lt {a b k : Nat} (ha : a < 2 ^ k) : bdiff a b < 2 ^ k :=
  Nat.xor_lt_two_pow ha (Nat.lt_of_le_of_lt Nat.and_le_left ha)
theorem i64_andNot_nat (a b : Nat) (ha : a < 9223372036854775808) (hb : b < 9223372036854775808) : bits .andNot .i64 (a : Int) (b : Int) = ((bdiff a b : Nat) : Int) := by
  show IntKind.i64.wrap ((BitVec.ofInt 64 (a : Int) &&& ~~~ BitVec.ofInt 64 (b : Int)).toNat : Int) = _
  have h : (BitVec.ofInt 64 (a : Int) &&& ~~~ BitVec.ofInt 64 (b : Int)).toNat = bdiff a b := by
    apply Nat.eq_of_testBit_eq
    intro i
    rw [testBit_bdiff]
    by_cases hi : i < 64
    · have ea : a.testBit i = (BitVec.ofInt 64 (a : Int)).getLsbD i := by rw [← BitVec.testBit_toNat, ofInt_i64 a ha]
      have eb : b.testBit i = (BitVec.ofInt 64 (b : Int)).getLsbD i := by rw [← BitVec.testBit_toNat, ofInt_i64 b hb]
      rw [BitVec.testBit_toNat, BitVec.getLsbD_and, BitVec.getLsbD_not, ea, eb]
      simp [hi]
    · have h1 : a.testBit i = false := Nat.testBit_lt_two_pow (Nat.lt_of_lt_of_le (show a < 2 ^ 63 from ha) (Nat.pow_le_pow_right (by omega) (show 63 ≤ i by omega)))
      rw [BitVec.testBit_toNat, h1]
      simp [BitVec.getLsbD_of_ge _ _ (show 64 ≤ i by omega)]
  rw [h]
  exact i64_wrap_nat _ (bdiff_lt (k := 63) ha)
theorem i64_and (a b : Int) (h1 : 0 ≤ a) (h2 : a < 9223372036854775808) (h3 : 0 ≤ b) (h4 : b < 9223372036854775808) : bits .and .i64 a b = ((a.toNat &&& b.toNat : Nat) : Int) := by
  obtain ⟨x, rfl⟩ := Int.eq_ofNat_of_zero_le h1; obtain ⟨y, rfl⟩ := Int.eq_ofNat_of_zero_le h3
  exact i64_and_nat x y (by omega) (by omega)
theorem i64_or (a b : Int) (h1 : 0 ≤ a) (h2 : a < 9223372036854775808) (h3 : 0 ≤ b) (h4 : b < 9223372036854775808) : bits .or .i64 a b = ((a.toNat ||| b.toNat : Nat) : Int) := by
  obtain ⟨x, rfl⟩ := Int.eq_ofNat_of_zero_le h1; obtain ⟨y, rfl⟩ := Int.eq_ofNat_of_zero_le h3
  exact i64_or_nat x y (by omega) (by omega)
theorem i64_andNot (a b : Int) (h1 : 0 ≤ a) (h2 : a < 9223372036854775808) (h3 : 0 ≤ b) (h4 : b < 9223372036854775808) : bits .andNot .i64 a b = ((bdiff a.toNat b.toNat : Nat) : Int) := by
  obtain ⟨x, rfl⟩ := Int.eq_ofNat_of_zero_le h1; obtain ⟨y, rfl⟩ := Int.eq_ofNat_of_zero_le h3
  exact i64_andNot_nat x y (by omega) (by omega)
theorem toNat_ediv_pow (s n : Int) (hs : 0 ≤ s) : (s / 2 ^ n.toNat).toNat = s.toNat / 2 ^ n.toNat := by
  obtain ⟨x, rfl⟩ := Int.eq_ofNat_of_zero_le hs
  rw [show ((2 : Int) ^ n.toNat) = ((2 ^ n.toNat : Nat) : Int) from by simp]
  rfl
theorem shr_nonneg (s n : Int) (hs : 0 ≤ s) : 0 ≤ s / 2 ^ n.toNat := Int.ediv_nonneg hs (Int.pow_nonneg (by omega))
theorem shr_le (s n : Int) (hs : 0 ≤ s) : s / 2 ^ n.toNat ≤ s := Int.ediv_le_self _ hs
/-- what 'set>>node&1' is -/
theorem bit_val (s n : Int) (hs : 0 ≤ s) (hs2 : s < 9223372036854775808) :
    bits BinOp.and IntKind.i64 (s / 2 ^ n.toNat) 1 = if s.toNat.testBit n.toNat then 1 else 0 := by
  have h1 := shr_nonneg s n hs
  have h2 := shr_le s n hs
  rw [i64_and _ _ h1 (by omega) (by omega) (by omega), toNat_ediv_pow s n hs, show (1 : Int).toNat = 1 from rfl, Nat.and_one_is_mod, ← Nat.shiftRight_eq_div_pow]
  have h3 : s.toNat.testBit n.toNat = decide (s.toNat >>> n.toNat % 2 = 1) := by
    rw [Nat.testBit, Nat.and_comm, Nat.and_one_is_mod]
    rcases Nat.mod_two_eq_zero_or_one (s.toNat >>> n.toNat) with h | h <;> simp [h]
  rw [h3]
  rcases Nat.mod_two_eq_zero_or_one (s.toNat >>> n.toNat) with h | h <;> simp [h]
theorem has_val (s n : Int) (hs : 0 ≤ s) (hs2 : s < 9223372036854775808) :
    (bits BinOp.and IntKind.i64 (s / 2 ^ n.toNat) 1 == 1) = s.toNat.testBit n.toNat := by
  rw [bit_val s n hs hs2]; cases s.toNat.testBit n.toNat <;> rfl

/-! ### Powers of two below 2 ^ 62 -/
theorem pow_bd (n : Int) (h2 : n < 62) : (1 : Int) ≤ 2 ^ n.toNat ∧ (2 : Int) ^ n.toNat ≤ 2305843009213693952 := by
  have a : 1 ≤ 2 ^ n.toNat := Nat.one_le_two_pow
  have b : 2 ^ n.toNat ≤ 2 ^ 61 := Nat.pow_le_pow_right (by omega) (by omega)
  have e : ((2 ^ n.toNat : Nat) : Int) = (2 : Int) ^ n.toNat := by simp
  have b' : 2 ^ n.toNat ≤ 2305843009213693952 := b
  omega
theorem npow_bd (n : Nat) (h2 : n < 62) : (1 : Int) ≤ 2 ^ n ∧ (2 : Int) ^ n ≤ 2305843009213693952 := pow_bd (n : Int) (by omega)

/-! ### The nodes of a set -/
def bitsOf (s : Nat) : List Nat := (List.range 12).filter fun i => s.testBit i
theorem mem_bitsOf {s x : Nat} : x ∈ bitsOf s ↔ x < 12 ∧ s.testBit x = true := by simp [bitsOf]
theorem lt_of_mem_bitsOf {s x n : Nat} (hs : s < 2 ^ n) (h : x ∈ bitsOf s) : x < n := by
  have h2 := (mem_bitsOf.1 h).2
  refine Nat.lt_of_not_le fun hle => ?_
  rw [Nat.testBit_lt_two_pow (Nat.lt_of_lt_of_le hs (Nat.pow_le_pow_right (by omega) hle))] at h2
  cases h2
def bitsTo (s k : Nat) : List Nat := (List.range k).filter fun i => s.testBit i
theorem bitsTo_succ (s k : Nat) : bitsTo s (k + 1) = bitsTo s k ++ if s.testBit k then [k] else [] := by
  unfold bitsTo; rw [List.range_succ, List.filter_append]; congr 1; by_cases h : s.testBit k <;> simp [h]
theorem bitsTo_all {s k : Nat} (hk : k ≤ 12) (h : s / 2 ^ k = 0) : bitsTo s k = bitsOf s := by
  have hlt : s < 2 ^ k := by
    rcases Nat.div_eq_zero_iff.1 h with h | h
    · have := Nat.one_le_two_pow (n := k); omega
    · exact h
  unfold bitsOf bitsTo
  have e : 12 = k + (12 - k) := by omega
  have h0 : List.filter (fun i => s.testBit i) (List.map (fun x => k + x) (List.range (12 - k))) = [] := by
    rw [List.filter_eq_nil_iff]
    intro x hx
    obtain ⟨y, _, rfl⟩ := List.mem_map.1 hx
    rw [Nat.testBit_lt_two_pow (Nat.lt_of_lt_of_le hlt (Nat.pow_le_pow_right (by omega) (Nat.le_add_right k y)))]
    simp
  rw [e, List.range_add, List.filter_append, h0, List.append_nil]
theorem bitsTo_prefix {s k : Nat} (hk : k ≤ 12) : bitsTo s k <+: bitsOf s := by
  unfold bitsOf bitsTo
  have e : 12 = k + (12 - k) := by omega
  rw [e, List.range_add, List.filter_append]
  exact List.prefix_append _ _
theorem bitsTo_len (s k : Nat) : (bitsTo s k).length ≤ k := by
  unfold bitsTo; exact Nat.le_trans (List.length_filter_le _ _) (by simp)
end Go.Proofs.Ytpllijjocccaaaa
