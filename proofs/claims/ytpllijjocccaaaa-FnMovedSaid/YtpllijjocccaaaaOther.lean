/- The other graph, of the program and of the reference. -/
import Derived.Test.YtpllijjocccaaaaBalls
namespace Go.Proofs.Ytpllijjocccaaaa
open Go.RowKit Go.Shelf

theorem addr_add (b off j : Nat) : (⟨b, off, none⟩ : Addr).add j = ⟨b, off + j, none⟩ := by unfold Addr.add; split <;> simp_all
def ballN (zs : List Int) (i : Nat) : Nat := (zs[i]?.getD 0).toNat ||| 2 ^ i
def otherV (zs : List Int) (i : Nat) : Int := ((bdiff (2 ^ zs.length - 1) (ballN zs i) : Nat) : Int)
def othersV (zs : List Int) : List Int := (List.range zs.length).map (otherV zs)
theorem othersV_len (zs : List Int) : (othersV zs).length = zs.length := by simp [othersV]
theorem map_range_take (f : Nat → Int) {n k : Nat} (hk : k < n) : ((List.range n).map f).take k ++ [f k] = ((List.range n).map f).take (k + 1) := by
  rw [← List.map_take, ← List.map_take, List.take_range, List.take_range, Nat.min_eq_left (Nat.le_of_lt hk), Nat.min_eq_left hk, List.range_succ, List.map_append]; rfl
theorem ballN_lt {n : Nat} {zs : List Int} (hG : IsG n zs) {i : Nat} (hi : i < n) : ballN zs i < 2 ^ n := by
  obtain ⟨q1, q2, q3⟩ := hG.ok i hi
  have e := pow_int n
  exact Nat.or_lt_two_pow (by omega) (Nat.pow_lt_pow_right (by omega) hi)
theorem pow12 {n : Nat} (h : n ≤ 12) : 2 ^ n ≤ 4096 := Nat.pow_le_pow_right (n := 2) (by omega) h
theorem other_bits {n : Nat} {zs : List Int} (hG : IsG n zs) {i : Nat} (hi : i < n) : bits BinOp.andNot IntKind.i64 (2 ^ n - 1) (ballV zs i) = otherV zs i := by
  have h1 := pow12 hG.le
  have h2 := ballN_lt hG hi
  have e := pow_int n
  have h3 : 1 ≤ 2 ^ n := Nat.one_le_two_pow
  have e2 : (2 : Int) ^ n - 1 = ((2 ^ n - 1 : Nat) : Int) := by omega
  rw [e2, show ballV zs i = ((ballN zs i : Nat) : Int) from rfl, i64_andNot_nat _ _ (by omega) (by omega), hG.len]; rfl

set_option maxRecDepth 100000 in
theorem all_any (a : Option Addr) (n cap : Nat) (w : World) (hn : n ≤ 12) : Calls Try.prog 57 #[.slice a n cap] w fun e w' => e = .returned (.int .i64 (2 ^ n - 1)) ∧ w = w' := by
  have hp := npow_bd n (by omega)
  go_enter Try.func57, Try.ntmps57
  go_wp2
  go_ret
  exact ⟨rfl, rfl⟩

def GraphOtherR (zs : List Int) : List Int := if graphB zs then othersV zs else []
theorem GraphOther_small {zs : List Int} : (GraphOtherR zs).length ≤ 4096 := by
  unfold GraphOtherR
  split
  · rename_i h; rw [othersV_len]; have := graphB_bd h; omega
  · simp
theorem getD_int (f : Nat → Int) {n k : Nat} (hk : k < n) : ((List.range n).map f)[k]?.getD 0 = f k := by simp [hk]
end Go.Proofs.Ytpllijjocccaaaa
