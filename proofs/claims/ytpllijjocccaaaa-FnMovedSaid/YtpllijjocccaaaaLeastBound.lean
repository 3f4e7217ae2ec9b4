/- LeastBound of the program and of the reference. -/
import Derived.Test.YtpllijjocccaaaaSGraphIn
namespace Go.Proofs.Ytpllijjocccaaaa
open Go.RowKit Go.Shelf

theorem graphB_bd {zs : List Int} (h : graphB zs = true) : 1 ≤ zs.length ∧ zs.length ≤ 12 := by
  refine Classical.byContradiction fun hn => ?_
  rw [graphB_len hn] at h; cases h
/-- the least k with n < 2 ^ k -/
def lbV (n : Nat) : Nat := n.log2 + 1
theorem lb_step {n k : Nat} (hn : 1 ≤ n) : (decide ((2 : Int) ^ k ≤ n)) = decide (k < lbV n) := by
  have e : ((2 ^ k : Nat) : Int) = (2 : Int) ^ k := by simp
  rw [← e]
  refine decide_eq_decide.2 ?_
  have := Nat.le_log2 (n := n) (k := k) (by omega)
  unfold lbV; omega
theorem lb_bd {n : Nat} (hn : 1 ≤ n) (h : n ≤ 12) : 1 ≤ lbV n ∧ lbV n ≤ 4 := by
  have h2 : n.log2 < 4 := (Nat.log2_lt (by omega)).2 (by omega)
  unfold lbV; omega

def LeastBoundR (zs : List Int) : Int := if graphB zs then lbV zs.length else 0
end Go.Proofs.Ytpllijjocccaaaa
