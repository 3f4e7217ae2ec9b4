/- A graph's book. -/
import Derived.Test.YtmaogoeclndfbaaPair
namespace Go.Proofs.Ytmaogoeclndfbaa
open Go.RowKit Go.Shelf

section
variable {W W' : World} {B : Nat} {v0 v1 v2 : Value}
end
def farV (zs : List Int) : List (List Int) := (List.range zs.length).map fun i => distsV zs i
theorem farV_take {zs : List Int} {k : Nat} (hk : k < zs.length) : (farV zs).take k ++ [distsV zs k] = (farV zs).take (k + 1) := by
  unfold farV
  rw [← List.map_take, ← List.map_take, List.take_range, List.take_range, Nat.min_eq_left (Nat.le_of_lt hk), Nat.min_eq_left hk, List.range_succ, List.map_append]; rfl
theorem farV_len (zs : List Int) : (farV zs).length = zs.length := by simp [farV]
end Go.Proofs.Ytmaogoeclndfbaa
