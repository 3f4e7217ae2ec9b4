/- spec.l1Distances: pass by pass. -/
import Derived.Test.YtmaogoeclndfbaaSDistM
namespace Go.Proofs.Ytmaogoeclndfbaa
open Go.RowKit Go.Shelf

theorem row_next {zs ys : List Int} {src d i k n : Nat} (hl : ys.length = n) (hk : k < n) {v : Int} (h : ∀ x, x < n → ys[x]?.getD 0 = outS zs src d i k x) (hs : ∀ x, x < n → outS zs src d i (k + 1) x = if k = x then v else outS zs src d i k x) :
    ∀ x, x < n → (ys.set k v)[x]?.getD 0 = outS zs src d i (k + 1) x := by
  intro x hx
  rw [hs x hx, List.getElem?_set]
  by_cases e : k = x
  · rw [if_pos e, if_pos e, if_pos (by omega)]; rfl
  · rw [if_neg e, if_neg e]; exact h x hx

end Go.Proofs.Ytmaogoeclndfbaa
