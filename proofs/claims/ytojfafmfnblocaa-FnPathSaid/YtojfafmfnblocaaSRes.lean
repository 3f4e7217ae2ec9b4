/- Resolving codes: the reference. -/
import Derived.Test.YtojfafmfnblocaaSCode
namespace Go.Proofs.Ytojfafmfnblocaa
open Go.RowKit Go.Shelf
attribute [local go_sem] Oper.semAt_some

def okTo (zs : List Int) (c i k x : Nat) : Bool := (List.range x).any fun j => c.testBit j && !decide (distV zs i j = distV zs k j)
theorem okTo_succ (zs : List Int) (c i k x : Nat) : okTo zs c i k (x + 1) = (okTo zs c i k x || (c.testBit x && !decide (distV zs i x = distV zs k x))) := by
  unfold okTo; rw [List.range_succ, List.any_append]; simp
theorem okTo_mono {zs : List Int} {c i k x : Nat} (h : okTo zs c i k x = true) : ∀ m, x ≤ m → okTo zs c i k m = true := by
  intro m hm
  obtain ⟨d, rfl⟩ := Nat.le.dest hm
  induction d with
  | zero => exact h
  | succ d ih => rw [← Nat.add_assoc, okTo_succ, ih (by omega)]; rfl
theorem okTo_sep {zs : List Int} {n c i k : Nat} (hG : IsG n zs) (hi : i < n) (hk : k < n) (hc : c < 2 ^ n) : okTo zs c i k n = sepB zs c i k := by
  unfold okTo sepB
  rw [Bool.eq_iff_iff, List.any_eq_true, List.any_eq_true]
  have h12 := hG.le
  constructor
  · rintro ⟨j, hj, h⟩
    rw [Bool.and_eq_true] at h
    have hjn := List.mem_range.1 hj
    refine ⟨j, mem_bitsOf.2 ⟨by omega, h.1⟩, ?_⟩
    rw [dist_symm hG hjn hi, dist_symm hG hjn hk]; exact h.2
  · rintro ⟨j, hj, h⟩
    have hjn := lt_of_mem_bitsOf hc hj
    refine ⟨j, List.mem_range.2 hjn, ?_⟩
    rw [(mem_bitsOf.1 hj).2, Bool.true_and, dist_symm hG hi hjn, dist_symm hG hk hjn]; exact h
theorem resB_no {zs : List Int} {n c i k : Nat} (hG : IsG n zs) (hi : i < n) (hk : k < i) (h : sepB zs c i k = false) : resB zs c = false := by
  unfold resB
  rw [List.all_eq_false]
  refine ⟨i, List.mem_range.2 (by rw [← hG.len]; exact hi), ?_⟩
  simp only [Bool.not_eq_true]
  rw [List.all_eq_false]
  exact ⟨k, List.mem_range.2 hk, by rw [h]; simp⟩
theorem farV_row {zs : List Int} {x : Nat} (hx : x < zs.length) : (farV zs).getD x [] = distsV zs x := farV_at hx
end Go.Proofs.Ytojfafmfnblocaa
