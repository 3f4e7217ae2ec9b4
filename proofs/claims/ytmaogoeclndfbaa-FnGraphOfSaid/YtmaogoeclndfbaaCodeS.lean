/- Small functions that the codes use. -/
import Derived.Test.YtmaogoeclndfbaaCodeM
import Derived.Test.YtmaogoeclndfbaaCount
import Derived.Test.YtmaogoeclndfbaaSVec
namespace Go.Proofs.Ytmaogoeclndfbaa
open Go.RowKit Go.Shelf
attribute [local go_sem] Oper.semAt_some

theorem at_ne {zs : List Int} {u : Int} {k : Nat} (h : (u == zs[k]?.getD 0) = false) : decide (zs[k]?.getD 0 = u) = false := decide_eq_false fun e => by rw [e] at h; simp at h
theorem at_eq {zs : List Int} {u : Int} {k : Nat} (h : (u == zs[k]?.getD 0) = true) : decide (zs[k]?.getD 0 = u) = true := decide_eq_true (by simpa using h : u = zs[k]?.getD 0).symm
theorem cov_idx (zs : List Int) (c : Nat) : decide (0 ≤ idxOf (marksV zs c) 0) = !covB zs c := by
  have hat : ∀ i, i < zs.length → (marksV zs c)[i]?.getD 0 = markV zs c i := fun i hi => by
    rw [List.getElem?_eq_getElem (by rw [marksV_len]; exact hi)]; simp [marksV]
  rcases idxBy_cases (marksV zs c).length (fun i => decide ((marksV zs c)[i]?.getD 0 = 0)) with ⟨k, h1, h2, _, h4⟩ | ⟨h1, h2⟩
  · have e : covB zs c = false := by
      unfold covB
      rw [List.all_eq_false]
      rw [marksV_len] at h1
      rw [hat k h1] at h2
      exact ⟨k, List.mem_range.2 h1, by rw [h2]; simp⟩
    unfold idxOf
    rw [h4, e]; simp
  · have e : covB zs c = true := by
      unfold covB
      rw [List.all_eq_true]
      intro i hi
      have := h1 i (by rw [marksV_len]; exact List.mem_range.1 hi)
      rw [hat i (List.mem_range.1 hi)] at this
      rw [this]; rfl
    unfold idxOf
    rw [h2, e]; simp
end Go.Proofs.Ytmaogoeclndfbaa
