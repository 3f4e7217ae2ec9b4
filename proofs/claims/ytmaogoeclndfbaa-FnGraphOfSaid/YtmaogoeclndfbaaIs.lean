/- Is a set a code of a kind: the program. -/
import Derived.Test.YtmaogoeclndfbaaCodeS
import Derived.Test.YtmaogoeclndfbaaResolves
import Derived.Test.YtmaogoeclndfbaaUnlike
namespace Go.Proofs.Ytmaogoeclndfbaa
open Go.RowKit Go.Shelf
attribute [local go_sem] Oper.semAt_some

theorem marksV_at {zs : List Int} {c i : Nat} (hi : i < zs.length) : (marksV zs c)[i]?.getD 0 = markV zs c i := by
  rw [List.getElem?_eq_getElem (by rw [marksV_len]; exact hi)]; simp [marksV]
theorem marks_bd {zs : List Int} {c : Nat} (hc : c < 4096) (i : Nat) : 0 ≤ (marksV zs c)[i]?.getD 0 ∧ (marksV zs c)[i]?.getD 0 < 4096 := by
  by_cases hi : i < zs.length
  · rw [marksV_at hi]
    unfold markV
    have := Nat.and_le_right (n := (ballV zs i).toNat) (m := c)
    omega
  · rw [List.getElem?_eq_none (by rw [marksV_len]; omega)]; simp
theorem uniq_unl {zs : List Int} {n c s : Nat} (hG : IsG n zs) (hs : s < 2 ^ n) : uniqOn (marksV zs c) s = unlB zs c s := by
  have h1 : ((bitsOf s).map (fun x => (marksV zs c)[x]?.getD 0)).Nodup ↔ ∀ i k, k < i → i < n → s.testBit i = true → s.testBit k = true → markV zs c i ≠ markV zs c k := by
    unfold List.Nodup
    rw [List.pairwise_map]
    unfold bitsOf
    rw [List.pairwise_filter, List.pairwise_iff_getElem]
    have h12 := hG.le
    have hl := hG.len
    constructor
    · intro h i k hki hin hbi hbk
      have := h k i (by simp; omega) (by simp; omega) hki
      simp only [List.getElem_range] at this
      have h2 := this hbk hbi
      rw [marksV_at (by omega), marksV_at (by omega)] at h2
      exact fun e => h2 e.symm
    · intro h k i hk hi hki
      simp only [List.getElem_range]
      intro hbk hbi
      have hin : i < n := lt_of_mem_bitsOf hs (mem_bitsOf.2 ⟨by simpa using hi, hbi⟩)
      rw [marksV_at (by omega), marksV_at (by omega)]
      exact fun e => h i k hki hin hbi hbk e.symm
  unfold uniqOn
  cases hu : unlB zs c s with
  | true =>
    refine decide_eq_true (h1.2 fun i k hki hin hbi hbk e => ?_)
    unfold unlB at hu
    rw [List.all_eq_true] at hu
    have h2 := hu i (List.mem_range.2 (by rw [← hG.len]; exact hin))
    rw [List.all_eq_true] at h2
    have h3 := h2 k (List.mem_range.2 hki)
    rw [hbi, hbk] at h3
    simp [e] at h3
  | false =>
    refine decide_eq_false fun hnd => ?_
    have h := h1.1 hnd
    unfold unlB at hu
    rw [List.all_eq_false] at hu
    obtain ⟨i, hi, hu⟩ := hu
    simp only [Bool.not_eq_true] at hu
    rw [List.all_eq_false] at hu
    obtain ⟨k, hk, hu⟩ := hu
    have hi' := List.mem_range.1 hi
    rw [← hG.len] at hi'
    simp only [Bool.not_eq_true', Bool.and_eq_true, decide_eq_true_eq, Bool.not_eq_false] at hu
    exact h i k (List.mem_range.1 hk) hi' hu.1.1 hu.1.2 hu.2
end Go.Proofs.Ytmaogoeclndfbaa
