/- GraphKind of both packages (printed by genkind.py). -/
import Derived.Test.YtmaogoeclndfbaaSGraphOf
import Derived.Test.YtmaogoeclndfbaaPair
namespace Go.Proofs.Ytmaogoeclndfbaa
open Go.RowKit Go.Shelf
set_option linter.unusedVariables false

def eI (c n i k : Nat) : Bool := c == 3 || (c == 2 && k == 0) || (decide (c < 2) && (k + 1 == i)) || (c == 1 && k == 0 && (i + 1 == n))
def kRow (c n i : Nat) (o : List Int) (k : Nat) : List Int := (List.range k).foldl (fun o k => if eI c n i k then joinV o i k else o) o
def kTo (c n i : Nat) : List Int := (List.range i).foldl (fun o i => kRow c n i o i) (List.replicate n 0)
theorem kRow_succ (c n i : Nat) (o : List Int) (k : Nat) : kRow c n i o (k + 1) = if eI c n i k then joinV (kRow c n i o k) i k else kRow c n i o k := by
  unfold kRow; rw [List.range_succ, List.foldl_append]; rfl
theorem kTo_succ (c n i : Nat) : kTo c n (i + 1) = kRow c n i (kTo c n i) i := by
  unfold kTo; rw [List.range_succ, List.foldl_append]; rfl
def eS (c n i k : Nat) : Bool := c == 3 || (c == 2 && i == 0) || (decide (c < 2) && (k == i + 1)) || (c == 1 && i == 0 && (k + 1 == n))
def sRow (c n i m : Nat) : List (List Int) := ((List.range m).filter fun d => eS c n i (i + 1 + d)).map fun d => [(i : Int), ((i + 1 + d : Nat) : Int)]
def sTo (c n i : Nat) : List (List Int) := (List.range i).flatMap fun j => sRow c n j (n - j - 1)
theorem sRow_yes {c n i m : Nat} (h : eS c n i (i + 1 + m) = true) : sRow c n i (m + 1) = sRow c n i m ++ [[(i : Int), ((i + 1 + m : Nat) : Int)]] := by
  simp [sRow, List.range_succ, List.filter_append, h]
theorem sRow_no {c n i m : Nat} (h : eS c n i (i + 1 + m) = false) : sRow c n i (m + 1) = sRow c n i m := by
  simp [sRow, List.range_succ, List.filter_append, h]
theorem sTo_succ (c n i : Nat) : sTo c n (i + 1) = sTo c n i ++ sRow c n i (n - i - 1) := by
  simp [sTo, List.range_succ]
theorem sRow_len (c n i m : Nat) : (sRow c n i m).length ≤ m := by
  unfold sRow; rw [List.length_map]; exact Nat.le_trans (List.length_filter_le _ _) (by simp)
theorem sTo_len (c n i : Nat) : (sTo c n i).length ≤ i * n := by
  induction i with
  | zero => simp [sTo]
  | succ i ih => rw [sTo_succ, List.length_append, Nat.succ_mul]; have := sRow_len c n i (n - i - 1); omega
def kindOk (x y : Int) : Bool := (decide (0 ≤ x) && decide (x ≤ 3)) && (decide (1 ≤ y) && decide (y ≤ 12)) && !(decide (x = 1) && decide (y < 3))
def GraphKindR (x y : Int) : List Int := if kindOk x y then kTo x.toNat y.toNat y.toNat else []
theorem kinds_alike : ∀ c, c < 4 → ∀ n : Nat, n < 13 → n = 0 ∨ (c = 1 ∧ n < 3) ∨ (ofOk n (sTo c n n) = true ∧ putAll n (sTo c n n) = kTo c n n ∧ (kTo c n n).length = n) := by decide +kernel
theorem kindOk_of {x y : Int} (h : kindOk x y = true) : (0 ≤ x ∧ x ≤ 3) ∧ (1 ≤ y ∧ y ≤ 12) ∧ ¬ (x = 1 ∧ y < 3) := by
  simp only [kindOk, Bool.and_eq_true, Bool.not_eq_true', decide_eq_true_eq, Bool.and_eq_false_iff, decide_eq_false_iff_not] at h
  omega
theorem GraphKind_small {x y : Int} : (GraphKindR x y).length ≤ 4096 := by
  unfold GraphKindR
  split
  · rename_i h
    obtain ⟨h1, h2, h3⟩ := kindOk_of h
    rcases kinds_alike x.toNat (by omega) y.toNat (by omega) with h | h | h
    · omega
    · omega
    · rw [h.2.2]; omega
  · simp

theorem kind_cases (x y : Int) : (kindOk x y = true ∧ ∃ c n : Nat, x = c ∧ y = n ∧ c < 4 ∧ 1 ≤ n ∧ n ≤ 12 ∧ ¬ (c = 1 ∧ n < 3)) ∨ (kindOk x y = false ∧ ((decide (0 ≤ x) && decide (x ≤ 3)) = false ∨
    ((decide (0 ≤ x) && decide (x ≤ 3)) = true ∧ (decide (1 ≤ y) && decide (y ≤ 12)) = false) ∨ ((decide (0 ≤ x) && decide (x ≤ 3)) = true ∧ (decide (1 ≤ y) && decide (y ≤ 12)) = true ∧ x = 1 ∧ y < 3))) := by
  cases h : kindOk x y with
  | true =>
    obtain ⟨h1, h2, h3⟩ := kindOk_of h
    exact .inl ⟨rfl, x.toNat, y.toNat, by omega, by omega, by omega, by omega, by omega, by omega⟩
  | false =>
    refine .inr ⟨rfl, ?_⟩
    cases h1 : (decide (0 ≤ x) && decide (x ≤ 3)) with
    | false => exact .inl rfl
    | true =>
      cases h2 : (decide (1 ≤ y) && decide (y ≤ 12)) with
      | false => exact .inr (.inl ⟨rfl, rfl⟩)
      | true =>
        refine .inr (.inr ⟨rfl, rfl, ?_⟩)
        simpa [kindOk, h1, h2] using h
end Go.Proofs.Ytmaogoeclndfbaa
