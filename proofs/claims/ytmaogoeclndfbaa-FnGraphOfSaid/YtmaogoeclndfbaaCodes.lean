/- CodeIn, CodeFind of the program. -/
import Derived.Test.YtmaogoeclndfbaaIs
namespace Go.Proofs.Ytmaogoeclndfbaa
open Go.RowKit Go.Shelf
attribute [local go_sem] Oper.semAt_some

theorem kindB_of {k : Int} (h : kindB k = true) : ∃ m : Nat, k = m ∧ m ≤ 3 := by
  simp only [kindB, Bool.and_eq_true, decide_eq_true_eq] at h
  exact ⟨k.toNat, by omega, by omega⟩
theorem setB_of {n : Nat} {c : Int} (hn : n ≤ 12) (h : (decide (0 ≤ c) && decide (c < 2 ^ n)) = true) : ∃ m : Nat, c = m ∧ m < 4096 ∧ m < 2 ^ n := by
  simp only [Bool.and_eq_true, decide_eq_true_eq] at h
  have e := pow_int n
  have e2 := pow12 hn
  exact ⟨c.toNat, by omega, by omega, by omega⟩
theorem codeIn_of {zs : List Int} {kd cd : Int} (h : codeInB zs kd cd = true) : graphB zs = true ∧ ∃ kind c : Nat, kd = kind ∧ cd = c ∧ kind ≤ 3 ∧ c < 4096 ∧ c < 2 ^ zs.length ∧ isB zs kind c = true := by
  simp only [codeInB, Bool.and_eq_true] at h
  obtain ⟨⟨⟨hg, hk⟩, hs⟩, hi⟩ := h
  obtain ⟨kind, rfl, hk3⟩ := kindB_of hk
  obtain ⟨c, rfl, h1, h2⟩ := setB_of (graphB_bd hg).2 (by rw [hs.1, hs.2]; rfl)
  exact ⟨hg, kind, c, rfl, rfl, hk3, h1, h2, by simpa using hi⟩

/-! ### CodeFind -/
def findB (zs : List Int) (cd u : Int) : Int := if codeInB zs 2 cd then idxOf (marksV zs cd.toNat) u else -1
def CodeFindR (zs : List Int) (cd u : Int) : Int := if 0 ≤ findB zs cd u then findB zs cd u else 0
end Go.Proofs.Ytmaogoeclndfbaa
