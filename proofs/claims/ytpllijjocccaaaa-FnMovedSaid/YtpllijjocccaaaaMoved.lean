/- GraphMoved of the program. -/
import Derived.Test.YtpllijjocccaaaaJoin
namespace Go.Proofs.Ytpllijjocccaaaa
open Go.RowKit Go.Shelf

def pAt (ps : List Int) (k : Nat) : Nat := (ps[k]?.getD 0).toNat
def seenTo (ps : List Int) (k : Nat) : Nat := (List.range k).foldl (fun s j => s ||| 2 ^ pAt ps j) 0
def movAt (n : Nat) (ps : List Int) (k : Nat) : Bool := (decide (0 ≤ ps[k]?.getD (0 : Int)) && decide (ps[k]?.getD (0 : Int) < n)) && !(seenTo ps k).testBit (pAt ps k)
def movOk (zs ps : List Int) : Bool := graphB zs && decide (ps.length = zs.length) && (List.range zs.length).all (movAt zs.length ps)
def mvRow (ps : List Int) (i : Nat) (o : List Int) (ks : List Nat) : List Int := ks.foldl (fun o k => addN o (pAt ps i) (pAt ps k)) o
def mvTo (zs ps : List Int) (i : Nat) : List Int := (List.range i).foldl (fun o i => mvRow ps i o (bitsOf (zs[i]?.getD 0).toNat)) (List.replicate zs.length 0)
def GraphMovedR (zs ps : List Int) : List Int := if movOk zs ps then mvTo zs ps zs.length else []
theorem seenTo_succ (ps : List Int) (k : Nat) : seenTo ps (k + 1) = seenTo ps k ||| 2 ^ pAt ps k := by
  unfold seenTo; rw [List.range_succ, List.foldl_append]; rfl
theorem mvTo_succ (zs ps : List Int) (i : Nat) : mvTo zs ps (i + 1) = mvRow ps i (mvTo zs ps i) (bitsOf (zs[i]?.getD 0).toNat) := by
  unfold mvTo; rw [List.range_succ, List.foldl_append]; rfl
theorem mvRow_snoc (ps : List Int) (i : Nat) (o : List Int) (ks : List Nat) (k : Nat) : mvRow ps i o (ks ++ [k]) = addN (mvRow ps i o ks) (pAt ps i) (pAt ps k) := by
  unfold mvRow; rw [List.foldl_append]; rfl
theorem mvRow_len (ps : List Int) (i : Nat) (o : List Int) (ks : List Nat) : (mvRow ps i o ks).length = o.length := by
  unfold mvRow
  induction ks generalizing o with
  | nil => rfl
  | cons k ks ih => rw [List.foldl_cons, ih, addN_len]
theorem mvTo_len (zs ps : List Int) (i : Nat) : (mvTo zs ps i).length = zs.length := by
  induction i with
  | zero => simp [mvTo]
  | succ i ih => rw [mvTo_succ, mvRow_len, ih]
theorem mvRow_bd {ps : List Int} {i : Nat} {o : List Int} {ks : List Nat} (h : Bd12 o) (hk : ∀ k ∈ ks, pAt ps k < 12) : Bd12 (mvRow ps i o ks) := by
  unfold mvRow
  induction ks generalizing o with
  | nil => exact h
  | cons k ks ih => rw [List.foldl_cons]; exact ih (addN_bd h (hk k List.mem_cons_self)) fun j hj => hk j (List.mem_cons_of_mem _ hj)
theorem movAt_of {n : Nat} {ps : List Int} {k : Nat} (h : movAt n ps k = true) : 0 ≤ ps[k]?.getD (0 : Int) ∧ ps[k]?.getD (0 : Int) < n ∧ pAt ps k < n ∧ (seenTo ps k).testBit (pAt ps k) = false := by
  simp only [movAt, Bool.and_eq_true, decide_eq_true_eq, Bool.not_eq_true'] at h
  obtain ⟨⟨h1, h2⟩, h3⟩ := h
  exact ⟨h1, h2, by unfold pAt; omega, h3⟩
theorem seenTo_lt {n : Nat} {ps : List Int} (hn : n ≤ 12) (k : Nat) (h : ∀ j, j < k → movAt n ps j = true) : seenTo ps k < 4096 := by
  induction k with
  | zero => simp [seenTo]
  | succ k ih =>
    rw [seenTo_succ]
    have h1 := ih fun j hj => h j (by omega)
    have h2 := (movAt_of (h k (by omega))).2.2.1
    exact Nat.or_lt_two_pow (n := 12) h1 (Nat.pow_lt_pow_right (by omega) (by omega))
theorem movOk_no {zs ps : List Int} {k : Nat} (hk : k < zs.length) (h : movAt zs.length ps k = false) : movOk zs ps = false := by
  have : (List.range zs.length).all (movAt zs.length ps) = false := by
    rw [List.all_eq_false]; exact ⟨k, List.mem_range.2 hk, by rw [h]; simp⟩
  rw [movOk, this, Bool.and_false]
theorem movOk_yes {zs ps : List Int} (hg : graphB zs = true) (hl : ps.length = zs.length) (h : ∀ k, k < zs.length → movAt zs.length ps k = true) : movOk zs ps = true := by
  have : (List.range zs.length).all (movAt zs.length ps) = true := by
    rw [List.all_eq_true]; exact fun k hk => h k (List.mem_range.1 hk)
  rw [movOk, this, hg, hl]; simp
theorem GraphMovedR_no {zs ps : List Int} (h : movOk zs ps = false) : GraphMovedR zs ps = [] := by rw [GraphMovedR, h]; rfl
theorem GraphMoved_small {zs ps : List Int} : (GraphMovedR zs ps).length ≤ 4096 := by
  unfold GraphMovedR
  split
  · rename_i h
    simp only [movOk, Bool.and_eq_true] at h
    have := graphB_bd h.1.1
    rw [mvTo_len]; omega
  · simp
/-- the row of node i is done by the bits below n -/
theorem bitsTo_full {s n : Nat} (hn : n ≤ 12) (hs : s < 2 ^ n) : bitsTo s n = bitsOf s := bitsTo_all hn (Nat.div_eq_of_lt hs)
end Go.Proofs.Ytpllijjocccaaaa
