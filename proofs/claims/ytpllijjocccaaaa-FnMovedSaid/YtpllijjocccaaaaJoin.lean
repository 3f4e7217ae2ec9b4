/- join: two nodes made neighbours. -/
import Derived.Test.YtpllijjocccaaaaRwsM
namespace Go.Proofs.Ytpllijjocccaaaa
open Go.RowKit Go.Shelf

/-- x | 1 << k -/
def orB (x : Int) (k : Nat) : Int := ((x.toNat ||| 2 ^ k : Nat) : Int)
def addN (zs : List Int) (a k : Nat) : List Int := zs.set a (orB (zs[a]?.getD 0) k)
def joinV (zs : List Int) (a b : Nat) : List Int := addN (addN zs a b) b a
/-- all entries are sets of twelve nodes -/
def Bd12 (zs : List Int) : Prop := ∀ i : Nat, 0 ≤ zs[i]?.getD 0 ∧ zs[i]?.getD 0 < 4096
theorem orB_bd {x : Int} {k : Nat} (h1 : x < 4096) (hk : k < 12) : 0 ≤ orB x k ∧ orB x k < 4096 := by
  refine ⟨Int.natCast_nonneg _, ?_⟩
  have : x.toNat ||| 2 ^ k < 2 ^ 12 := Nat.or_lt_two_pow (by omega) (Nat.pow_lt_pow_right (by omega) hk)
  unfold orB; omega
theorem addN_len (zs : List Int) (a k : Nat) : (addN zs a k).length = zs.length := by simp [addN]
theorem joinV_len (zs : List Int) (a b : Nat) : (joinV zs a b).length = zs.length := by simp [joinV, addN_len]
theorem addN_bd {zs : List Int} {a k : Nat} (h : Bd12 zs) (hk : k < 12) : Bd12 (addN zs a k) := fun i => by
  unfold addN
  rw [List.getElem?_set]
  by_cases e : a = i
  · rw [if_pos e]
    by_cases hl : a < zs.length
    · rw [if_pos hl]; exact orB_bd (h a).2 hk
    · rw [if_neg hl]; simp
  · rw [if_neg e]; exact h i
theorem joinV_bd {zs : List Int} {a b : Nat} (h : Bd12 zs) (ha : a < 12) (hb : b < 12) : Bd12 (joinV zs a b) := addN_bd (addN_bd h hb) ha
theorem Bd12_zero (n : Nat) : Bd12 (List.replicate n 0) := fun i => by
  rw [List.getElem?_replicate]; split <;> simp
theorem orB_bits {x : Int} {k : Nat} (h0 : 0 ≤ x) (h1 : x < 4096) (hk : k < 12) : bits BinOp.or IntKind.i64 x (2 ^ k) = orB x k := ball_bits h0 h1 hk

/-- what an edge must be -/
def okE (n : Int) (r : List Int) : Bool := decide (r.length = 2) && (decide ((0 : Int) ≤ r[0]?.getD 0) && decide (r[0]?.getD 0 < n)) && (decide ((0 : Int) ≤ r[1]?.getD 0) && decide (r[1]?.getD 0 < n)) && !decide (r[0]?.getD 0 = r[1]?.getD 0)
def putE (zs : List Int) (r : List Int) : List Int := joinV zs (r[0]?.getD 0).toNat (r[1]?.getD 0).toNat
def putAll (n : Nat) (es : List (List Int)) : List Int := es.foldl putE (List.replicate n 0)
def ofOk (n : Int) (es : List (List Int)) : Bool := (decide (1 ≤ n) && decide (n ≤ 12)) && es.all (okE n)
def GraphOfR (n : Int) (es : List (List Int)) : List Int := if ofOk n es then putAll n.toNat es else []
theorem okE_two {n : Int} {r : List Int} (h : okE n r = true) : r.length = 2 ∧ ((0 : Int) ≤ r[0]?.getD 0 ∧ r[0]?.getD 0 < n) ∧ ((0 : Int) ≤ r[1]?.getD 0 ∧ r[1]?.getD 0 < n) ∧ r[0]?.getD 0 ≠ r[1]?.getD 0 := by
  simp only [okE, Bool.and_eq_true, Bool.not_eq_true', decide_eq_true_eq, decide_eq_false_iff_not] at h
  exact ⟨h.1.1.1, h.1.1.2, h.1.2, h.2⟩
theorem putAll_succ {n : Nat} {es : List (List Int)} {k : Nat} (h : k < es.length) : putAll n (es.take (k + 1)) = putE (putAll n (es.take k)) (es.getD k []) := by
  unfold putAll
  rw [List.take_succ_eq_append_getElem h, List.foldl_append, List.getD_eq_getElem?_getD, List.getElem?_eq_getElem h]; rfl
theorem putAll_len (n : Nat) (es : List (List Int)) : (putAll n es).length = n := by
  unfold putAll
  suffices ∀ zs : List Int, (es.foldl putE zs).length = zs.length by rw [this]; simp
  induction es with
  | nil => intro zs; rfl
  | cons r rs ih => intro zs; rw [List.foldl_cons, ih, putE, joinV_len]
theorem ofOk_no {n : Int} {es : List (List Int)} {k : Nat} (hk : k < es.length) (h : okE n (es.getD k []) = false) : ofOk n es = false := by
  have hm : es.getD k [] ∈ es := by rw [List.getD_eq_getElem?_getD, List.getElem?_eq_getElem hk]; exact List.getElem_mem _
  have : es.all (okE n) = false := by
    rw [List.all_eq_false]; exact ⟨_, hm, by rw [h]; simp⟩
  rw [ofOk, this, Bool.and_false]
theorem ofOk_out {n : Int} {es : List (List Int)} (h : (decide (1 ≤ n) && decide (n ≤ 12)) = false) : ofOk n es = false := by rw [ofOk, h]; rfl
theorem ofOk_yes {n : Int} {es : List (List Int)} (h : (decide (1 ≤ n) && decide (n ≤ 12)) = true) (ha : ∀ k, k < es.length → okE n (es.getD k []) = true) : ofOk n es = true := by
  rw [ofOk, h, Bool.true_and, List.all_eq_true]
  intro r hr
  obtain ⟨k, hk, rfl⟩ := List.mem_iff_getElem.1 hr
  have := ha k hk
  rwa [List.getD_eq_getElem?_getD, List.getElem?_eq_getElem hk] at this
theorem GraphOfR_no {n : Int} {es : List (List Int)} (h : ofOk n es = false) : GraphOfR n es = [] := by rw [GraphOfR, h]; rfl
theorem GraphOf_small {n : Int} {es : List (List Int)} : (GraphOfR n es).length ≤ 4096 := by
  unfold GraphOfR
  split
  · rename_i h
    simp only [ofOk, Bool.and_eq_true, decide_eq_true_eq] at h
    rw [putAll_len]; omega
  · simp
end Go.Proofs.Ytpllijjocccaaaa
