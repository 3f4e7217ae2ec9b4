/- Codes of the four kinds, the least, how many, thin ones: plain mathematics. -/
import Derived.Test.YtpllijjocccaaaaSVec
namespace Go.Proofs.Ytpllijjocccaaaa

/-- a node of the code tells i from k by its distances -/
def sepB (zs : List Int) (c i k : Nat) : Bool := (bitsOf c).any fun x => !decide (distV zs x i = distV zs x k)
def resB (zs : List Int) (c : Nat) : Bool := (List.range zs.length).all fun i => (List.range i).all fun k => sepB zs c i k
def covB (zs : List Int) (c : Nat) : Bool := (List.range zs.length).all fun i => !decide (markV zs c i = 0)
/-- the nodes of the set 'among' have unlike marks -/
def unlB (zs : List Int) (c among : Nat) : Bool := (List.range zs.length).all fun i => (List.range i).all fun k => !(among.testBit i && among.testBit k && decide (markV zs c i = markV zs c k))
def allV (zs : List Int) : Nat := 2 ^ zs.length - 1
def amongV (zs : List Int) (kind c : Nat) : Nat := if kind = 1 then bdiff (allV zs) c else allV zs
def isB (zs : List Int) (kind c : Nat) : Bool := if kind = 3 then resB zs c else covB zs c && (decide (kind = 0) || unlB zs c (amongV zs kind c))
theorem isB_3 (zs : List Int) (c : Nat) : isB zs 3 c = resB zs c := rfl
theorem isB_0 (zs : List Int) (c : Nat) : isB zs 0 c = covB zs c := by unfold isB; rw [if_neg (by omega)]; simp
theorem isB_1 (zs : List Int) (c : Nat) : isB zs 1 c = (covB zs c && unlB zs c (bdiff (allV zs) c)) := by unfold isB amongV; rw [if_neg (by omega), if_pos rfl]; simp
theorem isB_2 (zs : List Int) (c : Nat) : isB zs 2 c = (covB zs c && unlB zs c (allV zs)) := by unfold isB amongV; rw [if_neg (by omega), if_neg (by omega)]; simp
theorem allV_lt {zs : List Int} {n : Nat} (hG : IsG n zs) : allV zs < 4096 ∧ allV zs < 2 ^ n := by
  have h1 := pow12 hG.le
  have h2 := Nat.two_pow_pos n
  unfold allV; rw [← hG.len]; omega
theorem allV_bit {zs : List Int} {x : Nat} : (allV zs).testBit x = decide (x < zs.length) := by unfold allV; rw [Nat.testBit_two_pow_sub_one]

/-- the first set with the fewest nodes -/
def leastStep (P : Nat → Bool) (acc : Option Nat) (s : Nat) : Option Nat := match acc with
  | none => if P s then some s else none
  | some b => if decide (card s < card b) && P s then some s else some b
def leastTo (P : Nat → Bool) (k : Nat) : Option Nat := (List.range k).foldl (leastStep P) none
theorem leastTo_succ (P : Nat → Bool) (k : Nat) : leastTo P (k + 1) = leastStep P (leastTo P k) k := by unfold leastTo; rw [List.range_succ, List.foldl_append]; rfl
theorem leastTo_spec (P : Nat → Bool) : ∀ k, (leastTo P k = none ∧ ∀ s, s < k → P s = false) ∨ ∃ b, leastTo P k = some b ∧ b < k ∧ P b = true ∧ ∀ s, s < k → P s = true → card b ≤ card s
  | 0 => .inl ⟨rfl, fun s hs => by omega⟩
  | k + 1 => by
    rw [leastTo_succ]
    rcases leastTo_spec P k with ⟨h1, h2⟩ | ⟨b, h1, h2, h3, h4⟩
    · rw [h1]
      cases hp : P k with
      | false =>
        refine .inl ⟨by simp [leastStep, hp], fun s hs => ?_⟩
        rcases Nat.lt_succ_iff_lt_or_eq.1 hs with h | rfl
        · exact h2 s h
        · exact hp
      | true =>
        refine .inr ⟨k, by simp [leastStep, hp], by omega, hp, fun s hs hps => ?_⟩
        rcases Nat.lt_succ_iff_lt_or_eq.1 hs with h | rfl
        · rw [h2 s h] at hps; cases hps
        · exact Nat.le_refl _
    · rw [h1]
      by_cases hc : card k < card b ∧ P k = true
      · refine .inr ⟨k, by simp [leastStep, hc.1, hc.2], by omega, hc.2, fun s hs hps => ?_⟩
        rcases Nat.lt_succ_iff_lt_or_eq.1 hs with h | rfl
        · have := h4 s h hps; omega
        · exact Nat.le_refl _
      · refine .inr ⟨b, ?_, by omega, h3, fun s hs hps => ?_⟩
        · have : (decide (card k < card b) && P k) = false := by
            rw [Bool.and_eq_false_iff, decide_eq_false_iff_not]
            by_cases h5 : card k < card b
            · exact .inr (by cases hp : P k with | false => rfl | true => exact absurd ⟨h5, hp⟩ hc)
            · exact .inl h5
          simp [leastStep, this]
        · rcases Nat.lt_succ_iff_lt_or_eq.1 hs with h | rfl
          · exact h4 s h hps
          · refine Nat.le_of_not_lt fun hlt => hc ⟨hlt, hps⟩
def kindB (kind : Int) : Bool := decide (0 ≤ kind) && decide (kind ≤ 3)
def leastOk (zs : List Int) (kind : Int) : Bool := graphB zs && kindB kind
def leastV (zs : List Int) (kind : Nat) : Option Nat := leastTo (isB zs kind) (2 ^ zs.length)
def CodeLeastR (zs : List Int) (kind : Int) : Option Nat := if leastOk zs kind then leastV zs kind.toNat else none
def optN (o : Option Nat) : Int := match o with | some b => (b : Int) | none => 0

def countTo (P : Nat → Bool) (m : Int) (k : Nat) : Nat := (List.range k).countP fun s => decide ((card s : Int) = m) && P s
theorem countTo_succ (P : Nat → Bool) (m : Int) (k : Nat) : countTo P m (k + 1) = countTo P m k + if decide ((card k : Int) = m) && P k then 1 else 0 := by
  unfold countTo; rw [List.range_succ, List.countP_append]; congr 1; cases h : (decide ((card k : Int) = m) && P k) <;> simp [h]
theorem countTo_le (P : Nat → Bool) (m : Int) (k : Nat) : countTo P m k ≤ k := by
  unfold countTo; have := List.countP_le_length (p := fun s => decide ((card s : Int) = m) && P s) (l := List.range k); simpa using this
def countOk (zs : List Int) (kind m : Int) : Bool := leastOk zs kind && decide (0 ≤ m)
def CodeCountR (zs : List Int) (kind m : Int) : Nat := if countOk zs kind m then countTo (isB zs kind.toNat) m (2 ^ zs.length) else 0

def codeInB (zs : List Int) (kind c : Int) : Bool := graphB zs && kindB kind && (decide (0 ≤ c) && decide (c < 2 ^ zs.length)) && isB zs kind.toNat c.toNat

def thinStep (zs : List Int) (kind c x : Nat) : Nat := if isB zs kind (bdiff c (2 ^ x)) then bdiff c (2 ^ x) else c
def thinTo (zs : List Int) (kind c : Nat) (l : List Nat) : Nat := l.foldl (thinStep zs kind) c
theorem thinTo_snoc (zs : List Int) (kind c : Nat) (l : List Nat) (x : Nat) : thinTo zs kind c (l ++ [x]) = thinStep zs kind (thinTo zs kind c l) x := by unfold thinTo; rw [List.foldl_append]; rfl
theorem thinTo_lt {zs : List Int} {kind c k : Nat} (hc : c < 2 ^ k) : ∀ l, thinTo zs kind c l < 2 ^ k := by
  intro l
  induction l generalizing c with
  | nil => exact hc
  | cons x l ih =>
    refine ih ?_
    unfold thinStep; split
    · exact bdiff_lt hc
    · exact hc
theorem thinTo_is {zs : List Int} {kind c : Nat} (hc : isB zs kind c = true) : ∀ l, isB zs kind (thinTo zs kind c l) = true := by
  intro l
  induction l generalizing c with
  | nil => exact hc
  | cons x l ih =>
    refine ih ?_
    unfold thinStep; split
    · rename_i h; exact h
    · exact hc
theorem bdiff_bit {c x : Nat} (h : c.testBit x = false) : bdiff c (2 ^ x) = c := by
  apply Nat.eq_of_testBit_eq
  intro i
  rw [testBit_bdiff, Nat.testBit_two_pow]
  by_cases e : x = i
  · subst e; rw [h]; rfl
  · simp [e]
theorem thinStep_no {zs : List Int} {kind c x : Nat} (h : c.testBit x = false) : thinStep zs kind c x = c := by
  unfold thinStep; rw [bdiff_bit h]; split <;> rfl
theorem thin_bit {zs : List Int} {kind c y : Nat} (h : c.testBit y = false) : ∀ l, (thinTo zs kind c l).testBit y = false := by
  intro l
  induction l generalizing c with
  | nil => exact h
  | cons x l ih =>
    refine ih ?_
    unfold thinStep; split
    · rw [testBit_bdiff, h]; rfl
    · exact h
/-- taking the nodes one by one, those that are not in the code too, makes no odds -/
theorem thinTo_range {zs : List Int} {kind c : Nat} : ∀ k, thinTo zs kind c (bitsTo c k) = thinTo zs kind c (List.range k)
  | 0 => rfl
  | k + 1 => by
    rw [bitsTo_succ, List.range_succ, thinTo_snoc, ← thinTo_range k]
    cases h : c.testBit k with
    | true => rw [if_pos rfl, thinTo_snoc]
    | false => rw [if_neg (by simp), List.append_nil, thinStep_no (thin_bit h _)]
def CodeThinR (zs : List Int) (kind c : Int) : Nat := if codeInB zs kind c then thinTo zs kind.toNat c.toNat (bitsOf c.toNat) else 0

theorem find_range {P : Nat → Bool} {n k : Nat} (hk : k < n) (h1 : P k = true) (h2 : ∀ j, j < k → P j = false) : (List.range n).find? P = some k := by
  obtain ⟨d, rfl⟩ : ∃ d, n = k + (d + 1) := ⟨n - k - 1, by omega⟩
  rw [List.range_add, List.find?_append, List.find?_eq_none.2 (fun j hj => by rw [h2 j (List.mem_range.1 hj)]; simp)]
  rw [List.range_succ_eq_map]
  simp [h1]
/-- where a list holds a number first, -1 for nowhere -/
def idxBy (n : Nat) (P : Nat → Bool) : Int := match (List.range n).find? P with | some i => (i : Int) | none => -1
theorem idxBy_hit {n k : Nat} {P : Nat → Bool} (hk : k < n) (h1 : P k = true) (h2 : ∀ j, j < k → P j = false) : idxBy n P = k := by unfold idxBy; rw [find_range hk h1 h2]
theorem idxBy_miss {n : Nat} {P : Nat → Bool} (h : ∀ j, j < n → P j = false) : idxBy n P = -1 := by
  unfold idxBy; rw [List.find?_eq_none.2 (fun j hj => by rw [h j (List.mem_range.1 hj)]; simp)]
theorem idxBy_cases (n : Nat) (P : Nat → Bool) : (∃ k : Nat, k < n ∧ P k = true ∧ (∀ j, j < k → P j = false) ∧ idxBy n P = k) ∨ ((∀ j, j < n → P j = false) ∧ idxBy n P = -1) := by
  by_cases h : ∃ k, k < n ∧ P k = true
  · obtain ⟨k, hk, hp⟩ := h
    have : ∀ k, k < n → P k = true → ∃ m, m < n ∧ P m = true ∧ ∀ j, j < m → P j = false := by
      intro k
      induction k using Nat.strongRecOn with
      | _ k ih =>
        intro hk hp
        by_cases h2 : ∃ j, j < k ∧ P j = true
        · obtain ⟨j, hj, hpj⟩ := h2
          exact ih j hj (by omega) hpj
        · exact ⟨k, hk, hp, fun j hj => by cases hpj : P j with | false => rfl | true => exact absurd ⟨j, hj, hpj⟩ h2⟩
    obtain ⟨m, h1, h2, h3⟩ := this k hk hp
    exact .inl ⟨m, h1, h2, h3, idxBy_hit h1 h2 h3⟩
  · have h' : ∀ j, j < n → P j = false := fun j hj => by cases hpj : P j with | false => rfl | true => exact absurd ⟨j, hj, hpj⟩ h
    exact .inr ⟨h', idxBy_miss h'⟩
def idxOf (l : List Int) (u : Int) : Int := idxBy l.length fun i => decide (l[i]?.getD 0 = u)
end Go.Proofs.Ytpllijjocccaaaa
