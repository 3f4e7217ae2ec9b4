/- The way from a leaf to the first fork: plain mathematics. -/
import Derived.Test.YtipimkfmkdihpaaGL2
namespace Go.Proofs.Ytipimkfmkdihpaa

section
variable {zs : List Int} {n : Nat}
theorem deg_ge (hG : IsG n zs) {x : Nat} (hx : x < n) {l : List Nat} (hn : l.Nodup) (h : ∀ y ∈ l, adjB zs x y = true) : l.length ≤ degN zs x := by
  rw [degN_count hG hx, List.countP_eq_length_filter]
  refine hn.length_le_of_subset fun y hy => ?_
  have := h y hy
  exact List.mem_filter.2 ⟨List.mem_range.2 (adj_lt hG this).2, this⟩
/-- the neighbours not yet seen -/
def nextN (zs : List Int) (seen at' : Nat) : Nat := bdiff (gN zs at') (seen ||| 2 ^ at')
/-- the way goes on from a node of fewer than three neighbours -/
def forkGo (zs : List Int) : Nat → Nat → Nat → Int
  | 0, _, _ => -1
  | f + 1, seen, at' => if 3 ≤ degN zs at' then (at' : Int) else if nextN zs seen at' = 0 then -1 else forkGo zs f (seen ||| 2 ^ at') (nextN zs seen at').log2
def forkV (zs : List Int) (leaf : Nat) : Int := forkGo zs 13 0 leaf
/-- where the way is: after i steps -/
structure FI (n : Nat) (zs : List Int) (i seen at' : Nat) : Prop where
  atn : at' < n
  sn : seen < 2 ^ n
  nat : seen.testBit at' = false
  cnt : card seen = i
  nb : ∀ y z, seen.testBit y = true → adjB zs y z = true → seen.testBit z = true ∨ z = at'
  few : ∀ u v, degN zs at' < 3 → adjB zs at' u = true → seen.testBit u = false → adjB zs at' v = true → seen.testBit v = false → u = v
theorem FI.start (hG : IsG n zs) {leaf : Nat} (hl : leaf < n) (h1 : degN zs leaf = 1) : FI n zs 0 0 leaf := by
  refine ⟨hl, Nat.two_pow_pos n, by simp, card_zero, fun y z h => by simp at h, fun u v _ hu _ hv _ => ?_⟩
  refine Classical.byContradiction fun hne => ?_
  have := deg_ge hG hl (l := [u, v]) (by simp [hne]) (by intro y hy; simp at hy; rcases hy with rfl | rfl <;> assumption)
  rw [h1] at this; simp at this
theorem FI.le (hG : IsG n zs) {i seen at' : Nat} (h : FI n zs i seen at') : i + 1 ≤ n := by
  have h12 := hG.le
  have h1 : seen ||| 2 ^ at' < 2 ^ n := Nat.or_lt_two_pow h.sn (Nat.pow_lt_pow_right (by omega) h.atn)
  have h2 := card_le h1 h12
  have h3 : card (seen ||| 2 ^ at') = card seen + card (2 ^ at') := card_or fun x hx => by
    rw [Nat.testBit_two_pow, decide_eq_true_eq] at hx
    obtain ⟨h4, h5⟩ := hx
    subst h5
    rw [h.nat] at h4; cases h4
  rw [card_pow at' (by have := h.atn; omega), h.cnt] at h3
  omega
theorem next_bit (hG : IsG n zs) {seen at' : Nat} (x : Nat) : (nextN zs seen at').testBit x = (adjB zs at' x && !seen.testBit x) := by
  unfold nextN
  rw [testBit_bdiff, gN_bit, Nat.testBit_or, Nat.testBit_two_pow]
  by_cases h : at' = x
  · subst h; simp [adj_irr hG]
  · simp [h]
theorem next_lt (hG : IsG n zs) {seen at' : Nat} (h : at' < n) : nextN zs seen at' < 2 ^ n := bdiff_lt (gN_lt hG h).1
/-- what is next is one node or none -/
theorem FI.one (hG : IsG n zs) {i seen at' : Nat} (h : FI n zs i seen at') (hd : degN zs at' < 3) : nextN zs seen at' = 0 ∨ ∃ x, x < n ∧ nextN zs seen at' = 2 ^ x ∧ adjB zs at' x = true ∧ seen.testBit x = false ∧ x ≠ at' := by
  by_cases h0 : nextN zs seen at' = 0
  · exact .inl h0
  · obtain ⟨x, hx⟩ := ne_zero_bit h0
    have hx2 := hx
    rw [next_bit hG, Bool.and_eq_true, Bool.not_eq_true'] at hx2
    refine .inr ⟨x, (adj_lt hG hx2.1).2, ?_, hx2.1, hx2.2, ?_⟩
    · apply Nat.eq_of_testBit_eq
      intro y
      rw [Nat.testBit_two_pow]
      by_cases hxy : x = y
      · subst hxy; rw [hx]; simp
      · have : decide (x = y) = false := decide_eq_false hxy
        rw [this]
        cases hy : (nextN zs seen at').testBit y with
        | false => rfl
        | true =>
          rw [next_bit hG, Bool.and_eq_true, Bool.not_eq_true'] at hy
          exact absurd (h.few x y hd hx2.1 hx2.2 hy.1 hy.2) hxy
    · rintro rfl
      rw [adj_irr hG] at hx2; cases hx2.1
theorem FI.step (hG : IsG n zs) {i seen at' x : Nat} (h : FI n zs i seen at') (hd : degN zs at' < 3) (hxn : x < n) (hx : adjB zs at' x = true) (hs : seen.testBit x = false) (hne : x ≠ at') : FI n zs (i + 1) (seen ||| 2 ^ at') x := by
  have h12 := hG.le
  have hb : ∀ y, (seen ||| 2 ^ at').testBit y = (seen.testBit y || decide (at' = y)) := fun y => by rw [Nat.testBit_or, Nat.testBit_two_pow]
  refine ⟨hxn, Nat.or_lt_two_pow h.sn (Nat.pow_lt_pow_right (by omega) h.atn), ?_, ?_, fun y z hy ha => ?_, fun u v hdx hu hus hv hvs => ?_⟩
  · rw [hb, hs]; simpa using fun e => hne e.symm
  · rw [card_or fun y hy => ?_, card_pow at' (by have := h.atn; omega), h.cnt]
    rw [Nat.testBit_two_pow, decide_eq_true_eq] at hy
    obtain ⟨h4, h5⟩ := hy
    subst h5
    rw [h.nat] at h4; cases h4
  · rw [hb] at hy ⊢
    simp only [Bool.or_eq_true, decide_eq_true_eq] at hy ⊢
    rcases hy with hy | rfl
    · rcases h.nb y z hy ha with h1 | h1
      · exact .inl (.inl h1)
      · exact .inl (.inr h1.symm)
    · cases hz : seen.testBit z with
      | true => exact .inl (.inl rfl)
      | false => exact .inr (h.few z x hd ha hz hx hs)
  · rw [hb] at hus hvs
    simp only [Bool.or_eq_false_iff, decide_eq_false_iff_not] at hus hvs
    refine Classical.byContradiction fun hne2 => ?_
    have := deg_ge hG hxn (l := [at', u, v]) (by simp [hne2, hus.2, hvs.2]) (by
      intro y hy
      simp at hy
      rcases hy with rfl | rfl | rfl
      · exact adj_symm hG _ _ hx
      · exact hu
      · exact hv)
    simp at this; omega
/-- seen from the new node, just the node before has been seen -/
theorem FI.back (hG : IsG n zs) {i seen at' x : Nat} (h : FI n zs i seen at') (_hx : adjB zs at' x = true) (hs : seen.testBit x = false) (hne : x ≠ at') (z : Nat) (hz : adjB zs x z = true) : (seen ||| 2 ^ at').testBit z = decide (z = at') := by
  rw [Nat.testBit_or, Nat.testBit_two_pow]
  cases h1 : seen.testBit z with
  | false =>
    rw [Bool.false_or, decide_eq_decide]; exact eq_comm
  | true =>
    rcases h.nb z x h1 (adj_symm hG _ _ hz) with h2 | h2
    · rw [hs] at h2; cases h2
    · exact absurd h2 hne
theorem forkGo_fork {f seen at' : Nat} (h : 3 ≤ degN zs at') : forkGo zs (f + 1) seen at' = at' := by rw [forkGo, if_pos h]
theorem forkGo_none {f seen at' : Nat} (h : degN zs at' < 3) (h0 : nextN zs seen at' = 0) : forkGo zs (f + 1) seen at' = -1 := by rw [forkGo, if_neg (by omega), if_pos h0]
theorem forkGo_step {f seen at' x : Nat} (h : degN zs at' < 3) (h0 : nextN zs seen at' = 2 ^ x) : forkGo zs (f + 1) seen at' = forkGo zs f (seen ||| 2 ^ at') x := by
  have h1 : nextN zs seen at' ≠ 0 := by rw [h0]; have := Nat.two_pow_pos x; omega
  rw [forkGo, if_neg (by omega), if_neg h1, h0, Nat.log2_two_pow]
theorem forkGo_lt (hG : IsG n zs) : ∀ (f i seen at' : Nat), FI n zs i seen at' → forkGo zs f seen at' < n ∧ -1 ≤ forkGo zs f seen at'
  | 0, _, _, _, _ => ⟨by show (-1 : Int) < n; omega, by show (-1 : Int) ≤ -1; omega⟩
  | f + 1, i, seen, at', h => by
    have hat := h.atn
    by_cases hd : 3 ≤ degN zs at'
    · rw [forkGo_fork hd]; omega
    · rcases h.one hG (by omega) with h0 | ⟨x, hx, h1, h2, h3, h4⟩
      · rw [forkGo_none (by omega) h0]; omega
      · rw [forkGo_step (by omega) h1]
        exact forkGo_lt hG f (i + 1) _ _ (h.step hG (by omega) hx h2 h3 h4)
/-- the forks of some leaves -/
def forkStep (zs : List Int) (s x : Nat) : Nat := if 0 ≤ forkV zs x then s ||| 2 ^ (forkV zs x).toNat else s
def forksTo (zs : List Int) (l : List Nat) : Nat := l.foldl (forkStep zs) 0
theorem forksTo_snoc (zs : List Int) (l : List Nat) (x : Nat) : forksTo zs (l ++ [x]) = forkStep zs (forksTo zs l) x := by unfold forksTo; rw [List.foldl_append]; rfl
theorem forkV_bd (hG : IsG n zs) {x : Nat} (hx : x < n) (h1 : degN zs x = 1) : -1 ≤ forkV zs x ∧ forkV zs x < n := by
  have := forkGo_lt hG 13 0 0 x (FI.start hG hx h1)
  unfold forkV; omega
theorem forksTo_lt (hG : IsG n zs) : ∀ l : List Nat, (∀ x ∈ l, x < n ∧ degN zs x = 1) → forksTo zs l < 2 ^ n := by
  intro l
  have key : ∀ (l : List Nat) (s : Nat), s < 2 ^ n → (∀ x ∈ l, x < n ∧ degN zs x = 1) → l.foldl (forkStep zs) s < 2 ^ n := by
    intro l
    induction l with
    | nil => intro s hs _; exact hs
    | cons x l ih =>
      intro s hs h
      obtain ⟨h1, h2⟩ := h x (by simp)
      have h3 := forkV_bd hG h1 h2
      refine ih _ ?_ fun y hy => h y (by simp [hy])
      unfold forkStep
      split
      · exact Nat.or_lt_two_pow hs (Nat.pow_lt_pow_right (by omega) (by omega))
      · exact hs
  exact key l 0 (Nat.two_pow_pos n)
theorem leaf_mem {k x : Nat} (hx : x ∈ bitsOf (leafTo zs k)) : x < k ∧ degN zs x = 1 := by
  have h := (mem_bitsOf.1 hx).2
  rw [leafTo_bit, Bool.and_eq_true, decide_eq_true_eq, decide_eq_true_eq] at h; exact h
def forksV (zs : List Int) : Nat := forksTo zs (bitsOf (leafTo zs zs.length))
end
end Go.Proofs.Ytipimkfmkdihpaa
