/- Laws of connected graphs and trees: how many edges. Plain mathematics. -/
import Derived.Test.YtpllijjocccaaaaGL1
namespace Go.Proofs.Ytpllijjocccaaaa

def sumTo (f : Nat → Nat) : Nat → Nat
  | 0 => 0
  | k + 1 => sumTo f k + f k
theorem sumTo_congr {f g : Nat → Nat} : ∀ k : Nat, (∀ x, x < k → f x = g x) → sumTo f k = sumTo g k
  | 0, _ => rfl
  | k + 1, h => by rw [sumTo, sumTo, sumTo_congr k fun x hx => h x (by omega), h k (by omega)]
theorem sumTo_add (f g : Nat → Nat) : ∀ k : Nat, sumTo (fun x => f x + g x) k = sumTo f k + sumTo g k
  | 0 => rfl
  | k + 1 => by simp only [sumTo]; rw [sumTo_add f g k]; omega
theorem sumTo_mono {f g : Nat → Nat} : ∀ k : Nat, (∀ x, x < k → f x ≤ g x) → sumTo f k ≤ sumTo g k
  | 0, _ => Nat.le_refl _
  | k + 1, h => by
    have h1 := sumTo_mono k fun x hx => h x (by omega)
    have h2 := h k (by omega)
    simp only [sumTo]; omega
theorem sumTo_le {f : Nat → Nat} {k x : Nat} (hx : x < k) : f x ≤ sumTo f k := by
  induction k with
  | zero => omega
  | succ k ih =>
    simp only [sumTo]
    rcases Nat.lt_succ_iff_lt_or_eq.1 hx with h | rfl
    · have := ih h; omega
    · omega
theorem sumTo_zero : ∀ k : Nat, sumTo (fun _ => 0) k = 0
  | 0 => rfl
  | k + 1 => by simp only [sumTo]; rw [sumTo_zero k]
theorem sumTo_bits (p : Nat → Bool) : ∀ k : Nat, sumTo (fun x => if p x then 1 else 0) k = (List.range k).countP p
  | 0 => rfl
  | k + 1 => by
    simp only [sumTo]
    rw [sumTo_bits p k, List.range_succ, List.countP_append]
    cases h : p k <;> simp [h]
/-- counting pairs by rows or by columns -/
theorem sum_swap (p : Nat → Nat → Bool) (m : Nat) : ∀ n : Nat, sumTo (fun x => (List.range m).countP fun y => p x y) n = sumTo (fun y => (List.range n).countP fun x => p x y) m
  | 0 => by
    have : (fun y : Nat => (List.range 0).countP fun x => p x y) = fun _ => 0 := by funext y; rfl
    rw [this, sumTo_zero]; rfl
  | n + 1 => by
    simp only [sumTo]
    rw [sum_swap p m n, ← sumTo_bits (fun y => p n y) m, ← sumTo_add]
    refine sumTo_congr m fun y _ => ?_
    rw [List.range_succ, List.countP_append]
    cases h : p n y <;> simp [h]
theorem countP_split (p q : Nat → Bool) (l : List Nat) : l.countP p = l.countP (fun x => p x && q x) + l.countP (fun x => p x && !q x) := by
  induction l with
  | nil => rfl
  | cons a l ih =>
    rw [List.countP_cons, List.countP_cons, List.countP_cons, ih]
    cases hp : p a <;> cases hq : q a <;> simp <;> omega
section
variable {zs : List Int} {n : Nat}
/-- how many neighbours -/
def degN (zs : List Int) (x : Nat) : Nat := card (gN zs x)
def degSum (zs : List Int) (k : Nat) : Nat := sumTo (degN zs) k
theorem degN_count (hG : IsG n zs) {x : Nat} (hx : x < n) : degN zs x = (List.range n).countP fun y => adjB zs x y := by
  have h12 := hG.le
  unfold degN
  rw [card_eq]
  obtain ⟨d, hd⟩ : ∃ d, 12 = n + d := ⟨12 - n, by omega⟩
  rw [hd, List.range_add, List.countP_append]
  have h0 : List.countP (fun i => (gN zs x).testBit i) (List.map (fun y => n + y) (List.range d)) = 0 := by
    rw [List.countP_eq_zero]
    intro y hy
    obtain ⟨z, _, rfl⟩ := List.mem_map.1 hy
    rw [Nat.testBit_lt_two_pow (Nat.lt_of_lt_of_le (gN_lt hG hx).1 (Nat.pow_le_pow_right (by omega) (Nat.le_add_right _ _)))]; simp
  rw [h0, Nat.add_zero]; rfl
def lowP (zs : List Int) (x y : Nat) : Bool := adjB zs x y && decide (distV zs 0 y < distV zs 0 x)
def uppP (zs : List Int) (x y : Nat) : Bool := adjB zs x y && decide (distV zs 0 x < distV zs 0 y)
def eqlP (zs : List Int) (x y : Nat) : Bool := adjB zs x y && decide (distV zs 0 x = distV zs 0 y)
def cntP (n : Nat) (p : Nat → Nat → Bool) (x : Nat) : Nat := (List.range n).countP fun y => p x y
theorem deg_split (hG : IsG n zs) {x : Nat} (hx : x < n) : degN zs x = cntP n (lowP zs) x + cntP n (uppP zs) x + cntP n (eqlP zs) x := by
  rw [degN_count hG hx, countP_split _ (fun y => decide (distV zs 0 y < distV zs 0 x)), countP_split (fun y => adjB zs x y && !decide (distV zs 0 y < distV zs 0 x)) (fun y => decide (distV zs 0 x < distV zs 0 y))]
  unfold cntP
  rw [Nat.add_assoc]
  congr 2
  · refine List.countP_congr fun y _ => ?_
    simp only [uppP, Bool.and_eq_true, Bool.not_eq_true', decide_eq_false_iff_not, decide_eq_true_eq]
    constructor
    · rintro ⟨⟨h1, _⟩, h2⟩; exact ⟨h1, h2⟩
    · rintro ⟨h1, h2⟩; exact ⟨⟨h1, by omega⟩, h2⟩
  · refine List.countP_congr fun y _ => ?_
    simp only [eqlP, Bool.and_eq_true, Bool.not_eq_true', decide_eq_false_iff_not, decide_eq_true_eq]
    constructor
    · rintro ⟨⟨h1, h2⟩, h3⟩; exact ⟨h1, by omega⟩
    · rintro ⟨h1, h2⟩; exact ⟨⟨h1, by omega⟩, by omega⟩
theorem upp_sum (hG : IsG n zs) : sumTo (cntP n (uppP zs)) n = sumTo (cntP n (lowP zs)) n := by
  have h := sum_swap (uppP zs) n n
  refine h.trans (sumTo_congr n fun y _ => List.countP_congr fun x _ => ?_)
  simp only [uppP, lowP, adj_comm hG x y]
theorem low_one (hG : IsG n zs) (hc : connB zs = true) {x : Nat} (hx : x < n) (h0 : x ≠ 0) : 1 ≤ cntP n (lowP zs) x := by
  obtain ⟨y, hy, ha, hd⟩ := dist_low hG hG.pos h0 ((connB_iff hG).1 hc x hx)
  unfold cntP
  refine List.countP_pos_iff.2 ⟨y, List.mem_range.2 hy, ?_⟩
  simp only [lowP, ha, Bool.true_and, decide_eq_true_eq]; omega
theorem low_sum (hG : IsG n zs) (hc : connB zs = true) : ∀ k : Nat, k ≤ n → k ≤ sumTo (cntP n (lowP zs)) k + 1
  | 0, _ => by omega
  | k + 1, h => by
    have ih := low_sum hG hc k (by omega)
    simp only [sumTo]
    by_cases h0 : k = 0
    · subst h0; omega
    · have := low_one hG hc (x := k) (by omega) h0; omega
theorem deg_sum (hG : IsG n zs) : degSum zs n = 2 * sumTo (cntP n (lowP zs)) n + sumTo (cntP n (eqlP zs)) n := by
  have h : degSum zs n = sumTo (fun x => cntP n (lowP zs) x + cntP n (uppP zs) x + cntP n (eqlP zs) x) n := sumTo_congr n fun x hx => deg_split hG hx
  rw [h, sumTo_add, sumTo_add, upp_sum hG]; omega
/-- connected graphs have edges enough -/
theorem conn_edges (hG : IsG n zs) (hc : connB zs = true) : 2 * n ≤ degSum zs n + 2 := by
  have h1 := deg_sum hG
  have h2 := low_sum hG hc n (Nat.le_refl _)
  omega
/-- a tree: connected, and no more edges than that -/
def treeB (zs : List Int) : Bool := connB zs && decide (degSum zs zs.length + 2 = 2 * zs.length)
theorem tree_of (hG : IsG n zs) (h : treeB zs = true) : connB zs = true ∧ degSum zs n + 2 = 2 * n := by
  simp only [treeB, Bool.and_eq_true, decide_eq_true_eq, ← hG.len] at h; exact h
theorem tree_graph (h : treeB zs = true) : graphB zs = true := by
  simp only [treeB, connB, Bool.and_eq_true] at h; exact h.1.1
theorem tree_eql (hG : IsG n zs) (h : treeB zs = true) {x y : Nat} (ha : adjB zs x y = true) : distV zs 0 x ≠ distV zs 0 y := by
  obtain ⟨hc, hs⟩ := tree_of hG h
  have h1 := deg_sum hG
  have h2 := low_sum hG hc n (Nat.le_refl _)
  have h3 : sumTo (cntP n (eqlP zs)) n = 0 := by omega
  intro he
  have hx := (adj_lt hG ha).1
  have hy := (adj_lt hG ha).2
  have h4 := sumTo_le (f := cntP n (eqlP zs)) hx
  have h5 : 1 ≤ cntP n (eqlP zs) x := List.countP_pos_iff.2 ⟨y, List.mem_range.2 hy, by simp [eqlP, ha, he]⟩
  omega
theorem dist_pos (hG : IsG n zs) {x : Nat} (hx : x ≠ 0) : 1 ≤ distV zs 0 x := by
  have h1 := dist_le12 hG hG.pos x
  have h2 := dist_zero hG (j := x) hG.pos
  omega
/-- trees of three nodes or more have no twins -/
theorem tree_twins (hG : IsG n zs) (h : treeB zs = true) (h3 : 3 ≤ n) : noTw zs := by
  have hc := (tree_of hG h).1
  have hcn := (connB_iff hG).1 hc
  have hl := hG.len
  -- twins a, b, b farther off
  have key : ∀ a b, a < n → b < n → bN zs a = bN zs b → distV zs 0 a < distV zs 0 b → False := by
    intro a b ha hb he hlt
    have hab : a ≠ b := by rintro rfl; omega
    have hadj : adjB zs a b = true := by
      have h1 := bN_self zs b
      rw [← he, bN_bit] at h1
      simp only [Bool.or_eq_true, decide_eq_true_eq] at h1
      rcases h1 with h1 | h1
      · exact h1
      · exact absurd h1 hab
    have hshare : ∀ c, c ≠ a → c ≠ b → adjB zs a c = true → adjB zs b c = true := by
      intro c h1 h2 h4
      have h5 : (bN zs a).testBit c = true := by rw [bN_bit, h4]; rfl
      rw [he, bN_bit] at h5
      simp only [Bool.or_eq_true, decide_eq_true_eq] at h5
      rcases h5 with h5 | h5
      · exact h5
      · exact absurd h5.symm h2
    have hshare2 : ∀ c, c ≠ a → c ≠ b → adjB zs b c = true → adjB zs a c = true := by
      intro c h1 h2 h4
      have h5 : (bN zs b).testBit c = true := by rw [bN_bit, h4]; rfl
      rw [← he, bN_bit] at h5
      simp only [Bool.or_eq_true, decide_eq_true_eq] at h5
      rcases h5 with h5 | h5
      · exact h5
      · exact absurd h5.symm h1
    have htri := dist_tri hG hG.pos hadj
    -- a is the node 0
    have ha0 : a = 0 := by
      refine Classical.byContradiction fun hne => ?_
      obtain ⟨y, hy, hay, hd⟩ := dist_low hG hG.pos hne (hcn a ha)
      have hya : y ≠ a := by rintro rfl; omega
      have hyb : y ≠ b := by rintro rfl; omega
      have h5 := dist_tri hG hG.pos (adj_symm hG _ _ (hshare y hya hyb hay))
      omega
    subst ha0
    have hd0 := dist_self hG hG.pos
    have hd1 : distV zs 0 b = 1 := by omega
    -- a third node nearest to 0
    have hno1 : ∀ c, c < n → c ≠ 0 → c ≠ b → distV zs 0 c ≠ 1 := by
      intro c hcn2 h1 h2 h4
      have h5 := (dist_one hG (j := c) hG.pos).1 h4
      exact tree_eql hG h (hshare c h1 h2 h5) (by rw [hd1, h4])
    have hno : ∀ d : Nat, 2 ≤ d → ∀ c, c < n → distV zs 0 c = d → False := by
      intro d hd
      induction d with
      | zero => omega
      | succ d ih =>
        intro c hcn2 hcd
        have hc0 : c ≠ 0 := by rintro rfl; omega
        have hcb : c ≠ b := by rintro rfl; omega
        obtain ⟨y, hy, hay, hdy⟩ := dist_low hG hG.pos hc0 (hcn c hcn2)
        by_cases h2 : 2 ≤ d
        · exact ih h2 y hy (by omega)
        · have hdy1 : distV zs 0 y = 1 := by omega
          have hyb : y = b := Classical.byContradiction fun hne => hno1 y hy (by rintro rfl; omega) hne hdy1
          subst hyb
          have h5 := hshare2 c hc0 hcb (adj_symm hG _ _ hay)
          have h6 := (dist_one hG (j := c) hG.pos).2 h5
          omega
    obtain ⟨c, hcl, hc0, hcb⟩ : ∃ c, c < n ∧ c ≠ 0 ∧ c ≠ b := by
      by_cases hb1 : b = 1
      · exact ⟨2, by omega, by omega, by omega⟩
      · exact ⟨1, by omega, by omega, fun e => hb1 e.symm⟩
    have h5 := dist_pos hG hc0
    have h6 := dist_le12 hG hG.pos c
    have h7 := hno1 c hcl hc0 hcb
    exact hno (distV zs 0 c).toNat (by omega) c hcl (by omega)
  intro i k hi hk he
  rw [← hl] at hi
  have hne : distV zs 0 i ≠ distV zs 0 k := by
    refine tree_eql hG h ?_
    have h1 := bN_self zs k
    rw [← he, bN_bit] at h1
    simp only [Bool.or_eq_true, decide_eq_true_eq] at h1
    rcases h1 with h1 | h1
    · exact h1
    · omega
  rcases Int.lt_or_lt_of_ne hne with h1 | h1
  · exact key i k hi (by omega) he h1
  · exact key k i (by omega) hi he.symm h1
theorem deg_one (hG : IsG n zs) (hc : connB zs = true) (h2 : 2 ≤ n) {x : Nat} (hx : x < n) : 1 ≤ degN zs x := by
  by_cases h0 : x = 0
  · subst h0
    obtain ⟨y, hy, ha, hd⟩ := dist_low hG hG.pos (x := 1) (by omega) ((connB_iff hG).1 hc 1 (by omega))
    -- the node 0 has a neighbour: some node lies at distance 1
    have key : ∀ d : Nat, ∀ c, c < n → distV zs 0 c = (d + 1 : Nat) → 1 ≤ degN zs 0 := by
      intro d
      induction d with
      | zero =>
        intro c hcn hcd
        have h5 := (dist_one hG (j := c) hG.pos).1 (by omega)
        rw [degN_count hG hG.pos]
        exact List.countP_pos_iff.2 ⟨c, List.mem_range.2 hcn, h5⟩
      | succ d ih =>
        intro c hcn hcd
        obtain ⟨y, hy, _, hd⟩ := dist_low hG hG.pos (x := c) (by rintro rfl; have := dist_self hG hG.pos; omega) ((connB_iff hG).1 hc c hcn)
        exact ih y hy (by omega)
    have h5 := dist_pos hG (x := 1) (by omega)
    exact key ((distV zs 0 1).toNat - 1) 1 (by omega) (by omega)
  · obtain ⟨y, hy, ha, _⟩ := dist_low hG hG.pos h0 ((connB_iff hG).1 hc x hx)
    rw [degN_count hG hx]
    exact List.countP_pos_iff.2 ⟨y, List.mem_range.2 hy, ha⟩
/-- the leaves among the first k nodes -/
def leafTo (zs : List Int) : Nat → Nat
  | 0 => 0
  | k + 1 => if degN zs k = 1 then leafTo zs k ||| 2 ^ k else leafTo zs k
theorem leafTo_lt (zs : List Int) : ∀ k : Nat, leafTo zs k < 2 ^ k
  | 0 => by simp [leafTo]
  | k + 1 => by
    have ih := leafTo_lt zs k
    have h1 : 2 ^ k < 2 ^ (k + 1) := Nat.pow_lt_pow_right (by omega) (by omega)
    unfold leafTo
    split
    · exact Nat.or_lt_two_pow (by omega) h1
    · omega
theorem leafTo_bit (zs : List Int) (i : Nat) : ∀ k : Nat, (leafTo zs k).testBit i = (decide (i < k) && decide (degN zs i = 1))
  | 0 => by simp [leafTo]
  | k + 1 => by
    unfold leafTo
    by_cases hk : degN zs k = 1
    · rw [if_pos hk, Nat.testBit_or, leafTo_bit zs i k, Nat.testBit_two_pow]
      by_cases h : i = k
      · subst h; simp [hk]
      · have h1 : decide (k = i) = false := decide_eq_false fun e => h e.symm
        have h2 : decide (i < k + 1) = decide (i < k) := decide_eq_decide.2 (by omega)
        rw [h1, h2]; simp
    · rw [if_neg hk, leafTo_bit zs i k]
      by_cases h : i = k
      · subst h; simp [hk]
      · have h2 : decide (i < k + 1) = decide (i < k) := decide_eq_decide.2 (by omega)
        rw [h2]
theorem leaf_card {k : Nat} (hk : k ≤ 12) : card (leafTo zs k) = (List.range k).countP fun i => decide (degN zs i = 1) := by
  rw [card_eq]
  obtain ⟨d, hd⟩ : ∃ d, 12 = k + d := ⟨12 - k, by omega⟩
  rw [hd, List.range_add, List.countP_append]
  have h0 : List.countP (fun i => (leafTo zs k).testBit i) (List.map (fun y => k + y) (List.range d)) = 0 := by
    rw [List.countP_eq_zero]
    intro y hy
    obtain ⟨z, _, rfl⟩ := List.mem_map.1 hy
    rw [leafTo_bit, decide_eq_false (show ¬ k + z < k by omega)]; simp
  rw [h0, Nat.add_zero]
  refine List.countP_congr fun i hi => ?_
  rw [leafTo_bit, decide_eq_true (List.mem_range.1 hi), Bool.true_and]
theorem leaf_sum : ∀ k : Nat, (∀ x, x < k → 1 ≤ degN zs x) → 2 * k ≤ degSum zs k + (List.range k).countP fun i => decide (degN zs i = 1)
  | 0, _ => by omega
  | k + 1, h => by
    have ih := leaf_sum k fun x hx => h x (by omega)
    have h1 := h k (by omega)
    rw [List.range_succ, List.countP_append]
    have e : degSum zs (k + 1) = degSum zs k + degN zs k := rfl
    rw [e]
    by_cases hk : degN zs k = 1
    · simp [hk]; omega
    · simp [hk]; omega
/-- trees of two nodes or more have two leaves or more -/
theorem tree_leaves (hG : IsG n zs) (h : treeB zs = true) (h2 : 2 ≤ n) : 2 ≤ card (leafTo zs n) := by
  obtain ⟨hc, hs⟩ := tree_of hG h
  rw [leaf_card hG.le]
  have := leaf_sum (zs := zs) n fun x hx => deg_one hG hc h2 hx
  omega
/-- the tree of one node has none -/
theorem one_leaf (hG : IsG n zs) (h1 : n < 2) : leafTo zs n = 0 := by
  have hp := hG.pos
  obtain rfl : n = 1 := by omega
  have h0 : degN zs 0 = 0 := by
    rw [degN_count hG hp]
    rw [List.countP_eq_zero]
    intro y hy
    have hy0 : y = 0 := by have := List.mem_range.1 hy; omega
    subst hy0
    rw [adj_irr hG]; simp
  simp [leafTo, h0]
end
end Go.Proofs.Ytpllijjocccaaaa
