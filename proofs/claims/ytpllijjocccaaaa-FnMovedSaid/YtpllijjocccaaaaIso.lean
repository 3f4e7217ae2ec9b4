/- Graphs with other names: codes go to codes of the same size, twins to twins. Plain mathematics. -/
import Derived.Test.YtpllijjocccaaaaGL2
import Derived.Test.YtpllijjocccaaaaMoved
namespace Go.Proofs.Ytpllijjocccaaaa

/-- the set of the numbers below n with a property -/
def setOf (p : Nat → Bool) : Nat → Nat
  | 0 => 0
  | k + 1 => if p k then setOf p k ||| 2 ^ k else setOf p k
theorem setOf_lt (p : Nat → Bool) : ∀ k : Nat, setOf p k < 2 ^ k
  | 0 => by simp [setOf]
  | k + 1 => by
    have ih := setOf_lt p k
    have h1 : 2 ^ k < 2 ^ (k + 1) := Nat.pow_lt_pow_right (by omega) (by omega)
    unfold setOf
    split
    · exact Nat.or_lt_two_pow (by omega) h1
    · omega
theorem setOf_bit (p : Nat → Bool) (i : Nat) : ∀ k : Nat, (setOf p k).testBit i = (decide (i < k) && p i)
  | 0 => by simp [setOf]
  | k + 1 => by
    unfold setOf
    cases hk : p k with
    | true =>
      rw [if_pos rfl, Nat.testBit_or, setOf_bit p i k, Nat.testBit_two_pow]
      by_cases h : i = k
      · subst h; simp [hk]
      · have h1 : decide (k = i) = false := decide_eq_false fun e => h e.symm
        have h2 : decide (i < k + 1) = decide (i < k) := decide_eq_decide.2 (by omega)
        rw [h1, h2]; simp
    | false =>
      rw [if_neg (by simp), setOf_bit p i k]
      by_cases h : i = k
      · subst h; simp [hk]
      · have h2 : decide (i < k + 1) = decide (i < k) := decide_eq_decide.2 (by omega)
        rw [h2]
theorem card_count {c n : Nat} (hc : c < 2 ^ n) (hn : n ≤ 12) : card c = (List.range n).countP fun y => c.testBit y := by
  rw [card_eq]
  obtain ⟨d, hd⟩ : ∃ d, 12 = n + d := ⟨12 - n, by omega⟩
  rw [hd, List.range_add, List.countP_append]
  have h0 : List.countP (fun i => c.testBit i) (List.map (fun y => n + y) (List.range d)) = 0 := by
    rw [List.countP_eq_zero]
    intro y hy
    obtain ⟨z, _, rfl⟩ := List.mem_map.1 hy
    rw [Nat.testBit_lt_two_pow (Nat.lt_of_lt_of_le hc (Nat.pow_le_pow_right (by omega) (Nat.le_add_right _ _)))]; simp
  rw [h0, Nat.add_zero]
theorem bit_lt {c n x : Nat} (hc : c < 2 ^ n) (h : c.testBit x = true) : x < n := by
  refine Nat.lt_of_not_le fun hle => ?_
  rw [Nat.testBit_lt_two_pow (Nat.lt_of_lt_of_le hc (Nat.pow_le_pow_right (by omega) hle))] at h; cases h
/-- zs' is zs with other names: f gives them, g takes them back -/
structure Iso (n : Nat) (zs zs' : List Int) (f g : Nat → Nat) : Prop where
  ga : IsG n zs
  gb : IsG n zs'
  fl : ∀ x, x < n → f x < n
  gl : ∀ x, x < n → g x < n
  gf : ∀ x, x < n → g (f x) = x
  fg : ∀ x, x < n → f (g x) = x
  adj : ∀ x y, x < n → y < n → adjB zs' (f x) (f y) = adjB zs x y
section
variable {n : Nat} {zs zs' : List Int} {f g : Nat → Nat}
theorem Iso.symm (I : Iso n zs zs' f g) : Iso n zs' zs g f :=
  ⟨I.gb, I.ga, I.gl, I.fl, I.fg, I.gf, fun x y hx hy => by rw [← I.adj (g x) (g y) (I.gl x hx) (I.gl y hy), I.fg x hx, I.fg y hy]⟩
theorem Iso.inj (I : Iso n zs zs' f g) {x y : Nat} (hx : x < n) (hy : y < n) (h : f x = f y) : x = y := by rw [← I.gf x hx, h, I.gf y hy]
theorem Iso.perm (I : Iso n zs zs' f g) : ((List.range n).map f).Perm (List.range n) := by
  have hnd : ((List.range n).map f).Nodup := by
    refine List.pairwise_map.2 (List.Pairwise.imp_of_mem ?_ List.nodup_range)
    intro a b ha hb hne he
    exact hne (I.inj (List.mem_range.1 ha) (List.mem_range.1 hb) he)
  refine (List.perm_ext_iff_of_nodup hnd List.nodup_range).2 fun a => ?_
  rw [List.mem_map, List.mem_range]
  constructor
  · rintro ⟨x, hx, rfl⟩; exact I.fl x (List.mem_range.1 hx)
  · intro ha; exact ⟨g a, List.mem_range.2 (I.gl a ha), I.fg a ha⟩
theorem Iso.count (I : Iso n zs zs' f g) (p : Nat → Bool) : (List.range n).countP (fun x => p (f x)) = (List.range n).countP p := by
  have := I.perm.countP_eq p
  rw [List.countP_map] at this; exact this
theorem sumTo_list (F : Nat → Nat) : ∀ k : Nat, sumTo F k = ((List.range k).map F).sum
  | 0 => rfl
  | k + 1 => by rw [sumTo, sumTo_list F k, List.range_succ, List.map_append, List.sum_append]; simp
theorem Iso.sum (I : Iso n zs zs' f g) (F : Nat → Nat) : sumTo (fun x => F (f x)) n = sumTo F n := by
  rw [sumTo_list, sumTo_list]
  have := (I.perm.map F).sum_nat
  rw [List.map_map] at this; exact this
def mapS (n : Nat) (g : Nat → Nat) (c : Nat) : Nat := setOf (fun y => c.testBit (g y)) n
theorem mapS_lt (n : Nat) (g : Nat → Nat) (c : Nat) : mapS n g c < 2 ^ n := setOf_lt _ n
theorem mapS_bit (n : Nat) (g : Nat → Nat) (c y : Nat) : (mapS n g c).testBit y = (decide (y < n) && c.testBit (g y)) := setOf_bit _ y n
theorem Iso.bit (I : Iso n zs zs' f g) {c x : Nat} (hx : x < n) : (mapS n g c).testBit (f x) = c.testBit x := by
  rw [mapS_bit, decide_eq_true (I.fl x hx), Bool.true_and, I.gf x hx]
theorem Iso.card (I : Iso n zs zs' f g) {c : Nat} (hc : c < 2 ^ n) : card (mapS n g c) = card c := by
  rw [card_count (mapS_lt n g c) I.ga.le, card_count hc I.ga.le, ← I.count]
  refine List.countP_congr fun x hx => ?_
  rw [I.bit (List.mem_range.1 hx)]
theorem Iso.ball (I : Iso n zs zs' f g) {x y : Nat} (hx : x < n) (hy : y < n) : (bN zs' (f x)).testBit (f y) = (bN zs x).testBit y := by
  rw [bN_bit, bN_bit, I.adj x y hx hy]
  congr 1
  rw [decide_eq_decide]
  exact ⟨fun h => I.inj hx hy h, fun h => by rw [h]⟩
theorem Iso.wk (I : Iso n zs zs' f g) : ∀ {k x y : Nat}, x < n → Wk zs k x y → Wk zs' k (f x) (f y)
  | 0, x, y, _, h => by have h' : x = y := h; subst h'; rfl
  | k + 1, x, y, hx, ⟨m, hm, e⟩ => by
    have hl := adj_lt I.ga e
    exact ⟨f m, I.wk hx hm, by rw [I.adj m y hl.1 hl.2]; exact e⟩
theorem Iso.dist (I : Iso n zs zs' f g) {x y : Nat} (hx : x < n) (hy : y < n) : distV zs' (f x) (f y) = distV zs x y := by
  have back : ∀ j, Wk zs' j (f x) (f y) → Wk zs j x y := fun j hw => by
    have := I.symm.wk (I.fl x hx) hw
    rw [I.gf x hx, I.gf y hy] at this; exact this
  rcases dist_cases I.ga hx y with ⟨d, hd, h1, h2, h3⟩ | ⟨h1, h2⟩
  · rw [h1]
    exact (dist_of I.gb (I.fl x hx) (I.wk hx h2) fun j hj hw => h3 j hj (back j hw)).1
  · rw [h1]
    rcases dist_cases I.gb (I.fl x hx) (f y) with ⟨d, hd, h3, h4, _⟩ | ⟨h3, _⟩
    · exact absurd (back d h4) (h2 d)
    · exact h3
theorem difP_symm {zs : List Int} {c i k : Nat} (h : difP zs c i k) : difP zs c k i := by
  obtain ⟨x, h1, h2⟩ := h; exact ⟨x, h1, fun e => h2 e.symm⟩
/-- a code goes to a code -/
theorem Iso.is (I : Iso n zs zs' f g) {kind c : Nat} (hc : c < 2 ^ n) (h : isB zs kind c = true) : isB zs' kind (mapS n g c) = true := by
  have hl := I.ga.len
  have hl' := I.gb.len
  have h12 := I.ga.le
  rw [isB_iff] at h ⊢
  rcases h with ⟨h1, h2⟩ | ⟨h1, h2, h3⟩
  · refine .inl ⟨h1, fun i k hi hk => ?_⟩
    have hin : i < n := by omega
    have hkn : k < n := by omega
    have key : ∃ x, x < 12 ∧ c.testBit x = true ∧ distV zs x (g i) ≠ distV zs x (g k) := by
      have hne : g i ≠ g k := fun e => by have := I.symm.inj hin hkn e; omega
      have hi2 := I.gl i hin
      have hk2 := I.gl k hkn
      rcases Nat.lt_or_gt_of_ne hne with hlt | hlt
      · obtain ⟨x, a, b, d⟩ := h2 (g k) (g i) (by omega) hlt
        exact ⟨x, a, b, fun e => d e.symm⟩
      · exact h2 (g i) (g k) (by omega) hlt
    obtain ⟨x, _, hx, hd⟩ := key
    have hxn := bit_lt hc hx
    refine ⟨f x, by have := I.fl x hxn; omega, by rw [I.bit hxn]; exact hx, fun e => hd ?_⟩
    rw [← I.dist hxn (I.gl i hin), ← I.dist hxn (I.gl k hkn), I.fg i hin, I.fg k hkn]; exact e
  · refine .inr ⟨h1, fun i hi => ?_, ?_⟩
    · have hin : i < n := by omega
      obtain ⟨x, a, b⟩ := h2 (g i) (by have := I.gl i hin; omega)
      have hxn := bit_lt hc b
      refine ⟨f x, ?_, by rw [I.bit hxn]; exact b⟩
      have := I.ball (I.gl i hin) hxn
      rw [I.fg i hin] at this
      rw [this]; exact a
    · rcases h3 with h3 | h3
      · exact .inl h3
      · refine .inr fun i k hi hk ai ak => ?_
        have hin : i < n := by omega
        have hkn : k < n := by omega
        have am : ∀ y, y < n → (amongV zs' kind (mapS n g c)).testBit y = true → (amongV zs kind c).testBit (g y) = true := by
          intro y hy h
          have hgy := I.gl y hy
          unfold amongV at h ⊢
          split at h
          · rename_i hk1
            rw [if_pos hk1, testBit_bdiff, allV_bit, decide_eq_true (by omega)]
            rw [testBit_bdiff, allV_bit, mapS_bit, decide_eq_true hy] at h
            simp only [Bool.true_and, Bool.and_eq_true] at h ⊢
            exact h.2
          · rename_i hk1
            rw [if_neg hk1, allV_bit]; simpa using (by omega : g y < zs.length)
        have key : difP zs c (g i) (g k) := by
          have hne : g i ≠ g k := fun e => by have := I.symm.inj hin hkn e; omega
          have hi2 := I.gl i hin
          have hk2 := I.gl k hkn
          rcases Nat.lt_or_gt_of_ne hne with hlt | hlt
          · exact difP_symm (h3 (g k) (g i) (by omega) hlt (am k hkn ak) (am i hin ai))
          · exact h3 (g i) (g k) (by omega) hlt (am i hin ai) (am k hkn ak)
        obtain ⟨x, hx, hd⟩ := key
        have hxn := bit_lt hc hx
        refine ⟨f x, by rw [I.bit hxn]; exact hx, fun e => hd ?_⟩
        have e1 := I.ball (I.gl i hin) hxn
        have e2 := I.ball (I.gl k hkn) hxn
        rw [I.fg i hin] at e1
        rw [I.fg k hkn] at e2
        rw [← e1, ← e2]; exact e
theorem Iso.least1 (I : Iso n zs zs' f g) {kd : Int} {b : Nat} (h : CodeLeastR zs kd = some b) : ∃ b', CodeLeastR zs' kd = some b' ∧ Go.Proofs.Ytpllijjocccaaaa.card b' ≤ Go.Proofs.Ytpllijjocccaaaa.card b := by
  unfold CodeLeastR at h ⊢
  split at h
  case isFalse => cases h
  rename_i hok
  have hok' : leastOk zs' kd = true := by
    simp only [leastOk, Bool.and_eq_true] at hok ⊢
    exact ⟨graphB_isG I.gb, hok.2⟩
  rw [if_pos hok']
  rw [leastV, ← I.ga.len] at h
  rw [leastV, ← I.gb.len]
  rcases leastTo_spec (isB zs kd.toNat) (2 ^ n) with ⟨h1, _⟩ | ⟨b2, h1, h2, h3, _⟩
  · rw [h1] at h; cases h
  · rw [h1] at h
    cases h
    have hm := I.is h2 h3
    rcases leastTo_spec (isB zs' kd.toNat) (2 ^ n) with ⟨_, k2⟩ | ⟨b', k1, k2, k3, k4⟩
    · rw [k2 _ (mapS_lt n g b)] at hm; cases hm
    · exact ⟨b', k1, by have := k4 _ (mapS_lt n g b) hm; rwa [I.card h2] at this⟩
/-- least codes are as large -/
theorem Iso.least (I : Iso n zs zs' f g) (kd : Int) : (CodeLeastR zs kd = none ∧ CodeLeastR zs' kd = none) ∨ ∃ b b', CodeLeastR zs kd = some b ∧ CodeLeastR zs' kd = some b' ∧ Go.Proofs.Ytpllijjocccaaaa.card b = Go.Proofs.Ytpllijjocccaaaa.card b' := by
  rcases h : CodeLeastR zs kd with _ | b
  · refine .inl ⟨rfl, ?_⟩
    rcases h' : CodeLeastR zs' kd with _ | b'
    · rfl
    · obtain ⟨b2, h2, _⟩ := I.symm.least1 h'
      rw [h] at h2; cases h2
  · obtain ⟨b', h1, h2⟩ := I.least1 h
    obtain ⟨b2, h3, h4⟩ := I.symm.least1 h1
    rw [h] at h3
    cases h3
    exact .inr ⟨b, b', rfl, h1, by omega⟩
/-! ### Twins -/
def eqB (zs : List Int) (i k : Nat) : Bool := ballV zs i == ballV zs k
theorem eqB_comm (zs : List Int) (i k : Nat) : eqB zs i k = eqB zs k i := by
  unfold eqB; rw [Bool.eq_iff_iff]; simp only [beq_iff_eq]; exact eq_comm
theorem twRow_count {zs : List Int} {n j : Nat} (hj : j < n) : (twRow zs j (n - j - 1)).length = (List.range n).countP fun k => decide (j < k) && eqB zs j k := by
  obtain ⟨m, hm⟩ : ∃ m, n - j - 1 = m := ⟨_, rfl⟩
  obtain rfl : n = (j + 1) + m := by omega
  rw [hm, List.range_add, List.countP_append, List.countP_map]
  have h0 : List.countP (fun k => decide (j < k) && eqB zs j k) (List.range (j + 1)) = 0 := by
    rw [List.countP_eq_zero]
    intro k hk
    have := List.mem_range.1 hk
    simp; omega
  rw [h0, Nat.zero_add, twRow, List.length_map, ← List.countP_eq_length_filter]
  refine List.countP_congr fun k _ => ?_
  have h1 : decide (j < j + 1 + k) = true := decide_eq_true (by omega)
  simp only [Function.comp_apply, h1, Bool.true_and]; rfl
theorem twTo_count {zs : List Int} {n : Nat} (hn : n = zs.length) : ∀ i : Nat, i ≤ n → (twTo zs i).length = sumTo (fun j => (List.range n).countP fun k => decide (j < k) && eqB zs j k) i
  | 0, _ => by simp [twTo, sumTo]
  | i + 1, h => by rw [twTo_succ, List.length_append, twTo_count hn i (by omega), ← hn, twRow_count (by omega)]; rfl
theorem count_self {n i : Nat} (hi : i < n) : (List.range n).countP (fun k => decide (k = i)) = 1 := by
  induction n with
  | zero => omega
  | succ n ih =>
    rw [List.range_succ, List.countP_append]
    by_cases h : i = n
    · subst h
      have h0 : List.countP (fun k => decide (k = i)) (List.range i) = 0 := by
        rw [List.countP_eq_zero]
        intro k hk
        have := List.mem_range.1 hk
        simp; omega
      rw [h0]; simp
    · rw [ih (by omega)]
      have : decide (n = i) = false := decide_eq_false fun e => h e.symm
      simp [this]
theorem twins_twice {zs : List Int} {n : Nat} (hn : n = zs.length) : sumTo (fun i => (List.range n).countP fun k => eqB zs i k) n = 2 * (twV zs).length + n := by
  have e1 := twTo_count hn n (Nat.le_refl n)
  have e2 : sumTo (fun i => (List.range n).countP fun k => decide (k < i) && eqB zs i k) n = (twV zs).length := by
    rw [twV, ← hn, e1]
    refine (sum_swap (fun i k => decide (k < i) && eqB zs i k) n n).trans (sumTo_congr n fun k _ => List.countP_congr fun i _ => ?_)
    rw [eqB_comm zs i k]
  have e3 : sumTo (fun i => (List.range n).countP fun k => decide (k = i)) n = n := by
    have : ∀ k : Nat, k ≤ n → sumTo (fun i => (List.range n).countP fun k => decide (k = i)) k = k := by
      intro k
      induction k with
      | zero => intro _; rfl
      | succ k ih => intro hk; rw [sumTo, ih (by omega), count_self (by omega)]
    exact this n (Nat.le_refl n)
  have e4 : sumTo (fun i => (List.range n).countP fun k => eqB zs i k) n = sumTo (fun i => ((List.range n).countP fun k => decide (i < k) && eqB zs i k) + ((List.range n).countP fun k => decide (k < i) && eqB zs i k) + (List.range n).countP fun k => decide (k = i)) n := by
    refine sumTo_congr n fun i _ => ?_
    rw [countP_split _ (fun k => decide (i < k)), countP_split (fun k => eqB zs i k && !decide (i < k)) (fun k => decide (k < i)), Nat.add_assoc]
    congr 1
    · exact List.countP_congr fun k _ => by rw [Bool.and_comm]
    · congr 1
      · refine List.countP_congr fun k _ => ?_
        simp only [Bool.and_eq_true, Bool.not_eq_true', decide_eq_false_iff_not, decide_eq_true_eq]
        constructor
        · rintro ⟨⟨h1, _⟩, h2⟩; exact ⟨h2, h1⟩
        · rintro ⟨h1, h2⟩; exact ⟨⟨h2, by omega⟩, h1⟩
      · refine List.countP_congr fun k _ => ?_
        simp only [Bool.and_eq_true, Bool.not_eq_true', decide_eq_false_iff_not, decide_eq_true_eq]
        constructor
        · rintro ⟨⟨_, h1⟩, h2⟩; omega
        · rintro rfl; exact ⟨⟨by simp [eqB], by omega⟩, by omega⟩
  rw [e4, sumTo_add, sumTo_add, e2, e3]
  have e5 : sumTo (fun i => (List.range n).countP fun k => decide (i < k) && eqB zs i k) n = (twV zs).length := by rw [twV, ← hn, e1]
  rw [e5]; omega
theorem Iso.eqB (I : Iso n zs zs' f g) {i k : Nat} (hi : i < n) (hk : k < n) : Go.Proofs.Ytpllijjocccaaaa.eqB zs' (f i) (f k) = Go.Proofs.Ytpllijjocccaaaa.eqB zs i k := by
  have key : ∀ {zs zs' : List Int} {f g : Nat → Nat}, Iso n zs zs' f g → ∀ {i k : Nat}, i < n → k < n → bN zs i = bN zs k → bN zs' (f i) = bN zs' (f k) := by
    intro zs zs' f g I i k hi hk he
    apply Nat.eq_of_testBit_eq
    intro y
    by_cases hy : y < n
    · have e1 := I.ball hi (I.gl y hy)
      have e2 := I.ball hk (I.gl y hy)
      rw [I.fg y hy] at e1 e2
      rw [e1, e2, he]
    · have hle := Nat.pow_le_pow_right (n := 2) (by omega) (Nat.le_of_not_lt hy)
      rw [Nat.testBit_lt_two_pow (Nat.lt_of_lt_of_le (bN_lt I.gb (I.fl i hi)) hle), Nat.testBit_lt_two_pow (Nat.lt_of_lt_of_le (bN_lt I.gb (I.fl k hk)) hle)]
  have e : ∀ (zs : List Int) (i k : Nat), Go.Proofs.Ytpllijjocccaaaa.eqB zs i k = decide (bN zs i = bN zs k) := fun zs i k => by
    unfold Go.Proofs.Ytpllijjocccaaaa.eqB
    rw [Bool.eq_iff_iff, beq_iff_eq, decide_eq_true_eq]
    show ((bN zs i : Nat) : Int) = ((bN zs k : Nat) : Int) ↔ _
    omega
  rw [e, e, decide_eq_decide]
  constructor
  · intro h
    have := key I.symm (I.fl i hi) (I.fl k hk) h
    rwa [I.gf i hi, I.gf k hk] at this
  · exact key I hi hk
/-- as many twins -/
theorem Iso.twins (I : Iso n zs zs' f g) : (twV zs).length = (twV zs').length := by
  have h1 := twins_twice I.ga.len
  have h2 := twins_twice I.gb.len
  have h3 : sumTo (fun i => (List.range n).countP fun k => Go.Proofs.Ytpllijjocccaaaa.eqB zs' i k) n = sumTo (fun i => (List.range n).countP fun k => Go.Proofs.Ytpllijjocccaaaa.eqB zs i k) n := by
    rw [← I.sum (fun i => (List.range n).countP fun k => Go.Proofs.Ytpllijjocccaaaa.eqB zs' i k)]
    refine sumTo_congr n fun i hi => ?_
    rw [← I.count]
    refine List.countP_congr fun k hk => ?_
    rw [I.eqB hi (List.mem_range.1 hk)]
  omega
end
/-! ### What GraphMoved makes -/
theorem mvRow_bit {ps : List Int} {i m : Nat} (hi : pAt ps i < m) (a b : Nat) : ∀ (ks : List Nat) (o : List Int), o.length = m → (gN (mvRow ps i o ks) a).testBit b = ((gN o a).testBit b || ks.any fun k => decide (a = pAt ps i) && decide (b = pAt ps k))
  | [], o, _ => by simp [mvRow]
  | k :: ks, o, ho => by
    have ih := mvRow_bit hi a b ks (addN o (pAt ps i) (pAt ps k)) (by rw [addN_len]; exact ho)
    have e : mvRow ps i o (k :: ks) = mvRow ps i (addN o (pAt ps i) (pAt ps k)) ks := rfl
    rw [e, ih, addN_bit (by omega), List.any_cons, Bool.or_assoc]
theorem mvTo_bit {zs ps : List Int} {n : Nat} (hn : n = zs.length) (h : ∀ k, k < n → pAt ps k < n) (a b : Nat) : ∀ m : Nat, m ≤ n → (gN (mvTo zs ps m) a).testBit b = (List.range m).any fun i => (bitsOf (gN zs i)).any fun k => decide (a = pAt ps i) && decide (b = pAt ps k)
  | 0, _ => by
    have : gN (mvTo zs ps 0) a = 0 := by
      unfold gN mvTo
      simp only [List.range_zero, List.foldl_nil]
      rw [List.getElem?_replicate]; split <;> rfl
    rw [this]; simp
  | m + 1, hm => by
    have ih := mvTo_bit hn h a b m (by omega)
    rw [mvTo_succ, mvRow_bit (m := n) (h m (by omega)) a b _ _ (by rw [mvTo_len, hn]), ih, List.range_succ, List.any_append]
    simp [gN]
theorem mov_inj {n : Nat} {ps : List Int} (h : ∀ k, k < n → movAt n ps k = true) {i k : Nat} (hi : i < n) (hk : k < n) (he : pAt ps i = pAt ps k) : i = k := by
  have seen : ∀ m j, j < m → (seenTo ps m).testBit (pAt ps j) = true := by
    intro m
    induction m with
    | zero => intro j hj; omega
    | succ m ih =>
      intro j hj
      rw [seenTo_succ, Nat.testBit_or, Nat.testBit_two_pow]
      rcases Nat.lt_succ_iff_lt_or_eq.1 hj with h1 | rfl
      · rw [ih j h1]; rfl
      · simp
  have key : ∀ a b, a < b → b < n → pAt ps a = pAt ps b → False := by
    intro a b hab hb he
    have h1 := (movAt_of (h b hb)).2.2.2
    rw [← he, seen b a hab] at h1; cases h1
  rcases Nat.lt_trichotomy i k with h1 | h1 | h1
  · exact (key i k h1 hk he).elim
  · exact h1
  · exact (key k i h1 hi he.symm).elim
/-- one to one from the numbers below n to themselves: every one is met -/
theorem onto_of_inj {n : Nat} {f : Nat → Nat} (hf : ∀ x, x < n → f x < n) (hi : ∀ x y, x < n → y < n → f x = f y → x = y) {y : Nat} (hy : y < n) : ∃ x, x < n ∧ f x = y := by
  refine Classical.byContradiction fun hn => ?_
  have hnd : (y :: (List.range n).map f).Nodup := by
    refine List.nodup_cons.2 ⟨?_, ?_⟩
    · intro hm
      obtain ⟨x, hx, e⟩ := List.mem_map.1 hm
      exact hn ⟨x, List.mem_range.1 hx, e⟩
    · refine List.pairwise_map.2 (List.Pairwise.imp_of_mem ?_ List.nodup_range)
      intro a b ha hb hne he
      exact hne (hi a b (List.mem_range.1 ha) (List.mem_range.1 hb) he)
  have hsub : (y :: (List.range n).map f) ⊆ List.range n := by
    intro a ha
    rcases List.mem_cons.1 ha with rfl | ha
    · exact List.mem_range.2 hy
    · obtain ⟨x, hx, rfl⟩ := List.mem_map.1 ha
      exact List.mem_range.2 (hf x (List.mem_range.1 hx))
  have := hnd.length_le_of_subset hsub
  simp at this
  omega
theorem mov_iso {zs ps : List Int} (h : movOk zs ps = true) : ∃ f g, Iso zs.length zs (GraphMovedR zs ps) f g := by
  have hR : GraphMovedR zs ps = mvTo zs ps zs.length := by rw [GraphMovedR, if_pos h]
  simp only [movOk, Bool.and_eq_true, List.all_eq_true, List.mem_range] at h
  obtain ⟨⟨hgb, _⟩, hm⟩ := h
  have hG := isG_of hgb
  obtain ⟨n, hn⟩ : ∃ n, zs.length = n := ⟨_, rfl⟩
  rw [hn] at hG hm hR ⊢
  rw [hR]
  have hlt : ∀ k, k < n → pAt ps k < n := fun k hk => (movAt_of (hm k hk)).2.2.1
  have hinj : ∀ x y, x < n → y < n → pAt ps x = pAt ps y → x = y := fun x y hx hy he => mov_inj hm hx hy he
  have hex : ∀ y, ∃ x, y < n → x < n ∧ pAt ps x = y := fun y => by
    by_cases hy : y < n
    · obtain ⟨x, h1, h2⟩ := onto_of_inj hlt hinj hy
      exact ⟨x, fun _ => ⟨h1, h2⟩⟩
    · exact ⟨0, fun h => absurd h hy⟩
  obtain ⟨g, hg⟩ := Classical.axiomOfChoice hex
  have hbit : ∀ a b, adjB (mvTo zs ps n) a b = true ↔ ∃ i k, i < n ∧ k < n ∧ adjB zs i k = true ∧ a = pAt ps i ∧ b = pAt ps k := by
    intro a b
    rw [← gN_bit, mvTo_bit hn.symm hlt a b n (Nat.le_refl n)]
    simp only [List.any_eq_true, List.mem_range, mem_bitsOf, Bool.and_eq_true, decide_eq_true_eq]
    constructor
    · rintro ⟨i, hi, k, ⟨_, hk⟩, h1, h2⟩
      exact ⟨i, k, hi, (adj_lt hG hk).2, hk, h1, h2⟩
    · rintro ⟨i, k, hi, hk, ha, h1, h2⟩
      exact ⟨i, hi, k, ⟨by have := hG.le; omega, ha⟩, h1, h2⟩
  have hadj : ∀ x y, x < n → y < n → adjB (mvTo zs ps n) (pAt ps x) (pAt ps y) = adjB zs x y := by
    intro x y hx hy
    rw [Bool.eq_iff_iff, hbit]
    constructor
    · rintro ⟨i, k, hi, hk, ha, h1, h2⟩
      rw [hinj x i hx hi h1, hinj y k hy hk h2]; exact ha
    · intro ha; exact ⟨x, y, hx, hy, ha, rfl, rfl⟩
  have hbd : Bd12 (mvTo zs ps n) := by
    have : ∀ m, m ≤ n → Bd12 (mvTo zs ps m) := by
      intro m
      induction m with
      | zero => intro _; exact Bd12_zero _
      | succ m ih =>
        intro hm2
        rw [mvTo_succ]
        refine mvRow_bd (ih (by omega)) fun k hk => ?_
        have hk2 : adjB zs m k = true := (mem_bitsOf.1 hk).2
        have := hlt k (adj_lt hG hk2).2
        have := hG.le
        omega
    exact this n (Nat.le_refl n)
  have hH : IsG n (mvTo zs ps n) := by
    refine ⟨by rw [mvTo_len, hn], hG.pos, hG.le, fun i hi => ?_, fun i hi => ?_, fun i k hi hk => ?_⟩
    · have h1 := hbd i
      have h2 : gN (mvTo zs ps n) i < 2 ^ n := by
        refine Nat.lt_pow_two_of_testBit _ fun b hb => ?_
        cases hbb : (gN (mvTo zs ps n) i).testBit b with
        | false => rfl
        | true =>
          obtain ⟨x, y, hx, hy, _, _, h3⟩ := (hbit i b).1 hbb
          have := hlt y hy; omega
      have e := pow_int n
      unfold gN at h2
      omega
    · cases hb : adjB (mvTo zs ps n) i i with
      | false => exact hb
      | true =>
        obtain ⟨x, y, hx, hy, ha, h1, h2⟩ := (hbit i i).1 hb
        have := hinj x y hx hy (by rw [← h1, ← h2])
        subst this
        rw [adj_irr hG] at ha; cases ha
    · show adjB (mvTo zs ps n) i k = adjB (mvTo zs ps n) k i
      rw [Bool.eq_iff_iff, hbit, hbit]
      constructor
      · rintro ⟨x, y, hx, hy, ha, h1, h2⟩; exact ⟨y, x, hy, hx, adj_symm hG _ _ ha, h2, h1⟩
      · rintro ⟨x, y, hx, hy, ha, h1, h2⟩; exact ⟨y, x, hy, hx, adj_symm hG _ _ ha, h2, h1⟩
  refine ⟨pAt ps, g, hG, hH, hlt, fun x hx => (hg x hx).1, fun x hx => ?_, fun x hx => (hg x hx).2, hadj⟩
  exact hinj _ _ (hg _ (hlt x hx)).1 hx (hg _ (hlt x hx)).2
end Go.Proofs.Ytpllijjocccaaaa
