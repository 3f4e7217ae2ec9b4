/- Laws of graphs: balls, twins, distances of neighbours, graphs from edges. Plain mathematics. -/
import Derived.Test.YtpllijjocccaaaaCodeL3
import Derived.Test.YtpllijjocccaaaaGraphOf
import Derived.Test.YtpllijjocccaaaaDistG
namespace Go.Proofs.Ytpllijjocccaaaa

theorem graphB_isG {zs : List Int} {n : Nat} (h : IsG n zs) : graphB zs = true := by
  have hl := h.len
  refine graphB_yes (by rw [← hl]; exact h.pos) (by rw [← hl]; exact h.le) (fun i hi => ?_) (fun i hi => ?_)
  · have h1 := h.ok i (by omega)
    exact okAt_yes hl ⟨h1.1, h1.2.2⟩ (h.irr i (by omega))
  · rw [symAt, List.all_eq_true]
    intro k hk
    have hk2 := mem_bitsOf.1 hk
    rw [List.getD_eq_getElem?_getD] at hk2
    have hkn : k < n := (adj_lt h (i := i) (k := k) hk2.2).2
    rw [List.getD_eq_getElem?_getD, ← h.sym i k (by omega) hkn]; exact hk2.2
/-- what node i is a neighbour of, as a number -/
def gN (zs : List Int) (i : Nat) : Nat := (zs[i]?.getD 0).toNat
theorem gN_bit (zs : List Int) (i k : Nat) : (gN zs i).testBit k = adjB zs i k := rfl
section
variable {zs : List Int} {n : Nat}
theorem gN_lt (hG : IsG n zs) {i : Nat} (hi : i < n) : gN zs i < 2 ^ n ∧ gN zs i < 4096 ∧ zs[i]?.getD 0 = (gN zs i : Int) := by
  have h := hG.ok i hi
  have e := pow_int n
  unfold gN
  omega
theorem adj_comm (hG : IsG n zs) (i k : Nat) : adjB zs i k = adjB zs k i := by
  cases h : adjB zs i k with
  | true => exact (adj_symm hG _ _ h).symm
  | false => cases h2 : adjB zs k i with
    | false => rfl
    | true => rw [adj_symm hG _ _ h2] at h; cases h
theorem ball_diff (hG : IsG n zs) (i : Nat) : bdiff (bN zs i) (2 ^ i) = gN zs i := by
  apply Nat.eq_of_testBit_eq
  intro k
  rw [testBit_bdiff, bN_bit, Nat.testBit_two_pow, gN_bit]
  by_cases h : i = k
  · subst h; simp [adj_irr hG]
  · simp [h]
theorem card_pow : ∀ i : Nat, i < 12 → card (2 ^ i) = 1 := by decide +kernel
theorem ball_card (hG : IsG n zs) {i : Nat} (hi : i < n) : card (bN zs i) = card (gN zs i) + 1 := by
  have h12 := hG.le
  show card ((zs[i]?.getD 0).toNat ||| 2 ^ i) = _
  rw [card_or, card_pow i (by omega)]; rfl
  rintro x ⟨h1, h2⟩
  rw [Nat.testBit_two_pow, decide_eq_true_eq] at h2
  subst h2
  have := adj_irr hG (i := i)
  unfold adjB at this
  rw [this] at h1; cases h1
/-- twins are neighbours -/
theorem twin_mem (_hG : IsG zs.length zs) {r : List Int} (h : r ∈ twV zs) : ∃ a b : Nat, r = [(a : Int), (b : Int)] ∧ a < b ∧ b < zs.length ∧ bN zs a = bN zs b ∧ adjB zs a b = true := by
  simp only [twV, twTo, List.mem_flatMap, List.mem_range, twRow, List.mem_map, List.mem_filter, beq_iff_eq] at h
  obtain ⟨j, hj, k, ⟨hk, he⟩, rfl⟩ := h
  have he' : bN zs j = bN zs (j + 1 + k) := by
    have : ((bN zs j : Nat) : Int) = ((bN zs (j + 1 + k) : Nat) : Int) := he
    omega
  refine ⟨j, j + 1 + k, rfl, by omega, by omega, he', ?_⟩
  have h1 := bN_self zs (j + 1 + k)
  rw [← he', bN_bit] at h1
  simp only [Bool.or_eq_true, decide_eq_true_eq] at h1
  rcases h1 with h1 | h1
  · exact h1
  · omega
theorem dist_le12 (hG : IsG n zs) {src : Nat} (hs : src < n) (k : Nat) : 0 ≤ distV zs src k ∧ distV zs src k ≤ 12 := by
  have h12 := hG.le
  rcases dist_cases hG hs k with ⟨d, hd, h1, _⟩ | ⟨h1, _⟩ <;> omega
/-- neighbours' distances differ by at most 1 -/
theorem dist_tri (hG : IsG n zs) {src i k : Nat} (hs : src < n) (h : adjB zs i k = true) : distV zs src k ≤ distV zs src i + 1 := by
  have hk := dist_le12 hG hs k
  rcases dist_cases hG hs i with ⟨d, hd, h1, h2, _⟩ | ⟨h1, _⟩
  · rcases dist_cases hG hs k with ⟨e, he, h3, _, h5⟩ | ⟨_, h4⟩
    · have : ¬ d + 1 < e := fun hlt => h5 (d + 1) hlt ⟨i, h2, h⟩
      omega
    · exact absurd ⟨i, h2, h⟩ (h4 (d + 1))
  · omega
/-- a node farther off has a neighbour nearer by -/
theorem dist_low (hG : IsG n zs) {src x : Nat} (hs : src < n) (hx : x ≠ src) (h : distV zs src x ≠ 12) : ∃ y, y < n ∧ adjB zs x y = true ∧ distV zs src y + 1 = distV zs src x := by
  rcases dist_cases hG hs x with ⟨d, hd, h1, h2, h3⟩ | ⟨h1, _⟩
  · cases d with
    | zero => exact absurd h2.symm hx
    | succ d =>
      obtain ⟨m, hm, e⟩ := h2
      have hmn := (adj_lt hG e).1
      refine ⟨m, hmn, adj_symm hG _ _ e, ?_⟩
      have hd2 := dist_of hG hs hm fun j hj hw => h3 (j + 1) (by omega) ⟨m, hw, e⟩
      omega
  · exact absurd h1 h
end

/-! ### Graphs from edges -/
theorem addN_bit {zs : List Int} {a k : Nat} (ha : a < zs.length) (i j : Nat) : (gN (addN zs a k) i).testBit j = ((gN zs i).testBit j || (decide (i = a) && decide (j = k))) := by
  unfold gN addN
  rw [List.getElem?_set]
  by_cases e : a = i
  · subst e
    rw [if_pos rfl, if_pos ha]
    simp only [Option.getD_some, orB, Int.toNat_natCast, Nat.testBit_or, Nat.testBit_two_pow, decide_true, Bool.true_and]
    congr 1
    rw [decide_eq_decide]; exact eq_comm
  · rw [if_neg e]
    have : decide (i = a) = false := decide_eq_false fun h => e h.symm
    rw [this]; simp
/-- a row is the edge i k -/
def edgeB (i j : Nat) (r : List Int) : Bool := (decide (r[0]?.getD 0 = (i : Int)) && decide (r[1]?.getD 0 = (j : Int))) || (decide (r[0]?.getD 0 = (j : Int)) && decide (r[1]?.getD 0 = (i : Int)))
theorem putE_bit {zs r : List Int} {n : Nat} (hn : n = zs.length) (hr : okE n r = true) (i j : Nat) : (gN (putE zs r) i).testBit j = ((gN zs i).testBit j || edgeB i j r) := by
  obtain ⟨_, h0, h1, _⟩ := okE_two hr
  unfold putE joinV
  obtain ⟨x, hx⟩ : ∃ x : Nat, r[0]?.getD 0 = (x : Int) := ⟨(r[0]?.getD 0).toNat, by omega⟩
  obtain ⟨y, hy⟩ : ∃ y : Nat, r[1]?.getD 0 = (y : Int) := ⟨(r[1]?.getD 0).toNat, by omega⟩
  rw [hx] at h0
  rw [hy] at h1
  rw [edgeB, hx, hy]
  rw [Int.toNat_natCast, Int.toNat_natCast, addN_bit (by rw [addN_len]; omega), addN_bit (by omega), Bool.or_assoc]
  congr 1
  have e1 : decide (i = x) = decide ((x : Int) = (i : Int)) := decide_eq_decide.2 (by omega)
  have e2 : decide (j = y) = decide ((y : Int) = (j : Int)) := decide_eq_decide.2 (by omega)
  have e3 : decide (i = y) = decide ((y : Int) = (i : Int)) := decide_eq_decide.2 (by omega)
  have e4 : decide (j = x) = decide ((x : Int) = (j : Int)) := decide_eq_decide.2 (by omega)
  rw [e1, e2, e3, e4]
  congr 1
  exact Bool.and_comm _ _
theorem putAll_bit {n : Nat} {es : List (List Int)} (h : ∀ r ∈ es, okE n r = true) (i j : Nat) : (gN (putAll n es) i).testBit j = es.any (edgeB i j) := by
  have key : ∀ (es : List (List Int)) (zs : List Int), n = zs.length → (∀ r ∈ es, okE n r = true) → (gN (es.foldl putE zs) i).testBit j = ((gN zs i).testBit j || es.any (edgeB i j)) := by
    intro es
    induction es with
    | nil => intro zs _ _; simp
    | cons r rs ih =>
      intro zs hz hr
      rw [List.foldl_cons, ih (putE zs r) (by rw [putE, joinV_len]; exact hz) (fun x hx => hr x (by simp [hx])), putE_bit hz (hr r (by simp)), List.any_cons, Bool.or_assoc]
  unfold putAll
  rw [key es (List.replicate n 0) (by simp) h]
  have : gN (List.replicate n 0) i = 0 := by
    unfold gN
    rw [List.getElem?_replicate]; split <;> rfl
  rw [this]; simp
theorem putAll_bd12 {n : Nat} {es : List (List Int)} (hn : n ≤ 12) (h : ∀ r ∈ es, okE n r = true) : Bd12 (putAll n es) := by
  have key : ∀ (es : List (List Int)) (zs : List Int), Bd12 zs → (∀ r ∈ es, okE n r = true) → Bd12 (es.foldl putE zs) := by
    intro es
    induction es with
    | nil => intro zs hb _; exact hb
    | cons r rs ih =>
      intro zs hb hr
      obtain ⟨_, h0, h1, _⟩ := okE_two (hr r (by simp))
      exact ih _ (joinV_bd hb (by omega) (by omega)) (fun x hx => hr x (by simp [hx]))
  exact key es _ (Bd12_zero n) h
/-- two lists of sets with the same bits are one -/
theorem list_ext {xs ys : List Int} (hl : xs.length = ys.length) (hx : ∀ i, i < xs.length → 0 ≤ xs[i]?.getD 0) (hy : ∀ i, i < ys.length → 0 ≤ ys[i]?.getD 0) (h : ∀ i j, i < xs.length → (gN xs i).testBit j = (gN ys i).testBit j) : xs = ys := by
  apply List.ext_getElem hl
  intro i h1 h2
  have e : gN xs i = gN ys i := Nat.eq_of_testBit_eq fun j => h i j h1
  have a := hx i h1
  have b := hy i h2
  unfold gN at e
  rw [List.getElem?_eq_getElem h1] at e a
  rw [List.getElem?_eq_getElem h2] at e b
  simp only [Option.getD_some] at e a b
  omega
/-- the edges of a graph, of the first i nodes; those of node i to the first k -/
def edRow (zs : List Int) (i k : Nat) : List (List Int) := ((List.range k).filter (adjB zs i)).map fun (j : Nat) => [(i : Int), (j : Int)]
def edTo (zs : List Int) (i : Nat) : List (List Int) := (List.range i).flatMap fun j => edRow zs j j
theorem edRow_yes {zs : List Int} {i k : Nat} (h : adjB zs i k = true) : edRow zs i (k + 1) = edRow zs i k ++ [[(i : Int), (k : Int)]] := by simp [edRow, List.range_succ, h]
theorem edRow_no {zs : List Int} {i k : Nat} (h : adjB zs i k = false) : edRow zs i (k + 1) = edRow zs i k := by simp [edRow, List.range_succ, h]
theorem edTo_succ (zs : List Int) (i : Nat) : edTo zs (i + 1) = edTo zs i ++ edRow zs i i := by simp [edTo, List.range_succ]
theorem edRow_len (zs : List Int) (i k : Nat) : (edRow zs i k).length ≤ k := by
  have := List.length_filter_le (adjB zs i) (List.range k)
  simpa [edRow] using this
theorem edTo_len (zs : List Int) : ∀ i : Nat, i ≤ 12 → (edTo zs i).length ≤ i * 12
  | 0, _ => by simp [edTo]
  | i + 1, h => by
    rw [edTo_succ, List.length_append]
    have h1 := edTo_len zs i (by omega)
    have h2 := edRow_len zs i i
    omega
theorem ed_mem {zs : List Int} {i : Nat} {r : List Int} : r ∈ edTo zs i ↔ ∃ a b : Nat, a < i ∧ b < a ∧ adjB zs a b = true ∧ r = [(a : Int), (b : Int)] := by
  simp only [edTo, List.mem_flatMap, List.mem_range, edRow, List.mem_map, List.mem_filter]
  constructor
  · rintro ⟨a, ha, b, ⟨hb, he⟩, rfl⟩; exact ⟨a, b, ha, hb, he, rfl⟩
  · rintro ⟨a, b, ha, hb, he, rfl⟩; exact ⟨a, ha, b, ⟨hb, he⟩, rfl⟩
theorem ed_ok {zs : List Int} {n : Nat} {r : List Int} (h : r ∈ edTo zs n) : okE n r = true := by
  obtain ⟨a, b, ha, hb, _, rfl⟩ := ed_mem.1 h
  simp [okE]; omega
/-- a graph is made of its edges -/
theorem ed_put {zs : List Int} {n : Nat} (hG : IsG n zs) : ofOk n (edTo zs n) = true ∧ putAll n (edTo zs n) = zs := by
  have hok : ∀ r ∈ edTo zs n, okE n r = true := fun r hr => ed_ok hr
  have h12 := hG.le
  have h1 := hG.pos
  refine ⟨?_, ?_⟩
  · simp only [ofOk, Bool.and_eq_true, decide_eq_true_eq, List.all_eq_true]
    exact ⟨⟨by omega, by omega⟩, hok⟩
  · have hb := putAll_bd12 h12 hok
    refine list_ext (by rw [putAll_len, ← hG.len]) (fun i _ => (hb i).1) (fun i hi => (hG.ok i (by rw [hG.len]; exact hi)).1) fun i j hi => ?_
    rw [putAll_len] at hi
    rw [putAll_bit hok, gN_bit, Bool.eq_iff_iff, List.any_eq_true]
    constructor
    · rintro ⟨r, hr, he⟩
      obtain ⟨a, b, ha, hb2, hadj, rfl⟩ := ed_mem.1 hr
      simp only [edgeB, List.getElem?_cons_zero, List.getElem?_cons_succ, Option.getD_some, Bool.or_eq_true, Bool.and_eq_true, decide_eq_true_eq] at he
      rcases he with ⟨e1, e2⟩ | ⟨e1, e2⟩
      · have e1' : a = i := by omega
        have e2' : b = j := by omega
        subst e1' e2'; exact hadj
      · have e1' : a = j := by omega
        have e2' : b = i := by omega
        subst e1' e2'; exact adj_symm hG _ _ hadj
    · intro hadj
      have hj := (adj_lt hG hadj).2
      have hne : i ≠ j := by
        rintro rfl
        rw [adj_irr hG] at hadj; cases hadj
      rcases Nat.lt_or_gt_of_ne hne with hlt | hlt
      · exact ⟨_, ed_mem.2 ⟨j, i, hj, hlt, adj_symm hG _ _ hadj, rfl⟩, by simp [edgeB]⟩
      · exact ⟨_, ed_mem.2 ⟨i, j, hi, hlt, hadj, rfl⟩, by simp [edgeB]⟩

/-! ### The other graph -/
theorem other_gN {zs : List Int} {n : Nat} (hG : IsG n zs) {i : Nat} (hi : i < n) : gN (othersV zs) i = bdiff (2 ^ n - 1) (bN zs i) ∧ (othersV zs)[i]?.getD 0 = ((bdiff (2 ^ n - 1) (bN zs i) : Nat) : Int) := by
  have h : (othersV zs)[i]?.getD 0 = otherV zs i := getD_int _ (by rw [← hG.len]; exact hi)
  have e : otherV zs i = ((bdiff (2 ^ n - 1) (bN zs i) : Nat) : Int) := by rw [otherV, hG.len]; rfl
  unfold gN
  rw [h, e]; exact ⟨rfl, rfl⟩
theorem other_bit {zs : List Int} {n : Nat} (hG : IsG n zs) {i : Nat} (hi : i < n) (j : Nat) : adjB (othersV zs) i j = (decide (j < n) && !(adjB zs i j) && !decide (i = j)) := by
  rw [← gN_bit, (other_gN hG hi).1, testBit_bdiff, Nat.testBit_two_pow_sub_one, bN_bit, Bool.not_or, Bool.and_assoc]
theorem other_isG {zs : List Int} {n : Nat} (hG : IsG n zs) : IsG n (othersV zs) := by
  have hp := Nat.two_pow_pos n
  have hp2 := pow12 hG.le
  have e := pow_int n
  refine ⟨by rw [othersV_len]; exact hG.len, hG.pos, hG.le, fun i hi => ?_, fun i hi => ?_, fun i k hi hk => ?_⟩
  · have h := (other_gN hG hi).2
    have hlt : bdiff (2 ^ n - 1) (bN zs i) < 2 ^ n := bdiff_lt (by omega)
    rw [h]; omega
  · have := other_bit hG hi i
    unfold adjB at this
    rw [this]; simp
  · have h1 := other_bit hG hi k
    have h2 := other_bit hG hk i
    unfold adjB at h1 h2
    rw [h1, h2]
    have h3 := adj_comm hG i k
    unfold adjB at h3
    rw [h3]
    have h4 : decide (i = k) = decide (k = i) := decide_eq_decide.2 eq_comm
    rw [h4]; simp [hi, hk]
theorem other_other {zs : List Int} {n : Nat} (hG : IsG n zs) : othersV (othersV zs) = zs := by
  have hO := other_isG hG
  have hOO := other_isG hO
  refine list_ext (by rw [othersV_len, othersV_len]) (fun i hi => (hOO.ok i (by rw [hOO.len]; exact hi)).1) (fun i hi => (hG.ok i (by rw [hG.len]; exact hi)).1) fun i j hi => ?_
  have hi' : i < n := by rw [hOO.len]; exact hi
  rw [gN_bit, gN_bit, other_bit hO hi', other_bit hG hi']
  by_cases hj : j < n
  · by_cases hij : i = j
    · subst hij; simp [adj_irr hG]
    · simp [hj, hij]
  · have : adjB zs i j = false := by
      cases h : adjB zs i j with
      | false => rfl
      | true => exact absurd (adj_lt hG h).2 hj
    rw [this]; simp [hj]
theorem connB_iff {zs : List Int} {n : Nat} (hG : IsG n zs) : connB zs = true ↔ ∀ x, x < n → distV zs 0 x ≠ 12 := by
  rw [connB, graphB_isG hG, Bool.true_and, List.all_eq_true, ← hG.len]
  simp only [List.mem_range, decide_eq_true_eq]
/-- a graph or its other one is connected -/
theorem other_conn {zs : List Int} {n : Nat} (hG : IsG n zs) (h : connB zs = false) : connB (othersV zs) = true := by
  have hO := other_isG hG
  have h0 : 0 < n := hG.pos
  obtain ⟨x, hx, hd⟩ : ∃ x, x < n ∧ distV zs 0 x = 12 := by
    refine Classical.byContradiction fun hn => ?_
    have : connB zs = true := (connB_iff hG).2 fun x hx hd => hn ⟨x, hx, hd⟩
    rw [this] at h; cases h
  have hnw : ∀ j, ¬ Wk zs j 0 x := by
    rcases dist_cases hG h0 x with ⟨d, hd2, h1, _⟩ | ⟨_, h2⟩
    · have := hG.le; omega
    · exact h2
  rw [connB_iff hO]
  intro y hy hd2
  have hny : ∀ j, ¬ Wk (othersV zs) j 0 y := by
    rcases dist_cases hO h0 y with ⟨d, hd3, h1, _⟩ | ⟨_, h2⟩
    · have := hG.le; omega
    · exact h2
  have hx0 : 0 ≠ x := fun e => hnw 0 e
  have hy0 : 0 ≠ y := fun e => hny 0 e
  by_cases hwy : ∃ j, Wk zs j 0 y
  · obtain ⟨j, hw⟩ := hwy
    have b1 : adjB zs 0 x = false := by
      cases hb : adjB zs 0 x with
      | false => rfl
      | true => exact absurd (Wk.one hb) (hnw 1)
    have b2 : adjB zs x y = false := by
      cases hb : adjB zs x y with
      | false => rfl
      | true => exact absurd ⟨y, hw, adj_symm hG _ _ hb⟩ (hnw (j + 1))
    have hxy : x ≠ y := fun e => hnw j (e ▸ hw)
    have a1 : adjB (othersV zs) 0 x = true := by rw [other_bit hG h0, b1]; simp [hx, hx0]
    have a2 : adjB (othersV zs) x y = true := by rw [other_bit hG hx, b2]; simp [hy, hxy]
    exact hny 2 ⟨x, Wk.one a1, a2⟩
  · have a1 : adjB zs 0 y = false := by
      cases hb : adjB zs 0 y with
      | false => rfl
      | true => exact absurd ⟨1, Wk.one hb⟩ hwy
    refine hny 1 (Wk.one ?_)
    rw [other_bit hG h0, a1]; simp [hy, hy0]
end Go.Proofs.Ytpllijjocccaaaa
