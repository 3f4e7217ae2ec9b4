/- Distances in graphs by levels: plain mathematics. -/
import Derived.Test.YtpllijjocccaaaaOther
namespace Go.Proofs.Ytpllijjocccaaaa

/-- the union of the neighbours of a list of nodes -/
def nbrP (zs : List Int) (l : List Nat) : Nat := l.foldl (fun acc x => acc ||| (zs[x]?.getD 0).toNat) 0
theorem nbrP_snoc (zs : List Int) (l : List Nat) (x : Nat) : nbrP zs (l ++ [x]) = nbrP zs l ||| (zs[x]?.getD 0).toNat := by simp [nbrP]
theorem foldl_or_bit (f : Nat → Nat) (l : List Nat) (i : Nat) : ∀ acc : Nat, (l.foldl (fun acc x => acc ||| f x) acc).testBit i = (acc.testBit i || l.any fun x => (f x).testBit i) := by
  induction l with
  | nil => simp
  | cons a l ih => intro acc; rw [List.foldl_cons, ih, Nat.testBit_or, List.any_cons, Bool.or_assoc]
theorem nbrP_bit (zs : List Int) (l : List Nat) (i : Nat) : (nbrP zs l).testBit i = l.any fun x => (zs[x]?.getD 0).toNat.testBit i := by
  rw [nbrP, foldl_or_bit (fun x => (zs[x]?.getD 0).toNat)]; simp
theorem foldl_or_lt (f : Nat → Nat) (n : Nat) (l : List Nat) (h : ∀ x ∈ l, f x < 2 ^ n) : ∀ acc : Nat, acc < 2 ^ n → l.foldl (fun acc x => acc ||| f x) acc < 2 ^ n := by
  induction l with
  | nil => intro acc h; exact h
  | cons a l ih => intro acc ha; exact ih (fun x hx => h x (by simp [hx])) _ (Nat.or_lt_two_pow ha (h a (by simp)))
/-- level k: (the nodes of the levels before, the nodes of level k) -/
def lev (zs : List Int) (src : Nat) : Nat → Nat × Nat
  | 0 => (0, 2 ^ src)
  | k + 1 => ((lev zs src k).1 ||| (lev zs src k).2, bdiff (nbrP zs (bitsOf (lev zs src k).2)) ((lev zs src k).1 ||| (lev zs src k).2))
def levS (zs : List Int) (src k : Nat) : Nat := (lev zs src k).1
def levE (zs : List Int) (src k : Nat) : Nat := (lev zs src k).2
section
variable {zs : List Int} {n src : Nat}
theorem levS_succ (zs : List Int) (src k : Nat) : levS zs src (k + 1) = levS zs src k ||| levE zs src k := rfl
theorem levE_succ (zs : List Int) (src k : Nat) : levE zs src (k + 1) = bdiff (nbrP zs (bitsOf (levE zs src k))) (levS zs src (k + 1)) := rfl
theorem nbr_lt (hG : IsG n zs) {l : List Nat} (hl : ∀ x ∈ l, x < n) : nbrP zs l < 2 ^ n := by
  refine foldl_or_lt (fun x => (zs[x]?.getD 0).toNat) n l (fun x hx => ?_) 0 (Nat.two_pow_pos n)
  have h := hG.ok x (hl x hx)
  have e := pow_int n
  show (zs[x]?.getD 0).toNat < 2 ^ n
  omega
theorem lev_lt (hG : IsG n zs) (hs : src < n) : ∀ k, levS zs src k < 2 ^ n ∧ levE zs src k < 2 ^ n
  | 0 => ⟨Nat.two_pow_pos n, Nat.pow_lt_pow_right (by omega) hs⟩
  | k + 1 => by
    have ih := lev_lt hG hs k
    have h1 : levS zs src (k + 1) < 2 ^ n := Nat.or_lt_two_pow ih.1 ih.2
    refine ⟨h1, bdiff_lt (nbr_lt hG fun x hx => lt_of_mem_bitsOf ih.2 hx)⟩
theorem lev_lt12 (hG : IsG n zs) (hs : src < n) (k : Nat) : levS zs src k < 4096 ∧ levE zs src k < 4096 := by
  have h := lev_lt hG hs k
  have := pow12 hG.le
  omega
theorem levS_bit (zs : List Int) (src x : Nat) : ∀ k, (levS zs src k).testBit x = true ↔ ∃ j, j < k ∧ (levE zs src j).testBit x = true
  | 0 => by simp [levS, lev]
  | k + 1 => by
    rw [levS_succ, Nat.testBit_or, Bool.or_eq_true, levS_bit zs src x k]
    constructor
    · rintro (⟨j, hj, h⟩ | h)
      · exact ⟨j, by omega, h⟩
      · exact ⟨k, by omega, h⟩
    · rintro ⟨j, hj, h⟩
      rcases Nat.lt_succ_iff_lt_or_eq.1 hj with h1 | rfl
      · exact .inl ⟨j, h1, h⟩
      · exact .inr h
theorem lev_disj {zs : List Int} {src k x : Nat} (h : (levE zs src k).testBit x = true) : (levS zs src k).testBit x = false := by
  cases k with
  | zero => simp [levS, lev]
  | succ k =>
    rw [levE_succ, testBit_bdiff] at h
    cases hb : (levS zs src (k + 1)).testBit x with
    | false => rfl
    | true => rw [hb] at h; simp at h
theorem lev_uniq {zs : List Int} {src j k x : Nat} (h1 : (levE zs src j).testBit x = true) (h2 : (levE zs src k).testBit x = true) : j = k := by
  rcases Nat.lt_trichotomy j k with h | h | h
  · have := lev_disj h2; rw [(levS_bit zs src x k).2 ⟨j, h, h1⟩] at this; cases this
  · exact h
  · have := lev_disj h1; rw [(levS_bit zs src x j).2 ⟨k, h, h2⟩] at this; cases this
theorem bitsOf_zero : bitsOf 0 = [] := by simp [bitsOf]
theorem levE_zero_succ {zs : List Int} {src k : Nat} (h : levE zs src k = 0) : levE zs src (k + 1) = 0 := by
  rw [levE_succ, h, bitsOf_zero]
  apply Nat.eq_of_testBit_eq
  intro i
  rw [testBit_bdiff]; simp [nbrP]
theorem levE_zero_ge {zs : List Int} {src k : Nat} (h : levE zs src k = 0) : ∀ m, k ≤ m → levE zs src m = 0 := by
  intro m hm
  obtain ⟨d, rfl⟩ := Nat.le.dest hm
  induction d with
  | zero => exact h
  | succ d ih => exact levE_zero_succ (ih (by omega))
/-- how many nodes -/
def card (s : Nat) : Nat := (bitsOf s).length
theorem countP_or {p q : Nat → Bool} (l : List Nat) (h : ∀ x ∈ l, ¬ (p x = true ∧ q x = true)) : l.countP (fun x => p x || q x) = l.countP p + l.countP q := by
  induction l with
  | nil => rfl
  | cons a l ih =>
    have h1 := h a (by simp)
    have h2 := ih fun x hx => h x (by simp [hx])
    rw [List.countP_cons, List.countP_cons, List.countP_cons, h2]
    cases hp : p a <;> cases hq : q a <;> simp_all <;> omega
theorem card_eq (s : Nat) : card s = (List.range 12).countP fun i => s.testBit i := by unfold card bitsOf; exact List.countP_eq_length_filter.symm
theorem card_or {s t : Nat} (h : ∀ x, ¬ (s.testBit x = true ∧ t.testBit x = true)) : card (s ||| t) = card s + card t := by
  rw [card_eq, card_eq, card_eq, ← countP_or _ fun x _ => h x]
  refine List.countP_congr fun x _ => ?_
  rw [Nat.testBit_or]
theorem card_zero : card 0 = 0 := by simp [card, bitsOf_zero]
theorem card_pos {s : Nat} (hs : s < 4096) (h : s ≠ 0) : 1 ≤ card s := by
  refine Nat.pos_of_ne_zero fun h0 => h ?_
  have : bitsOf s = [] := List.eq_nil_of_length_eq_zero h0
  apply Nat.eq_of_testBit_eq
  intro i
  rw [Nat.zero_testBit]
  cases hb : s.testBit i with
  | false => rfl
  | true =>
    have hi : i < 12 := by
      refine Nat.lt_of_not_le fun hle => ?_
      rw [Nat.testBit_lt_two_pow (Nat.lt_of_lt_of_le hs (Nat.pow_le_pow_right (n := 2) (by omega) hle))] at hb; cases hb
    have hm : i ∈ bitsOf s := mem_bitsOf.2 ⟨hi, hb⟩
    rw [this] at hm; cases hm
theorem card_le {s n : Nat} (hs : s < 2 ^ n) (hn : n ≤ 12) : card s ≤ n := by
  unfold card
  rw [← bitsTo_all hn (Nat.div_eq_of_lt hs)]
  exact bitsTo_len s n
theorem card_levS (hG : IsG n zs) (hs : src < n) : ∀ k, (∀ j, j < k → levE zs src j ≠ 0) → k ≤ card (levS zs src k)
  | 0, _ => Nat.zero_le _
  | k + 1, h => by
    have ih := card_levS hG hs k fun j hj => h j (by omega)
    have h1 := card_pos (lev_lt12 hG hs k).2 (h k (by omega))
    rw [levS_succ, card_or fun x hx => by have := lev_disj hx.2; rw [hx.1] at this; cases this]
    omega
theorem levE_ne (hG : IsG n zs) (hs : src < n) {k : Nat} (h : levE zs src k ≠ 0) : k < n := by
  have h1 := card_levS hG hs (k + 1) fun j hj h0 => h (levE_zero_ge h0 k (by omega))
  have h2 := card_le (lev_lt hG hs (k + 1)).1 hG.le
  omega
theorem levE_out (hG : IsG n zs) (hs : src < n) {k : Nat} (h : n ≤ k) : levE zs src k = 0 := by
  refine Classical.byContradiction fun h0 => ?_
  have := levE_ne hG hs h0; omega
/-- what is known of the distance of x when the levels below k are known -/
def dAt (zs : List Int) (src k x : Nat) : Int := match (List.range k).find? (fun j => (levE zs src j).testBit x) with
  | some j => (j : Int)
  | none => 12
theorem dAt_in {zs : List Int} {src k x j : Nat} (hj : j < k) (h : (levE zs src j).testBit x = true) : dAt zs src k x = j := by
  unfold dAt
  cases hf : (List.range k).find? (fun j => (levE zs src j).testBit x) with
  | none => exact absurd h (by simpa using List.find?_eq_none.1 hf j (List.mem_range.2 hj))
  | some i =>
    have := List.find?_some hf
    rw [lev_uniq this h]
theorem dAt_out {zs : List Int} {src k x : Nat} (h : ∀ j, j < k → (levE zs src j).testBit x = false) : dAt zs src k x = 12 := by
  unfold dAt
  rw [List.find?_eq_none.2 fun j hj => by rw [h j (List.mem_range.1 hj)]; simp]
theorem dAt_cases (zs : List Int) (src k x : Nat) : (∃ j, j < k ∧ (levE zs src j).testBit x = true ∧ dAt zs src k x = j) ∨ ((∀ j, j < k → (levE zs src j).testBit x = false) ∧ dAt zs src k x = 12) := by
  by_cases h : ∃ j, j < k ∧ (levE zs src j).testBit x = true
  · obtain ⟨j, hj, hb⟩ := h
    exact .inl ⟨j, hj, hb, dAt_in hj hb⟩
  · have h' : ∀ j, j < k → (levE zs src j).testBit x = false := fun j hj => by
      cases hb : (levE zs src j).testBit x with
      | false => rfl
      | true => exact absurd ⟨j, hj, hb⟩ h
    exact .inr ⟨h', dAt_out h'⟩
theorem dAt_step (zs : List Int) (src k x : Nat) : dAt zs src (k + 1) x = if (levE zs src k).testBit x then (k : Int) else dAt zs src k x := by
  cases hb : (levE zs src k).testBit x with
  | true => simpa using dAt_in (Nat.lt_succ_self k) hb
  | false =>
    simp only [Bool.false_eq_true, if_false]
    rcases dAt_cases zs src k x with ⟨j, hj, hbj, he⟩ | ⟨h, he⟩
    · rw [he]; exact dAt_in (by omega) hbj
    · rw [he]
      refine dAt_out fun j hj => ?_
      rcases Nat.lt_succ_iff_lt_or_eq.1 hj with h1 | rfl
      · exact h j h1
      · exact hb
def distV (zs : List Int) (src x : Nat) : Int := dAt zs src 12 x
theorem dAt_stop {k : Nat} (h : levE zs src k = 0) : ∀ m x, k ≤ m → dAt zs src m x = dAt zs src k x := by
  intro m x hm
  obtain ⟨d, rfl⟩ := Nat.le.dest hm
  induction d with
  | zero => rfl
  | succ d ih => rw [← Nat.add_assoc, dAt_step, levE_zero_ge h (k + d) (by omega), Nat.zero_testBit]; simpa using ih (by omega)
theorem dist_of_stop {k : Nat} (h : levE zs src k = 0) (hk : k ≤ 12) (x : Nat) : dAt zs src k x = distV zs src x := (dAt_stop h 12 x hk).symm
def distsV (zs : List Int) (src : Nat) : List Int := (List.range zs.length).map (distV zs src)
theorem distsV_len (zs : List Int) (src : Nat) : (distsV zs src).length = zs.length := by simp [distsV]
theorem distsV_at {zs : List Int} {src x : Nat} (h : x < zs.length) : (distsV zs src)[x]?.getD 0 = distV zs src x := getD_int _ h
end
end Go.Proofs.Ytpllijjocccaaaa
