/- Distances as the lengths of shortest ways: plain mathematics. -/
import Derived.Test.YtpllijjocccaaaaDistM
namespace Go.Proofs.Ytpllijjocccaaaa

/-- node i has neighbour k -/
def adjB (zs : List Int) (i k : Nat) : Bool := (zs[i]?.getD 0).toNat.testBit k
/-- a way of k steps -/
def Wk (zs : List Int) : Nat → Nat → Nat → Prop
  | 0, i, j => i = j
  | k + 1, i, j => ∃ m, Wk zs k i m ∧ adjB zs m j = true
section
variable {zs : List Int} {n : Nat}
theorem adj_lt (hG : IsG n zs) {i k : Nat} (h : adjB zs i k = true) : i < n ∧ k < n := by
  have hi : i < n := by
    refine Nat.lt_of_not_le fun hle => ?_
    have hl := hG.len
    unfold adjB at h
    rw [List.getElem?_eq_none (by omega)] at h
    simp at h
  refine ⟨hi, ?_⟩
  obtain ⟨q1, q2, q3⟩ := hG.ok i hi
  refine Nat.lt_of_not_le fun hle => ?_
  unfold adjB at h
  have e := pow_int n
  rw [Nat.testBit_lt_two_pow (Nat.lt_of_lt_of_le (show (zs[i]?.getD 0).toNat < 2 ^ n by omega) (Nat.pow_le_pow_right (n := 2) (by omega) hle))] at h
  cases h
theorem Wk.lt (hG : IsG n zs) : ∀ {k i j : Nat}, Wk zs k i j → i < n → j < n
  | 0, _, _, h, hi => h ▸ hi
  | _ + 1, _, _, ⟨_, _, h⟩, _ => (adj_lt hG h).2
theorem Wk.trans : ∀ {b a i j m : Nat}, Wk zs a i j → Wk zs b j m → Wk zs (a + b) i m
  | 0, _, _, _, _, h, k => by cases k; exact h
  | _ + 1, _, _, _, _, h, ⟨m, k, e⟩ => ⟨m, Wk.trans h k, e⟩
theorem Wk.one {i j : Nat} (h : adjB zs i j = true) : Wk zs 1 i j := ⟨i, rfl, h⟩
theorem Wk.cons {k i m j : Nat} (h : adjB zs i m = true) (hw : Wk zs k m j) : Wk zs (k + 1) i j := by
  rw [Nat.add_comm]; exact Wk.trans (Wk.one h) hw
theorem Wk.rev (hs : ∀ i k, adjB zs i k = true → adjB zs k i = true) : ∀ {k i j : Nat}, Wk zs k i j → Wk zs k j i
  | 0, _, _, h => h.symm
  | _ + 1, _, _, ⟨_, h, e⟩ => Wk.cons (hs _ _ e) (Wk.rev hs h)
theorem levE_wk {src : Nat} : ∀ {k x : Nat}, (levE zs src k).testBit x = true → Wk zs k src x
  | 0, x, h => by
    have h' : (2 ^ src).testBit x = true := h
    rw [Nat.testBit_two_pow] at h'
    exact (of_decide_eq_true h' : src = x)
  | k + 1, x, h => by
    rw [levE_succ, testBit_bdiff, Bool.and_eq_true, nbrP_bit, List.any_eq_true] at h
    obtain ⟨m, hm, e⟩ := h.1
    exact ⟨m, levE_wk (mem_bitsOf.1 hm).2, e⟩
theorem wk_levE (hG : IsG n zs) {src : Nat} (hs : src < n) : ∀ {k x : Nat}, Wk zs k src x → ∃ i, i ≤ k ∧ (levE zs src i).testBit x = true
  | 0, x, h => ⟨0, Nat.le_refl _, by show (2 ^ src).testBit x = true; rw [Nat.testBit_two_pow]; exact decide_eq_true (show src = x from h)⟩
  | k + 1, x, ⟨m, hm, e⟩ => by
    obtain ⟨i, hi, hb⟩ := wk_levE hG hs hm
    cases hS : (levS zs src (i + 1)).testBit x with
    | true =>
      obtain ⟨j, hj, h⟩ := (levS_bit zs src x (i + 1)).1 hS
      exact ⟨j, by omega, h⟩
    | false =>
      refine ⟨i + 1, by omega, ?_⟩
      rw [levE_succ, testBit_bdiff, hS, nbrP_bit]
      have hmn := (adj_lt hG e).1
      have h12 := hG.le
      have : ((bitsOf (levE zs src i)).any fun x_1 => (zs[x_1]?.getD 0).toNat.testBit x) = true := List.any_eq_true.2 ⟨m, mem_bitsOf.2 ⟨by omega, hb⟩, e⟩
      rw [this]; rfl
/-- the distance is the length of a shortest way, 12 where there is none -/
theorem dist_cases (hG : IsG n zs) {src : Nat} (hs : src < n) (x : Nat) :
    (∃ d, d < n ∧ distV zs src x = (d : Nat) ∧ Wk zs d src x ∧ ∀ j, j < d → ¬ Wk zs j src x) ∨ (distV zs src x = 12 ∧ ∀ j, ¬ Wk zs j src x) := by
  rcases dAt_cases zs src 12 x with ⟨d, hd, hb, he⟩ | ⟨h, he⟩
  · refine .inl ⟨d, levE_ne hG hs (fun h0 => by rw [h0] at hb; simp at hb), he, levE_wk hb, fun j hj hw => ?_⟩
    obtain ⟨i, hi, hbi⟩ := wk_levE hG hs hw
    have := lev_uniq hb hbi
    omega
  · refine .inr ⟨he, fun j hw => ?_⟩
    obtain ⟨i, _, hbi⟩ := wk_levE hG hs hw
    have h1 := levE_ne hG hs (k := i) (fun h0 => by rw [h0] at hbi; simp at hbi)
    have h2 := hG.le
    rw [h i (by omega)] at hbi; cases hbi
theorem dist_of (hG : IsG n zs) {src x d : Nat} (hs : src < n) (hw : Wk zs d src x) (hm : ∀ j, j < d → ¬ Wk zs j src x) : distV zs src x = d ∧ d < n := by
  rcases dist_cases hG hs x with ⟨e, he, h1, h2, h3⟩ | ⟨_, h⟩
  · have : d = e := by
      rcases Nat.lt_trichotomy d e with h | h | h
      · exact absurd hw (h3 d h)
      · exact h
      · exact absurd h2 (hm e h)
    subst this; exact ⟨h1, he⟩
  · exact absurd hw (h d)
theorem adj_symm (hG : IsG n zs) : ∀ i k, adjB zs i k = true → adjB zs k i = true := fun i k h => by
  obtain ⟨hi, hk⟩ := adj_lt hG h
  unfold adjB at h ⊢
  rw [← hG.sym i k hi hk]; exact h
theorem dist_symm (hG : IsG n zs) {i j : Nat} (hi : i < n) (hj : j < n) : distV zs i j = distV zs j i := by
  have hr : ∀ {k a b : Nat}, Wk zs k a b → Wk zs k b a := fun h => Wk.rev (adj_symm hG) h
  rcases dist_cases hG hi j with ⟨d, hd, h1, h2, h3⟩ | ⟨h1, h2⟩
  · rw [h1, (dist_of hG hj (hr h2) fun m hm hw => h3 m hm (hr hw)).1]
  · rcases dist_cases hG hj i with ⟨d, hd, h3, h4, h5⟩ | ⟨h3, h4⟩
    · exact absurd (hr h4) (h2 d)
    · rw [h1, h3]
end
end Go.Proofs.Ytpllijjocccaaaa
