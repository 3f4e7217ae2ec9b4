/- Laws of codes: plain mathematics. -/
import Derived.Test.YtpllijjocccaaaaCodeM
import Derived.Test.YtpllijjocccaaaaHas
namespace Go.Proofs.Ytpllijjocccaaaa

def bN (zs : List Int) (i : Nat) : Nat := (zs[i]?.getD 0).toNat ||| 2 ^ i
theorem bN_bit (zs : List Int) (i x : Nat) : (bN zs i).testBit x = (adjB zs i x || decide (i = x)) := by
  unfold bN adjB; rw [Nat.testBit_or, Nat.testBit_two_pow]
theorem bN_self (zs : List Int) (i : Nat) : (bN zs i).testBit i = true := by rw [bN_bit]; simp
theorem bN_lt {zs : List Int} {n i : Nat} (hG : IsG n zs) (hi : i < n) : bN zs i < 2 ^ n := by
  have h := hG.ok i hi
  refine Nat.or_lt_two_pow ?_ (Nat.pow_lt_pow_right (by omega) hi)
  have e := pow_int n
  omega
theorem markV_bN (zs : List Int) (c i : Nat) : markV zs c i = ((bN zs i &&& c : Nat) : Int) := rfl
theorem ne_zero_bit {a : Nat} (h : a ≠ 0) : ∃ x, a.testBit x = true := by
  refine Classical.byContradiction fun hn => h (Nat.eq_of_testBit_eq fun x => ?_)
  rw [Nat.zero_testBit]
  cases hb : a.testBit x with
  | false => rfl
  | true => exact absurd ⟨x, hb⟩ hn
/-- the code's nodes in the balls of i and k are unlike -/
def difP (zs : List Int) (c i k : Nat) : Prop := ∃ x, c.testBit x = true ∧ (bN zs i).testBit x ≠ (bN zs k).testBit x
theorem mark_dif (zs : List Int) (c i k : Nat) : markV zs c i ≠ markV zs c k ↔ difP zs c i k := by
  rw [markV_bN, markV_bN]
  constructor
  · intro h
    refine Classical.byContradiction fun hn => h ?_
    congr 1
    apply Nat.eq_of_testBit_eq
    intro x
    rw [Nat.testBit_and, Nat.testBit_and]
    cases hc : c.testBit x with
    | false => simp
    | true =>
      have : (bN zs i).testBit x = (bN zs k).testBit x := Classical.byContradiction fun hne => hn ⟨x, hc, hne⟩
      rw [this]
  · rintro ⟨x, hc, hne⟩ he
    have he' : bN zs i &&& c = bN zs k &&& c := by omega
    have h2 := congrArg (fun t => t.testBit x) he'
    simp only [Nat.testBit_and, hc, Bool.and_true] at h2
    exact hne h2
def covP (zs : List Int) (c : Nat) : Prop := ∀ i, i < zs.length → ∃ x, (bN zs i).testBit x = true ∧ c.testBit x = true
theorem covB_iff {zs : List Int} {c : Nat} : covB zs c = true ↔ covP zs c := by
  simp only [covB, List.all_eq_true, List.mem_range, Bool.not_eq_true', decide_eq_false_iff_not, covP]
  simp only [markV_bN]
  refine forall_congr' fun i => forall_congr' fun _ => ⟨fun h => ?_, ?_⟩
  · obtain ⟨x, hx⟩ := ne_zero_bit (show bN zs i &&& c ≠ 0 by omega)
    rw [Nat.testBit_and, Bool.and_eq_true] at hx
    exact ⟨x, hx⟩
  · rintro ⟨x, h1, h2⟩ h3
    have h4 : bN zs i &&& c = 0 := by omega
    have h5 := congrArg (fun t => t.testBit x) h4
    simp [Nat.testBit_and, h1, h2] at h5
def unlP (zs : List Int) (c among : Nat) : Prop := ∀ i k, i < zs.length → k < i → among.testBit i = true → among.testBit k = true → difP zs c i k
theorem unlB_iff {zs : List Int} {c m : Nat} : unlB zs c m = true ↔ unlP zs c m := by
  simp only [unlB, List.all_eq_true, List.mem_range, Bool.not_eq_true', Bool.and_eq_false_iff, decide_eq_false_iff_not, unlP, ← mark_dif]
  refine forall_congr' fun i => ⟨fun h k hi hk h1 h2 => ?_, fun h hi k hk => ?_⟩
  · rcases h hi k hk with (h3 | h3) | h3
    · rw [h1] at h3; cases h3
    · rw [h2] at h3; cases h3
    · exact h3
  · cases h1 : m.testBit i with
    | false => exact .inl (.inl rfl)
    | true =>
      cases h2 : m.testBit k with
      | false => exact .inl (.inr rfl)
      | true => exact .inr (h k hi hk h1 h2)
def resP (zs : List Int) (c : Nat) : Prop := ∀ i k, i < zs.length → k < i → ∃ x, x < 12 ∧ c.testBit x = true ∧ distV zs x i ≠ distV zs x k
theorem resB_iff {zs : List Int} {c : Nat} : resB zs c = true ↔ resP zs c := by
  simp only [resB, sepB, List.all_eq_true, List.mem_range, List.any_eq_true, Bool.not_eq_true', decide_eq_false_iff_not, resP, mem_bitsOf]
  refine forall_congr' fun i => ⟨fun h k hi hk => ?_, fun h hi k hk => ?_⟩
  · obtain ⟨x, ⟨h1, h2⟩, h3⟩ := h hi k hk
    exact ⟨x, h1, h2, h3⟩
  · obtain ⟨x, h1, h2, h3⟩ := h k hi hk
    exact ⟨x, ⟨h1, h2⟩, h3⟩
/-- a set holds another's nodes -/
def Sub (c d : Nat) : Prop := ∀ x, c.testBit x = true → d.testBit x = true
theorem covP.mono {zs : List Int} {c d : Nat} (h : covP zs c) (hs : Sub c d) : covP zs d := fun i hi => by
  obtain ⟨x, h1, h2⟩ := h i hi; exact ⟨x, h1, hs x h2⟩
theorem unlP.mono {zs : List Int} {c d m m' : Nat} (h : unlP zs c m) (hs : Sub c d) (hm : Sub m' m) : unlP zs d m' := fun i k hi hk h1 h2 => by
  obtain ⟨x, h3, h4⟩ := h i k hi hk (hm i h1) (hm k h2); exact ⟨x, hs x h3, h4⟩
theorem resP.mono {zs : List Int} {c d : Nat} (h : resP zs c) (hs : Sub c d) : resP zs d := fun i k hi hk => by
  obtain ⟨x, h1, h2, h3⟩ := h i k hi hk; exact ⟨x, h1, hs x h2, h3⟩
/-- a code of a kind -/
def isP (zs : List Int) (kind c : Nat) : Prop := (kind = 3 ∧ resP zs c) ∨ (kind ≠ 3 ∧ covP zs c ∧ (kind = 0 ∨ unlP zs c (amongV zs kind c)))
theorem isB_iff {zs : List Int} {kind c : Nat} : isB zs kind c = true ↔ isP zs kind c := by
  unfold isB isP
  by_cases h : kind = 3
  · rw [if_pos h]; simp [h, resB_iff]
  · rw [if_neg h]; simp [h, covB_iff, unlB_iff]
theorem bdiff_sub {a c d : Nat} (hs : Sub c d) : Sub (bdiff a d) (bdiff a c) := fun x hx => by
  rw [testBit_bdiff, Bool.and_eq_true] at hx ⊢
  refine ⟨hx.1, ?_⟩
  cases hc : c.testBit x with
  | false => rfl
  | true => rw [hs x hc] at hx; exact absurd hx.2 (by simp)
theorem bdiff_sub1 {a c : Nat} : Sub (bdiff a c) a := fun x hx => by
  rw [testBit_bdiff, Bool.and_eq_true] at hx; exact hx.1
theorem among_mono {zs : List Int} {kind c d : Nat} (hs : Sub c d) : Sub (amongV zs kind d) (amongV zs kind c) := by
  unfold amongV
  split
  · exact bdiff_sub hs
  · exact fun x h => h
/-- more nodes are a code still -/
theorem isB_mono {zs : List Int} {kind c d : Nat} (h : isB zs kind c = true) (hs : Sub c d) : isB zs kind d = true := by
  rw [isB_iff] at h ⊢
  rcases h with ⟨h1, h2⟩ | ⟨h1, h2, h3⟩
  · exact .inl ⟨h1, h2.mono hs⟩
  · refine .inr ⟨h1, h2.mono hs, ?_⟩
    rcases h3 with h3 | h3
    · exact .inl h3
    · exact .inr (h3.mono hs (among_mono hs))
theorem sub_or (c x : Nat) : Sub c (c ||| x) := fun i hi => by rw [Nat.testBit_or, hi]; rfl
theorem isB_21 {zs : List Int} {c : Nat} (h : isB zs 2 c = true) : isB zs 1 c = true := by
  rw [isB_2, Bool.and_eq_true] at h
  rw [isB_1, Bool.and_eq_true]
  exact ⟨h.1, unlB_iff.2 ((unlB_iff.1 h.2).mono (fun _ h => h) bdiff_sub1)⟩
theorem isB_10 {zs : List Int} {c : Nat} (h : isB zs 1 c = true) : isB zs 0 c = true := by
  rw [isB_1, Bool.and_eq_true] at h
  rw [isB_0]; exact h.1
theorem sub_all {zs : List Int} {n c : Nat} (hz : n = zs.length) (hc : c < 2 ^ n) : Sub c (allV zs) := fun x hx => by
  rw [allV_bit, decide_eq_true_eq, ← hz]
  refine Nat.lt_of_not_le fun hle => ?_
  rw [Nat.testBit_lt_two_pow (Nat.lt_of_lt_of_le hc (Nat.pow_le_pow_right (by omega) hle))] at hx
  cases hx
/-- no twins: unlike balls -/
def noTw (zs : List Int) : Prop := ∀ i k, i < zs.length → k < i → bN zs i ≠ bN zs k
theorem twins_none {zs : List Int} (hg : graphB zs = true) : (GraphTwinsR zs).length = 0 ↔ noTw zs := by
  rw [GraphTwinsR, if_pos hg, List.length_eq_zero_iff]
  simp only [twV, twTo, List.flatMap_eq_nil_iff, List.mem_range, twRow, List.map_eq_nil_iff, List.filter_eq_nil_iff, beq_iff_eq, noTw]
  constructor
  · intro h i k hi hk he
    refine h k (by omega) (i - k - 1) (by omega) ?_
    rw [show k + 1 + (i - k - 1) = i by omega]
    show ((bN zs k : Nat) : Int) = ((bN zs i : Nat) : Int)
    rw [he]
  · intro h k hk d hd he
    refine h (k + 1 + d) k (by omega) (by omega) ?_
    have he' : ((bN zs k : Nat) : Int) = ((bN zs (k + 1 + d) : Nat) : Int) := he
    omega
theorem all_cov {zs : List Int} : covP zs (allV zs) := fun i hi => ⟨i, bN_self zs i, by rw [allV_bit]; simpa using hi⟩
theorem dif_all {zs : List Int} {n i k : Nat} (hG : IsG n zs) (hi : i < n) (hk : k < n) (h : bN zs i ≠ bN zs k) : difP zs (allV zs) i k := by
  refine Classical.byContradiction fun hn => h (Nat.eq_of_testBit_eq fun x => ?_)
  by_cases hx : x < n
  · refine Classical.byContradiction fun hne => hn ⟨x, by rw [allV_bit, ← hG.len]; simpa using hx, hne⟩
  · have hle := Nat.pow_le_pow_right (n := 2) (by omega) (Nat.le_of_not_lt hx)
    rw [Nat.testBit_lt_two_pow (Nat.lt_of_lt_of_le (bN_lt hG hi) hle), Nat.testBit_lt_two_pow (Nat.lt_of_lt_of_le (bN_lt hG hk) hle)]
/-- all nodes identify, exactly if there are no twins -/
theorem all_is2 {zs : List Int} {n : Nat} (hG : IsG n zs) : isB zs 2 (allV zs) = true ↔ noTw zs := by
  rw [isB_2, Bool.and_eq_true, covB_iff, unlB_iff]
  constructor
  · rintro ⟨_, h⟩ i k hi hk he
    obtain ⟨x, _, h2⟩ := h i k hi hk (by rw [allV_bit]; simpa using hi) (by rw [allV_bit]; simp; omega)
    rw [he] at h2; exact h2 rfl
  · intro h
    exact ⟨all_cov, fun i k hi hk _ _ => dif_all hG (by rw [hG.len]; exact hi) (by rw [hG.len]; omega) (h i k hi hk)⟩
theorem all_is0 {zs : List Int} : isB zs 0 (allV zs) = true := by rw [isB_0, covB_iff]; exact all_cov
theorem all_is1 {zs : List Int} : isB zs 1 (allV zs) = true := by
  rw [isB_1, Bool.and_eq_true, covB_iff, unlB_iff]
  refine ⟨all_cov, fun i k _ _ h _ => ?_⟩
  rw [testBit_bdiff] at h; simp at h
theorem has_all {zs : List Int} (h : codeHasB zs = true) : codeInB zs 2 ((2 : Int) ^ zs.length - 1) = true := by
  simp only [codeHasB, Bool.and_eq_true, decide_eq_true_eq] at h
  have hG := isG_of h.1
  have h2 := (all_is2 hG).2 ((twins_none h.1).1 h.2)
  have hp := Nat.two_pow_pos zs.length
  have hc : (2 : Int) ^ zs.length - 1 = ((allV zs : Nat) : Int) := by
    unfold allV
    rw [← pow_int]; omega
  have h3 := (allV_lt hG).2
  have h4 := pow_int zs.length
  rw [hc, codeInB, h.1]
  have h5 : decide ((0 : Int) ≤ (allV zs : Nat)) = true := by simp
  have h6 : decide (((allV zs : Nat) : Int) < 2 ^ zs.length) = true := by rw [decide_eq_true_eq]; omega
  rw [h5, h6]
  simpa [kindB] using h2
end Go.Proofs.Ytpllijjocccaaaa
