/- Laws of codes: thin codes, marks found, places, counts. -/
import Derived.Test.YtpllijjocccaaaaCodeL
import Derived.Test.YtpllijjocccaaaaCodes
namespace Go.Proofs.Ytpllijjocccaaaa

section
variable {zs : List Int} {n : Nat}
theorem dist_self (hG : IsG n zs) {i : Nat} (hi : i < n) : distV zs i i = 0 := (dist_of hG hi (d := 0) rfl (fun j hj => by omega)).1
theorem dist_zero (hG : IsG n zs) {i j : Nat} (hi : i < n) : distV zs i j = 0 ↔ i = j := by
  constructor
  · intro h
    rcases dist_cases hG hi j with ⟨d, hd, h1, h2, _⟩ | ⟨h1, _⟩
    · have : d = 0 := by omega
      subst this; exact h2
    · omega
  · rintro rfl; exact dist_self hG hi
theorem adj_irr (hG : IsG n zs) {i : Nat} : adjB zs i i = false := by
  cases h : adjB zs i i with
  | false => rfl
  | true =>
    have := hG.irr i (adj_lt hG h).1
    unfold adjB at h; rw [this] at h; cases h
theorem dist_one (hG : IsG n zs) {i j : Nat} (hi : i < n) : distV zs i j = 1 ↔ adjB zs i j = true := by
  constructor
  · intro h
    rcases dist_cases hG hi j with ⟨d, hd, h1, h2, _⟩ | ⟨h1, _⟩
    · have : d = 1 := by omega
      subst this
      obtain ⟨m, hm, e⟩ := h2
      have hm' : i = m := hm
      subst hm'; exact e
    · omega
  · intro h
    refine (dist_of hG hi (d := 1) (Wk.one h) fun k hk hw => ?_).1
    have : k = 0 := by omega
    subst this
    have hw' : i = j := hw
    subst hw'
    rw [adj_irr hG] at h; cases h
theorem bN_of_dist (hG : IsG n zs) {i j : Nat} (hi : i < n) (_hj : j < n) : (bN zs j).testBit i = (decide (distV zs i j = 0) || decide (distV zs i j = 1)) := by
  have h0 := dist_zero hG (j := j) hi
  have h1 := dist_one hG (j := j) hi
  rw [bN_bit]
  have hs : adjB zs j i = adjB zs i j := by
    cases h : adjB zs i j with
    | true => exact adj_symm hG _ _ h
    | false => cases h2 : adjB zs j i with
      | false => rfl
      | true => rw [adj_symm hG _ _ h2] at h; cases h
  rw [hs, Bool.or_comm]
  congr 1
  · rw [decide_eq_decide, h0]; exact eq_comm
  · cases h : adjB zs i j with
    | true => exact (decide_eq_true (h1.2 h)).symm
    | false => exact (decide_eq_false fun hd => by rw [h1.1 hd] at h; cases h).symm
/-- locating codes resolve -/
theorem isB_13 (hG : IsG n zs) {c : Nat} (hc : c < 2 ^ n) (h : isB zs 1 c = true) : isB zs 3 c = true := by
  rw [isB_1, Bool.and_eq_true, covB_iff, unlB_iff] at h
  rw [isB_3, resB_iff]
  intro i k hi hk
  have hl := hG.len
  have h12 := hG.le
  have hlt : ∀ x, c.testBit x = true → x < n := fun x hx => by
    refine Nat.lt_of_not_le fun hle => ?_
    rw [Nat.testBit_lt_two_pow (Nat.lt_of_lt_of_le hc (Nat.pow_le_pow_right (by omega) hle))] at hx; cases hx
  cases h1 : c.testBit i with
  | true =>
    refine ⟨i, by omega, h1, fun he => ?_⟩
    rw [dist_self hG (by omega)] at he
    have := (dist_zero hG (j := k) (by omega)).1 he.symm
    omega
  | false =>
    cases h2 : c.testBit k with
    | true =>
      refine ⟨k, by omega, h2, fun he => ?_⟩
      rw [dist_self hG (i := k) (by omega)] at he
      have := (dist_zero hG (j := i) (by omega)).1 he
      omega
    | false =>
      obtain ⟨x, hx, hd⟩ := h.2 i k hi hk (by rw [testBit_bdiff, allV_bit, h1]; simpa using hi) (by rw [testBit_bdiff, allV_bit, h2]; simp; omega)
      refine ⟨x, by have := hlt x hx; omega, hx, fun he => hd ?_⟩
      rw [bN_of_dist hG (hlt x hx) (by omega), bN_of_dist hG (hlt x hx) (by omega), he]
theorem all_is3 (hG : IsG n zs) : isB zs 3 (allV zs) = true := isB_13 hG (allV_lt hG).2 all_is1
end
theorem codeIn_iff {zs : List Int} {kind c : Nat} : codeInB zs kind c = true ↔ graphB zs = true ∧ kind ≤ 3 ∧ c < 2 ^ zs.length ∧ isB zs kind c = true := by
  have hp := pow_int zs.length
  simp only [codeInB, kindB, Bool.and_eq_true, decide_eq_true_eq, Int.toNat_natCast]
  constructor
  · rintro ⟨⟨⟨h1, h2, h3⟩, h4, h5⟩, h6⟩
    exact ⟨h1, by omega, by omega, h6⟩
  · rintro ⟨h1, h2, h3, h4⟩
    exact ⟨⟨⟨h1, by omega, by omega⟩, by omega, by omega⟩, h4⟩
theorem codeIn_or {zs : List Int} {kind c i : Nat} (h : codeInB zs kind c = true) (hi : i < zs.length) : codeInB zs kind (c ||| 2 ^ i : Nat) = true := by
  obtain ⟨h1, h2, h3, h4⟩ := codeIn_iff.1 h
  exact codeIn_iff.2 ⟨h1, h2, Nat.or_lt_two_pow h3 (Nat.pow_lt_pow_right (by omega) hi), isB_mono h4 (sub_or _ _)⟩
theorem codeIn_21 {zs : List Int} {c : Nat} (h : codeInB zs 2 c = true) : codeInB zs 1 c = true := by
  obtain ⟨h1, h2, h3, h4⟩ := (codeIn_iff (kind := 2)).1 h
  exact (codeIn_iff (kind := 1)).2 ⟨h1, by omega, h3, isB_21 h4⟩
theorem codeIn_10 {zs : List Int} {c : Nat} (h : codeInB zs 1 c = true) : codeInB zs 0 c = true := by
  obtain ⟨h1, h2, h3, h4⟩ := (codeIn_iff (kind := 1)).1 h
  exact (codeIn_iff (kind := 0)).2 ⟨h1, by omega, h3, isB_10 h4⟩
theorem codeIn_13 {zs : List Int} {c : Nat} (h : codeInB zs 1 c = true) : codeInB zs 3 c = true := by
  obtain ⟨h1, h2, h3, h4⟩ := (codeIn_iff (kind := 1)).1 h
  exact (codeIn_iff (kind := 3)).2 ⟨h1, by omega, h3, isB_13 (isG_of h1) h3 h4⟩
theorem least_isSome {zs : List Int} {kd : Nat} (hg : graphB zs = true) (hk : kd ≤ 3) : (CodeLeastR zs kd).isSome = isB zs kd (allV zs) := by
  have hG := isG_of hg
  have hok : leastOk zs kd = true := by simp [leastOk, kindB, hg]; omega
  rw [CodeLeastR, if_pos hok, Int.toNat_natCast, leastV]
  rcases leastTo_spec (isB zs kd) (2 ^ zs.length) with ⟨h1, h2⟩ | ⟨b, h1, h2, h3, _⟩
  · rw [h1, h2 _ (allV_lt hG).2]; rfl
  · rw [h1, isB_mono h3 (sub_all rfl h2)]; rfl
/-- only identifying codes may be missing -/
theorem least_some {zs : List Int} {kd : Nat} (hg : graphB zs = true) (hk : kd ≤ 3) (h2 : kd ≠ 2) : (CodeLeastR zs kd).isSome = true := by
  rw [least_isSome hg hk]
  rcases (show kd = 0 ∨ kd = 1 ∨ kd = 3 by omega) with rfl | rfl | rfl
  · exact all_is0
  · exact all_is1
  · exact all_is3 (isG_of hg)
theorem least_some2 {zs : List Int} (hg : graphB zs = true) : (CodeLeastR zs (2 : Nat)).isSome = decide ((GraphTwinsR zs).length = 0) := by
  rw [least_isSome hg (by omega), Bool.eq_iff_iff, all_is2 (isG_of hg), decide_eq_true_eq, twins_none hg]
theorem has_twins {zs : List Int} (hg : graphB zs = true) : codeHasB zs = decide ((GraphTwinsR zs).length = 0) := by
  rw [codeHasB, hg]; rfl
end Go.Proofs.Ytpllijjocccaaaa
namespace Go.Proofs.Ytpllijjocccaaaa

theorem thinStep_sub (zs : List Int) (kind c x : Nat) : Sub (thinStep zs kind c x) c := by
  unfold thinStep; split
  · exact bdiff_sub1
  · exact fun _ h => h
theorem thin_sub {zs : List Int} {kind : Nat} : ∀ (l : List Nat) (c : Nat), Sub (thinTo zs kind c l) c
  | [], _ => fun _ h => h
  | y :: l, c => fun x hx => thinStep_sub zs kind c y x (thin_sub l (thinStep zs kind c y) x hx)
theorem bdiff_mono {c d x : Nat} (h : Sub c d) : Sub (bdiff c x) (bdiff d x) := fun i hi => by
  rw [testBit_bdiff, Bool.and_eq_true] at hi ⊢; exact ⟨h i hi.1, hi.2⟩
/-- no node can be taken from a thin code -/
theorem thin_min {zs : List Int} {kind x : Nat} : ∀ (l : List Nat) (c : Nat), x ∈ l → (thinTo zs kind c l).testBit x = true → isB zs kind (bdiff (thinTo zs kind c l) (2 ^ x)) = false
  | [], _, h, _ => by cases h
  | y :: l, c, h, hb => by
    by_cases hx : x ∈ l
    · exact thin_min l (thinStep zs kind c y) hx hb
    · rcases List.mem_cons.1 h with h | h
      case inr => exact absurd h hx
      subst h
      have hs : Sub (thinTo zs kind (thinStep zs kind c x) l) (thinStep zs kind c x) := thin_sub l _
      have hb1 : (thinStep zs kind c x).testBit x = true := hs x hb
      have hno : isB zs kind (bdiff c (2 ^ x)) = false := by
        cases hi : isB zs kind (bdiff c (2 ^ x)) with
        | false => rfl
        | true =>
          unfold thinStep at hb1
          rw [if_pos hi, testBit_bdiff, Nat.testBit_two_pow] at hb1
          simp at hb1
      cases hi : isB zs kind (bdiff (thinTo zs kind c (x :: l)) (2 ^ x)) with
      | false => rfl
      | true =>
        have := isB_mono hi (bdiff_mono (fun i h => thinStep_sub zs kind c x i (hs i h)))
        rw [this] at hno; cases hno
theorem sub_bdiff {c d : Nat} (h : Sub c d) : bdiff c d = 0 := by
  apply Nat.eq_of_testBit_eq
  intro i
  rw [testBit_bdiff, Nat.zero_testBit]
  cases hc : c.testBit i with
  | false => rfl
  | true => rw [h i hc]; rfl
/-- what the law FnThin says -/
theorem thin_law {zs : List Int} {kind c : Nat} (h : codeInB zs kind c = true) : CodeThinR zs kind c < 2 ^ zs.length ∧ codeInB zs kind (CodeThinR zs kind c : Nat) = true ∧ bdiff (CodeThinR zs kind c) c = 0 ∧
    ∀ i, (CodeThinR zs kind c).testBit i = true → codeInB zs kind (bdiff (CodeThinR zs kind c) (2 ^ i) : Nat) = false := by
  have hI := codeIn_iff.1 h
  have e : CodeThinR zs kind c = thinTo zs kind c (bitsOf c) := by rw [CodeThinR, if_pos h, Int.toNat_natCast, Int.toNat_natCast]
  rw [e]
  have hlt : thinTo zs kind c (bitsOf c) < 2 ^ zs.length := thinTo_lt hI.2.2.1 _
  refine ⟨hlt, codeIn_iff.2 ⟨hI.1, hI.2.1, hlt, thinTo_is hI.2.2.2 _⟩, sub_bdiff (thin_sub _ _), fun i hi => ?_⟩
  have hci := thin_sub _ _ i hi
  have hlt' : i < 12 := by
    have h1 := (isG_of hI.1).le
    refine Nat.lt_of_not_le fun hle => ?_
    rw [Nat.testBit_lt_two_pow (Nat.lt_of_lt_of_le hI.2.2.1 (Nat.pow_le_pow_right (by omega) (Nat.le_trans h1 hle)))] at hci; cases hci
  cases hb : codeInB zs kind (bdiff (thinTo zs kind c (bitsOf c)) (2 ^ i) : Nat) with
  | false => rfl
  | true => exact absurd (thin_min _ _ (mem_bitsOf.2 ⟨hlt', hci⟩) hi) (by rw [(codeIn_iff.1 hb).2.2.2]; simp)
/-- what the law FnFind says -/
theorem find_law {zs : List Int} {c : Nat} {u : Int} (h : 0 ≤ findB zs c u) : ∃ k : Nat, CodeFindR zs c u = k ∧ k < zs.length ∧ c < 2 ^ zs.length ∧ codeInB zs 2 c = true ∧ markV zs c k = u ∧ u ≠ 0 := by
  unfold CodeFindR
  rw [if_pos h]
  unfold findB at h ⊢
  split at h
  · rename_i hc
    rw [if_pos hc]
    have hI := (codeIn_iff (kind := 2)).1 hc
    rw [Int.toNat_natCast] at h ⊢
    rcases idxBy_cases (marksV zs c).length (fun i => decide ((marksV zs c)[i]?.getD 0 = u)) with ⟨k, hk, hp, _, he⟩ | ⟨_, he⟩
    · rw [marksV_len] at hk
      have hm : markV zs c k = u := by
        have := of_decide_eq_true hp
        simpa [marksV, hk] using this
      refine ⟨k, he, hk, hI.2.2.1, hc, hm, ?_⟩
      have h2 := hI.2.2.2
      rw [isB_2, Bool.and_eq_true, covB_iff] at h2
      obtain ⟨x, h3, h4⟩ := h2.1 k hk
      intro h0
      rw [← hm, markV_bN] at h0
      have h5 : bN zs k &&& c = 0 := by omega
      have h6 := congrArg (fun t => t.testBit x) h5
      simp [Nat.testBit_and, h3, h4] at h6
    · have h' : 0 ≤ idxBy (marksV zs c).length (fun i => decide ((marksV zs c)[i]?.getD 0 = u)) := h
      rw [he] at h'; omega
  · omega
end Go.Proofs.Ytpllijjocccaaaa
