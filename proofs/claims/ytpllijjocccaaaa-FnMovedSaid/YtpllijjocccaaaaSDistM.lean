/- The reference's distances, pass by pass: plain mathematics. -/
import Derived.Test.YtpllijjocccaaaaDist
namespace Go.Proofs.Ytpllijjocccaaaa

def tch (zs : List Int) (src d i k x : Nat) : Bool := ((List.range i).any fun j => (levE zs src d).testBit j && (zs[j]?.getD 0).toNat.testBit x) || ((levE zs src d).testBit i && (zs[i]?.getD 0).toNat.testBit x && decide (x < k))
def outS (zs : List Int) (src d i k x : Nat) : Int := if dAt zs src (d + 1) x = 12 ∧ d + 1 < 12 ∧ tch zs src d i k x = true then (d : Int) + 1 else dAt zs src (d + 1) x
section
variable {zs : List Int} {n src d i k x : Nat}
theorem dAt_range (zs : List Int) (src k x : Nat) : (0 ≤ dAt zs src k x ∧ dAt zs src k x < k) ∨ dAt zs src k x = 12 := by
  rcases dAt_cases zs src k x with ⟨j, hj, _, he⟩ | ⟨_, he⟩
  · left; omega
  · exact .inr he
theorem outS_self (hd : d < 12) : outS zs src d i k x = d ↔ (levE zs src d).testBit x = true := by
  unfold outS
  constructor
  · intro h
    rcases dAt_cases zs src (d + 1) x with ⟨j, hj, hb, he⟩ | ⟨_, he⟩
    · split at h
      · omega
      · have : j = d := by omega
        subst this; exact hb
    · split at h <;> omega
  · intro h
    rw [if_neg (by rw [dAt_in (Nat.lt_succ_self d) h]; omega), dAt_in (Nat.lt_succ_self d) h]
theorem tch_other (h : x ≠ k) : tch zs src d i (k + 1) x = tch zs src d i k x := by
  unfold tch
  rw [show decide (x < k + 1) = decide (x < k) from decide_eq_decide.2 (by omega)]
theorem tch_at : tch zs src d i (k + 1) k = (tch zs src d i k k || ((levE zs src d).testBit i && (zs[i]?.getD 0).toNat.testBit k)) := by
  unfold tch
  simp
theorem outS_hit (h1 : (levE zs src d).testBit i = true) (h2 : (zs[i]?.getD 0).toNat.testBit k = true) (h3 : (d : Int) + 1 < outS zs src d i k k) (hd : d < 12) :
    outS zs src d i (k + 1) x = if k = x then (d : Int) + 1 else outS zs src d i k x := by
  by_cases e : k = x
  · subst e
    rw [if_pos rfl]
    unfold outS at h3 ⊢
    rw [tch_at, h1, h2]
    have hr := dAt_range zs src (d + 1) k
    simp only [Bool.and_self, Bool.or_true, and_true]
    split at h3
    · omega
    · rw [if_pos (by omega)]
  · rw [if_neg e]; unfold outS; rw [tch_other (Ne.symm e)]
theorem outS_miss1 (h : ¬ ((levE zs src d).testBit i = true ∧ (zs[i]?.getD 0).toNat.testBit k = true)) : outS zs src d i (k + 1) x = outS zs src d i k x := by
  by_cases e : k = x
  · subst e
    unfold outS
    rw [tch_at]
    have : ((levE zs src d).testBit i && (zs[i]?.getD 0).toNat.testBit k) = false := by
      cases h1 : (levE zs src d).testBit i <;> cases h2 : (zs[i]?.getD 0).toNat.testBit k <;> simp_all
    rw [this, Bool.or_false]
  · unfold outS; rw [tch_other (Ne.symm e)]
theorem outS_miss2 (h : outS zs src d i k k ≤ (d : Int) + 1) (hd : d < 12) : outS zs src d i (k + 1) x = outS zs src d i k x := by
  by_cases e : k = x
  · subst e
    unfold outS at h ⊢
    rw [tch_at]
    have hr := dAt_range zs src (d + 1) k
    by_cases ht : tch zs src d i k k = true
    · simp [ht]
    · simp only [Bool.not_eq_true] at ht
      rw [ht] at h ⊢
      simp only [Bool.false_eq_true, and_false, if_false] at h ⊢
      rw [if_neg (by omega)]
  · unfold outS; rw [tch_other (Ne.symm e)]
theorem outS_row (hx : x < n) : outS zs src d (i + 1) 0 x = outS zs src d i n x := by
  unfold outS tch
  rw [List.range_succ, List.any_append]
  simp [hx]
theorem outS_start : outS zs src d 0 0 x = dAt zs src (d + 1) x := by
  unfold outS tch
  simp
theorem tch_all (hG : IsG n zs) (hs : src < n) : tch zs src d n 0 x = (nbrP zs (bitsOf (levE zs src d))).testBit x := by
  rw [nbrP_bit]
  unfold tch
  simp only [Nat.not_lt_zero, decide_false, Bool.and_false, Bool.or_false]
  rw [Bool.eq_iff_iff, List.any_eq_true, List.any_eq_true]
  constructor
  · rintro ⟨j, hj, h⟩
    simp only [Bool.and_eq_true] at h
    have := hG.le
    have := List.mem_range.1 hj
    exact ⟨j, mem_bitsOf.2 ⟨by omega, h.1⟩, h.2⟩
  · rintro ⟨j, hj, h⟩
    exact ⟨j, List.mem_range.2 (lt_of_mem_bitsOf (lev_lt hG hs d).2 hj), by rw [(mem_bitsOf.1 hj).2, h]; rfl⟩
theorem outS_pass (hG : IsG n zs) (hs : src < n) (hd : d < n) : outS zs src d n 0 x = outS zs src (d + 1) 0 0 x := by
  rw [outS_start, dAt_step]
  unfold outS
  rw [tch_all hG hs]
  have hle := hG.le
  have key : (dAt zs src (d + 1) x = 12 ∧ d + 1 < 12 ∧ (nbrP zs (bitsOf (levE zs src d))).testBit x = true) ↔ (levE zs src (d + 1)).testBit x = true := by
    rw [levE_succ, testBit_bdiff, Bool.and_eq_true]
    have h12 : dAt zs src (d + 1) x = 12 ↔ (levS zs src (d + 1)).testBit x = false := by
      rcases dAt_cases zs src (d + 1) x with ⟨j, hj, hb, he⟩ | ⟨h, he⟩
      · have := (levS_bit zs src x (d + 1)).2 ⟨j, hj, hb⟩
        rw [this, he]; simp; omega
      · refine ⟨fun _ => ?_, fun _ => he⟩
        cases hb : (levS zs src (d + 1)).testBit x with
        | false => rfl
        | true =>
          obtain ⟨j, hj, hj2⟩ := (levS_bit zs src x (d + 1)).1 hb
          rw [h j hj] at hj2; cases hj2
    constructor
    · rintro ⟨h1, _, h3⟩; exact ⟨h3, by rw [h12.1 h1]; rfl⟩
    · rintro ⟨h3, h1⟩
      have h1' : (levS zs src (d + 1)).testBit x = false := by simpa using h1
      refine ⟨h12.2 h1', ?_, h3⟩
      have hne : levE zs src (d + 1) ≠ 0 := by
        intro h0
        have hb : (levE zs src (d + 1)).testBit x = true := by rw [levE_succ, testBit_bdiff, h3, h1']; rfl
        rw [h0, Nat.zero_testBit] at hb; cases hb
      have := levE_ne hG hs hne
      omega
  by_cases hb : (levE zs src (d + 1)).testBit x = true
  · rw [if_pos (key.2 hb), if_pos hb]; simp
  · rw [if_neg (fun h => hb (key.1 h)), if_neg hb]
theorem outS_end (hG : IsG n zs) (hs : src < n) : outS zs src n 0 0 x = distV zs src x := by
  have hle := hG.le
  rw [outS_start, dAt_stop (levE_out hG hs (Nat.le_refl n)) (n + 1) x (by omega), ← dist_of_stop (levE_out hG hs (Nat.le_refl n)) hle]
end
end Go.Proofs.Ytpllijjocccaaaa
