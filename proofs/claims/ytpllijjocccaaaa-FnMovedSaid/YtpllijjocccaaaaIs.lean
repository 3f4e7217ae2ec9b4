/- Is a set a code of a kind: the program. -/
import Derived.Test.YtpllijjocccaaaaCodeS
import Derived.Test.YtpllijjocccaaaaResolves
import Derived.Test.YtpllijjocccaaaaUnlike
namespace Go.Proofs.Ytpllijjocccaaaa
open Go.RowKit Go.Shelf
attribute [local go_sem] Oper.semAt_some

theorem marksV_at {zs : List Int} {c i : Nat} (hi : i < zs.length) : (marksV zs c)[i]?.getD 0 = markV zs c i := by
  rw [List.getElem?_eq_getElem (by rw [marksV_len]; exact hi)]; simp [marksV]
theorem marks_bd {zs : List Int} {c : Nat} (hc : c < 4096) (i : Nat) : 0 ≤ (marksV zs c)[i]?.getD 0 ∧ (marksV zs c)[i]?.getD 0 < 4096 := by
  by_cases hi : i < zs.length
  · rw [marksV_at hi]
    unfold markV
    have := Nat.and_le_right (n := (ballV zs i).toNat) (m := c)
    omega
  · rw [List.getElem?_eq_none (by rw [marksV_len]; omega)]; simp
theorem uniq_unl {zs : List Int} {n c s : Nat} (hG : IsG n zs) (hs : s < 2 ^ n) : uniqOn (marksV zs c) s = unlB zs c s := by
  have h1 : ((bitsOf s).map (fun x => (marksV zs c)[x]?.getD 0)).Nodup ↔ ∀ i k, k < i → i < n → s.testBit i = true → s.testBit k = true → markV zs c i ≠ markV zs c k := by
    unfold List.Nodup
    rw [List.pairwise_map]
    unfold bitsOf
    rw [List.pairwise_filter, List.pairwise_iff_getElem]
    have h12 := hG.le
    have hl := hG.len
    constructor
    · intro h i k hki hin hbi hbk
      have := h k i (by simp; omega) (by simp; omega) hki
      simp only [List.getElem_range] at this
      have h2 := this hbk hbi
      rw [marksV_at (by omega), marksV_at (by omega)] at h2
      exact fun e => h2 e.symm
    · intro h k i hk hi hki
      simp only [List.getElem_range]
      intro hbk hbi
      have hin : i < n := lt_of_mem_bitsOf hs (mem_bitsOf.2 ⟨by simpa using hi, hbi⟩)
      rw [marksV_at (by omega), marksV_at (by omega)]
      exact fun e => h i k hki hin hbi hbk e.symm
  unfold uniqOn
  cases hu : unlB zs c s with
  | true =>
    refine decide_eq_true (h1.2 fun i k hki hin hbi hbk e => ?_)
    unfold unlB at hu
    rw [List.all_eq_true] at hu
    have h2 := hu i (List.mem_range.2 (by rw [← hG.len]; exact hin))
    rw [List.all_eq_true] at h2
    have h3 := h2 k (List.mem_range.2 hki)
    rw [hbi, hbk] at h3
    simp [e] at h3
  | false =>
    refine decide_eq_false fun hnd => ?_
    have h := h1.1 hnd
    unfold unlB at hu
    rw [List.all_eq_false] at hu
    obtain ⟨i, hi, hu⟩ := hu
    simp only [Bool.not_eq_true] at hu
    rw [List.all_eq_false] at hu
    obtain ⟨k, hk, hu⟩ := hu
    have hi' := List.mem_range.1 hi
    rw [← hG.len] at hi'
    simp only [Bool.not_eq_true', Bool.and_eq_true, decide_eq_true_eq, Bool.not_eq_false] at hu
    exact h i k (List.mem_range.1 hk) hi' hu.1.1 hu.1.2 hu.2
theorem unlike_is (v : Bool) {zs : List Int} {c : Nat} (a : Option Addr) (n cap : Nat) (s : Int) (t : Nat) (w : World) (hs : SlAt w a n (marksV zs c)) (hG : IsG n zs) (hc : c < 4096) (hst : s = (t : Int)) (hs2 : t < 2 ^ n) (hv : unlB zs c t = v) :
    Calls Try.prog 97 #[.slice a n cap, .int .i64 s] w fun e w' => e = .returned (.bool v) ∧ Below w.heap.size w w' := by
  subst hst hv
  have := pow12 hG.le
  exact (unlike_any a n cap _ t w hs hG.pos hG.le (wf64_of fun x _ => marks_bd hc x) (by omega) hs2).mono fun _ _ ⟨h, hb⟩ => ⟨by rw [h, uniq_unl hG hs2], hb⟩
set_option maxRecDepth 100000 in
set_option maxHeartbeats 2000000 in
theorem is_any (B n : Nat) (zs : List Int) (kind c : Nat) (w : World) (hB : BookAt w B n zs) (hG : IsG n zs) (hk : kind ≤ 3) (hc : c < 4096) (hc2 : c < 2 ^ n) :
    Calls Try.prog 59 #[.pointer (some ⟨B, 0, none⟩), .int .i64 kind, .int .i64 c] w fun e w' => e = .returned (.bool (isB zs kind c)) ∧ Below w.heap.size w w' := by
  by_cases hk3 : kind = 3
  · subst hk3
    have HI := Lib.hid (isB_3 zs c)
    go_enter Try.func59, Try.ntmps59
    go_wp2_with (go_at_call 95; refine (resolves_any _ _ _ _ _ hB hG hc hc2).mono ?_; rintro e w1 ⟨rfl, hb1⟩)
    go_ret
    exact ⟨by rw [HI.out]; rfl, hb1⟩
  · have t3 : ((kind : Int) == 3) = false := by simp; omega
    have hal := allV_lt hG
    have hln := hG.len
    have hall : allV zs = 2 ^ n - 1 := by unfold allV; rw [← hln]
    cases hcov : covB zs c with
    | false =>
      have HI := Lib.hid (show isB zs kind c = false by unfold isB; rw [if_neg hk3, hcov]; rfl)
      have HC := Lib.hid (show decide (0 ≤ idxOf (marksV zs c) 0) = true by rw [cov_idx, hcov]; rfl)
      clear hcov hall hln
      go_enter Try.func59, Try.ntmps59
      go_wp2_with fail
      refine (marks_any B n zs c w hB hG hc).mono ?_
      rintro e w1 ⟨a1, c1, rfl, hA1, hb1⟩
      go_wp2_with fail
      refine (contains_is true _ _ _ _ _ _ hA1.sl HC.out).mono ?_
      rintro e w' ⟨rfl, rfl⟩
      go_wp2
      go_ret
      exact ⟨by rw [HI.out]; rfl, hb1⟩
    | true =>
      have HC := Lib.hid (show decide (0 ≤ idxOf (marksV zs c) 0) = false by rw [cov_idx, hcov]; rfl)
      obtain ⟨a, cap, ab, cb, af, cf, hK, _, _, _⟩ := hB.fields
      by_cases hk1 : kind = 1
      · subst hk1
        have HI := Lib.hid (show isB zs 1 c = unlB zs c (bdiff (allV zs) c) by rw [isB_1, hcov]; rfl)
        have HA := Lib.hid hall
        have HL := Lib.hid hal
        clear hcov hall hln hal
        go_enter Try.func59, Try.ntmps59
        go_wp2_with fail
        refine (marks_any B n zs c w hB hG hc).mono ?_
        rintro e w1 ⟨a1, c1, rfl, hA1, hb1⟩
        have c0 := (hK.below hb1).cell0
        go_wp2_with fail
        refine (contains_is false _ _ _ _ _ _ hA1.sl HC.out).mono ?_
        rintro e w' ⟨rfl, rfl⟩
        have eand : bits BinOp.andNot IntKind.i64 ((2 : Int) ^ n - 1) (c : Int) = ((bdiff (allV zs) c : Nat) : Int) := by
          have e1 := pow_int n
          have e2 := Nat.two_pow_pos n
          rw [show (2 : Int) ^ n - 1 = ((allV zs : Nat) : Int) by rw [HA.out]; omega]
          exact i64_andNot_nat _ _ (by have := HL.out.1; omega) (by omega)
        have hbl : bdiff (allV zs) c < 2 ^ n := bdiff_lt HL.out.2
        have HEA := Lib.hid eand
        clear eand
        go_wp2_with fail
        refine (all_any _ _ _ _ hG.le).mono ?_
        rintro e w' ⟨rfl, rfl⟩
        have eand := HEA.out
        go_wp2_with fail
        refine (unlike_is (unlB zs c (bdiff (allV zs) c)) _ _ _ _ (bdiff (allV zs) c) _ hA1.sl hG hc rfl hbl rfl).mono ?_
        rintro e w2 ⟨rfl, hb2⟩
        go_wp2
        go_ret
        exact ⟨by rw [HI.out]; rfl, bnext hb1 hb2⟩
      · by_cases hk2 : kind = 2
        · subst hk2
          have HI := Lib.hid (show isB zs 2 c = unlB zs c (allV zs) by rw [isB_2, hcov]; rfl)
          have HA := Lib.hid hall
          have HL := Lib.hid hal
          clear hcov hall hln hal
          go_enter Try.func59, Try.ntmps59
          go_wp2_with fail
          refine (marks_any B n zs c w hB hG hc).mono ?_
          rintro e w1 ⟨a1, c1, rfl, hA1, hb1⟩
          have c0 := (hK.below hb1).cell0
          go_wp2_with fail
          refine (contains_is false _ _ _ _ _ _ hA1.sl HC.out).mono ?_
          rintro e w' ⟨rfl, rfl⟩
          go_wp2_with fail
          refine (all_any _ _ _ _ hG.le).mono ?_
          rintro e w' ⟨rfl, rfl⟩
          go_wp2_with fail
          refine (unlike_is (unlB zs c (allV zs)) _ _ _ _ (allV zs) _ hA1.sl hG hc (by have e1 := pow_int n; have e2 := Nat.two_pow_pos n; rw [HA.out]; omega) HL.out.2 rfl).mono ?_
          rintro e w2 ⟨rfl, hb2⟩
          go_wp2
          go_ret
          exact ⟨by rw [HI.out]; rfl, bnext hb1 hb2⟩
        · obtain rfl : kind = 0 := by omega
          have HI := Lib.hid (show isB zs 0 c = true by rw [isB_0, hcov])
          clear hcov hall hln hal
          go_enter Try.func59, Try.ntmps59
          go_wp2_with fail
          refine (marks_any B n zs c w hB hG hc).mono ?_
          rintro e w1 ⟨a1, c1, rfl, hA1, hb1⟩
          go_wp2_with fail
          refine (contains_is false _ _ _ _ _ _ hA1.sl HC.out).mono ?_
          rintro e w' ⟨rfl, rfl⟩
          go_wp2
          go_ret
          exact ⟨by rw [HI.out]; rfl, hb1⟩
end Go.Proofs.Ytpllijjocccaaaa
