/- Codes of the reference: counting, covering, unlike marks. -/
import Derived.Test.YtojfafmfnblocaaCodeM
import Derived.Test.YtojfafmfnblocaaSVec
namespace Go.Proofs.Ytojfafmfnblocaa
open Go.RowKit Go.Shelf
attribute [local go_sem] Oper.semAt_some

def cntTo (s k : Nat) : Nat := (List.range k).countP fun i => s.testBit i
theorem cntTo_succ (s k : Nat) : cntTo s (k + 1) = cntTo s k + if s.testBit k then 1 else 0 := by
  unfold cntTo; rw [List.range_succ, List.countP_append]; congr 1; cases h : s.testBit k <;> simp [h]
theorem cntTo_le (s k : Nat) : cntTo s k ≤ k := by
  unfold cntTo; have := List.countP_le_length (p := fun i => s.testBit i) (l := List.range k); simpa using this
theorem cntTo_12 (s : Nat) : cntTo s 12 = card s := (card_eq s).symm
set_option maxRecDepth 100000 in
set_option maxHeartbeats 1000000 in
theorem scount_any (s : Nat) (w : World) (hs : s < 4096) : Calls Try.prog 86 #[.int .i64 s] w fun e w' => e = .returned (.int .i64 (card s)) ∧ w = w' := by
  go_enter Try.func86, Try.ntmps86
  go_wp2
  go_loop [3, 4] (fun u p => ∃ k : Nat, k ≤ 12 ∧ p = .int .i64 k ∧ u = .int .i64 (cntTo s k)) (fun _ p => 12 - (intOf p).toNat)
  case atStart => exact ⟨0, by omega, rfl, rfl⟩
  case round =>
    obtain ⟨k, hk, rfl, rfl⟩ := hrel
    by_cases hlt : k < 12
    · have hlt' : (k : Int) < 12 := by omega
      have hc := cntTo_le s k
      have HS := Lib.hid (cntTo_succ s k)
      cases hbit : s.testBit k with
      | true =>
        have HB := Lib.hid hbit
        clear hbit
        go_wp2_with (go_at_call 64; refine (sbitN true s k _ _ hs rfl (by omega) HB.out).mono ?_; rintro e w' ⟨rfl, rfl⟩)
        go_round
        case rel => exact ⟨k + 1, by omega, by go_num, by rw [HS.out, HB.out]; go_num⟩
        case measure => simp [intOf]; omega
      | false =>
        have HB := Lib.hid hbit
        clear hbit
        go_wp2_with (go_at_call 64; refine (sbitN false s k _ _ hs rfl (by omega) HB.out).mono ?_; rintro e w' ⟨rfl, rfl⟩)
        go_round
        case rel => exact ⟨k + 1, by omega, by go_num, by rw [HS.out, HB.out]; go_num⟩
        case measure => simp [intOf]; omega
    · obtain rfl : k = 12 := by omega
      have HC := Lib.hid (cntTo_12 s)
      go_wp2
      go_ret
      exact ⟨by rw [HC.out]; rfl, rfl⟩
theorem scount_is (s : Int) (t m : Nat) (w : World) (hst : s = (t : Int)) (ht : t < 4096) (hm : card t = m) : Calls Try.prog 86 #[.int .i64 s] w fun e w' => e = .returned (.int .i64 m) ∧ w = w' := by subst hst hm; exact scount_any t w ht
def covL (ms : List Int) : Bool := (List.range ms.length).all fun i => !decide (ms[i]?.getD 0 = 0)
theorem cov_marks (zs : List Int) (c : Nat) : covL (marksV zs c) = covB zs c := by
  unfold covL covB
  rw [marksV_len]
  rw [Bool.eq_iff_iff, List.all_eq_true, List.all_eq_true]
  have hat : ∀ i, i ∈ List.range zs.length → (marksV zs c)[i]?.getD 0 = markV zs c i := fun i hi => by
    rw [List.getElem?_eq_getElem (by rw [marksV_len]; exact List.mem_range.1 hi)]; simp [marksV]
  constructor
  · intro h i hi; have := h i hi; rw [hat i hi] at this; exact this
  · intro h i hi; have := h i hi; rw [hat i hi]; exact this
def apB (ms : List Int) (c : Nat) (al : Bool) (i k : Nat) : Bool := (al || (!c.testBit i && !c.testBit k)) && decide (ms[i]?.getD 0 = ms[k]?.getD 0)
def apAll (ms : List Int) (c : Nat) (al : Bool) : Bool := (List.range ms.length).all fun i => (List.range i).all fun k => !apB ms c al i k
theorem apAll_no {ms : List Int} {c : Nat} {al : Bool} {i k : Nat} (hi : i < ms.length) (hk : k < i) (h : apB ms c al i k = true) : apAll ms c al = false := by
  unfold apAll
  rw [List.all_eq_false]
  refine ⟨i, List.mem_range.2 hi, ?_⟩
  simp only [Bool.not_eq_true]
  rw [List.all_eq_false]
  exact ⟨k, List.mem_range.2 hk, by rw [h]; simp⟩
end Go.Proofs.Ytojfafmfnblocaa
