/- The laws' own helpers: sameInts, sameRows, size. -/
import Derived.Test.YtgifjpaadflboaaRwsL
namespace Go.Proofs.Ytgifjpaadflboaa
open Go.RowKit Go.Shelf
attribute [local go_sem] Oper.semAt_some

set_option maxRecDepth 100000 in
set_option maxHeartbeats 1000000 in
theorem sameInts_any (a b : Option Addr) (n m ca cb : Nat) (xs ys : List Int) (w : World) (hs : SlAt w a n xs) (ht : SlAt w b m ys) :
    Calls Try.prog 28 #[.slice a n ca, .slice b m cb] w fun e w' => e = .returned (.bool (decide (xs = ys))) ∧ ∃ q, w.drewN q = w' := by
  by_cases hnm : n = m
  · subst hnm
    go_enter Try.func28, Try.ntmps28
    go_wp2
    go_loopw [5] (fun p wr => ∃ k : Nat, k ≤ n ∧ p = .int .i64 k ∧ (∀ j, j < k → xs[j]?.getD 0 = ys[j]?.getD 0) ∧ ∃ q, w.drewN q = wr) (fun p _ => n - (intOf p).toNat)
    case atStart => exact ⟨0, by omega, rfl, by omega, 0, rfl⟩
    case round =>
      obtain ⟨k, hk, rfl, hag, q, rfl⟩ := hrel
      by_cases hlt : k < n
      · obtain ⟨b1, o1, rfl, hb1, hc1⟩ := hs.at' (by omega)
        obtain ⟨b2, o2, rfl, hb2, hc2⟩ := ht.at' (by omega)
        have hx := hc1 k hlt
        have hy := hc2 k hlt
        have hlt' : (k : Int) < n := by omega
        have hbd := hs.bd
        have HG := Lib.hid hag
        clear hc1 hc2 hag
        go_wp2
        go_quiet (fail)
        go_wp2
        · have hne : ¬ xs[k]?.getD 0 = ys[k]?.getD 0 := by
            have h : (xs[k]?.getD 0 != ys[k]?.getD 0) = true := by assumption
            simpa using h
          go_ret
          exact ⟨by rw [ne_of_at hne]; rfl, q + nq, (World.drewN_drewN _ _ _).symm⟩
        · have he : xs[k]?.getD 0 = ys[k]?.getD 0 := by
            have h : (xs[k]?.getD 0 != ys[k]?.getD 0) = false := by assumption
            simpa using h
          go_roundw
          case rel =>
            refine ⟨k + 1, by omega, by go_num, fun j hj => ?_, _, rfl⟩
            rcases Nat.lt_succ_iff_lt_or_eq.1 hj with h | rfl
            · exact HG.out j h
            · exact he
          case measure => simp [intOf]; omega
      · obtain rfl : k = n := by omega
        go_wp2
        go_ret
        exact ⟨by rw [eq_of_at hs.len ht.len hag]; rfl, q, rfl⟩
  · have hne : decide (xs = ys) = false := decide_eq_false fun e => hnm (by rw [hs.len, ht.len, e])
    have H := Lib.hid hne
    clear hne
    go_enter Try.func28, Try.ntmps28
    go_wp2
    go_ret
    exact ⟨by rw [H.out]; rfl, 0, rfl⟩

theorem sameInts_isq (v : Bool) (a b : Option Addr) (n m ca cb : Nat) (xs ys : List Int) (w : World) (hs : SlAt w a n xs) (ht : SlAt w b m ys) (hv : decide (xs = ys) = v) (q0 : Nat) :
    Calls Try.prog 28 #[.slice a n ca, .slice b m cb] (w.drewN q0) fun e w' => e = .returned (.bool v) ∧ ∃ q, w' = w.drewN q := by
  subst hv
  exact (sameInts_any a b n m ca cb xs ys _ (hs.drewN q0) (ht.drewN q0)).mono fun _ _ ⟨h, q, hq⟩ => ⟨h, q0 + q, by rw [← hq, World.drewN_drewN]⟩
theorem sameInts_is (v : Bool) (a b : Option Addr) (n m ca cb : Nat) (xs ys : List Int) (w : World) (hs : SlAt w a n xs) (ht : SlAt w b m ys) (hv : decide (xs = ys) = v) :
    Calls Try.prog 28 #[.slice a n ca, .slice b m cb] w fun e w' => e = .returned (.bool v) ∧ Below w.heap.size w w' :=
  (sameInts_any a b n m ca cb xs ys w hs ht).mono fun _ _ ⟨h, q, hq⟩ => ⟨by rw [h, hv], by subst hq; exact bdrewN _ _⟩
theorem sameInts_yes (a b : Option Addr) (n m ca cb : Nat) (xs ys : List Int) (w : World) (hs : SlAt w a n xs) (ht : SlAt w b m ys) (hv : xs = ys) :
    Calls Try.prog 28 #[.slice a n ca, .slice b m cb] w fun e w' => e = .returned (.bool true) ∧ Below w.heap.size w w' := sameInts_is true a b n m ca cb xs ys w hs ht (by rw [hv]; simp)
/-- how many of the first k nodes lie in s -/
def cardTo (s k : Nat) : Nat := (List.range k).countP fun i => s.testBit i
theorem cardTo_succ (s k : Nat) : cardTo s (k + 1) = cardTo s k + if s.testBit k then 1 else 0 := by
  unfold cardTo; rw [List.range_succ, List.countP_append]; congr 1; cases h : s.testBit k <;> simp [List.countP_cons, h]
theorem cardTo_le (s k : Nat) : cardTo s k ≤ k := by
  unfold cardTo; have := List.countP_le_length (p := fun i => s.testBit i) (l := List.range k); simpa using this
theorem cardTo_12 (s : Nat) : cardTo s 12 = card s := (card_eq s).symm
theorem cardTo_past {s : Nat} (hs : s < 4096) : ∀ k, 12 ≤ k → cardTo s k = card s := by
  intro k hk
  obtain ⟨d, rfl⟩ := Nat.le.dest hk
  induction d with
  | zero => exact cardTo_12 s
  | succ d ih =>
    rw [← Nat.add_assoc, cardTo_succ, ih (by omega), Nat.testBit_lt_two_pow (Nat.lt_of_lt_of_le hs (Nat.pow_le_pow_right (n := 2) (by omega) (show 12 ≤ 12 + d by omega)))]
    simp
end Go.Proofs.Ytgifjpaadflboaa
