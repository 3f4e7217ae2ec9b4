/- Codes of the reference: counting, covering, unlike marks. -/
import Derived.Test.YtipimkfmkdihpaaCodeM
import Derived.Test.YtipimkfmkdihpaaSVec
namespace Go.Proofs.Ytipimkfmkdihpaa
open Go.RowKit Go.Shelf
attribute [local go_sem] Oper.semAt_some

def cntTo (s k : Nat) : Nat := (List.range k).countP fun i => s.testBit i
theorem cntTo_succ (s k : Nat) : cntTo s (k + 1) = cntTo s k + if s.testBit k then 1 else 0 := by
  unfold cntTo; rw [List.range_succ, List.countP_append]; congr 1; cases h : s.testBit k <;> simp [h]
theorem cntTo_le (s k : Nat) : cntTo s k ≤ k := by
  unfold cntTo; have := List.countP_le_length (p := fun i => s.testBit i) (l := List.range k); simpa using this
theorem cntTo_12 (s : Nat) : cntTo s 12 = card s := (card_eq s).symm
set_option maxRecDepth 100000 in
set_option maxHeartbeats 1000000 in
theorem scount_any (s : Nat) (w : World) (hs : s < 4096) : Calls Try.prog 68 #[.int .i64 s] w fun e w' => e = .returned (.int .i64 (card s)) ∧ w = w' := by
  go_enter Try.func68, Try.ntmps68
  go_wp2
  go_loop [3, 4] (fun u p => ∃ k : Nat, k ≤ 12 ∧ p = .int .i64 k ∧ u = .int .i64 (cntTo s k)) (fun _ p => 12 - (intOf p).toNat)
  case atStart => exact ⟨0, by omega, rfl, rfl⟩
  case round =>
    obtain ⟨k, hk, rfl, rfl⟩ := hrel
    by_cases hlt : k < 12
    · have hlt' : (k : Int) < 12 := by omega
      have hc := cntTo_le s k
      have HS := Lib.hid (cntTo_succ s k)
      cases hbit : s.testBit k with
      | true =>
        have HB := Lib.hid hbit
        clear hbit
        go_wp2_with (go_at_call 64; refine (sbitN true s k _ _ hs rfl (by omega) HB.out).mono ?_; rintro e w' ⟨rfl, rfl⟩)
        go_round
        case rel => exact ⟨k + 1, by omega, by go_num, by rw [HS.out, HB.out]; go_num⟩
        case measure => simp [intOf]; omega
      | false =>
        have HB := Lib.hid hbit
        clear hbit
        go_wp2_with (go_at_call 64; refine (sbitN false s k _ _ hs rfl (by omega) HB.out).mono ?_; rintro e w' ⟨rfl, rfl⟩)
        go_round
        case rel => exact ⟨k + 1, by omega, by go_num, by rw [HS.out, HB.out]; go_num⟩
        case measure => simp [intOf]; omega
    · obtain rfl : k = 12 := by omega
      have HC := Lib.hid (cntTo_12 s)
      go_wp2
      go_ret
      exact ⟨by rw [HC.out]; rfl, rfl⟩
theorem scount_is (s : Int) (t m : Nat) (w : World) (hst : s = (t : Int)) (ht : t < 4096) (hm : card t = m) : Calls Try.prog 68 #[.int .i64 s] w fun e w' => e = .returned (.int .i64 m) ∧ w = w' := by subst hst hm; exact scount_any t w ht
def covL (ms : List Int) : Bool := (List.range ms.length).all fun i => !decide (ms[i]?.getD 0 = 0)
set_option maxRecDepth 100000 in
set_option maxHeartbeats 1000000 in
theorem l2Covers_any (a : Option Addr) (n cap : Nat) (ms : List Int) (w : World) (hs : SlAt w a n ms) :
    Calls Try.prog 84 #[.slice a n cap] w fun e w' => e = .returned (.bool (covL ms)) ∧ w = w' := by
  have hl := Lib.hid hs.len
  have hbd := hs.bd
  go_enter Try.func84, Try.ntmps84
  go_wp2
  go_loop [3] (fun p => ∃ k : Nat, k ≤ n ∧ p = .int .i64 k ∧ ∀ j, j < k → Hid (decide (ms[j]?.getD 0 = 0) = false)) (fun p => n - (intOf p).toNat)
  case atStart => exact ⟨0, by omega, rfl, fun j hj => absurd hj (Nat.not_lt_zero j)⟩
  case round =>
    obtain ⟨k, hk, rfl, hag⟩ := hrel
    have HAG := Lib.hid hag
    clear hag
    by_cases hlt : k < n
    · obtain ⟨b, off, rfl, hb, hc⟩ := hs.at' (by omega)
      have hlt' : (k : Int) < n := by omega
      have hx := hc k hlt
      rw [List.getD_eq_getElem?_getD] at hx
      clear hc
      cases hv : (ms[k]?.getD 0 == 0) with
      | true =>
        have HI : Hid (covL ms = false) := by
          show covL ms = false
          unfold covL
          rw [List.all_eq_false]
          exact ⟨k, List.mem_range.2 (by rw [← hl.out]; exact hlt), by simpa using hv⟩
        go_wp2
        go_ret
        exact ⟨by rw [HI.out]; rfl, rfl⟩
      | false =>
        have HN : Hid (decide (ms[k]?.getD 0 = 0) = false) := by show decide _ = false; simpa using hv
        go_wp2
        go_round
        case rel =>
          refine ⟨k + 1, by omega, by go_num, fun j hj => ?_⟩
          rcases Nat.lt_succ_iff_lt_or_eq.1 hj with h | rfl
          · exact HAG.out j h
          · exact HN
        case measure => simp [intOf]; omega
    · obtain rfl : n = k := by omega
      have HI : Hid (covL ms = true) := by
        show covL ms = true
        unfold covL
        rw [List.all_eq_true]
        intro j hj
        rw [(HAG.out j (by rw [hl.out]; exact List.mem_range.1 hj)).out]; rfl
      go_wp2
      go_ret
      exact ⟨by rw [HI.out]; rfl, rfl⟩
theorem cov_marks (zs : List Int) (c : Nat) : covL (marksV zs c) = covB zs c := by
  unfold covL covB
  rw [marksV_len]
  rw [Bool.eq_iff_iff, List.all_eq_true, List.all_eq_true]
  have hat : ∀ i, i ∈ List.range zs.length → (marksV zs c)[i]?.getD 0 = markV zs c i := fun i hi => by
    rw [List.getElem?_eq_getElem (by rw [marksV_len]; exact List.mem_range.1 hi)]; simp [marksV]
  constructor
  · intro h i hi; have := h i hi; rw [hat i hi] at this; exact this
  · intro h i hi; have := h i hi; rw [hat i hi]; exact this
def apB (ms : List Int) (c : Nat) (al : Bool) (i k : Nat) : Bool := (al || (!c.testBit i && !c.testBit k)) && decide (ms[i]?.getD 0 = ms[k]?.getD 0)
def apAll (ms : List Int) (c : Nat) (al : Bool) : Bool := (List.range ms.length).all fun i => (List.range i).all fun k => !apB ms c al i k
theorem apAll_no {ms : List Int} {c : Nat} {al : Bool} {i k : Nat} (hi : i < ms.length) (hk : k < i) (h : apB ms c al i k = true) : apAll ms c al = false := by
  unfold apAll
  rw [List.all_eq_false]
  refine ⟨i, List.mem_range.2 hi, ?_⟩
  simp only [Bool.not_eq_true]
  rw [List.all_eq_false]
  exact ⟨k, List.mem_range.2 hk, by rw [h]; simp⟩
set_option maxRecDepth 100000 in
set_option maxHeartbeats 4000000 in
theorem l2Apart_any (a : Option Addr) (n cap : Nat) (ms : List Int) (c : Nat) (al : Bool) (w : World) (hs : SlAt w a n ms) (hn1 : 1 ≤ n) (hn : n ≤ 12) (hc : c < 4096) :
    Calls Try.prog 85 #[.slice a n cap, .int .i64 c, .bool al] w fun e w' => e = .returned (.bool (apAll ms c al)) ∧ ∃ q, w.drewN q = w' := by
  have hl := Lib.hid hs.len
  obtain ⟨b, off, rfl, hb, hcc⟩ := hs.at' (by omega)
  have HC := Lib.hid hcc
  clear hs hcc
  go_enter Try.func85, Try.ntmps85
  go_wp2
  go_loopw [7] (fun p wr => ∃ i : Nat, i ≤ n ∧ p = .int .i64 i ∧ (∀ j, j < i → Hid (∀ k, k < j → apB ms c al j k = false)) ∧ ∃ q, w.drewN q = wr) (fun p _ => 12 - (intOf p).toNat)
  case atStart => exact ⟨0, by omega, rfl, fun j hj => absurd hj (Nat.not_lt_zero j), 0, rfl⟩
  case round =>
    obtain ⟨i, hi, rfl, hag, hq⟩ := hrel
    have HAG := Lib.hid hag
    have HQ0 := Lib.hid hq
    clear hag hq
    by_cases hlt : i < n
    · have hlt' : (i : Int) < n := by omega
      go_wp2
      go_loopw [8] (fun p wr => ∃ k : Nat, k ≤ i ∧ p = .int .i64 k ∧ (∀ j, j < k → Hid (apB ms c al i j = false)) ∧ ∃ q, w.drewN q = wr) (fun p _ => 12 - (intOf p).toNat)
      case atStart => exact ⟨0, by omega, rfl, fun j hj => absurd hj (Nat.not_lt_zero j), HQ0.out⟩
      case round =>
        obtain ⟨k, hk, rfl, hai, hq⟩ := hrel
        have HAI := Lib.hid hai
        have HQ := Lib.hid hq
        have hdr : Below w.heap.size w wr := by obtain ⟨q, rfl⟩ := hq; exact bdrewN w q
        clear hai hq
        by_cases hkl : k < i
        · have hkl' : (k : Int) < i := by omega
          have hkn : (k : Int) < n := by omega
          have ci := (hdr.cell (p := ⟨b, off + i, none⟩) hb).trans (HC.out i hlt)
          have ck := (hdr.cell (p := ⟨b, off + k, none⟩) hb).trans (HC.out k (by omega))
          rw [List.getD_eq_getElem?_getD] at ci ck
          clear hdr
          cases al with
          | true =>
            cases hv : (ms[i]?.getD 0 == ms[k]?.getD 0) with
            | true =>
              have HI : Hid (apAll ms c true = false) := apAll_no (by rw [← hl.out]; exact hlt) hkl (by unfold apB; rw [Bool.true_or, Bool.true_and]; simpa using hv)
              go_wp2
              go_quiet (fail)
              go_wp2
              go_ret
              exact ⟨by rw [HI.out]; rfl, drews HQ.out _⟩
            | false =>
              have HN : Hid (apB ms c true i k = false) := by show apB ms c _ i k = false; unfold apB; rw [Bool.true_or, Bool.true_and]; simpa using hv
              go_wp2
              go_quiet (fail)
              go_wp2
              go_roundw
              case rel =>
                refine ⟨k + 1, by omega, by go_num, fun j hj => ?_, drews HQ.out _⟩
                rcases Nat.lt_succ_iff_lt_or_eq.1 hj with h | rfl
                · exact HAI.out j h
                · exact HN
              case measure => simp [intOf]; omega
          | false =>
            cases hbi : c.testBit i with
            | true =>
              have HBI := Lib.hid hbi
              clear hbi
              have HN : Hid (apB ms c false i k = false) := by show apB ms c _ i k = false; unfold apB; rw [HBI.out]; rfl
              go_wp2_with fail
              refine (sbitN true c i _ _ hc rfl (by omega) HBI.out).mono ?_
              rintro e w' ⟨rfl, rfl⟩
              go_wp2
              go_quiet (fail)
              go_wp2
              go_roundw
              case rel =>
                refine ⟨k + 1, by omega, by go_num, fun j hj => ?_, drews HQ.out _⟩
                rcases Nat.lt_succ_iff_lt_or_eq.1 hj with h | rfl
                · exact HAI.out j h
                · exact HN
              case measure => simp [intOf]; omega
            | false =>
              have HBI := Lib.hid hbi
              clear hbi
              cases hbk : c.testBit k with
              | true =>
                have HBK := Lib.hid hbk
                clear hbk
                have HN : Hid (apB ms c false i k = false) := by show apB ms c _ i k = false; unfold apB; rw [HBI.out, HBK.out]; rfl
                go_wp2_with fail
                refine (sbitN false c i _ _ hc rfl (by omega) HBI.out).mono ?_
                rintro e w' ⟨rfl, rfl⟩
                go_wp2_with fail
                refine (sbitN true c k _ _ hc rfl (by omega) HBK.out).mono ?_
                rintro e w' ⟨rfl, rfl⟩
                go_wp2
                go_quiet (fail)
                go_wp2
                go_roundw
                case rel =>
                  refine ⟨k + 1, by omega, by go_num, fun j hj => ?_, drews HQ.out _⟩
                  rcases Nat.lt_succ_iff_lt_or_eq.1 hj with h | rfl
                  · exact HAI.out j h
                  · exact HN
                case measure => simp [intOf]; omega
              | false =>
                have HBK := Lib.hid hbk
                clear hbk
                cases hv : (ms[i]?.getD 0 == ms[k]?.getD 0) with
                | true =>
                  have HI : Hid (apAll ms c false = false) := apAll_no (by rw [← hl.out]; exact hlt) hkl (by unfold apB; rw [HBI.out, HBK.out, Bool.not_false, Bool.and_self, Bool.or_true, Bool.true_and]; simpa using hv)
                  go_wp2_with fail
                  refine (sbitN false c i _ _ hc rfl (by omega) HBI.out).mono ?_
                  rintro e w' ⟨rfl, rfl⟩
                  go_wp2_with fail
                  refine (sbitN false c k _ _ hc rfl (by omega) HBK.out).mono ?_
                  rintro e w' ⟨rfl, rfl⟩
                  go_wp2
                  go_quiet (fail)
                  go_wp2
                  go_ret
                  exact ⟨by rw [HI.out]; rfl, drews HQ.out _⟩
                | false =>
                  have HN : Hid (apB ms c false i k = false) := by show apB ms c _ i k = false; unfold apB; rw [HBI.out, HBK.out, Bool.not_false, Bool.and_self, Bool.or_true, Bool.true_and]; simpa using hv
                  go_wp2_with fail
                  refine (sbitN false c i _ _ hc rfl (by omega) HBI.out).mono ?_
                  rintro e w' ⟨rfl, rfl⟩
                  go_wp2_with fail
                  refine (sbitN false c k _ _ hc rfl (by omega) HBK.out).mono ?_
                  rintro e w' ⟨rfl, rfl⟩
                  go_wp2
                  go_quiet (fail)
                  go_wp2
                  go_roundw
                  case rel =>
                    refine ⟨k + 1, by omega, by go_num, fun j hj => ?_, drews HQ.out _⟩
                    rcases Nat.lt_succ_iff_lt_or_eq.1 hj with h | rfl
                    · exact HAI.out j h
                    · exact HN
                  case measure => simp [intOf]; omega
        · obtain rfl : k = i := by omega
          clear hdr
          go_wp2
          go_roundw
          case rel =>
            refine ⟨k + 1, by omega, by go_num, fun j hj => ?_, HQ.out⟩
            rcases Nat.lt_succ_iff_lt_or_eq.1 hj with h | rfl
            · exact HAG.out j h
            · exact fun m hm => (HAI.out m hm).out
          case measure => simp [intOf]; omega
    · obtain rfl : i = n := by omega
      have HI : Hid (apAll ms c al = true) := by
        show apAll ms c al = true
        unfold apAll
        rw [List.all_eq_true]
        intro j hj
        rw [List.all_eq_true]
        intro k hk
        rw [(HAG.out j (by rw [hl.out]; exact List.mem_range.1 hj)).out k (List.mem_range.1 hk)]; rfl
      go_wp2
      go_ret
      exact ⟨by rw [HI.out]; rfl, HQ0.out⟩
end Go.Proofs.Ytipimkfmkdihpaa
