/- Small functions that the codes use. -/
import Derived.Test.YtpllijjocccaaaaCodeM
import Derived.Test.YtpllijjocccaaaaCount
import Derived.Test.YtpllijjocccaaaaSVec
namespace Go.Proofs.Ytpllijjocccaaaa
open Go.RowKit Go.Shelf
attribute [local go_sem] Oper.semAt_some

theorem at_ne {zs : List Int} {u : Int} {k : Nat} (h : (u == zs[k]?.getD 0) = false) : decide (zs[k]?.getD 0 = u) = false := decide_eq_false fun e => by rw [e] at h; simp at h
theorem at_eq {zs : List Int} {u : Int} {k : Nat} (h : (u == zs[k]?.getD 0) = true) : decide (zs[k]?.getD 0 = u) = true := decide_eq_true (by simpa using h : u = zs[k]?.getD 0).symm
set_option maxRecDepth 100000 in
set_option maxHeartbeats 1000000 in
theorem index_any (a : Option Addr) (n cap : Nat) (zs : List Int) (u : Int) (w : World) (hs : SlAt w a n zs) :
    Calls Try.prog 88 #[.slice a n cap, .int .i64 u] w fun e w' => e = .returned (.int .i64 (idxOf zs u)) ∧ w = w' := by
  have hl := Lib.hid hs.len
  have hbd := hs.bd
  go_enter Try.func88, Try.ntmps88
  go_wp2
  go_loop [8] (fun p => ∃ k : Nat, k ≤ n ∧ p = .int .i64 k ∧ ∀ j, j < k → Hid (decide (zs[j]?.getD 0 = u) = false)) (fun p => n - (intOf p).toNat)
  case atStart => exact ⟨0, by omega, rfl, fun j hj => absurd hj (Nat.not_lt_zero j)⟩
  case round =>
    obtain ⟨k, hk, rfl, hag⟩ := hrel
    have HAG := Lib.hid hag
    clear hag
    by_cases hlt : k < n
    · obtain ⟨b, off, rfl, hb, hc⟩ := hs.at' (by omega)
      have hlt' : (k : Int) < n := by omega
      have hx := hc k hlt
      rw [List.getD_eq_getElem?_getD] at hx
      clear hc
      cases hv : (u == zs[k]?.getD 0) with
      | true =>
        have HI : Hid (idxOf zs u = k) := idxBy_hit (by rw [← hl.out]; exact hlt) (at_eq hv) fun j hj => (HAG.out j hj).out
        go_wp2
        go_ret
        exact ⟨by rw [HI.out]; rfl, rfl⟩
      | false =>
        have HN : Hid (decide (zs[k]?.getD 0 = u) = false) := at_ne hv
        go_wp2
        go_round
        case rel =>
          refine ⟨k + 1, by omega, by go_num, fun j hj => ?_⟩
          rcases Nat.lt_succ_iff_lt_or_eq.1 hj with h | rfl
          · exact HAG.out j h
          · exact HN
        case measure => simp [intOf]; omega
    · obtain rfl : n = k := by omega
      have HI : Hid (idxOf zs u = -1) := idxBy_miss fun j hj => (HAG.out j (by rw [hl.out]; exact hj)).out
      go_wp2
      go_ret
      exact ⟨by rw [HI.out]; rfl, rfl⟩
set_option maxRecDepth 100000 in
theorem contains_any (a : Option Addr) (n cap : Nat) (zs : List Int) (u : Int) (w : World) (hs : SlAt w a n zs) :
    Calls Try.prog 96 #[.slice a n cap, .int .i64 u] w fun e w' => e = .returned (.bool (decide (0 ≤ idxOf zs u))) ∧ w = w' := by
  go_enter Try.func96, Try.ntmps96
  go_wp2_with (go_at_call 88; refine (index_any _ _ _ _ _ _ hs).mono ?_; rintro e w' ⟨rfl, rfl⟩)
  go_ret
  exact ⟨rfl, rfl⟩
theorem contains_is (v : Bool) (a : Option Addr) (n cap : Nat) (zs : List Int) (u : Int) (w : World) (hs : SlAt w a n zs) (h : decide (0 ≤ idxOf zs u) = v) :
    Calls Try.prog 96 #[.slice a n cap, .int .i64 u] w fun e w' => e = .returned (.bool v) ∧ w = w' := by subst h; exact contains_any a n cap zs u w hs
theorem cov_idx (zs : List Int) (c : Nat) : decide (0 ≤ idxOf (marksV zs c) 0) = !covB zs c := by
  have hat : ∀ i, i < zs.length → (marksV zs c)[i]?.getD 0 = markV zs c i := fun i hi => by
    rw [List.getElem?_eq_getElem (by rw [marksV_len]; exact hi)]; simp [marksV]
  rcases idxBy_cases (marksV zs c).length (fun i => decide ((marksV zs c)[i]?.getD 0 = 0)) with ⟨k, h1, h2, _, h4⟩ | ⟨h1, h2⟩
  · have e : covB zs c = false := by
      unfold covB
      rw [List.all_eq_false]
      rw [marksV_len] at h1
      rw [hat k h1] at h2
      exact ⟨k, List.mem_range.2 h1, by rw [h2]; simp⟩
    unfold idxOf
    rw [h4, e]; simp
  · have e : covB zs c = true := by
      unfold covB
      rw [List.all_eq_true]
      intro i hi
      have := h1 i (by rw [marksV_len]; exact List.mem_range.1 hi)
      rw [hat i (List.mem_range.1 hi)] at this
      rw [this]; rfl
    unfold idxOf
    rw [h2, e]; simp
set_option maxRecDepth 100000 in
theorem isKind_is (v : Bool) (k : Int) (w : World) (h : kindB k = v) : Calls Try.prog 55 #[.int .i64 k] w fun e w' => e = .returned (.bool v) ∧ w = w' := by
  have H : Hid ((decide (0 ≤ k) && decide (k ≤ 3)) = v) := h
  clear h
  go_enter Try.func55, Try.ntmps55
  go_wp2_with (go_at_call 91; refine (in_is v _ _ _ _ H.out).mono ?_; rintro e w' ⟨rfl, rfl⟩)
  go_ret
  exact ⟨rfl, rfl⟩
end Go.Proofs.Ytpllijjocccaaaa
