/- GraphDistances and GraphConnected of the program and of the reference. -/
import Derived.Test.YtipimkfmkdihpaaSDist
namespace Go.Proofs.Ytipimkfmkdihpaa
open Go.RowKit Go.Shelf

set_option maxRecDepth 100000 in
theorem in_is (v : Bool) (n lo hi : Int) (w : World) (h : (decide (lo ≤ n) && decide (n ≤ hi)) = v) : Calls Try.prog 87 #[.int .i64 n, .int .i64 lo, .int .i64 hi] w fun e w' => e = .returned (.bool v) ∧ w = w' := by
  subst h; exact in_any n lo hi w
set_option maxRecDepth 100000 in
theorem sin_any (n lo hi : Int) (w : World) : Calls Try.prog 80 #[.int .i64 n, .int .i64 lo, .int .i64 hi] w fun e w' => e = .returned (.bool (decide (lo ≤ n) && decide (n ≤ hi))) ∧ w = w' := by
  by_cases h : lo ≤ n ∧ n ≤ hi
  · have e : (decide (lo ≤ n) && decide (n ≤ hi)) = true := by simp [h]
    rw [e]; exact sin_yes n lo hi h.1 h.2 w
  · have e : (decide (lo ≤ n) && decide (n ≤ hi)) = false := by simp; omega
    rw [e]; exact sin_no n lo hi h w
theorem sin_is (v : Bool) (n lo hi : Int) (w : World) (h : (decide (lo ≤ n) && decide (n ≤ hi)) = v) : Calls Try.prog 80 #[.int .i64 n, .int .i64 lo, .int .i64 hi] w fun e w' => e = .returned (.bool v) ∧ w = w' := by
  subst h; exact sin_any n lo hi w

def distOk (zs : List Int) (x : Int) : Bool := graphB zs && (decide (0 ≤ x) && decide (x < zs.length))
def GraphDistancesR (zs : List Int) (x : Int) : List Int := if distOk zs x then distsV zs x.toNat else []
theorem GraphDistances_small {zs : List Int} {x : Int} : (GraphDistancesR zs x).length ≤ 4096 := by
  unfold GraphDistancesR
  split
  · rename_i h
    rw [distsV_len]
    simp only [distOk, Bool.and_eq_true] at h
    have := graphB_bd h.1; omega
  · simp
theorem distOk_yes {zs : List Int} {x : Int} (hg : graphB zs = true) (hv : (decide (0 ≤ x) && decide (x < zs.length)) = true) : distOk zs x = true ∧ GraphDistancesR zs x = distsV zs x.toNat := by
  have h : distOk zs x = true := by rw [distOk, hg, hv]; rfl
  exact ⟨h, by rw [GraphDistancesR, if_pos h]⟩
theorem distOk_no {zs : List Int} {x : Int} (h : distOk zs x = false) : GraphDistancesR zs x = [] := by rw [GraphDistancesR, h]; rfl

/-- is the graph connected -/
def connB (zs : List Int) : Bool := graphB zs && (List.range zs.length).all fun x => decide (distV zs 0 x ≠ 12)
theorem conn_no {zs : List Int} {k : Nat} (hk : k < zs.length) (h : distV zs 0 k = 12) : connB zs = false := by
  unfold connB
  rw [Bool.and_eq_false_iff]; right
  rw [List.all_eq_false]
  exact ⟨k, List.mem_range.2 hk, by simp [h]⟩
theorem conn_yes {zs : List Int} (hg : graphB zs = true) (h : ∀ k, k < zs.length → distV zs 0 k ≠ 12) : connB zs = true := by
  unfold connB
  rw [hg, Bool.true_and, List.all_eq_true]
  exact fun x hx => by simpa using h x (List.mem_range.1 hx)
set_option maxRecDepth 100000 in
set_option maxHeartbeats 2000000 in
theorem GraphConnected_any (a : Option Addr) (n cap : Nat) (zs : List Int) (w : World) (hs : SlAt w a n zs) :
    Calls Try.prog 45 #[.slice a n cap] w fun e w' => e = .returned (.bool (connB zs)) ∧ Below w.heap.size w w' := by
  cases hg : graphB zs with
  | false =>
    have HO := Lib.hid (show connB zs = false by rw [connB, hg]; rfl)
    have HG := Lib.hid hg
    clear hg
    go_enter Try.func45, Try.ntmps45
    go_wp2_with (go_at_call 57; refine (GraphIn_is false _ _ _ _ _ hs HG.out).mono ?_; rintro e w1 ⟨rfl, hb1⟩)
    go_ret
    exact ⟨by rw [HO.out]; rfl, hb1⟩
  | true =>
    have hG := isG_of hg
    have HG := Lib.hid hg
    have HZ := Lib.hid hs.len
    rw [← hs.len] at hG
    have hn1 := hG.pos
    have hn2 := hG.le
    obtain ⟨b, off, rfl, hb, hc⟩ := hs.at' hG.pos
    clear hg
    go_enter Try.func45, Try.ntmps45
    go_wp2_with (go_at_call 57; refine (GraphIn_is true _ _ _ _ _ hs HG.out).mono ?_; rintro e w1 ⟨rfl, hb1⟩)
    refine (distances_any b off n cap zs 0 _ hG (Nat.lt_of_lt_of_le hb hb1.size) (fun j hj => (hb1.cell (p := ⟨b, off + j, none⟩) hb).trans (hc j hj)) (by omega) (by omega)).mono ?_
    rintro e w3 ⟨g, c', rfl, hA, hb3⟩
    have hB := bnext hb1 hb3
    clear hc hb1 hb3
    go_wp2
    go_loop [11] (fun p => ∃ k : Nat, k ≤ n ∧ p = .int .i64 k ∧ ∀ j, j < k → Hid (distV zs 0 j ≠ 12)) (fun p => 12 - (intOf p).toNat)
    case atStart => exact ⟨0, by omega, rfl, by omega⟩
    case round =>
      obtain ⟨k, hk, rfl, hall⟩ := hrel
      have HA := Lib.hid hall
      clear hall
      by_cases hlt : k < n
      · have hlt' : (k : Int) < n := by omega
        have cx := hA.cellAt k hlt
        rw [List.getD_eq_getElem?_getD, show (0 : Int).toNat = 0 from rfl, distsV_at (by rw [← HZ.out]; exact hlt)] at cx
        go_wp2
        · have h : (distV zs 0 k == 12) = true := by assumption
          have h' : distV zs 0 k = 12 := by simpa using h
          go_ret
          exact ⟨by rw [conn_no (by rw [← HZ.out]; exact hlt) h']; rfl, hB⟩
        · have h : (distV zs 0 k == 12) = false := by assumption
          have h' : distV zs 0 k ≠ 12 := by simpa using h
          go_round
          case rel =>
            refine ⟨k + 1, by omega, by go_num, fun j hj => ?_⟩
            rcases Nat.lt_succ_iff_lt_or_eq.1 hj with h1 | rfl
            · exact HA.out j h1
            · exact h'
          case measure => simp [intOf]; omega
      · obtain rfl : n = k := by omega
        go_wp2
        go_ret
        exact ⟨by rw [conn_yes HG.out (fun j hj => HA.out j (by rw [HZ.out]; exact hj))]; rfl, hB⟩
set_option maxRecDepth 100000 in
set_option maxHeartbeats 2000000 in
theorem sl1Connected_any (b off n cap : Nat) (zs : List Int) (w : World) (hg : graphB zs = true) (hz : n = zs.length) (hb : b < w.heap.size) (hc : ∀ j, j < n → w.cell? ⟨b, off + j, none⟩ = some (.int .i64 (zs.getD j 0))) :
    Calls Try.prog 77 #[.slice (some ⟨b, off, none⟩) n cap] w fun e w' => e = .returned (.bool (connB zs)) ∧ Below w.heap.size w w' := by
  have hG := isG_of hg
  have HG := Lib.hid hg
  have HZ := Lib.hid hz
  rw [← hz] at hG
  have hn1 := hG.pos
  have hn2 := hG.le
  clear hg hz
  go_enter Try.func77, Try.ntmps77
  go_wp2_with fail
  refine (sl1Distances_any b off n cap zs 0 _ hG hb hc (by omega) (by omega)).mono ?_
  rintro e w3 ⟨g, c', rfl, hA, hB⟩
  clear hc
  go_wp2
  go_loop [4] (fun p => ∃ k : Nat, k ≤ n ∧ p = .int .i64 k ∧ ∀ j, j < k → Hid (distV zs 0 j ≠ 12)) (fun p => 12 - (intOf p).toNat)
  case atStart => exact ⟨0, by omega, rfl, by omega⟩
  case round =>
    obtain ⟨k, hk, rfl, hall⟩ := hrel
    have HA := Lib.hid hall
    clear hall
    by_cases hlt : k < n
    · have hlt' : (k : Int) < n := by omega
      have cx := hA.cellAt k hlt
      rw [List.getD_eq_getElem?_getD, show (0 : Int).toNat = 0 from rfl, distsV_at (by rw [← HZ.out]; exact hlt)] at cx
      go_wp2
      · have h : (distV zs 0 k == 12) = true := by assumption
        have h' : distV zs 0 k = 12 := by simpa using h
        go_ret
        exact ⟨by rw [conn_no (by rw [← HZ.out]; exact hlt) h']; rfl, hB⟩
      · have h : (distV zs 0 k == 12) = false := by assumption
        have h' : distV zs 0 k ≠ 12 := by simpa using h
        go_round
        case rel =>
          refine ⟨k + 1, by omega, by go_num, fun j hj => ?_⟩
          rcases Nat.lt_succ_iff_lt_or_eq.1 hj with h1 | rfl
          · exact HA.out j h1
          · exact h'
        case measure => simp [intOf]; omega
    · obtain rfl : n = k := by omega
      go_wp2
      go_ret
      exact ⟨by rw [conn_yes HG.out (fun j hj => HA.out j (by rw [HZ.out]; exact hj))]; rfl, hB⟩
set_option maxRecDepth 100000 in
set_option maxHeartbeats 2000000 in
theorem sGraphConnected_any (a : Option Addr) (n cap : Nat) (zs : List Int) (w : World) (hs : SlAt w a n zs) :
    Calls Try.prog 42 #[.slice a n cap] w fun e w' => e = .returned (.bool (connB zs)) ∧ Below w.heap.size w w' := by
  cases hg : graphB zs with
  | false =>
    have HO := Lib.hid (show connB zs = false by rw [connB, hg]; rfl)
    have HG := Lib.hid hg
    clear hg
    go_enter Try.func42, Try.ntmps42
    go_wp2_with (go_at_call 46; refine (sGraphIn_is false _ _ _ _ _ hs HG.out).mono ?_; rintro e w1 ⟨rfl, hb1⟩)
    go_ret
    exact ⟨by rw [HO.out]; rfl, hb1⟩
  | true =>
    have hG := isG_of hg
    have HG := Lib.hid hg
    rw [← hs.len] at hG
    have HZ := Lib.hid hs.len
    obtain ⟨b, off, rfl, hb, hc⟩ := hs.at' hG.pos
    clear hg
    go_enter Try.func42, Try.ntmps42
    go_wp2_with (go_at_call 46; refine (sGraphIn_is true _ _ _ _ _ hs HG.out).mono ?_; rintro e w1 ⟨rfl, hb1⟩)
    refine (sl1Connected_any b off n cap zs _ HG.out HZ.out (Nat.lt_of_lt_of_le hb hb1.size) (fun j hj => (hb1.cell (p := ⟨b, off + j, none⟩) hb).trans (hc j hj))).mono ?_
    rintro e w3 ⟨rfl, hb3⟩
    clear hc
    go_wp2
    go_ret
    exact ⟨rfl, bnext hb1 hb3⟩
end Go.Proofs.Ytipimkfmkdihpaa
