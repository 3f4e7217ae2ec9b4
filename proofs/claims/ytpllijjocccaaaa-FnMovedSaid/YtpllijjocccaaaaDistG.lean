/- GraphDistances and GraphConnected of the program and of the reference. -/
import Derived.Test.YtpllijjocccaaaaSDist
namespace Go.Proofs.Ytpllijjocccaaaa
open Go.RowKit Go.Shelf

set_option maxRecDepth 100000 in
theorem in_is (v : Bool) (n lo hi : Int) (w : World) (h : (decide (lo ≤ n) && decide (n ≤ hi)) = v) : Calls Try.prog 91 #[.int .i64 n, .int .i64 lo, .int .i64 hi] w fun e w' => e = .returned (.bool v) ∧ w = w' := by
  subst h; exact in_any n lo hi w
set_option maxRecDepth 100000 in
theorem isNode_is (v : Bool) (a : Option Addr) (n cap : Nat) (x : Int) (w : World) (hn : n ≤ 9223372036854775807) (h : (decide (0 ≤ x) && decide (x < n)) = v) :
    Calls Try.prog 83 #[.slice a n cap, .int .i64 x] w fun e w' => e = .returned (.bool v) ∧ w = w' := by
  have h' : (decide (0 ≤ x) && decide (x ≤ (n : Int) - 1)) = v := by
    rw [← h]; congr 1; exact decide_eq_decide.2 (by omega)
  have H := Lib.hid h'
  clear h h'
  go_enter Try.func83, Try.ntmps83
  go_wp2_with (go_at_call 91; refine (in_is v _ _ _ _ H.out).mono ?_; rintro e w' ⟨rfl, rfl⟩)
  go_ret
  exact ⟨rfl, rfl⟩
set_option maxRecDepth 100000 in
theorem sin_any (n lo hi : Int) (w : World) : Calls Try.prog 86 #[.int .i64 n, .int .i64 lo, .int .i64 hi] w fun e w' => e = .returned (.bool (decide (lo ≤ n) && decide (n ≤ hi))) ∧ w = w' := by
  by_cases h : lo ≤ n ∧ n ≤ hi
  · have e : (decide (lo ≤ n) && decide (n ≤ hi)) = true := by simp [h]
    rw [e]; exact sin_yes n lo hi h.1 h.2 w
  · have e : (decide (lo ≤ n) && decide (n ≤ hi)) = false := by simp; omega
    rw [e]; exact sin_no n lo hi h w
theorem sin_is (v : Bool) (n lo hi : Int) (w : World) (h : (decide (lo ≤ n) && decide (n ≤ hi)) = v) : Calls Try.prog 86 #[.int .i64 n, .int .i64 lo, .int .i64 hi] w fun e w' => e = .returned (.bool v) ∧ w = w' := by
  subst h; exact sin_any n lo hi w

def distOk (zs : List Int) (x : Int) : Bool := graphB zs && (decide (0 ≤ x) && decide (x < zs.length))
def GraphDistancesR (zs : List Int) (x : Int) : List Int := if distOk zs x then distsV zs x.toNat else []
theorem GraphDistances_small {zs : List Int} {x : Int} : (GraphDistancesR zs x).length ≤ 4096 := by
  unfold GraphDistancesR
  split
  · rename_i h
    rw [distsV_len]
    simp only [distOk, Bool.and_eq_true] at h
    have := graphB_bd h.1; omega
  · simp
theorem distOk_yes {zs : List Int} {x : Int} (hg : graphB zs = true) (hv : (decide (0 ≤ x) && decide (x < zs.length)) = true) : distOk zs x = true ∧ GraphDistancesR zs x = distsV zs x.toNat := by
  have h : distOk zs x = true := by rw [distOk, hg, hv]; rfl
  exact ⟨h, by rw [GraphDistancesR, if_pos h]⟩
theorem distOk_no {zs : List Int} {x : Int} (h : distOk zs x = false) : GraphDistancesR zs x = [] := by rw [GraphDistancesR, h]; rfl

/-- is the graph connected -/
def connB (zs : List Int) : Bool := graphB zs && (List.range zs.length).all fun x => decide (distV zs 0 x ≠ 12)
theorem conn_no {zs : List Int} {k : Nat} (hk : k < zs.length) (h : distV zs 0 k = 12) : connB zs = false := by
  unfold connB
  rw [Bool.and_eq_false_iff]; right
  rw [List.all_eq_false]
  exact ⟨k, List.mem_range.2 hk, by simp [h]⟩
theorem conn_yes {zs : List Int} (hg : graphB zs = true) (h : ∀ k, k < zs.length → distV zs 0 k ≠ 12) : connB zs = true := by
  unfold connB
  rw [hg, Bool.true_and, List.all_eq_true]
  exact fun x hx => by simpa using h x (List.mem_range.1 hx)
end Go.Proofs.Ytpllijjocccaaaa
