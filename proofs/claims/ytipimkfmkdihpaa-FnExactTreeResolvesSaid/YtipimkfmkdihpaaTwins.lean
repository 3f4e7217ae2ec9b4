/- Twins. -/
import Derived.Test.YtipimkfmkdihpaaPair
namespace Go.Proofs.Ytipimkfmkdihpaa
open Go.RowKit Go.Shelf

theorem ball_at (b off n cap : Nat) (zs : List Int) (k : Nat) (i : Int) (w : World) (q0 : Nat) (hG : IsG n zs) (hc : ∀ j, j < n → w.cell? ⟨b, off + j, none⟩ = some (.int .i64 (zs.getD j 0))) (hi : i = (k : Int)) (hk : k < n) :
    Calls Try.prog 97 #[.slice (some ⟨b, off, none⟩) n cap, .int .i64 i] (w.drewN q0) fun e w' => e = .returned (.int .i64 (ballV zs k)) ∧ ∃ q, w' = w.drewN q := by
  subst hi
  refine (ball_any b off n cap zs k (w.drewN q0) hG hc (by omega) (by omega)).mono ?_
  rintro e w' ⟨rfl, q, rfl⟩
  exact ⟨by rw [Int.toNat_natCast], q0 + q, by rw [World.drewN_drewN]⟩
/-- the twins of node i among the m nodes after it -/
def twRow (zs : List Int) (i m : Nat) : List (List Int) := ((List.range m).filter fun k => ballV zs i == ballV zs (i + 1 + k)).map fun k => [(i : Int), ((i + 1 + k : Nat) : Int)]
def twTo (zs : List Int) (i : Nat) : List (List Int) := (List.range i).flatMap fun j => twRow zs j (zs.length - j - 1)
def twV (zs : List Int) : List (List Int) := twTo zs zs.length
theorem twRow_yes {zs : List Int} {i m : Nat} (h : ballV zs i = ballV zs (i + 1 + m)) : twRow zs i (m + 1) = twRow zs i m ++ [[(i : Int), ((i + 1 + m : Nat) : Int)]] := by
  simp [twRow, List.range_succ, List.filter_append, h]
theorem twRow_no {zs : List Int} {i m : Nat} (h : ¬ ballV zs i = ballV zs (i + 1 + m)) : twRow zs i (m + 1) = twRow zs i m := by
  simp [twRow, List.range_succ, List.filter_append, h]
theorem twTo_succ (zs : List Int) (i : Nat) : twTo zs (i + 1) = twTo zs i ++ twRow zs i (zs.length - i - 1) := by
  simp [twTo, List.range_succ]
theorem twRow_len (zs : List Int) (i m : Nat) : (twRow zs i m).length ≤ m := by
  unfold twRow; rw [List.length_map]; exact Nat.le_trans (List.length_filter_le _ _) (by simp)
theorem twTo_len (zs : List Int) (i : Nat) : (twTo zs i).length ≤ i * zs.length := by
  induction i with
  | zero => simp [twTo]
  | succ i ih => rw [twTo_succ, List.length_append, Nat.succ_mul]; have := twRow_len zs i (zs.length - i - 1); omega
def GraphTwinsR (zs : List Int) : List (List Int) := if graphB zs then twV zs else []

theorem totLen_two {zs : List (List Int)} (h : ∀ r ∈ zs, r.length = 2) : totLen zs = 2 * zs.length := by
  unfold totLen
  induction zs with
  | nil => rfl
  | cons x xs ih =>
    rw [List.map_cons, List.sum_cons, ih fun r hr => h r (List.mem_cons_of_mem _ hr), h x List.mem_cons_self, List.length_cons]; omega
theorem GraphTwins_small {zs : List Int} : (GraphTwinsR zs).length ≤ 4096 ∧ totLen (GraphTwinsR zs) ≤ 4096 := by
  unfold GraphTwinsR
  cases hg : graphB zs with
  | false => simp [totLen]
  | true =>
    have hG := isG_of hg
    have h1 := twTo_len zs zs.length
    have h2 : zs.length * zs.length ≤ 12 * 12 := Nat.mul_le_mul hG.le hG.le
    have h3 : totLen (twV zs) = 2 * (twV zs).length := totLen_two fun r hr => by
      simp only [twV, twTo, twRow, List.mem_flatMap, List.mem_map] at hr
      obtain ⟨_, _, _, _, rfl⟩ := hr; rfl
    unfold twV at h3 ⊢
    simp only [if_true]
    omega
end Go.Proofs.Ytipimkfmkdihpaa
