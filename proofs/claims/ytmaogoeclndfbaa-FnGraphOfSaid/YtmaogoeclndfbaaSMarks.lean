/- Marks of a code: the reference. -/
import Derived.Test.YtmaogoeclndfbaaBook
namespace Go.Proofs.Ytmaogoeclndfbaa
open Go.RowKit Go.Shelf

/-- the mark of node i under the code c -/
def markV (zs : List Int) (c i : Nat) : Int := (((ballV zs i).toNat &&& c : Nat) : Int)
def marksV (zs : List Int) (c : Nat) : List Int := (List.range zs.length).map (markV zs c)
theorem marksV_len (zs : List Int) (c : Nat) : (marksV zs c).length = zs.length := by simp [marksV]
theorem marksV_take {zs : List Int} {c k : Nat} (hk : k < zs.length) : (marksV zs c).take k ++ [markV zs c k] = (marksV zs c).take (k + 1) := by
  unfold marksV
  rw [← List.map_take, ← List.map_take, List.take_range, List.take_range, Nat.min_eq_left (Nat.le_of_lt hk), Nat.min_eq_left hk, List.range_succ, List.map_append]; rfl
theorem ballV_bd {zs : List Int} {n k : Nat} (hG : IsG n zs) (hk : k < n) : 0 ≤ ballV zs k ∧ ballV zs k < 4096 := by
  obtain ⟨q1, q2, _⟩ := hG.ok k hk
  have h12 := hG.le
  refine ⟨Int.natCast_nonneg _, ?_⟩
  have : (zs[k]?.getD 0).toNat ||| 2 ^ k < 2 ^ 12 := Nat.or_lt_two_pow (by omega) (Nat.pow_lt_pow_right (by omega) (by omega))
  unfold ballV; omega
theorem mark_bits {zs : List Int} {n c k : Nat} (hG : IsG n zs) (hk : k < n) (hc : c < 4096) : bits BinOp.and IntKind.i64 (ballV zs k) (c : Int) = markV zs c k := by
  have h := ballV_bd hG hk
  rw [i64_and _ _ h.1 (by omega) (by omega) (by omega)]; rfl
/-- which sets are sets of nodes of a graph -/
def fitsB (zs : List Int) (c : Int) : Bool := graphB zs && (decide (0 ≤ c) && decide (c < 2 ^ zs.length))
theorem fits_bd {zs : List Int} {c : Int} (h : fitsB zs c = true) : graphB zs = true ∧ ∃ s : Nat, c = s ∧ s < 2 ^ zs.length ∧ s < 4096 := by
  simp only [fitsB, Bool.and_eq_true, decide_eq_true_eq] at h
  obtain ⟨hg, h0, h1⟩ := h
  have hb := graphB_bd hg
  obtain ⟨s, rfl⟩ := Int.eq_ofNat_of_zero_le h0
  have e := pow_int zs.length
  have h2 : s < 2 ^ zs.length := by omega
  have h3 : 2 ^ zs.length ≤ 2 ^ 12 := Nat.pow_le_pow_right (by omega) hb.2
  exact ⟨hg, s, rfl, h2, by omega⟩
def CodeMarksR (zs : List Int) (c : Int) : List Int := if fitsB zs c then marksV zs c.toNat else []
theorem CodeMarks_small {zs : List Int} {c : Int} : (CodeMarksR zs c).length ≤ 4096 := by
  unfold CodeMarksR
  split
  · rename_i h
    have := graphB_bd (fits_bd h).1
    rw [marksV_len]; omega
  · simp

set_option maxRecDepth 100000 in
theorem isSet_is (v : Bool) (s : Int) (n : Nat) (w : World) (hn : n < 62) (h : (decide (0 ≤ s) && decide (s < 2 ^ n)) = v) : Calls Try.prog 15 #[.int .i64 s, .int .i64 n] w fun e w' => e = .returned (.bool v) ∧ w = w' := by
  subst h; exact isSet_any s n (by omega) (by omega) w
end Go.Proofs.Ytmaogoeclndfbaa
namespace Go.Proofs.Ytmaogoeclndfbaa
open Go.RowKit Go.Shelf

theorem Arr.empty' {w : World} {lo : Nat} (h : lo ≤ w.heap.size) : Arr (w.alloc (.cells #[] 3)) lo (some ⟨w.heap.size, 0, none⟩) 0 0 [] := ⟨World.ownsRow_lit w #[] 0 h (by omega) rfl, rfl⟩
end Go.Proofs.Ytmaogoeclndfbaa
