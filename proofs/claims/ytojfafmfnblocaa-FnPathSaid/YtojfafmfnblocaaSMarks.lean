/- Marks of a code: the reference. -/
import Derived.Test.YtojfafmfnblocaaBook
namespace Go.Proofs.Ytojfafmfnblocaa
open Go.RowKit Go.Shelf

/-- the mark of node i under the code c -/
def markV (zs : List Int) (c i : Nat) : Int := (((ballV zs i).toNat &&& c : Nat) : Int)
def marksV (zs : List Int) (c : Nat) : List Int := (List.range zs.length).map (markV zs c)
theorem marksV_len (zs : List Int) (c : Nat) : (marksV zs c).length = zs.length := by simp [marksV]
theorem marksV_take {zs : List Int} {c k : Nat} (hk : k < zs.length) : (marksV zs c).take k ++ [markV zs c k] = (marksV zs c).take (k + 1) := by
  unfold marksV
  rw [← List.map_take, ← List.map_take, List.take_range, List.take_range, Nat.min_eq_left (Nat.le_of_lt hk), Nat.min_eq_left hk, List.range_succ, List.map_append]; rfl
theorem ballV_bd {zs : List Int} {n k : Nat} (hG : IsG n zs) (hk : k < n) : 0 ≤ ballV zs k ∧ ballV zs k < 4096 := by
  obtain ⟨q1, q2, _⟩ := hG.ok k hk
  have h12 := hG.le
  refine ⟨Int.natCast_nonneg _, ?_⟩
  have : (zs[k]?.getD 0).toNat ||| 2 ^ k < 2 ^ 12 := Nat.or_lt_two_pow (by omega) (Nat.pow_lt_pow_right (by omega) (by omega))
  unfold ballV; omega
theorem mark_bits {zs : List Int} {n c k : Nat} (hG : IsG n zs) (hk : k < n) (hc : c < 4096) : bits BinOp.and IntKind.i64 (ballV zs k) (c : Int) = markV zs c k := by
  have h := ballV_bd hG hk
  rw [i64_and _ _ h.1 (by omega) (by omega) (by omega)]; rfl
/-- which sets are sets of nodes of a graph -/
def fitsB (zs : List Int) (c : Int) : Bool := graphB zs && (decide (0 ≤ c) && decide (c < 2 ^ zs.length))
theorem fits_bd {zs : List Int} {c : Int} (h : fitsB zs c = true) : graphB zs = true ∧ ∃ s : Nat, c = s ∧ s < 2 ^ zs.length ∧ s < 4096 := by
  simp only [fitsB, Bool.and_eq_true, decide_eq_true_eq] at h
  obtain ⟨hg, h0, h1⟩ := h
  have hb := graphB_bd hg
  obtain ⟨s, rfl⟩ := Int.eq_ofNat_of_zero_le h0
  have e := pow_int zs.length
  have h2 : s < 2 ^ zs.length := by omega
  have h3 : 2 ^ zs.length ≤ 2 ^ 12 := Nat.pow_le_pow_right (by omega) hb.2
  exact ⟨hg, s, rfl, h2, by omega⟩
def CodeMarksR (zs : List Int) (c : Int) : List Int := if fitsB zs c then marksV zs c.toNat else []
theorem CodeMarks_small {zs : List Int} {c : Int} : (CodeMarksR zs c).length ≤ 4096 := by
  unfold CodeMarksR
  split
  · rename_i h
    have := graphB_bd (fits_bd h).1
    rw [marksV_len]; omega
  · simp

set_option maxRecDepth 100000 in
set_option maxHeartbeats 1000000 in
theorem marks_any (B n : Nat) (zs : List Int) (c : Nat) (w : World) (hB : BookAt w B n zs) (hG : IsG n zs) (hc : c < 4096) :
    Calls Try.prog 96 #[.pointer (some ⟨B, 0, none⟩), .int .i64 c] w fun e w' => ∃ a' c', e = .returned (.slice a' n c') ∧ Arr w' w.heap.size a' n c' (marksV zs c) ∧ Below w.heap.size w w' := by
  obtain ⟨a, cap, ab, cb, af, cf, hK, hS, hSb, hF⟩ := hB.fields
  have hn2 := hG.le
  obtain ⟨bb, ob, rfl, hbb, hcb⟩ := hSb.at' hG.pos
  have c1 := hK.cell1
  have HC := Lib.hid hcb
  have hl := Lib.hid hG.len
  clear hcb hK hS hSb hF hB
  go_enter Try.func96, Try.ntmps96
  go_wp2
  clear c1
  go_loopw [5, 13] (fun u p wr => ∃ (k : Nat) (a' : Option Addr) (c' : Nat), k ≤ n ∧ p = .int .i64 k ∧ u = .slice a' k c' ∧ Arr wr w.heap.size a' k c' ((marksV zs c).take k) ∧ Below w.heap.size w wr) (fun _ p _ => 12 - (intOf p).toNat)
  case atStart => exact ⟨0, _, _, by omega, rfl, rfl, ⟨World.ownsRow_nil _ _ _ _, rfl⟩, Below.refl _ _⟩
  case round =>
    obtain ⟨k, a', c', hk, rfl, rfl, hA, hB⟩ := hrel
    by_cases hlt : k < n
    · have hlt' : (k : Int) < n := by omega
      have hx := (hB.cell (p := ⟨bb, ob + k, none⟩) hbb).trans (HC.out k hlt)
      rw [List.getD_eq_getElem?_getD, ballsV_at (by rw [← hl.out]; exact hlt)] at hx
      have e1 := mark_bits hG hlt hc
      have hsz := hB.size
      have HT := Lib.hid (marksV_take (zs := zs) (c := c) (k := k) (by rw [← hl.out]; exact hlt))
      go_wp2_with (at_builtin; refine wpList_append1 (W := wr.alloc (.cells #[.int .i64 (markV zs c k)] 3)) (g0 := wr.heap.size) (u := markV zs c k) 23 under_ints rfl (.tmp 17) (.tmp 21) rfl rfl (hA.alloc _) rfl (cell_new _ _ _) (by simp; omega) (by omega) ?_; intro g c2 w2 hA2 hS2)
      rw [HT.out] at hA2
      have hS3 : Below w.heap.size w w2 := sbelow (hB.alloc hsz _) hS2 (blk_lo hA) (by simp; omega)
      clear hS2 hA hB
      go_wp2
      go_roundw
      case rel => exact ⟨k + 1, _, _, by omega, by go_num, rfl, hA2, hS3⟩
      case measure => simp [intOf]; omega
    · obtain rfl : k = n := by omega
      go_wp2
      go_ret
      exact ⟨_, _, rfl, by rw [show marksV zs c = (marksV zs c).take k from (List.take_of_length_le (by rw [marksV_len, ← hl.out]; exact Nat.le_refl _)).symm]; exact hA, hB⟩
set_option maxRecDepth 100000 in
theorem isSet_is (v : Bool) (s : Int) (n : Nat) (w : World) (hn : n < 62) (h : (decide (0 ≤ s) && decide (s < 2 ^ n)) = v) : Calls Try.prog 60 #[.int .i64 s, .int .i64 n] w fun e w' => e = .returned (.bool v) ∧ w = w' := by
  subst h; exact isSet_any s n (by omega) (by omega) w
end Go.Proofs.Ytojfafmfnblocaa
namespace Go.Proofs.Ytojfafmfnblocaa
open Go.RowKit Go.Shelf

theorem Arr.empty' {w : World} {lo : Nat} (h : lo ≤ w.heap.size) : Arr (w.alloc (.cells #[] 3)) lo (some ⟨w.heap.size, 0, none⟩) 0 0 [] := ⟨World.ownsRow_lit w #[] 0 h (by omega) rfl, rfl⟩
end Go.Proofs.Ytojfafmfnblocaa
