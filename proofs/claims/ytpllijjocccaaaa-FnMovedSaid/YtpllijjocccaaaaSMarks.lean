/- Marks of a code: the reference. -/
import Derived.Test.YtpllijjocccaaaaBook
namespace Go.Proofs.Ytpllijjocccaaaa
open Go.RowKit Go.Shelf

/-- the mark of node i under the code c -/
def markV (zs : List Int) (c i : Nat) : Int := (((ballV zs i).toNat &&& c : Nat) : Int)
def marksV (zs : List Int) (c : Nat) : List Int := (List.range zs.length).map (markV zs c)
theorem marksV_len (zs : List Int) (c : Nat) : (marksV zs c).length = zs.length := by simp [marksV]
theorem marksV_take {zs : List Int} {c k : Nat} (hk : k < zs.length) : (marksV zs c).take k ++ [markV zs c k] = (marksV zs c).take (k + 1) := by
  unfold marksV
  rw [← List.map_take, ← List.map_take, List.take_range, List.take_range, Nat.min_eq_left (Nat.le_of_lt hk), Nat.min_eq_left hk, List.range_succ, List.map_append]; rfl
theorem ballV_bd {zs : List Int} {n k : Nat} (hG : IsG n zs) (hk : k < n) : 0 ≤ ballV zs k ∧ ballV zs k < 4096 := by
  obtain ⟨q1, q2, _⟩ := hG.ok k hk
  have h12 := hG.le
  refine ⟨Int.natCast_nonneg _, ?_⟩
  have : (zs[k]?.getD 0).toNat ||| 2 ^ k < 2 ^ 12 := Nat.or_lt_two_pow (by omega) (Nat.pow_lt_pow_right (by omega) (by omega))
  unfold ballV; omega
theorem mark_bits {zs : List Int} {n c k : Nat} (hG : IsG n zs) (hk : k < n) (hc : c < 4096) : bits BinOp.and IntKind.i64 (ballV zs k) (c : Int) = markV zs c k := by
  have h := ballV_bd hG hk
  rw [i64_and _ _ h.1 (by omega) (by omega) (by omega)]; rfl
/-- which sets are sets of nodes of a graph -/
def fitsB (zs : List Int) (c : Int) : Bool := graphB zs && (decide (0 ≤ c) && decide (c < 2 ^ zs.length))
theorem fits_bd {zs : List Int} {c : Int} (h : fitsB zs c = true) : graphB zs = true ∧ ∃ s : Nat, c = s ∧ s < 2 ^ zs.length ∧ s < 4096 := by
  simp only [fitsB, Bool.and_eq_true, decide_eq_true_eq] at h
  obtain ⟨hg, h0, h1⟩ := h
  have hb := graphB_bd hg
  obtain ⟨s, rfl⟩ := Int.eq_ofNat_of_zero_le h0
  have e := pow_int zs.length
  have h2 : s < 2 ^ zs.length := by omega
  have h3 : 2 ^ zs.length ≤ 2 ^ 12 := Nat.pow_le_pow_right (by omega) hb.2
  exact ⟨hg, s, rfl, h2, by omega⟩
def CodeMarksR (zs : List Int) (c : Int) : List Int := if fitsB zs c then marksV zs c.toNat else []
theorem CodeMarks_small {zs : List Int} {c : Int} : (CodeMarksR zs c).length ≤ 4096 := by
  unfold CodeMarksR
  split
  · rename_i h
    have := graphB_bd (fits_bd h).1
    rw [marksV_len]; omega
  · simp

set_option maxRecDepth 100000 in
set_option maxHeartbeats 1000000 in
theorem marks_any (B n : Nat) (zs : List Int) (c : Nat) (w : World) (hB : BookAt w B n zs) (hG : IsG n zs) (hc : c < 4096) :
    Calls Try.prog 78 #[.pointer (some ⟨B, 0, none⟩), .int .i64 c] w fun e w' => ∃ a' c', e = .returned (.slice a' n c') ∧ Arr w' w.heap.size a' n c' (marksV zs c) ∧ Below w.heap.size w w' := by
  obtain ⟨a, cap, ab, cb, af, cf, hK, hS, hSb, hF⟩ := hB.fields
  have hn2 := hG.le
  obtain ⟨bb, ob, rfl, hbb, hcb⟩ := hSb.at' hG.pos
  have c1 := hK.cell1
  have HC := Lib.hid hcb
  have hl := Lib.hid hG.len
  clear hcb hK hS hSb hF hB
  go_enter Try.func78, Try.ntmps78
  go_wp2
  clear c1
  go_loopw [5, 13] (fun u p wr => ∃ (k : Nat) (a' : Option Addr) (c' : Nat), k ≤ n ∧ p = .int .i64 k ∧ u = .slice a' k c' ∧ Arr wr w.heap.size a' k c' ((marksV zs c).take k) ∧ Below w.heap.size w wr) (fun _ p _ => 12 - (intOf p).toNat)
  case atStart => exact ⟨0, _, _, by omega, rfl, rfl, ⟨World.ownsRow_nil _ _ _ _, rfl⟩, Below.refl _ _⟩
  case round =>
    obtain ⟨k, a', c', hk, rfl, rfl, hA, hB⟩ := hrel
    by_cases hlt : k < n
    · have hlt' : (k : Int) < n := by omega
      have hx := (hB.cell (p := ⟨bb, ob + k, none⟩) hbb).trans (HC.out k hlt)
      rw [List.getD_eq_getElem?_getD, ballsV_at (by rw [← hl.out]; exact hlt)] at hx
      have e1 := mark_bits hG hlt hc
      have hsz := hB.size
      have HT := Lib.hid (marksV_take (zs := zs) (c := c) (k := k) (by rw [← hl.out]; exact hlt))
      go_wp2_with (at_builtin; refine wpList_append1 (W := wr.alloc (.cells #[.int .i64 (markV zs c k)] 3)) (g0 := wr.heap.size) (u := markV zs c k) 23 under_ints rfl (.tmp 17) (.tmp 21) rfl rfl (hA.alloc _) rfl (cell_new _ _ _) (by simp; omega) (by omega) ?_; intro g c2 w2 hA2 hS2)
      rw [HT.out] at hA2
      have hS3 : Below w.heap.size w w2 := sbelow (hB.alloc hsz _) hS2 (blk_lo hA) (by simp; omega)
      clear hS2 hA hB
      go_wp2
      go_roundw
      case rel => exact ⟨k + 1, _, _, by omega, by go_num, rfl, hA2, hS3⟩
      case measure => simp [intOf]; omega
    · obtain rfl : k = n := by omega
      go_wp2
      go_ret
      exact ⟨_, _, rfl, by rw [show marksV zs c = (marksV zs c).take k from (List.take_of_length_le (by rw [marksV_len, ← hl.out]; exact Nat.le_refl _)).symm]; exact hA, hB⟩
set_option maxRecDepth 100000 in
theorem isSet_is (v : Bool) (s : Int) (n : Nat) (w : World) (hn : n < 62) (h : (decide (0 ≤ s) && decide (s < 2 ^ n)) = v) : Calls Try.prog 68 #[.int .i64 s, .int .i64 n] w fun e w' => e = .returned (.bool v) ∧ w = w' := by
  subst h; exact isSet_any s n (by omega) (by omega) w
set_option maxRecDepth 100000 in
theorem codeFits_any (a : Option Addr) (n cap : Nat) (zs : List Int) (c : Int) (w : World) (hs : SlAt w a n zs) :
    Calls Try.prog 76 #[.slice a n cap, .int .i64 c] w fun e w' => e = .returned (.bool (fitsB zs c)) ∧ Below w.heap.size w w' := by
  cases hg : graphB zs with
  | false =>
    have HR := Lib.hid (show fitsB zs c = false by simp [fitsB, hg])
    have HG := Lib.hid hg
    clear hg
    go_enter Try.func76, Try.ntmps76
    go_wp2_with (go_at_call 54; refine (GraphIn_is false _ _ _ _ _ hs HG.out).mono ?_; rintro e w1 ⟨rfl, hb1⟩)
    go_ret
    exact ⟨by rw [HR.out]; rfl, hb1⟩
  | true =>
    have hl := hs.len
    have hn := (graphB_bd hg).2
    rw [← hl] at hn
    obtain ⟨v, hv⟩ : ∃ v, (decide (0 ≤ c) && decide (c < 2 ^ n)) = v := ⟨_, rfl⟩
    have HR := Lib.hid (show fitsB zs c = v by rw [fitsB, hg, ← hl, hv]; rfl)
    have HV := Lib.hid hv
    have HG := Lib.hid hg
    clear hg hl hv
    go_enter Try.func76, Try.ntmps76
    go_wp2_with (first
      | (go_at_call 54; refine (GraphIn_is true _ _ _ _ _ hs HG.out).mono ?_; rintro e w1 ⟨rfl, hb1⟩)
      | (go_at_call 68; refine (isSet_is v c n _ (by omega) HV.out).mono ?_; rintro e w2 ⟨rfl, rfl⟩))
    go_ret
    exact ⟨by rw [HR.out]; rfl, hb1⟩
set_option maxRecDepth 100000 in
set_option maxHeartbeats 1000000 in
theorem CodeMarks_any (a : Option Addr) (n cap : Nat) (zs : List Int) (c : Int) (w : World) (hs : SlAt w a n zs) (hc : -9223372036854775808 ≤ c ∧ c ≤ 9223372036854775807) :
    Calls Try.prog 32 #[.slice a n cap, .int .i64 c] w fun e w' => ∃ a' n' c', e = .returned (.tuple #[.slice a' n' c', .bool (fitsB zs c)]) ∧ Arr w' w.heap.size a' n' c' (CodeMarksR zs c) ∧ Below w.heap.size w w' := by
  cases hf : fitsB zs c with
  | false =>
    have HR := Lib.hid (show CodeMarksR zs c = [] by simp [CodeMarksR, hf])
    have HF := Lib.hid hf
    clear hf
    go_enter Try.func32, Try.ntmps32
    go_wp2_with (go_at_call 76; refine (codeFits_any _ _ _ _ _ _ hs).mono ?_; rintro e w1 ⟨rfl, hb1⟩; rw [HF.out])
    go_ret2
    exact ⟨_, _, _, rfl, by rw [HR.out]; exact ⟨World.ownsRow_nil _ _ _ _, rfl⟩, hb1⟩
  | true =>
    obtain ⟨hg, s, rfl, hs2, hs3⟩ := fits_bd hf
    have hG := isG_of hg
    rw [← hs.len] at hG
    have HR := Lib.hid (show CodeMarksR zs s = marksV zs s by simp [CodeMarksR, hf])
    have HF := Lib.hid hf
    have HG := Lib.hid hg
    clear hf hg hs2
    go_enter Try.func32, Try.ntmps32
    go_wp2_with (go_at_call 76; refine (codeFits_any _ _ _ _ _ _ hs).mono ?_; rintro e w1 ⟨rfl, hb1⟩; rw [HF.out])
    refine (bookOf_any _ _ _ _ _ (hs.below hb1) HG.out).mono ?_
    rintro e w2 ⟨B, rfl, _, hBk, hb2⟩
    go_wp2_with fail
    refine (marks_any B n zs s w2 hBk hG hs3).mono ?_
    rintro e w3 ⟨a3, c3, rfl, hA3, hb3⟩
    go_wp2
    go_ret2
    have hb12 := bnext hb1 hb2
    exact ⟨_, _, _, rfl, by rw [HR.out]; exact hA3.mono hb12.size, bnext hb12 hb3⟩
end Go.Proofs.Ytpllijjocccaaaa
namespace Go.Proofs.Ytpllijjocccaaaa
open Go.RowKit Go.Shelf

theorem Arr.empty' {w : World} {lo : Nat} (h : lo ≤ w.heap.size) : Arr (w.alloc (.cells #[] 3)) lo (some ⟨w.heap.size, 0, none⟩) 0 0 [] := ⟨World.ownsRow_lit w #[] 0 h (by omega) rfl, rfl⟩
set_option maxRecDepth 100000 in
theorem l2Set_is (v : Bool) (a : Option Addr) (n cap : Nat) (c : Int) (w : World) (hn : n ≤ 12) (h : (decide (0 ≤ c) && decide (c < 2 ^ n)) = v) :
    Calls Try.prog 79 #[.slice a n cap, .int .i64 c] w fun e w' => e = .returned (.bool v) ∧ w = w' := by
  have hp := npow_bd n (by omega)
  have hw1 : IntKind.i64.wrap (2 ^ n) = 2 ^ n := IntWalk.i64_in _ (by omega)
  have H : Hid ((decide (0 ≤ c) && decide (c ≤ 2 ^ n - 1)) = v) := by
    show (decide (0 ≤ c) && decide (c ≤ 2 ^ n - 1)) = v
    rw [← h]; congr 1; exact decide_eq_decide.2 (by omega)
  clear h
  go_enter Try.func79, Try.ntmps79
  go_wp2_with fail
  refine (sin_is v _ _ _ _ H.out).mono ?_
  rintro e w' ⟨rfl, rfl⟩
  go_wp2
  go_ret
  exact ⟨rfl, rfl⟩
set_option maxRecDepth 100000 in
set_option maxHeartbeats 1000000 in
theorem l2Marks_any (a : Option Addr) (n cap : Nat) (zs : List Int) (c : Nat) (w : World) (hs : SlAt w a n zs) (hg : graphB zs = true) (hc : c < 4096) :
    Calls Try.prog 80 #[.slice a n cap, .int .i64 c] w fun e w' => ∃ a' c', e = .returned (.slice a' n c') ∧ Arr w' w.heap.size a' n c' (marksV zs c) ∧ Below w.heap.size w w' := by
  have hG := isG_of hg
  rw [← hs.len] at hG
  have hn2 := hG.le
  have hl := Lib.hid hs.len
  have HG := Lib.hid hg
  have hB0 : Below w.heap.size w (w.alloc (.cells #[] 3)) := (Below.refl _ _).alloc (Nat.le_refl _) _
  have HA0 := Lib.hid (Arr.empty' (w := w) (Nat.le_refl _))
  have HS := Lib.hid (hs.below hB0)
  clear hg hs
  go_enter Try.func80, Try.ntmps80
  go_wp2_with fail
  refine (sl1Balls_any _ _ _ _ _ HS.out HG.out).mono ?_
  rintro e w1 ⟨ab, cb, rfl, hAb, hb1⟩
  have hBs := hB0.size
  have hA1 := HA0.out.below hb1
  have hB1 := bnext hB0 hb1
  have hlt0 := (Arr.empty' (w := w) (Nat.le_refl _)).lt _ rfl
  obtain ⟨gb, rfl⟩ : ∃ g, ab = some ⟨g, 0, none⟩ := by
    rcases hAb.form with ⟨_, h0, _⟩ | ⟨g, _, h, _⟩
    · have := hG.pos; omega
    · exact ⟨g, h⟩
  have hgb := hAb.lt _ rfl
  simp at hgb hlt0
  have HQ : Hid (gb ∉ blk (some (⟨w.heap.size, 0, none⟩ : Addr))) := by
    show gb ∉ blk (some (⟨w.heap.size, 0, none⟩ : Addr))
    simp [blk]; omega
  have HAb := Lib.hid hAb
  have HA1 := Lib.hid hA1
  have HB1 := Lib.hid hB1
  have HW := Lib.hid hb1.size
  clear hAb hA1 hB1 hB0 HA0 hgb hlt0 hb1
  go_wp2
  go_loopw [5, 7] (fun u p wr => ∃ (k : Nat) (a' : Option Addr) (c' : Nat), k ≤ n ∧ p = .int .i64 k ∧ u = .slice a' k c' ∧ Arr wr w.heap.size a' k c' ((marksV zs c).take k) ∧ Arr wr w.heap.size (some ⟨gb, 0, none⟩) n cb (ballsV zs) ∧ gb ∉ blk a' ∧ Below w.heap.size w wr) (fun _ p _ => 12 - (intOf p).toNat)
  case atStart => exact ⟨0, _, _, by omega, rfl, rfl, HA1.out, HAb.out.mono hBs, HQ.out, HB1.out⟩
  case round =>
    obtain ⟨k, a', c', hk, rfl, rfl, hA, hAb, hq, hB⟩ := hrel
    by_cases hlt : k < n
    · have hlt' : (k : Int) < n := by omega
      have hx := hAb.cellAt k hlt
      rw [List.getD_eq_getElem?_getD, ballsV_at (by rw [← hl.out]; exact hlt)] at hx
      have e1 := mark_bits hG hlt hc
      have hsz := hB.size
      have hgl : gb < wr.heap.size := (hAb.lt _ rfl).2
      have HT := Lib.hid (marksV_take (zs := zs) (c := c) (k := k) (by rw [← hl.out]; exact hlt))
      have HAb2 := Lib.hid hAb
      clear hAb
      go_wp2_with (at_builtin; refine wpList_append1L (W := wr.alloc (.cells #[.int .i64 (markV zs c k)] 3)) (g0 := wr.heap.size) (u := markV zs c k) 23 under_ints rfl (.tmp 17) (.tmp 24) rfl rfl (hA.alloc _) rfl (cell_new _ _ _) (by simp; omega) (by omega) ?_; intro g c2 w2 hA2 hS2 hN2)
      rw [HT.out] at hA2
      have hS3 : Below w.heap.size w w2 := sbelow (hB.alloc hsz _) hS2 (blk_lo hA) (by simp; omega)
      have hA4 : Arr w2 w.heap.size (some ⟨gb, 0, none⟩) n cb (ballsV zs) := (HAb2.out.alloc _).stay' hS2 (fun j hj => by simp [blk] at hj; subst hj; exact hq)
      have hq2 := hN2 gb (by simp; omega) hq
      have HA4 := Lib.hid hA4
      have HQ2 := Lib.hid hq2
      clear hS2 hA hB hN2 hA4 hq2
      go_wp2
      go_roundw
      case rel => exact ⟨k + 1, _, _, by omega, by go_num, rfl, hA2, HA4.out, HQ2.out, hS3⟩
      case measure => simp [intOf]; omega
    · obtain rfl : k = n := by omega
      clear hAb
      go_wp2
      go_ret
      exact ⟨_, _, rfl, by rw [show marksV zs c = (marksV zs c).take k from (List.take_of_length_le (by rw [marksV_len, ← hl.out]; exact Nat.le_refl _)).symm]; exact hA, hB⟩
set_option maxRecDepth 100000 in
set_option maxHeartbeats 1000000 in
theorem sCodeMarks_any (a : Option Addr) (n cap : Nat) (zs : List Int) (c : Int) (w : World) (hs : SlAt w a n zs) (hc : -9223372036854775808 ≤ c ∧ c ≤ 9223372036854775807) :
    Calls Try.prog 33 #[.slice a n cap, .int .i64 c] w fun e w' => ∃ a' n' c', e = .returned (.tuple #[.slice a' n' c', .bool (fitsB zs c)]) ∧ Arr w' w.heap.size a' n' c' (CodeMarksR zs c) ∧ Below w.heap.size w w' := by
  cases hg : graphB zs with
  | false =>
    have hf : fitsB zs c = false := by simp [fitsB, hg]
    have HR := Lib.hid (show CodeMarksR zs c = [] by simp [CodeMarksR, hf])
    have HF := Lib.hid hf
    have HG := Lib.hid hg
    clear hf hg
    go_enter Try.func33, Try.ntmps33
    go_wp2_with (go_at_call 60; refine (sGraphIn_is false _ _ _ _ _ hs HG.out).mono ?_; rintro e w1 ⟨rfl, hb1⟩)
    go_ret2
    exact ⟨_, _, _, by rw [HF.out]; rfl, by rw [HR.out]; exact Arr.empty' hb1.size, hb1.alloc hb1.size _⟩
  | true =>
    have hn := (graphB_bd hg).2
    rw [← hs.len] at hn
    cases hv : (decide (0 ≤ c) && decide (c < 2 ^ n)) with
    | false =>
      have hf : fitsB zs c = false := by rw [fitsB, hg, ← hs.len, hv]; rfl
      have HR := Lib.hid (show CodeMarksR zs c = [] by simp [CodeMarksR, hf])
      have HF := Lib.hid hf
      have HG := Lib.hid hg
      have HV := Lib.hid hv
      clear hf hg hv
      go_enter Try.func33, Try.ntmps33
      go_wp2_with fail
      refine (sGraphIn_is true _ _ _ _ _ hs HG.out).mono ?_
      rintro e w1 ⟨rfl, hb1⟩
      go_wp2_with fail
      refine (l2Set_is false _ _ _ _ _ hn HV.out).mono ?_
      rintro e w' ⟨rfl, rfl⟩
      go_wp2
      go_ret2
      exact ⟨_, _, _, by rw [HF.out]; rfl, by rw [HR.out]; exact Arr.empty' hb1.size, hb1.alloc hb1.size _⟩
    | true =>
      have hf : fitsB zs c = true := by rw [fitsB, hg, ← hs.len, hv]; rfl
      obtain ⟨_, s, rfl, _, hs3⟩ := fits_bd hf
      have HR := Lib.hid (show CodeMarksR zs s = marksV zs s by simp [CodeMarksR, hf])
      have HF := Lib.hid hf
      have HG := Lib.hid hg
      have HV := Lib.hid hv
      clear hf hg hv
      go_enter Try.func33, Try.ntmps33
      go_wp2_with fail
      refine (sGraphIn_is true _ _ _ _ _ hs HG.out).mono ?_
      rintro e w1 ⟨rfl, hb1⟩
      go_wp2_with fail
      refine (l2Set_is true _ _ _ _ _ hn HV.out).mono ?_
      rintro e w' ⟨rfl, rfl⟩
      go_wp2_with fail
      refine (l2Marks_any _ _ _ _ s _ (hs.below hb1) HG.out hs3).mono ?_
      rintro e w3 ⟨a3, c3, rfl, hA3, hb3⟩
      go_wp2
      go_ret2
      exact ⟨_, _, _, by rw [HF.out]; rfl, by rw [HR.out]; exact hA3.mono hb1.size, bnext hb1 hb3⟩
end Go.Proofs.Ytpllijjocccaaaa
