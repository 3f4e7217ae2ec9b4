/- Marks of a code: the reference. -/
import Derived.Test.YtpllijjocccaaaaMarks
namespace Go.Proofs.Ytpllijjocccaaaa
open Go.RowKit Go.Shelf

theorem Arr.empty' {w : World} {lo : Nat} (h : lo ≤ w.heap.size) : Arr (w.alloc (.cells #[] 3)) lo (some ⟨w.heap.size, 0, none⟩) 0 0 [] := ⟨World.ownsRow_lit w #[] 0 h (by omega) rfl, rfl⟩
set_option maxRecDepth 100000 in
theorem l2Set_is (v : Bool) (a : Option Addr) (n cap : Nat) (c : Int) (w : World) (hn : n ≤ 12) (h : (decide (0 ≤ c) && decide (c < 2 ^ n)) = v) :
    Calls Try.prog 79 #[.slice a n cap, .int .i64 c] w fun e w' => e = .returned (.bool v) ∧ w = w' := by
  have hp := npow_bd n (by omega)
  have hw1 : IntKind.i64.wrap (2 ^ n) = 2 ^ n := IntWalk.i64_in _ (by omega)
  have H : Hid ((decide (0 ≤ c) && decide (c ≤ 2 ^ n - 1)) = v) := by
    show (decide (0 ≤ c) && decide (c ≤ 2 ^ n - 1)) = v
    rw [← h]; congr 1; exact decide_eq_decide.2 (by omega)
  clear h
  go_enter Try.func79, Try.ntmps79
  go_wp2_with fail
  refine (sin_is v _ _ _ _ H.out).mono ?_
  rintro e w' ⟨rfl, rfl⟩
  go_wp2
  go_ret
  exact ⟨rfl, rfl⟩
set_option maxRecDepth 100000 in
set_option maxHeartbeats 1000000 in
theorem l2Marks_any (a : Option Addr) (n cap : Nat) (zs : List Int) (c : Nat) (w : World) (hs : SlAt w a n zs) (hg : graphB zs = true) (hc : c < 4096) :
    Calls Try.prog 80 #[.slice a n cap, .int .i64 c] w fun e w' => ∃ a' c', e = .returned (.slice a' n c') ∧ Arr w' w.heap.size a' n c' (marksV zs c) ∧ Below w.heap.size w w' := by
  have hG := isG_of hg
  rw [← hs.len] at hG
  have hn2 := hG.le
  have hl := Lib.hid hs.len
  have HG := Lib.hid hg
  have hB0 : Below w.heap.size w (w.alloc (.cells #[] 3)) := (Below.refl _ _).alloc (Nat.le_refl _) _
  have HA0 := Lib.hid (Arr.empty' (w := w) (Nat.le_refl _))
  have HS := Lib.hid (hs.below hB0)
  clear hg hs
  go_enter Try.func80, Try.ntmps80
  go_wp2_with fail
  refine (sl1Balls_any _ _ _ _ _ HS.out HG.out).mono ?_
  rintro e w1 ⟨ab, cb, rfl, hAb, hb1⟩
  have hBs := hB0.size
  have hA1 := HA0.out.below hb1
  have hB1 := bnext hB0 hb1
  have hlt0 := (Arr.empty' (w := w) (Nat.le_refl _)).lt _ rfl
  obtain ⟨gb, rfl⟩ : ∃ g, ab = some ⟨g, 0, none⟩ := by
    rcases hAb.form with ⟨_, h0, _⟩ | ⟨g, _, h, _⟩
    · have := hG.pos; omega
    · exact ⟨g, h⟩
  have hgb := hAb.lt _ rfl
  simp at hgb hlt0
  have HQ : Hid (gb ∉ blk (some (⟨w.heap.size, 0, none⟩ : Addr))) := by
    show gb ∉ blk (some (⟨w.heap.size, 0, none⟩ : Addr))
    simp [blk]; omega
  have HAb := Lib.hid hAb
  have HA1 := Lib.hid hA1
  have HB1 := Lib.hid hB1
  have HW := Lib.hid hb1.size
  clear hAb hA1 hB1 hB0 HA0 hgb hlt0 hb1
  go_wp2
  go_loopw [5, 7] (fun u p wr => ∃ (k : Nat) (a' : Option Addr) (c' : Nat), k ≤ n ∧ p = .int .i64 k ∧ u = .slice a' k c' ∧ Arr wr w.heap.size a' k c' ((marksV zs c).take k) ∧ Arr wr w.heap.size (some ⟨gb, 0, none⟩) n cb (ballsV zs) ∧ gb ∉ blk a' ∧ Below w.heap.size w wr) (fun _ p _ => 12 - (intOf p).toNat)
  case atStart => exact ⟨0, _, _, by omega, rfl, rfl, HA1.out, HAb.out.mono hBs, HQ.out, HB1.out⟩
  case round =>
    obtain ⟨k, a', c', hk, rfl, rfl, hA, hAb, hq, hB⟩ := hrel
    by_cases hlt : k < n
    · have hlt' : (k : Int) < n := by omega
      have hx := hAb.cellAt k hlt
      rw [List.getD_eq_getElem?_getD, ballsV_at (by rw [← hl.out]; exact hlt)] at hx
      have e1 := mark_bits hG hlt hc
      have hsz := hB.size
      have hgl : gb < wr.heap.size := (hAb.lt _ rfl).2
      have HT := Lib.hid (marksV_take (zs := zs) (c := c) (k := k) (by rw [← hl.out]; exact hlt))
      have HAb2 := Lib.hid hAb
      clear hAb
      go_wp2_with (at_builtin; refine wpList_append1L (W := wr.alloc (.cells #[.int .i64 (markV zs c k)] 3)) (g0 := wr.heap.size) (u := markV zs c k) 23 under_ints rfl (.tmp 17) (.tmp 24) rfl rfl (hA.alloc _) rfl (cell_new _ _ _) (by simp; omega) (by omega) ?_; intro g c2 w2 hA2 hS2 hN2)
      rw [HT.out] at hA2
      have hS3 : Below w.heap.size w w2 := sbelow (hB.alloc hsz _) hS2 (blk_lo hA) (by simp; omega)
      have hA4 : Arr w2 w.heap.size (some ⟨gb, 0, none⟩) n cb (ballsV zs) := (HAb2.out.alloc _).stay' hS2 (fun j hj => by simp [blk] at hj; subst hj; exact hq)
      have hq2 := hN2 gb (by simp; omega) hq
      have HA4 := Lib.hid hA4
      have HQ2 := Lib.hid hq2
      clear hS2 hA hB hN2 hA4 hq2
      go_wp2
      go_roundw
      case rel => exact ⟨k + 1, _, _, by omega, by go_num, rfl, hA2, HA4.out, HQ2.out, hS3⟩
      case measure => simp [intOf]; omega
    · obtain rfl : k = n := by omega
      clear hAb
      go_wp2
      go_ret
      exact ⟨_, _, rfl, by rw [show marksV zs c = (marksV zs c).take k from (List.take_of_length_le (by rw [marksV_len, ← hl.out]; exact Nat.le_refl _)).symm]; exact hA, hB⟩
set_option maxRecDepth 100000 in
set_option maxHeartbeats 1000000 in
theorem sCodeMarks_any (a : Option Addr) (n cap : Nat) (zs : List Int) (c : Int) (w : World) (hs : SlAt w a n zs) (hc : -9223372036854775808 ≤ c ∧ c ≤ 9223372036854775807) :
    Calls Try.prog 33 #[.slice a n cap, .int .i64 c] w fun e w' => ∃ a' n' c', e = .returned (.tuple #[.slice a' n' c', .bool (fitsB zs c)]) ∧ Arr w' w.heap.size a' n' c' (CodeMarksR zs c) ∧ Below w.heap.size w w' := by
  cases hg : graphB zs with
  | false =>
    have hf : fitsB zs c = false := by simp [fitsB, hg]
    have HR := Lib.hid (show CodeMarksR zs c = [] by simp [CodeMarksR, hf])
    have HF := Lib.hid hf
    have HG := Lib.hid hg
    clear hf hg
    go_enter Try.func33, Try.ntmps33
    go_wp2_with (go_at_call 60; refine (sGraphIn_is false _ _ _ _ _ hs HG.out).mono ?_; rintro e w1 ⟨rfl, hb1⟩)
    go_ret2
    exact ⟨_, _, _, by rw [HF.out]; rfl, by rw [HR.out]; exact Arr.empty' hb1.size, hb1.alloc hb1.size _⟩
  | true =>
    have hn := (graphB_bd hg).2
    rw [← hs.len] at hn
    cases hv : (decide (0 ≤ c) && decide (c < 2 ^ n)) with
    | false =>
      have hf : fitsB zs c = false := by rw [fitsB, hg, ← hs.len, hv]; rfl
      have HR := Lib.hid (show CodeMarksR zs c = [] by simp [CodeMarksR, hf])
      have HF := Lib.hid hf
      have HG := Lib.hid hg
      have HV := Lib.hid hv
      clear hf hg hv
      go_enter Try.func33, Try.ntmps33
      go_wp2_with fail
      refine (sGraphIn_is true _ _ _ _ _ hs HG.out).mono ?_
      rintro e w1 ⟨rfl, hb1⟩
      go_wp2_with fail
      refine (l2Set_is false _ _ _ _ _ hn HV.out).mono ?_
      rintro e w' ⟨rfl, rfl⟩
      go_wp2
      go_ret2
      exact ⟨_, _, _, by rw [HF.out]; rfl, by rw [HR.out]; exact Arr.empty' hb1.size, hb1.alloc hb1.size _⟩
    | true =>
      have hf : fitsB zs c = true := by rw [fitsB, hg, ← hs.len, hv]; rfl
      obtain ⟨_, s, rfl, _, hs3⟩ := fits_bd hf
      have HR := Lib.hid (show CodeMarksR zs s = marksV zs s by simp [CodeMarksR, hf])
      have HF := Lib.hid hf
      have HG := Lib.hid hg
      have HV := Lib.hid hv
      clear hf hg hv
      go_enter Try.func33, Try.ntmps33
      go_wp2_with fail
      refine (sGraphIn_is true _ _ _ _ _ hs HG.out).mono ?_
      rintro e w1 ⟨rfl, hb1⟩
      go_wp2_with fail
      refine (l2Set_is true _ _ _ _ _ hn HV.out).mono ?_
      rintro e w' ⟨rfl, rfl⟩
      go_wp2_with fail
      refine (l2Marks_any _ _ _ _ s _ (hs.below hb1) HG.out hs3).mono ?_
      rintro e w3 ⟨a3, c3, rfl, hA3, hb3⟩
      go_wp2
      go_ret2
      exact ⟨_, _, _, by rw [HF.out]; rfl, by rw [HR.out]; exact hA3.mono hb1.size, bnext hb1 hb3⟩
end Go.Proofs.Ytpllijjocccaaaa
