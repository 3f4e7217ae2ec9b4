/- Distances to a code, tables of distances: the reference. -/
import Derived.Test.YtpllijjocccaaaaVec
import Derived.Test.YtpllijjocccaaaaSMarks
namespace Go.Proofs.Ytpllijjocccaaaa
open Go.RowKit Go.Shelf

theorem sbit_v (v s : Int) (k : Nat) (i : Int) (w : World) (hs : 0 ≤ s) (hs2 : s < 4096) (hi : i = (k : Int)) (hk : k < 12) (hv : bitI s k = v) :
    Calls Try.prog 87 #[.int .i64 s, .int .i64 i] w fun e w' => e = .returned (.int .i64 v) ∧ w = w' := by
  subst hi hv
  exact (l1Bit_any s k hs (by omega) (by omega) (by omega) w).mono fun _ _ ⟨h, e⟩ => ⟨by rw [h, Int.toNat_natCast], e⟩
theorem sbitN (b : Bool) (s k : Nat) (i : Int) (w : World) (hs2 : s < 4096) (hi : i = (k : Int)) (hk : k < 12) (hb : s.testBit k = b) :
    Calls Try.prog 87 #[.int .i64 s, .int .i64 i] w fun e w' => e = .returned (.int .i64 (if b then 1 else 0)) ∧ w = w' :=
  sbit_v _ s k i w (by omega) (by omega) hi hk (by rw [bitI, Int.toNat_natCast, hb])
theorem ArrRV.empty' {w : World} {lo : Nat} (h : lo ≤ w.heap.size) : ArrRV (w.alloc (.cells #[] 23)) lo (some ⟨w.heap.size, 0, none⟩) 0 0 [] [] := ArrRV.empty w lo h
/-- the table of all distances, row by row -/
theorem tabV_take {zs : List Int} {k : Nat} (hk : k < zs.length) : (farV zs).take k ++ [distsV zs k] = (farV zs).take (k + 1) := farV_take hk
set_option maxRecDepth 100000 in
set_option maxHeartbeats 1000000 in
theorem l2Table_any (a : Option Addr) (n cap : Nat) (zs : List Int) (w : World) (hs : SlAt w a n zs) (hG : IsG n zs) :
    Calls Try.prog 62 #[.slice a n cap] w fun e w' => ∃ a' c', e = .returned (.slice a' n c') ∧ ArrR w' w.heap.size a' n c' (farV zs) ∧ Below w.heap.size w w' := by
  have hn2 := hG.le
  have hl := Lib.hid hG.len
  obtain ⟨b, off, rfl, hb, hc⟩ := hs.at' hG.pos
  have HC := Lib.hid hc
  have HS := Lib.hid hs
  clear hs hc
  go_enter Try.func62, Try.ntmps62
  go_wp2
  go_loopw [3, 4] (fun u p wr => ∃ (k : Nat) (a' : Option Addr) (c' : Nat) (vs : List RowV), k ≤ n ∧ p = .int .i64 k ∧ u = .slice a' k c' ∧ ArrRV wr w.heap.size a' k c' ((farV zs).take k) vs ∧ Below w.heap.size w wr) (fun _ p _ => 12 - (intOf p).toNat)
  case atStart => exact ⟨0, _, _, _, by omega, rfl, rfl, ArrRV.empty' (Nat.le_refl _), (Below.refl _ _).alloc (Nat.le_refl _) _⟩
  case round =>
    obtain ⟨k, a', c', vs, hk, rfl, rfl, hA, hB⟩ := hrel
    by_cases hlt : k < n
    · have hlt' : (k : Int) < n := by omega
      have hbl : b < wr.heap.size := Nat.lt_of_lt_of_le hb hB.size
      have HCr : Hid (∀ j, j < n → wr.cell? ⟨b, off + j, none⟩ = some (.int .i64 (zs.getD j 0))) := fun j hj => (hB.cell (p := ⟨b, off + j, none⟩) hb).trans (HC.out j hj)
      have HT := Lib.hid (tabV_take (zs := zs) (k := k) (by rw [← hl.out]; exact hlt))
      have HA := Lib.hid hA
      have HB := Lib.hid hB
      clear hA hB
      go_wp2_with fail
      refine (sl1Distances_any b off n cap zs k _ hG hbl HCr.out (by omega) (by omega)).mono ?_
      rintro e w2 ⟨a2, c2, rfl, hA2, hb2⟩
      rw [Int.toNat_natCast] at hA2
      have hA3 := HA.out.below hb2
      have hsz := HB.out.size
      have hs2 := hb2.size
      go_wp2_with (at_builtin; refine wpList_append1R (W := w2.alloc (.cells #[.slice (some ⟨a2, 0, none⟩) n c2] 23)) (W0 := wr) (g0 := w2.heap.size) (u := (some ⟨a2, 0, none⟩, n, c2)) (r := distsV zs k) rfl (.tmp 12) (.tmp 16) rfl rfl HA.out (hA3.below ((Below.refl _ _).alloc (Nat.le_refl _) _)) (hA2.alloc _) rfl (cell_new _ _ _) hsz (by simp; omega) (by omega) ?_; intro g c3 w3 hA4 hS4 _)
      rw [HT.out] at hA4
      have hB4 : Below w.heap.size w w3 := sbelow ((bnext HB.out hb2).alloc (Nat.le_trans hsz hs2) _) hS4 (blk_loR HA.out) (by simp; omega)
      clear hA3 hA2 hS4 hb2
      go_wp2
      go_roundw
      case rel => exact ⟨k + 1, _, _, _, by omega, by go_num, rfl, hA4, hB4⟩
      case measure => simp [intOf]; omega
    · obtain rfl : k = n := by omega
      go_wp2
      go_ret
      exact ⟨_, _, rfl, by rw [show farV zs = (farV zs).take k from (List.take_of_length_le (by rw [farV_len, ← hl.out]; exact Nat.le_refl _)).symm]; exact ⟨_, hA⟩, hB⟩

/-- the row of node i over the nodes of the code below k -/
def rowTo (zs : List Int) (c i k : Nat) : List Int := (bitsTo c k).map fun x => distV zs i x
theorem rowTo_succ (zs : List Int) (c i k : Nat) : rowTo zs c i (k + 1) = rowTo zs c i k ++ if c.testBit k then [distV zs i k] else [] := by
  unfold rowTo; rw [bitsTo_succ, List.map_append]; congr 1; split <;> rfl
theorem rowTo_len (zs : List Int) (c i k : Nat) : (rowTo zs c i k).length ≤ k := by unfold rowTo; rw [List.length_map]; exact bitsTo_len c k
theorem rowTo_all {zs : List Int} {c i n : Nat} (hG : IsG n zs) (hi : i < n) (hc : c < 2 ^ n) : rowTo zs c i n = vecV zs c i := by
  unfold rowTo vecV
  rw [bitsTo_all hG.le (Nat.div_eq_of_lt hc)]
  exact List.map_congr_left fun x hx => dist_symm hG hi (lt_of_mem_bitsOf hc hx)
theorem vecsV_take {zs : List Int} {c k : Nat} (hk : k < zs.length) : (vecsV zs c).take k ++ [vecV zs c k] = (vecsV zs c).take (k + 1) := by
  unfold vecsV
  rw [← List.map_take, ← List.map_take, List.take_range, List.take_range, Nat.min_eq_left (Nat.le_of_lt hk), Nat.min_eq_left hk, List.range_succ, List.map_append]; rfl
set_option maxRecDepth 100000 in
set_option maxHeartbeats 4000000 in
theorem l2Vectors_any (a : Option Addr) (n cap : Nat) (zs : List Int) (c : Nat) (w : World) (hs : SlAt w a n zs) (hG : IsG n zs) (hc : c < 4096) (hc2 : c < 2 ^ n) :
    Calls Try.prog 74 #[.slice a n cap, .int .i64 c] w fun e w' => ∃ a' c', e = .returned (.slice a' n c') ∧ ArrR w' w.heap.size a' n c' (vecsV zs c) ∧ Below w.heap.size w w' := by
  have hn2 := hG.le
  have hl := Lib.hid hG.len
  obtain ⟨b, off, rfl, hb, hc'⟩ := hs.at' hG.pos
  have HC := Lib.hid hc'
  have HS := Lib.hid hs
  have HC2 := Lib.hid hc2
  clear hs hc' hc2
  go_enter Try.func74, Try.ntmps74
  go_wp2
  go_loopw [5, 6] (fun u p wr => ∃ (k : Nat) (a' : Option Addr) (c' : Nat) (vs : List RowV), k ≤ n ∧ p = .int .i64 k ∧ u = .slice a' k c' ∧ ArrRV wr w.heap.size a' k c' ((vecsV zs c).take k) vs ∧ Below w.heap.size w wr) (fun _ p _ => 12 - (intOf p).toNat)
  case atStart => exact ⟨0, _, _, _, by omega, rfl, rfl, ArrRV.empty' (Nat.le_refl _), (Below.refl _ _).alloc (Nat.le_refl _) _⟩
  case round =>
    obtain ⟨i, a', c', vs, hk, rfl, rfl, hA, hB⟩ := hrel
    by_cases hlt : i < n
    · have hlt' : (i : Int) < n := by omega
      have hbl : b < wr.heap.size := Nat.lt_of_lt_of_le hb hB.size
      have HCr : Hid (∀ j, j < n → wr.cell? ⟨b, off + j, none⟩ = some (.int .i64 (zs.getD j 0))) := fun j hj => (hB.cell (p := ⟨b, off + j, none⟩) hb).trans (HC.out j hj)
      have HT := Lib.hid (vecsV_take (zs := zs) (c := c) (k := i) (by rw [← hl.out]; exact hlt))
      have HR := Lib.hid (rowTo_all hG hlt HC2.out)
      have HA := Lib.hid hA
      have HB := Lib.hid hB
      clear hA hB
      go_wp2_with fail
      refine (sl1Distances_any b off n cap zs i _ hG hbl HCr.out (by omega) (by omega)).mono ?_
      rintro e w2 ⟨a2, c2, rfl, hA2, hb2⟩
      rw [Int.toNat_natCast] at hA2
      go_wp2
      have h02 : Arr (w2.alloc (.cells #[] 3)) w2.heap.size (some ⟨w2.heap.size, 0, none⟩) 0 0 [] := Arr.empty' (Nat.le_refl _)
      have hD := Lib.hid (hA2.below ((Below.refl _ _).alloc (Nat.le_refl _) (.cells #[] 3)))
      have hBw := Lib.hid (hb2.trans (((Below.refl w2.heap.size w2).alloc (Nat.le_refl _) (.cells #[] 3)).mono hb2.size))
      have hlt2 : a2 < w2.heap.size := (hA2.lt _ rfl).2
      have hsz2 := hb2.size
      clear hb2
      go_loopw [8, 9] (fun u p W => ∃ (k m : Nat) (ar : Option Addr) (cr : Nat), k ≤ n ∧ p = .int .i64 k ∧ u = .slice ar m cr ∧ Arr W w2.heap.size ar m cr (rowTo zs c i k) ∧ Below w2.heap.size (w2.alloc (.cells #[] 3)) W) (fun _ p _ => 12 - (intOf p).toNat)
      case atStart => exact ⟨0, 0, _, _, by omega, rfl, rfl, by rw [show rowTo zs c i 0 = [] from rfl]; exact h02, Below.refl _ _⟩
      case round =>
        obtain ⟨k, m, ar, cr, hkn, rfl, rfl, hAr, hBr⟩ := hrel
        by_cases hkl : k < n
        · have hkl' : (k : Int) < n := by omega
          have hm : m ≤ 12 := by rw [hAr.len]; have := rowTo_len zs c i k; omega
          have cd := (hBr.cell (p := ⟨a2, k, none⟩) hlt2).trans (hD.out.cellAt k hkl)
          rw [List.getD_eq_getElem?_getD, distsV_at (by rw [← hl.out]; exact hkl)] at cd
          have HRS := Lib.hid (rowTo_succ zs c i k)
          have hszr := hBr.size
          have HAr := Lib.hid hAr
          have HBr := Lib.hid hBr
          clear hAr hBr
          cases hbit : c.testBit k with
          | true =>
            have HBit := Lib.hid hbit
            clear hbit
            go_wp2_with (first
              | (go_at_call 87; refine (sbitN true c k _ _ hc rfl (by omega) HBit.out).mono ?_; rintro e w' ⟨rfl, rfl⟩)
              | (at_builtin; refine wpList_append1 (W := wr.alloc (.cells #[.int .i64 (distV zs i k)] 3)) (g0 := wr.heap.size) (u := distV zs i k) 23 under_ints rfl (.tmp 31) (.tmp 36) rfl rfl (HAr.out.alloc _) rfl (cell_new _ _ _) (by simp at hszr ⊢; omega) (by omega) ?_; intro g c3 w3 hA3 hS3))
            have hA4 : Arr w3 w2.heap.size (some ⟨g, 0, none⟩) (m + 1) c3 (rowTo zs c i (k + 1)) := by rw [HRS.out, HBit.out]; exact hA3
            have hB4 : Below w2.heap.size (w2.alloc (.cells #[] 3)) w3 := sbelow (HBr.out.alloc (by simp at hszr; omega) _) hS3 (blk_lo HAr.out) (by simp at hszr ⊢; omega)
            clear hA3 hS3
            go_wp2
            go_roundw
            case rel => exact ⟨k + 1, _, _, _, by omega, by go_num, rfl, hA4, hB4⟩
            case measure => simp [intOf]; omega
          | false =>
            have HBit := Lib.hid hbit
            clear hbit
            have hA4 : Hid (Arr wr w2.heap.size ar m cr (rowTo zs c i (k + 1))) := by
              show Arr wr w2.heap.size ar m cr (rowTo zs c i (k + 1))
              rw [HRS.out, HBit.out]; simpa using HAr.out
            go_wp2_with (go_at_call 87; refine (sbitN false c k _ _ hc rfl (by omega) HBit.out).mono ?_; rintro e w' ⟨rfl, rfl⟩)
            go_roundw
            case rel => exact ⟨k + 1, _, _, _, by omega, by go_num, rfl, hA4.out, HBr.out⟩
            case measure => simp [intOf]; omega
        · obtain rfl : n = k := by omega
          rw [HR.out] at hAr
          have hB5 := hBw.out.trans (hBr.mono hsz2)
          have hA5 := HA.out.below hB5
          have hszr := hBr.size
          have hAr2 := hAr.mono hsz2
          have HB5 := Lib.hid hB5
          clear hAr hBr hB5
          go_wp2_with (at_builtin; refine wpList_append1R (W := wr.alloc (.cells #[.slice ar m cr] 23)) (W0 := _) (g0 := wr.heap.size) (u := (ar, m, cr)) (r := vecV zs c i) rfl (.tmp 38) (.tmp 40) rfl rfl HA.out (hA5.below ((Below.refl _ _).alloc (Nat.le_refl _) _)) (hAr2.alloc _) rfl (cell_new _ _ _) HB.out.size (by have := HB.out.size; have := HB5.out.size; simp; omega) (by omega) ?_; intro g c3 w3 hA6 hS6 _)
          rw [HT.out] at hA6
          have hB6 : Below w.heap.size w w3 := sbelow ((bnext HB.out HB5.out).alloc (Nat.le_trans HB.out.size HB5.out.size) _) hS6 (blk_loR HA.out) (by have := HB.out.size; have := HB5.out.size; simp; omega)
          clear hA5 hAr2 hS6
          go_wp2
          go_roundw
          case rel => exact ⟨i + 1, _, _, _, by omega, by go_num, rfl, hA6, hB6⟩
          case measure => simp [intOf]; omega
    · obtain rfl : i = n := by omega
      go_wp2
      go_ret
      exact ⟨_, _, rfl, by rw [show vecsV zs c = (vecsV zs c).take i from (List.take_of_length_le (by rw [vecsV_len, ← hl.out]; exact Nat.le_refl _)).symm]; exact ⟨_, hA⟩, hB⟩

set_option maxRecDepth 100000 in
set_option maxHeartbeats 1000000 in
theorem sCodeVectors_any (a : Option Addr) (n cap : Nat) (zs : List Int) (c : Int) (w : World) (hs : SlAt w a n zs) (hc : -9223372036854775808 ≤ c ∧ c ≤ 9223372036854775807) :
    Calls Try.prog 44 #[.slice a n cap, .int .i64 c] w fun e w' => ∃ a' n' c', e = .returned (.tuple #[.slice a' n' c', .bool (fitsB zs c)]) ∧ ArrR w' w.heap.size a' n' c' (CodeVectorsR zs c) ∧ Below w.heap.size w w' := by
  cases hg : graphB zs with
  | false =>
    have hf : fitsB zs c = false := by simp [fitsB, hg]
    have HR := Lib.hid (show CodeVectorsR zs c = [] by simp [CodeVectorsR, hf])
    have HF := Lib.hid hf
    have HG := Lib.hid hg
    clear hf hg
    go_enter Try.func44, Try.ntmps44
    go_wp2_with (go_at_call 60; refine (sGraphIn_is false _ _ _ _ _ hs HG.out).mono ?_; rintro e w1 ⟨rfl, hb1⟩)
    go_ret2
    exact ⟨_, _, _, by rw [HF.out]; rfl, by rw [HR.out]; exact ⟨_, ArrRV.empty' hb1.size⟩, hb1.alloc hb1.size _⟩
  | true =>
    have hn := (graphB_bd hg).2
    rw [← hs.len] at hn
    have hG := isG_of hg
    rw [← hs.len] at hG
    cases hv : (decide (0 ≤ c) && decide (c < 2 ^ n)) with
    | false =>
      have hf : fitsB zs c = false := by rw [fitsB, hg, ← hs.len, hv]; rfl
      have HR := Lib.hid (show CodeVectorsR zs c = [] by simp [CodeVectorsR, hf])
      have HF := Lib.hid hf
      have HG := Lib.hid hg
      have HV := Lib.hid hv
      clear hf hg hv
      go_enter Try.func44, Try.ntmps44
      go_wp2_with fail
      refine (sGraphIn_is true _ _ _ _ _ hs HG.out).mono ?_
      rintro e w1 ⟨rfl, hb1⟩
      go_wp2_with fail
      refine (l2Set_is false _ _ _ _ _ hn HV.out).mono ?_
      rintro e w' ⟨rfl, rfl⟩
      go_wp2
      go_ret2
      exact ⟨_, _, _, by rw [HF.out]; rfl, by rw [HR.out]; exact ⟨_, ArrRV.empty' hb1.size⟩, hb1.alloc hb1.size _⟩
    | true =>
      have hf : fitsB zs c = true := by rw [fitsB, hg, ← hs.len, hv]; rfl
      obtain ⟨_, s, rfl, hs2, hs3⟩ := fits_bd hf
      rw [← hs.len] at hs2
      have HS2 := Lib.hid hs2
      have HR := Lib.hid (show CodeVectorsR zs s = vecsV zs s by simp [CodeVectorsR, hf])
      have HF := Lib.hid hf
      have HG := Lib.hid hg
      have HV := Lib.hid hv
      clear hf hg hv hs2
      go_enter Try.func44, Try.ntmps44
      go_wp2_with fail
      refine (sGraphIn_is true _ _ _ _ _ hs HG.out).mono ?_
      rintro e w1 ⟨rfl, hb1⟩
      go_wp2_with fail
      refine (l2Set_is true _ _ _ _ _ hn HV.out).mono ?_
      rintro e w' ⟨rfl, rfl⟩
      go_wp2_with fail
      refine (l2Vectors_any _ _ _ _ s _ (hs.below hb1) hG hs3 HS2.out).mono ?_
      rintro e w3 ⟨a3, c3, rfl, hA3, hb3⟩
      go_wp2
      go_ret2
      exact ⟨_, _, _, by rw [HF.out]; rfl, by rw [HR.out]; exact hA3.mono hb1.size, bnext hb1 hb3⟩
end Go.Proofs.Ytpllijjocccaaaa
