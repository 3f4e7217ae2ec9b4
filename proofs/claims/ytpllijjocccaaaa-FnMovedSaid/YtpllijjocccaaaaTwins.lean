/- Twins. -/
import Derived.Test.YtpllijjocccaaaaPair
namespace Go.Proofs.Ytpllijjocccaaaa
open Go.RowKit Go.Shelf

theorem ball_at (b off n cap : Nat) (zs : List Int) (k : Nat) (i : Int) (w : World) (q0 : Nat) (hG : IsG n zs) (hc : ∀ j, j < n → w.cell? ⟨b, off + j, none⟩ = some (.int .i64 (zs.getD j 0))) (hi : i = (k : Int)) (hk : k < n) :
    Calls Try.prog 81 #[.slice (some ⟨b, off, none⟩) n cap, .int .i64 i] (w.drewN q0) fun e w' => e = .returned (.int .i64 (ballV zs k)) ∧ ∃ q, w' = w.drewN q := by
  subst hi
  refine (ball_any b off n cap zs k (w.drewN q0) hG hc (by omega) (by omega)).mono ?_
  rintro e w' ⟨rfl, q, rfl⟩
  exact ⟨by rw [Int.toNat_natCast], q0 + q, by rw [World.drewN_drewN]⟩
/-- the twins of node i among the m nodes after it -/
def twRow (zs : List Int) (i m : Nat) : List (List Int) := ((List.range m).filter fun k => ballV zs i == ballV zs (i + 1 + k)).map fun k => [(i : Int), ((i + 1 + k : Nat) : Int)]
def twTo (zs : List Int) (i : Nat) : List (List Int) := (List.range i).flatMap fun j => twRow zs j (zs.length - j - 1)
def twV (zs : List Int) : List (List Int) := twTo zs zs.length
theorem twRow_yes {zs : List Int} {i m : Nat} (h : ballV zs i = ballV zs (i + 1 + m)) : twRow zs i (m + 1) = twRow zs i m ++ [[(i : Int), ((i + 1 + m : Nat) : Int)]] := by
  simp [twRow, List.range_succ, List.filter_append, h]
theorem twRow_no {zs : List Int} {i m : Nat} (h : ¬ ballV zs i = ballV zs (i + 1 + m)) : twRow zs i (m + 1) = twRow zs i m := by
  simp [twRow, List.range_succ, List.filter_append, h]
theorem twTo_succ (zs : List Int) (i : Nat) : twTo zs (i + 1) = twTo zs i ++ twRow zs i (zs.length - i - 1) := by
  simp [twTo, List.range_succ]
theorem twRow_len (zs : List Int) (i m : Nat) : (twRow zs i m).length ≤ m := by
  unfold twRow; rw [List.length_map]; exact Nat.le_trans (List.length_filter_le _ _) (by simp)
theorem twTo_len (zs : List Int) (i : Nat) : (twTo zs i).length ≤ i * zs.length := by
  induction i with
  | zero => simp [twTo]
  | succ i ih => rw [twTo_succ, List.length_append, Nat.succ_mul]; have := twRow_len zs i (zs.length - i - 1); omega
def GraphTwinsR (zs : List Int) : List (List Int) := if graphB zs then twV zs else []

set_option maxRecDepth 100000 in
set_option maxHeartbeats 2000000 in
theorem GraphTwins_t (b off n cap : Nat) (zs : List Int) (w : World) (hs : SlAt w (some ⟨b, off, none⟩) n zs) (hg : graphB zs = true) :
    Calls Try.prog 35 #[.slice (some ⟨b, off, none⟩) n cap] w fun e w' => ∃ a' n' c', e = .returned (.tuple #[.slice a' n' c', .bool true]) ∧ ArrR w' w.heap.size a' n' c' (twV zs) ∧ Below w.heap.size w w' := by
  have hG := isG_of hg
  rw [← hs.len] at hG
  have hn2 := hG.le
  have hl := Lib.hid hs.len
  have HG := Lib.hid hg
  have HS := Lib.hid hs
  clear hg hs
  go_enter Try.func35, Try.ntmps35
  go_wp2_with (go_at_call 54; refine (GraphIn_is true _ _ _ _ _ HS.out HG.out).mono ?_; rintro e w1 ⟨rfl, hb1⟩)
  go_loopw [4, 12] (fun u p wr => ∃ (i : Nat) (a' : Option Addr) (m c' : Nat), i ≤ n ∧ p = .int .i64 i ∧ u = .slice a' m c' ∧ ArrR wr w.heap.size a' m c' (twTo zs i) ∧ Below w.heap.size w wr) (fun _ p _ => 12 - (intOf p).toNat)
  case atStart => exact ⟨0, none, 0, 0, by omega, rfl, rfl, ⟨[], ArrRV.nil _ _⟩, hb1⟩
  case round =>
    obtain ⟨i, a', m, c', hi, rfl, rfl, hA, hB⟩ := hrel
    by_cases hlt : i < n
    · have hlt' : (i : Int) < n := by omega
      have HA := Lib.hid hA
      have HB := Lib.hid hB
      clear hA hB
      go_wp2
      go_loopw [4, 6] (fun u p wr2 => ∃ (k : Nat) (a2 : Option Addr) (m2 c2 : Nat), i + 1 + k ≤ n ∧ p = .int .i64 ((i + 1 + k : Nat) : Int) ∧ u = .slice a2 m2 c2 ∧ ArrR wr2 w.heap.size a2 m2 c2 (twTo zs i ++ twRow zs i k) ∧ Below w.heap.size w wr2) (fun _ p _ => 12 - (intOf p).toNat)
      case atStart => exact ⟨0, _, _, _, by omega, by go_num, rfl, by simpa [twRow] using HA.out, HB.out⟩
      case round =>
        obtain ⟨k, a2, m2, c2, hk, rfl, rfl, hA, hB⟩ := hrel
        have hcw := ((HS.out.below hB).at' hG.pos)
        obtain ⟨b0, off0, he, hb0, hcw⟩ := hcw
        cases he
        have HC := Lib.hid hcw
        clear hcw
        have hsz := hB.size
        have hm2 : m2 ≤ 1099511627776 := by
          have h1 := hA.len
          have h2 := twTo_len zs i
          have h3 := twRow_len zs i k
          rw [List.length_append] at h1
          have h4 : i * zs.length ≤ 12 * 12 := Nat.mul_le_mul (by omega) (by rw [← hl.out]; exact hn2)
          omega
        by_cases hlk : i + 1 + k < n
        · have hlk' : ((i + 1 + k : Nat) : Int) < n := by omega
          cases hcmp : (ballV zs i == ballV zs (i + 1 + k)) with
          | true =>
            have HT := Lib.hid (twRow_yes (zs := zs) (i := i) (m := k) (eq_of_beq hcmp))
            go_wp2_with fail
            refine (ball_any b off n cap zs i wr hG HC.out (by omega) (by omega)).mono ?_
            rintro e w' ⟨rfl, q1, rfl⟩
            rw [Int.toNat_natCast]
            go_wp2_with fail
            refine (ball_at b off n cap zs (i + 1 + k) _ wr q1 hG HC.out (by omega) (by omega)).mono ?_
            rintro e w' ⟨rfl, q, rfl⟩
            go_wp2_with (at_builtin; refine wpList_appendPair (W0 := wr.drewN q) (sa := a2) (n := m2) (cap := c2) (p := i) (q := (i : Int) + 1 + k) rfl (.tmp 30) (.tmp 34) rfl rfl (hA.below (bdrewN _ _)) rfl hsz hm2 ?_; intro g c' w' hA' hB' _ _)
            go_roundw
            case rel =>
              refine ⟨k + 1, _, _, _, by omega, by go_num, rfl, ?_, (hB.trans ((bdrewN _ q).mono hsz)).trans hB'⟩
              rw [HT.out, ← List.append_assoc, show ((i + 1 + k : Nat) : Int) = (i : Int) + 1 + k by omega]; exact hA'
            case measure => simp [intOf]; omega
          | false =>
            have HT := Lib.hid (twRow_no (zs := zs) (i := i) (m := k) (by simpa using hcmp))
            go_wp2_with fail
            refine (ball_any b off n cap zs i wr hG HC.out (by omega) (by omega)).mono ?_
            rintro e w' ⟨rfl, q1, rfl⟩
            rw [Int.toNat_natCast]
            go_wp2_with fail
            refine (ball_at b off n cap zs (i + 1 + k) _ wr q1 hG HC.out (by omega) (by omega)).mono ?_
            rintro e w' ⟨rfl, q, rfl⟩
            go_wp2
            go_roundw
            case rel =>
              refine ⟨k + 1, _, _, _, by omega, by go_num, rfl, ?_, hB.trans ((bdrewN _ q).mono hsz)⟩
              rw [HT.out]; exact hA.below (bdrewN _ q)
            case measure => simp [intOf]; omega
        · have hk' : k = n - i - 1 := by omega
          have HT := Lib.hid (twTo_succ zs i)
          have HA2 := Lib.hid hA
          have HB2 := Lib.hid hB
          clear hA hB hsz hb0
          go_wp2
          go_roundw
          case rel =>
            refine ⟨i + 1, _, _, _, by omega, by go_num, rfl, ?_, HB2.out⟩
            rw [HT.out, ← hl.out, ← hk']; exact HA2.out
          case measure => simp [intOf]; omega
    · obtain rfl : n = i := by omega
      have HA := Lib.hid hA
      have HB := Lib.hid hB
      clear hA hB
      go_wp2
      go_ret2
      exact ⟨_, _, _, rfl, by rw [twV, ← hl.out]; exact HA.out, HB.out⟩
theorem GraphTwins_any (a : Option Addr) (n cap : Nat) (zs : List Int) (w : World) (hs : SlAt w a n zs) :
    Calls Try.prog 35 #[.slice a n cap] w fun e w' => ∃ a' n' c', e = .returned (.tuple #[.slice a' n' c', .bool (graphB zs)]) ∧ ArrR w' w.heap.size a' n' c' (GraphTwinsR zs) ∧ Below w.heap.size w w' := by
  cases hg : graphB zs with
  | false =>
    have HR := Lib.hid (show GraphTwinsR zs = [] by simp [GraphTwinsR, hg])
    have HG := Lib.hid hg
    clear hg
    go_enter Try.func35, Try.ntmps35
    go_wp2_with (go_at_call 54; refine (GraphIn_is false _ _ _ _ _ hs HG.out).mono ?_; rintro e w1 ⟨rfl, hb1⟩)
    go_ret2
    exact ⟨_, _, _, rfl, by rw [HR.out]; exact ⟨[], ArrRV.nil _ _⟩, hb1⟩
  | true =>
    have HR := Lib.hid (show GraphTwinsR zs = twV zs by simp [GraphTwinsR, hg])
    have hb := isG_of hg
    obtain ⟨b, off, rfl, _⟩ := hs.at' (by rw [hs.len]; exact hb.pos)
    rw [HR.out]
    exact GraphTwins_t b off n cap zs w hs hg
set_option maxRecDepth 100000 in
set_option maxHeartbeats 2000000 in
theorem sGraphTwins_t (b off n cap : Nat) (zs : List Int) (w : World) (hs : SlAt w (some ⟨b, off, none⟩) n zs) (hg : graphB zs = true) :
    Calls Try.prog 36 #[.slice (some ⟨b, off, none⟩) n cap] w fun e w' => ∃ a' n' c', e = .returned (.tuple #[.slice a' n' c', .bool true]) ∧ ArrR w' w.heap.size a' n' c' (twV zs) ∧ Below w.heap.size w w' := by
  have hG := isG_of hg
  rw [← hs.len] at hG
  have hn2 := hG.le
  have hl := Lib.hid hs.len
  have HG := Lib.hid hg
  have HS := Lib.hid hs
  have hB0 : Below w.heap.size w (w.alloc (.cells #[] 23)) := (Below.refl _ _).alloc (Nat.le_refl _) _
  have HV := Lib.hid (ArrRV.empty w w.heap.size (Nat.le_refl _))
  clear hg hs
  go_enter Try.func36, Try.ntmps36
  go_wp2_with fail
  refine (sGraphIn_is true _ _ _ _ _ (HS.out.below hB0) HG.out).mono ?_
  rintro e w1 ⟨rfl, hb1⟩
  go_wp2_with fail
  refine (sl1Balls_any _ _ _ _ _ ((HS.out.below hB0).below hb1) HG.out).mono ?_
  rintro e w2 ⟨ab, cb, rfl, hAb, hb2⟩
  have hB2 := bnext (bnext hB0 hb1) hb2
  have HA2 := Lib.hid ((HV.out.below hb1).below hb2)
  have HAb := Lib.hid hAb
  have hb1s : Hid (w.heap.size < w1.heap.size) := by have := hb1.size; simp at this; show w.heap.size < w1.heap.size; omega
  obtain ⟨g, rfl⟩ : ∃ g, ab = some ⟨g, 0, none⟩ := by
    rcases hAb.form with ⟨_, h0, _⟩ | ⟨g, _, h, _⟩
    · have := hG.pos; omega
    · exact ⟨g, h⟩
  have hgb : w1.heap.size ≤ g ∧ g < w2.heap.size := hAb.lt _ rfl
  have HQ := Lib.hid hgb
  go_wp2
  clear hAb hb1 hb2 hgb hB0 HV
  go_loopw [4, 6] (fun u p wr => ∃ (i : Nat) (a' : Option Addr) (m c' : Nat), i ≤ n ∧ p = .int .i64 i ∧ u = .slice a' m c' ∧ ArrR wr w.heap.size a' m c' (twTo zs i) ∧ Below w.heap.size w wr ∧ Arr wr w1.heap.size (some ⟨g, 0, none⟩) n cb (ballsV zs) ∧ g ∉ blk a') (fun _ p _ => 12 - (intOf p).toNat)
  case atStart => exact ⟨0, _, 0, 0, by omega, rfl, rfl, ⟨_, HA2.out⟩, hB2, HAb.out, by have := HQ.out; have := hb1s.out; simp [blk]; omega⟩
  case round =>
    obtain ⟨i, a', m, c', hi, rfl, rfl, hA, hB, hAb, hgn⟩ := hrel
    by_cases hlt : i < n
    · have hlt' : (i : Int) < n := by omega
      have HA := Lib.hid hA
      have HB := Lib.hid hB
      have HAb := Lib.hid hAb
      have HN := Lib.hid hgn
      clear hA hB hAb hgn
      go_wp2
      go_loopw [4, 7] (fun u p wr2 => ∃ (k : Nat) (a2 : Option Addr) (m2 c2 : Nat), i + 1 + k ≤ n ∧ p = .int .i64 ((i + 1 + k : Nat) : Int) ∧ u = .slice a2 m2 c2 ∧ ArrR wr2 w.heap.size a2 m2 c2 (twTo zs i ++ twRow zs i k) ∧ Below w.heap.size w wr2 ∧ Arr wr2 w1.heap.size (some ⟨g, 0, none⟩) n cb (ballsV zs) ∧ g ∉ blk a2) (fun _ p _ => 12 - (intOf p).toNat)
      case atStart => exact ⟨0, _, _, _, by omega, by go_num, rfl, by simpa [twRow] using HA.out, HB.out, HAb.out, HN.out⟩
      case round =>
        obtain ⟨k, a2, m2, c2, hk, rfl, rfl, hA, hB, hAb, hgn⟩ := hrel
        have hsz := hB.size
        have hgs := (hAb.lt _ rfl).2
        have hm2 : m2 ≤ 1099511627776 := by
          have h1 := hA.len
          have h2 := twTo_len zs i
          have h3 := twRow_len zs i k
          rw [List.length_append] at h1
          have h4 : i * zs.length ≤ 12 * 12 := Nat.mul_le_mul (by omega) (by rw [← hl.out]; exact hn2)
          omega
        by_cases hlk : i + 1 + k < n
        · have hlk' : ((i + 1 + k : Nat) : Int) < n := by omega
          have hx := hAb.cellAt i hlt
          have hy := hAb.cellAt (i + 1 + k) hlk
          rw [List.getD_eq_getElem?_getD, ballsV_at (by rw [← hl.out]; exact hlt)] at hx
          rw [List.getD_eq_getElem?_getD, ballsV_at (by rw [← hl.out]; exact hlk)] at hy
          have HAb := Lib.hid hAb
          have HB := Lib.hid hB
          clear hAb hB
          cases hcmp : (ballV zs i == ballV zs (i + 1 + k)) with
          | true =>
            have HT := Lib.hid (twRow_yes (zs := zs) (i := i) (m := k) (eq_of_beq hcmp))
            go_wp2
            go_quiet (fail)
            go_wp2_with (at_builtin; refine wpList_appendPair (W0 := wr.drewN nq) (sa := a2) (n := m2) (cap := c2) (p := i) (q := (i : Int) + 1 + k) rfl (.tmp 38) (.tmp 42) rfl rfl (hA.below (bdrewN _ _)) rfl hsz hm2 ?_; intro g c' w' hA' hB' hS' hN')
            go_roundw
            case rel =>
              refine ⟨k + 1, _, _, _, by omega, by go_num, rfl, ?_, (HB.out.trans ((bdrewN _ nq).mono hsz)).trans hB', ?_, ?_⟩
              · rw [HT.out, ← List.append_assoc, show ((i + 1 + k : Nat) : Int) = (i : Int) + 1 + k by omega]; exact hA'
              · exact (HAb.out.below (bdrewN _ nq)).stay hS' (fun x hx => by cases hx; exact hgn)
              · simp [blk]; exact fun e => hN' _ hgs hgn e.symm
            case measure => simp [intOf]; omega
          | false =>
            have HT := Lib.hid (twRow_no (zs := zs) (i := i) (m := k) (by simpa using hcmp))
            go_wp2
            go_quiet (fail)
            go_wp2
            go_roundw
            case rel =>
              refine ⟨k + 1, _, _, _, by omega, by go_num, rfl, ?_, HB.out.trans ((bdrewN _ nq).mono hsz), HAb.out.below (bdrewN _ nq), hgn⟩
              rw [HT.out]; exact hA.below (bdrewN _ nq)
            case measure => simp [intOf]; omega
        · have hk' : k = n - i - 1 := by omega
          have HT := Lib.hid (twTo_succ zs i)
          have HA2 := Lib.hid hA
          have HB2 := Lib.hid hB
          have HAb2 := Lib.hid hAb
          clear hA hB hsz hAb
          go_wp2
          go_roundw
          case rel =>
            refine ⟨i + 1, _, _, _, by omega, by go_num, rfl, ?_, HB2.out, HAb2.out, hgn⟩
            rw [HT.out, ← hl.out, ← hk']; exact HA2.out
          case measure => simp [intOf]; omega
    · obtain rfl : n = i := by omega
      have HA := Lib.hid hA
      have HB := Lib.hid hB
      clear hA hB hAb
      go_wp2
      go_ret2
      exact ⟨_, _, _, rfl, by rw [twV, ← hl.out]; exact HA.out, HB.out⟩
theorem sGraphTwins_any (a : Option Addr) (n cap : Nat) (zs : List Int) (w : World) (hs : SlAt w a n zs) :
    Calls Try.prog 36 #[.slice a n cap] w fun e w' => ∃ a' n' c', e = .returned (.tuple #[.slice a' n' c', .bool (graphB zs)]) ∧ ArrR w' w.heap.size a' n' c' (GraphTwinsR zs) ∧ Below w.heap.size w w' := by
  cases hg : graphB zs with
  | false =>
    have HR := Lib.hid (show GraphTwinsR zs = [] by simp [GraphTwinsR, hg])
    have HG := Lib.hid hg
    have hB0 : Below w.heap.size w (w.alloc (.cells #[] 23)) := (Below.refl _ _).alloc (Nat.le_refl _) _
    have HS := Lib.hid (hs.below hB0)
    have HV := Lib.hid (ArrRV.empty w w.heap.size (Nat.le_refl _))
    clear hg hs
    go_enter Try.func36, Try.ntmps36
    go_wp2_with (go_at_call 60; refine (sGraphIn_is false _ _ _ _ _ HS.out HG.out).mono ?_; rintro e w1 ⟨rfl, hb1⟩)
    go_ret2
    exact ⟨_, _, _, rfl, by rw [HR.out]; exact ⟨[], HV.out.below hb1⟩, bnext hB0 hb1⟩
  | true =>
    have HR := Lib.hid (show GraphTwinsR zs = twV zs by simp [GraphTwinsR, hg])
    have hb := isG_of hg
    obtain ⟨b, off, rfl, _⟩ := hs.at' (by rw [hs.len]; exact hb.pos)
    rw [HR.out]
    exact sGraphTwins_t b off n cap zs w hs hg
theorem totLen_two {zs : List (List Int)} (h : ∀ r ∈ zs, r.length = 2) : totLen zs = 2 * zs.length := by
  unfold totLen
  induction zs with
  | nil => rfl
  | cons x xs ih =>
    rw [List.map_cons, List.sum_cons, ih fun r hr => h r (List.mem_cons_of_mem _ hr), h x List.mem_cons_self, List.length_cons]; omega
theorem GraphTwins_small {zs : List Int} : (GraphTwinsR zs).length ≤ 4096 ∧ totLen (GraphTwinsR zs) ≤ 4096 := by
  unfold GraphTwinsR
  cases hg : graphB zs with
  | false => simp [totLen]
  | true =>
    have hG := isG_of hg
    have h1 := twTo_len zs zs.length
    have h2 : zs.length * zs.length ≤ 12 * 12 := Nat.mul_le_mul hG.le hG.le
    have h3 : totLen (twV zs) = 2 * (twV zs).length := totLen_two fun r hr => by
      simp only [twV, twTo, twRow, List.mem_flatMap, List.mem_map] at hr
      obtain ⟨_, _, _, _, rfl⟩ := hr; rfl
    unfold twV at h3 ⊢
    simp only [if_true]
    omega
end Go.Proofs.Ytpllijjocccaaaa
