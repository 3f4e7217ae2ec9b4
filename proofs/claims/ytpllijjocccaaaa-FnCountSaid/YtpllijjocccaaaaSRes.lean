/- Resolving codes: the reference. -/
import Derived.Test.YtpllijjocccaaaaSCode
namespace Go.Proofs.Ytpllijjocccaaaa
open Go.RowKit Go.Shelf
attribute [local go_sem] Oper.semAt_some

def okTo (zs : List Int) (c i k x : Nat) : Bool := (List.range x).any fun j => c.testBit j && !decide (distV zs i j = distV zs k j)
theorem okTo_succ (zs : List Int) (c i k x : Nat) : okTo zs c i k (x + 1) = (okTo zs c i k x || (c.testBit x && !decide (distV zs i x = distV zs k x))) := by
  unfold okTo; rw [List.range_succ, List.any_append]; simp
theorem okTo_mono {zs : List Int} {c i k x : Nat} (h : okTo zs c i k x = true) : ∀ m, x ≤ m → okTo zs c i k m = true := by
  intro m hm
  obtain ⟨d, rfl⟩ := Nat.le.dest hm
  induction d with
  | zero => exact h
  | succ d ih => rw [← Nat.add_assoc, okTo_succ, ih (by omega)]; rfl
theorem okTo_sep {zs : List Int} {n c i k : Nat} (hG : IsG n zs) (hi : i < n) (hk : k < n) (hc : c < 2 ^ n) : okTo zs c i k n = sepB zs c i k := by
  unfold okTo sepB
  rw [Bool.eq_iff_iff, List.any_eq_true, List.any_eq_true]
  have h12 := hG.le
  constructor
  · rintro ⟨j, hj, h⟩
    rw [Bool.and_eq_true] at h
    have hjn := List.mem_range.1 hj
    refine ⟨j, mem_bitsOf.2 ⟨by omega, h.1⟩, ?_⟩
    rw [dist_symm hG hjn hi, dist_symm hG hjn hk]; exact h.2
  · rintro ⟨j, hj, h⟩
    have hjn := lt_of_mem_bitsOf hc hj
    refine ⟨j, List.mem_range.2 hjn, ?_⟩
    rw [(mem_bitsOf.1 hj).2, Bool.true_and, dist_symm hG hi hjn, dist_symm hG hk hjn]; exact h
theorem resB_no {zs : List Int} {n c i k : Nat} (hG : IsG n zs) (hi : i < n) (hk : k < i) (h : sepB zs c i k = false) : resB zs c = false := by
  unfold resB
  rw [List.all_eq_false]
  refine ⟨i, List.mem_range.2 (by rw [← hG.len]; exact hi), ?_⟩
  simp only [Bool.not_eq_true]
  rw [List.all_eq_false]
  exact ⟨k, List.mem_range.2 hk, by rw [h]; simp⟩
theorem farV_row {zs : List Int} {x : Nat} (hx : x < zs.length) : (farV zs).getD x [] = distsV zs x := farV_at hx
set_option maxRecDepth 100000 in
set_option maxHeartbeats 4000000 in
theorem l2Resolves_any (a : Option Addr) (n cap : Nat) (zs : List Int) (c : Nat) (w : World) (hs : RowsAt w a n (farV zs)) (hG : IsG n zs) (hc : c < 4096) (hc2 : c < 2 ^ n) :
    Calls Try.prog 101 #[.slice a n cap, .int .i64 c] w fun e w' => e = .returned (.bool (resB zs c)) ∧ ∃ q, w.drewN q = w' := by
  have hn := hG.le
  have hl := Lib.hid hG.len
  have HC2 := Lib.hid hc2
  obtain ⟨b, off, rfl, hb, hcc⟩ := hs.at' hG.pos
  have HC : Hid (∀ j, j < n → ∃ bj oj cj, w.cell? ⟨b, off + j, none⟩ = some (.slice (some ⟨bj, oj, none⟩) n cj) ∧ bj < w.heap.size ∧ ∀ m, m < n → w.cell? ⟨bj, oj + m, none⟩ = some (.int .i64 (distV zs j m))) := fun j hj => by
    obtain ⟨aj, nj, cj, h1, h2⟩ := hcc j hj
    rw [farV_row (by rw [← hG.len]; exact hj)] at h2
    have hnj : nj = n := by rw [h2.len, distsV_len, ← hG.len]
    subst hnj
    obtain ⟨bj, oj, rfl, h3, h4⟩ := h2.at' hG.pos
    refine ⟨bj, oj, cj, h1, h3, fun m hm => ?_⟩
    rw [h4 m hm, List.getD_eq_getElem?_getD, distsV_at (by rw [← hG.len]; exact hm)]
  clear hs hcc hc2
  go_enter Try.func101, Try.ntmps101
  go_wp2
  go_loopw [5] (fun p wr => ∃ i : Nat, i ≤ n ∧ p = .int .i64 i ∧ (∀ j, j < i → Hid (∀ k, k < j → sepB zs c j k = true)) ∧ ∃ q, w.drewN q = wr) (fun p _ => 12 - (intOf p).toNat)
  case atStart => exact ⟨0, by omega, rfl, fun j hj => absurd hj (Nat.not_lt_zero j), 0, rfl⟩
  case round =>
    obtain ⟨i, hi, rfl, hag, hq⟩ := hrel
    have HAG := Lib.hid hag
    have HQ0 := Lib.hid hq
    clear hag hq
    by_cases hlt : i < n
    · have hlt' : (i : Int) < n := by omega
      go_wp2
      go_loopw [6] (fun p wr => ∃ k : Nat, k ≤ i ∧ p = .int .i64 k ∧ (∀ j, j < k → Hid (sepB zs c i j = true)) ∧ ∃ q, w.drewN q = wr) (fun p _ => 12 - (intOf p).toNat)
      case atStart => exact ⟨0, by omega, rfl, fun j hj => absurd hj (Nat.not_lt_zero j), HQ0.out⟩
      case round =>
        obtain ⟨k, hk, rfl, hai, hq⟩ := hrel
        have HAI := Lib.hid hai
        have HQ := Lib.hid hq
        clear hai hq
        by_cases hkl : k < i
        · have hkl' : (k : Int) < i := by omega
          have hkn : (k : Int) < n := by omega
          have hkn' : k < n := by omega
          go_wp2
          go_loopw [7, 8] (fun u p wr => ∃ (x : Nat) (v : Bool), x ≤ n ∧ p = .int .i64 x ∧ u = .bool v ∧ Hid (okTo zs c i k x = v) ∧ ∃ q, w.drewN q = wr) (fun _ p _ => 12 - (intOf p).toNat)
          case atStart => exact ⟨0, false, by omega, rfl, rfl, rfl, HQ.out⟩
          case round =>
            obtain ⟨x, v, hx, rfl, rfl, HV, hq⟩ := hrel
            have HQ3 := Lib.hid hq
            have hdr : Below w.heap.size w wr := by obtain ⟨q, rfl⟩ := hq; exact bdrewN w q
            clear hq
            by_cases hgo : x < n ∧ v = false
            · obtain ⟨hxn, rfl⟩ := hgo
              have hxn' : (x : Int) < n := by omega
              obtain ⟨bi, oi, qi, h1, h2, h3⟩ := HC.out i hlt
              obtain ⟨bk, ok, qk, h4, h5, h6⟩ := HC.out k hkn'
              have ci := (hdr.cell (p := ⟨b, off + i, none⟩) hb).trans h1
              have ck := (hdr.cell (p := ⟨b, off + k, none⟩) hb).trans h4
              have cix := (hdr.cell (p := ⟨bi, oi + x, none⟩) h2).trans (h3 x hxn)
              have ckx := (hdr.cell (p := ⟨bk, ok + x, none⟩) h5).trans (h6 x hxn)
              have hns := okTo_succ zs c i k x
              rw [HV.out, Bool.false_or] at hns
              obtain ⟨d1, hd1⟩ : ∃ d, distV zs i x = d := ⟨_, rfl⟩
              obtain ⟨d2, hd2⟩ : ∃ d, distV zs k x = d := ⟨_, rfl⟩
              rw [hd1] at cix hns
              rw [hd2] at ckx hns
              clear h1 h2 h3 h4 h5 h6 hdr hd1 hd2
              cases hbit : c.testBit x with
              | false =>
                rw [hbit] at hns
                have HNS : Hid (okTo zs c i k (x + 1) = false) := by rw [hns]; rfl
                have HB := Lib.hid hbit
                clear hbit hns
                go_wp2
                go_quiet ((go_at_call 87; exact quiet_mine (sbitN false c x _ _ hc rfl (by omega) HB.out)))
                go_wp2
                go_roundw
                case rel => exact ⟨x + 1, false, by omega, by go_num, rfl, HNS, drews HQ3.out _⟩
                case measure => simp [intOf]; omega
              | true =>
                rw [hbit, Bool.true_and] at hns
                have hne : (d1 != d2) = !decide (d1 = d2) := by by_cases h : d1 = d2 <;> simp [h]
                obtain ⟨v, hv⟩ : ∃ v, (!decide (d1 = d2)) = v := ⟨_, rfl⟩
                rw [hv] at hns hne
                have HNS := Lib.hid hns
                have HB := Lib.hid hbit
                clear hbit hns hv
                go_wp2
                go_quiet ((go_at_call 87; exact quiet_mine (sbitN true c x _ _ hc rfl (by omega) HB.out)))
                go_wp2
                go_roundw
                case rel => exact ⟨x + 1, v, by omega, by go_num, rfl, HNS, drews HQ3.out _⟩
                case measure => simp [intOf]; omega
            · clear hdr
              have hfin : sepB zs c i k = v := by
                rw [← okTo_sep hG hlt hkn' HC2.out]
                cases v with
                | true => exact okTo_mono HV.out n hx
                | false =>
                  have : x = n := by
                    refine Classical.byContradiction fun hne => hgo ⟨by omega, rfl⟩
                  rw [← this]; exact HV.out
              have HFIN := Lib.hid hfin
              clear hfin
              cases v with
              | true =>
                clear hgo
                by_cases hxn : x < n
                all_goals (
                  go_wp2
                  go_roundw
                  case rel =>
                    refine ⟨k + 1, by omega, by go_num, fun j hj => ?_, HQ3.out⟩
                    rcases Nat.lt_succ_iff_lt_or_eq.1 hj with h | rfl
                    · exact HAI.out j h
                    · exact HFIN
                  case measure => simp [intOf]; omega)
              | false =>
                obtain rfl : x = n := Classical.byContradiction fun hne => hgo ⟨by omega, rfl⟩
                have HR := Lib.hid (resB_no hG hlt hkl HFIN.out)
                clear hgo
                go_wp2
                go_ret
                exact ⟨by rw [HR.out]; rfl, HQ3.out⟩
        · obtain rfl : k = i := by omega
          go_wp2
          go_roundw
          case rel =>
            refine ⟨k + 1, by omega, by go_num, fun j hj => ?_, HQ.out⟩
            rcases Nat.lt_succ_iff_lt_or_eq.1 hj with h | rfl
            · exact HAG.out j h
            · exact fun m hm => (HAI.out m hm).out
          case measure => simp [intOf]; omega
    · obtain rfl : i = n := by omega
      have HI : Hid (resB zs c = true) := by
        show resB zs c = true
        unfold resB
        rw [List.all_eq_true]
        intro j hj
        rw [List.all_eq_true]
        intro k hk
        exact (HAG.out j (by rw [hl.out]; exact List.mem_range.1 hj)).out k (List.mem_range.1 hk)
      go_wp2
      go_ret
      exact ⟨by rw [HI.out]; rfl, HQ0.out⟩
end Go.Proofs.Ytpllijjocccaaaa
