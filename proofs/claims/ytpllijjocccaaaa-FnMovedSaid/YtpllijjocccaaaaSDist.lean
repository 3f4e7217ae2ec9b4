/- spec.l1Distances: pass by pass. -/
import Derived.Test.YtpllijjocccaaaaSDistM
namespace Go.Proofs.Ytpllijjocccaaaa
open Go.RowKit Go.Shelf

theorem row_next {zs ys : List Int} {src d i k n : Nat} (hl : ys.length = n) (hk : k < n) {v : Int} (h : ∀ x, x < n → ys[x]?.getD 0 = outS zs src d i k x) (hs : ∀ x, x < n → outS zs src d i (k + 1) x = if k = x then v else outS zs src d i k x) :
    ∀ x, x < n → (ys.set k v)[x]?.getD 0 = outS zs src d i (k + 1) x := by
  intro x hx
  rw [hs x hx, List.getElem?_set]
  by_cases e : k = x
  · rw [if_pos e, if_pos e, if_pos (by omega)]; rfl
  · rw [if_neg e, if_neg e]; exact h x hx

set_option maxRecDepth 100000 in
set_option maxHeartbeats 4000000 in
theorem sl1Distances_any (b off n cap : Nat) (zs : List Int) (src : Int) (w : World) (hG : IsG n zs) (hb : b < w.heap.size)
    (hc : ∀ j, j < n → w.cell? ⟨b, off + j, none⟩ = some (.int .i64 (zs.getD j 0))) (hs0 : 0 ≤ src) (hs1 : src < n) :
    Calls Try.prog 98 #[.slice (some ⟨b, off, none⟩) n cap, .int .i64 src] w fun e w' => ∃ g c', e = .returned (.slice (some ⟨g, 0, none⟩) n c') ∧ Arr w' w.heap.size (some ⟨g, 0, none⟩) n c' (distsV zs src.toNat) ∧ Below w.heap.size w w' := by
  obtain ⟨s0, rfl⟩ := Int.eq_ofNat_of_zero_le hs0
  rw [Int.toNat_natCast]
  have hs2 : s0 < n := by omega
  have hn2 := hG.le
  have hn1 := hG.pos
  go_enter Try.func98, Try.ntmps98
  go_wp2
  have hA0 : Arr (w.alloc (.cells #[] 3)) w.heap.size (some ⟨w.heap.size, 0, none⟩) 0 0 [] := ⟨World.ownsRow_lit w #[] 0 (Nat.le_refl _) (by omega) rfl, rfl⟩
  have hB0 : Below w.heap.size w (w.alloc (.cells #[] 3)) := (Below.refl _ _).alloc (Nat.le_refl _) _
  go_loopw [5, 6] (fun u p wr => ∃ (k : Nat) (a' : Option Addr) (c' : Nat), k ≤ n ∧ p = .int .i64 k ∧ u = .slice a' k c' ∧ Arr wr w.heap.size a' k c' (List.replicate k 12) ∧ Below w.heap.size w wr) (fun _ p _ => 12 - (intOf p).toNat)
  case atStart => exact ⟨0, _, _, by omega, rfl, rfl, hA0, hB0⟩
  case round =>
    obtain ⟨k, a', c', hk, rfl, rfl, hA, hB⟩ := hrel
    have hsz := hB.size
    by_cases hlt : k < n
    · have hlt' : (k : Int) < n := by omega
      have HT : Hid (List.replicate k (12 : Int) ++ [12] = List.replicate (k + 1) 12) := (List.replicate_succ' ..).symm
      clear hc hA0 hB0
      go_wp2_with (at_builtin; refine wpList_append1 (W := wr.alloc (.cells #[.int .i64 12] 3)) (g0 := wr.heap.size) (u := 12) 23 under_ints rfl (.tmp 17) (.tmp 18) rfl rfl (hA.alloc _) rfl (cell_new _ _ _) (by simp; omega) (by omega) ?_; intro g c2 w2 hA2 hS2)
      rw [HT.out] at hA2
      have hS3 : Below w.heap.size w w2 := sbelow (hB.alloc hsz _) hS2 (blk_lo hA) (by simp; omega)
      clear hS2 hA hB
      go_wp2
      go_roundw
      case rel => exact ⟨k + 1, _, _, by omega, by go_num, rfl, hA2, hS3⟩
      case measure => simp [intOf]; omega
    · obtain rfl : n = k := by omega
      rcases hA.form with ⟨_, h0, _⟩ | ⟨g, _, rfl, hg, _⟩
      · omega
      · have cs := hA.cellAt s0 hs2
        have fs := hA.frozenAt s0
        have hs1' : (s0 : Int) < n := by omega
        have hl := hA.len
        obtain ⟨w1, hw1⟩ : ∃ w1, wr.setCell ⟨g, s0, none⟩ (.int .i64 0) = w1 := ⟨_, rfl⟩
        have hA1 : Arr w1 w.heap.size (some ⟨g, 0, none⟩) n c' ((List.replicate n 12).set s0 0) := by rw [← hw1]; exact hA.set s0 0
        have hB1 : Below w.heap.size w w1 := by rw [← hw1]; exact hB.setCell (p := ⟨g, s0, none⟩) hg _
        have hy1 : ∀ x, x < n → ((List.replicate n (12 : Int)).set s0 0)[x]?.getD 0 = outS zs s0 0 0 0 x := by
          intro x hx
          rw [outS_start, dAt_step, List.getElem?_set]
          have e0 : (levE zs s0 0).testBit x = decide (s0 = x) := by show (2 ^ s0).testBit x = _; rw [Nat.testBit_two_pow]
          rw [e0]
          by_cases e : s0 = x
          · subst e; simp [hx]
          · have hd : dAt zs s0 0 x = 12 := dAt_out (by omega)
            simp [e, hx, hd]
        have H1 := Lib.hid (And.intro hA1 (And.intro hB1 hy1))
        clear hA hB hA1 hB1 hy1 hA0 hB0 hl
        go_wp2
        obtain ⟨hA1, hB1, hy1⟩ := H1.out
        clear H1 hw1 cs fs
        go_loopw [7] (fun p wr => ∃ (d : Nat) (ys : List Int), d ≤ n ∧ p = .int .i64 d ∧ Arr wr w.heap.size (some ⟨g, 0, none⟩) n c' ys ∧ (∀ x, x < n → ys[x]?.getD 0 = outS zs s0 d 0 0 x) ∧ Below w.heap.size w wr) (fun p _ => 12 - (intOf p).toNat)
        case atStart => exact ⟨0, _, by omega, rfl, hA1, hy1, hB1⟩
        case round =>
          obtain ⟨d, ys, hd, rfl, hA, hy, hB⟩ := hrel
          by_cases hdn : d < n
          · have hdn' : (d : Int) < n := by omega
            clear hA1 hy1 hB1
            go_wp2
            obtain ⟨wo, rfl⟩ : ∃ wo : World, wo = wr := ⟨_, rfl⟩
            go_loopw [8] (fun p wr => ∃ (i : Nat) (ys : List Int), i ≤ n ∧ p = .int .i64 i ∧ Arr wr w.heap.size (some ⟨g, 0, none⟩) n c' ys ∧ (∀ x, x < n → ys[x]?.getD 0 = outS zs s0 d i 0 x) ∧ Below w.heap.size w wr) (fun p _ => 12 - (intOf p).toNat)
            case atStart => exact ⟨0, ys, by omega, rfl, hA, hy, hB⟩
            case round =>
              clear hA hy hB
              obtain ⟨i, ys, hi, rfl, hA, hy, hB⟩ := hrel
              by_cases hin : i < n
              · have hin' : (i : Int) < n := by omega
                go_wp2
                obtain ⟨wo2, rfl⟩ : ∃ wo2 : World, wo2 = wr := ⟨_, rfl⟩
                go_loopw [9] (fun p wr => ∃ (k : Nat) (ys : List Int), k ≤ n ∧ p = .int .i64 k ∧ Arr wr w.heap.size (some ⟨g, 0, none⟩) n c' ys ∧ (∀ x, x < n → ys[x]?.getD 0 = outS zs s0 d i k x) ∧ Below w.heap.size w wr) (fun p _ => 12 - (intOf p).toNat)
                case atStart => exact ⟨0, ys, by omega, rfl, hA, hy, hB⟩
                case round =>
                  clear hA hy hB
                  obtain ⟨k, ys, hk, rfl, hA, hy, hB⟩ := hrel
                  by_cases hkn : k < n
                  · have hkn' : (k : Int) < n := by omega
                    have ci := hA.cellAt i hin
                    have ck := hA.cellAt k hkn
                    have fk := hA.frozenAt k
                    have cg : wr.cell? ⟨b, off + i, none⟩ = some (.int .i64 (zs.getD i 0)) := (hB.cell (p := ⟨b, off + i, none⟩) hb).trans (hc i hin)
                    rw [List.getD_eq_getElem?_getD] at ci ck cg
                    obtain ⟨q1, q2, q3⟩ := hG.ok i hin
                    have hl := hA.len
                    have hyi := hy i hin
                    have hyk := hy k hkn
                    have hiff := outS_self (zs := zs) (src := s0) (d := d) (i := i) (k := k) (x := i) (by omega)
                    rw [← hyi] at hiff
                    have hbd : -9223372036854775808 ≤ ys[k]?.getD 0 ∧ ys[k]?.getD 0 ≤ 9223372036854775807 := by
                      rw [hyk]; have := dAt_range zs s0 (d + 1) k; unfold outS; split <;> omega
                    obtain ⟨hbd1, hbd2⟩ := hbd
                    have HY := Lib.hid hy
                    have HA := Lib.hid hA
                    have HB := Lib.hid hB
                    have HL := Lib.hid hl
                    clear hy hA hB hyi hl hc
                    by_cases h1 : (levE zs s0 d).testBit i = true
                    · have t1 : (ys[i]?.getD 0 == (d : Int)) = true := by simpa using hiff.2 h1
                      cases h2 : (zs[i]?.getD 0).toNat.testBit k with
                      | true =>
                        have e2 := bitI_yes h2
                        by_cases h3 : (d : Int) + 1 < ys[k]?.getD 0
                        · have HX : Hid (∀ x, x < n → (ys.set k ((d : Int) + 1))[x]?.getD 0 = outS zs s0 d i (k + 1) x) := row_next HL.out.symm hkn HY.out (fun x _ => outS_hit h1 h2 (by rw [← hyk]; exact h3) (by omega))
                          have HA2 := Lib.hid (HA.out.set k ((d : Int) + 1))
                          have HB2 := Lib.hid (HB.out.setCell (p := ⟨g, k, none⟩) hg (.int .i64 ((d : Int) + 1)))
                          clear hiff hyk h1 h2
                          go_wp2_with (go_at_call 87; refine (l1Bit_any _ _ (by omega) (by omega) (by omega) (by omega) _).mono ?_; rintro e w' ⟨rfl, rfl⟩; rw [Int.toNat_natCast, e2])
                          go_roundw
                          case rel => exact ⟨k + 1, _, by omega, by go_num, HA2.out, HX.out, HB2.out⟩
                          case measure => simp [intOf]; omega
                        · have HX : Hid (∀ x, x < n → ys[x]?.getD 0 = outS zs s0 d i (k + 1) x) := fun x hx => by rw [outS_miss2 (by rw [← hyk]; omega) (by omega)]; exact HY.out x hx
                          clear hiff hyk h1 h2
                          go_wp2_with (go_at_call 87; refine (l1Bit_any _ _ (by omega) (by omega) (by omega) (by omega) _).mono ?_; rintro e w' ⟨rfl, rfl⟩; rw [Int.toNat_natCast, e2])
                          go_roundw
                          case rel => exact ⟨k + 1, _, by omega, by go_num, HA.out, HX.out, HB.out⟩
                          case measure => simp [intOf]; omega
                      | false =>
                        have e2 := bitI_no h2
                        have HX : Hid (∀ x, x < n → ys[x]?.getD 0 = outS zs s0 d i (k + 1) x) := fun x hx => by rw [outS_miss1 (by rw [h2]; simp)]; exact HY.out x hx
                        clear hiff hyk h1 h2
                        go_wp2_with (go_at_call 87; refine (l1Bit_any _ _ (by omega) (by omega) (by omega) (by omega) _).mono ?_; rintro e w' ⟨rfl, rfl⟩; rw [Int.toNat_natCast, e2])
                        go_roundw
                        case rel => exact ⟨k + 1, _, by omega, by go_num, HA.out, HX.out, HB.out⟩
                        case measure => simp [intOf]; omega
                    · have t1 : (ys[i]?.getD 0 == (d : Int)) = false := by simpa using fun h => h1 (hiff.1 h)
                      have HX : Hid (∀ x, x < n → ys[x]?.getD 0 = outS zs s0 d i (k + 1) x) := fun x hx => by rw [outS_miss1 (fun h => h1 h.1)]; exact HY.out x hx
                      clear hiff hyk h1
                      go_wp2
                      go_roundw
                      case rel => exact ⟨k + 1, _, by omega, by go_num, HA.out, HX.out, HB.out⟩
                      case measure => simp [intOf]; omega
                  · obtain rfl : n = k := by omega
                    have HY := Lib.hid hy
                    clear hy hc
                    go_wp2
                    go_roundw
                    case rel => exact ⟨i + 1, _, by omega, by go_num, hA, fun x hx => by rw [HY.out x hx, outS_row hx], hB⟩
                    case measure => simp [intOf]; omega
              · obtain rfl : n = i := by omega
                have HY := Lib.hid hy
                clear hy hc
                go_wp2
                go_roundw
                case rel => exact ⟨d + 1, _, by omega, by go_num, hA, fun x hx => by rw [HY.out x hx, outS_pass hG hs2 hdn], hB⟩
                case measure => simp [intOf]; omega
          · obtain rfl : n = d := by omega
            have e : ys = distsV zs s0 := ext_at (by rw [distsV_len, ← hG.len]; exact hA.len) fun x hx => by
              have hl := hA.len
              rw [distsV_at (by rw [← hG.len]; omega), hy x (by omega), outS_end hG hs2]
            have H := Lib.hid e
            clear e hy hc
            go_wp2
            go_ret
            exact ⟨_, _, rfl, by rw [← H.out]; exact hA, hB⟩
end Go.Proofs.Ytpllijjocccaaaa
