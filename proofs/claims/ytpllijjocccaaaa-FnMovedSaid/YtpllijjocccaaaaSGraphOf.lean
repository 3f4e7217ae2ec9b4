/- GraphOf of the reference. -/
import Derived.Test.YtpllijjocccaaaaGraphOf
namespace Go.Proofs.Ytpllijjocccaaaa
open Go.RowKit Go.Shelf

theorem rng_eq {u : Int} {n : Nat} {v : Bool} (h : (decide (0 ≤ u) && decide (u < n)) = v) : (decide (0 ≤ u) && decide (u ≤ (n : Int) - 1)) = v := by
  rw [← h]; congr 1; exact decide_eq_decide.2 (by omega)
theorem Arr.empty {w : World} {lo : Nat} (h : lo ≤ w.heap.size) : Arr (w.alloc (.cells #[] 3)) lo (some ⟨w.heap.size, 0, none⟩) 0 0 [] := ⟨World.ownsRow_lit w #[] 0 h (by omega) rfl, rfl⟩
set_option maxRecDepth 100000 in
set_option maxHeartbeats 4000000 in
theorem sGraphOf_any (x : Int) (a : Option Addr) (m cap : Nat) (es : List (List Int)) (w : World) (hx : -9223372036854775808 ≤ x ∧ x ≤ 9223372036854775807) (hs : RowsAt w a m es) :
    Calls Try.prog 90 #[.int .i64 x, .slice a m cap] w fun e w' => ∃ a' n' c', e = .returned (.tuple #[.slice a' n' c', .bool (ofOk x es)]) ∧ Arr w' w.heap.size a' n' c' (GraphOfR x es) ∧ Below w.heap.size w w' := by
  have hbd := hs.bd
  have hl := Lib.hid hs.len
  cases hv : (decide (1 ≤ x) && decide (x ≤ 12)) with
  | false =>
    have HV := Lib.hid hv
    have HO := Lib.hid (ofOk_out (es := es) hv)
    clear hv hs
    go_enter Try.func90, Try.ntmps90
    go_wp2_with (go_at_call 86; refine (sin_is false _ _ _ _ HV.out).mono ?_; rintro e w' ⟨rfl, rfl⟩)
    go_ret2
    exact ⟨_, _, _, by rw [HO.out]; rfl, by rw [GraphOfR_no HO.out]; exact Arr.empty (Nat.le_refl _), (Below.refl _ _).alloc (Nat.le_refl _) _⟩
  | true =>
    have hv2 : 1 ≤ x ∧ x ≤ 12 := by simpa using hv
    obtain ⟨n, rfl⟩ : ∃ n : Nat, x = n := ⟨x.toNat, by omega⟩
    have hn1 : 1 ≤ n := by omega
    have hn2 : n ≤ 12 := by omega
    have HV := Lib.hid hv
    have HS := Lib.hid hs
    obtain ⟨i0, hi, hz0, hz1, hz2⟩ := info_parts infoInt
    clear hv hs hv2
    go_enter Try.func90, Try.ntmps90
    go_wp2_with (first
      | (go_at_call 86; refine (sin_is true _ _ _ _ HV.out).mono ?_; rintro e w' ⟨rfl, rfl⟩)
      | (at_make; refine wpList_make_full _ rfl _ _ 23 rfl w.heap.size 3 i0 (.int .i64 0) 1 under_ints hi hz0 hz1 .i64 .i64 n n n rfl rfl rfl rfl (by rw [hz2]; omega) (by unfold maxLen; omega) (Nat.le_refl _) ?_; intro w1 hown hgrow))
    have hw1 : Below w.heap.size w w1 := (Below.refl _ _).grown hgrow (Nat.le_refl _) (by simp)
    have hA0 : Arr w1 w.heap.size (some ⟨w.heap.size, 0, none⟩) n n (List.replicate n 0) := ⟨by
      have e : (madeCells (Value.cells (.int .i64 0)) (n * 1)).toList = (List.replicate n (0 : Int)).map (Value.int .i64) := by
        rw [show (Value.cells (.int .i64 0)) = #[.int .i64 0] from rfl, toList_madeCells_one]; simp
      rw [← e]; exact hown, by simp⟩
    clear hown hgrow
    go_loopw [7] (fun p wr => ∃ (k : Nat), k ≤ m ∧ p = .int .i64 k ∧ Arr wr w.heap.size (some ⟨w.heap.size, 0, none⟩) n n (putAll n (es.take k)) ∧ Bd12 (putAll n (es.take k)) ∧ (∀ j, j < k → Hid (okE n (es.getD j []) = true)) ∧ Below w.heap.size w wr) (fun p _ => m - (intOf p).toNat)
    case atStart => exact ⟨0, by omega, rfl, hA0, Bd12_zero n, fun j hj => absurd hj (Nat.not_lt_zero j), hw1⟩
    case round =>
      obtain ⟨k, hk, rfl, hA, hb12, hag, hB⟩ := hrel
      by_cases hlt : k < m
      · obtain ⟨b, off, rfl, hb, hc⟩ := (HS.out.below hB).at' (by omega)
        obtain ⟨aj, nj, cj, hcell, hsl⟩ := hc k hlt
        have hlt' : (k : Int) < m := by omega
        have hnj := hsl.bd
        have HJ := Lib.hid hsl.len
        have HA := Lib.hid hA
        have HB := Lib.hid hB
        have HG := Lib.hid hag
        have HT := Lib.hid (putAll_succ (n := n) (es := es) (k := k) (by rw [← hl.out]; exact hlt))
        obtain ⟨r, hr⟩ : ∃ r, es.getD k [] = r := ⟨_, rfl⟩
        rw [hr] at hsl HJ HT
        have HNO : okE n r = false → Hid (ofOk n es = false) := fun h => ofOk_no (k := k) (by rw [← hl.out]; exact hlt) (by rw [hr]; exact h)
        have HE := Lib.hid hr
        clear hc hag hA hB hr hA0 hw1
        by_cases h2 : nj = 2
        case neg =>
          have HN := HNO (by simp [okE, ← HJ.out, h2])
          have hne : ((nj : Int) != 2) = true := by simpa using (by omega : (nj : Int) ≠ 2)
          clear HNO
          go_wp2
          go_ret2
          exact ⟨_, _, _, by rw [HN.out]; rfl, by rw [GraphOfR_no HN.out]; exact Arr.empty HB.out.size, HB.out.alloc HB.out.size _⟩
        case pos =>
          subst h2
          obtain ⟨b2, o2, rfl, hb2, hc2⟩ := hsl.at' (by omega)
          have hx0 := hc2 0 (by omega)
          have hx1 := hc2 1 (by omega)
          rw [List.getD_eq_getElem?_getD] at hx0 hx1
          rw [Nat.add_zero] at hx0
          obtain ⟨u, hu⟩ : ∃ u, r[0]?.getD (0 : Int) = u := ⟨_, rfl⟩
          obtain ⟨v, hv⟩ : ∃ v, r[1]?.getD (0 : Int) = v := ⟨_, rfl⟩
          rw [hu] at hx0
          rw [hv] at hx1
          have HU := Lib.hid hu
          have HW := Lib.hid hv
          clear hc2 hsl hu hv
          cases h0 : (decide (0 ≤ u) && decide (u < n)) with
          | false =>
            have HN := HNO (by simp only [okE, HU.out, h0]; simp)
            have H0 := Lib.hid (rng_eq h0)
            clear HNO h0
            go_wp2_with fail
            refine (sin_is false _ _ _ _ H0.out).mono ?_
            rintro e w' ⟨rfl, rfl⟩
            go_wp2
            go_ret2
            exact ⟨_, _, _, by rw [HN.out]; rfl, by rw [GraphOfR_no HN.out]; exact Arr.empty HB.out.size, HB.out.alloc HB.out.size _⟩
          | true =>
          cases h1 : (decide (0 ≤ v) && decide (v < n)) with
          | false =>
            have HN := HNO (by simp only [okE, HW.out, h1]; simp)
            have H0 := Lib.hid (rng_eq h0)
            have H1 := Lib.hid (rng_eq h1)
            clear HNO h0 h1
            go_wp2_with fail
            refine (sin_is true _ _ _ _ H0.out).mono ?_
            rintro e w' ⟨rfl, rfl⟩
            go_wp2_with fail
            refine (sin_is false _ _ _ _ H1.out).mono ?_
            rintro e w' ⟨rfl, rfl⟩
            go_wp2
            go_ret2
            exact ⟨_, _, _, by rw [HN.out]; rfl, by rw [GraphOfR_no HN.out]; exact Arr.empty HB.out.size, HB.out.alloc HB.out.size _⟩
          | true =>
          cases he : (u == v) with
          | true =>
            have HN := HNO (by simp only [okE, HU.out, HW.out, eq_of_beq he]; simp)
            have H0 := Lib.hid (rng_eq h0)
            have H1 := Lib.hid (rng_eq h1)
            clear HNO h0 h1
            go_wp2_with fail
            refine (sin_is true _ _ _ _ H0.out).mono ?_
            rintro e w' ⟨rfl, rfl⟩
            go_wp2_with fail
            refine (sin_is true _ _ _ _ H1.out).mono ?_
            rintro e w' ⟨rfl, rfl⟩
            go_wp2
            go_ret2
            exact ⟨_, _, _, by rw [HN.out]; rfl, by rw [GraphOfR_no HN.out]; exact Arr.empty HB.out.size, HB.out.alloc HB.out.size _⟩
          | false =>
            have H0 := Lib.hid (rng_eq h0)
            have H1 := Lib.hid (rng_eq h1)
            have hu0 : 0 ≤ u ∧ u < n := by simpa using h0
            have hv0 : 0 ≤ v ∧ v < n := by simpa using h1
            have HOK : Hid (okE n (es.getD k []) = true) := by
              show okE n (es.getD k []) = true
              rw [HE.out]; simp only [okE, HU.out, HW.out, h0, h1, ← HJ.out]; simpa using he
            obtain ⟨i, rfl⟩ := Int.eq_ofNat_of_zero_le hu0.1
            obtain ⟨j, rfl⟩ := Int.eq_ofNat_of_zero_le hv0.1
            have hi' : i < n := by omega
            have hj' : j < n := by omega
            have HP : Hid (putE (putAll n (es.take k)) r = joinV (putAll n (es.take k)) i j) := by
              show putE (putAll n (es.take k)) r = _
              rw [putE, HU.out, HW.out, Int.toNat_natCast, Int.toNat_natCast]
            obtain ⟨zs, hzs⟩ : ∃ zs, putAll n (es.take k) = zs := ⟨_, rfl⟩
            rw [hzs] at HP HT hb12
            have HA2 : Hid (Arr wr w.heap.size (some ⟨w.heap.size, 0, none⟩) n n zs) := by rw [← hzs]; exact HA.out
            have hpi := npow_bd i (by omega)
            have hpj := npow_bd j (by omega)
            have hw1 : IntKind.i64.wrap (2 ^ j) = 2 ^ j := IntWalk.i64_in _ (by omega)
            have hw2 : IntKind.i64.wrap (2 ^ i) = 2 ^ i := IntWalk.i64_in _ (by omega)
            have hy := HA2.out.cellAt i hi'
            rw [List.getD_eq_getElem?_getD] at hy
            have hfy := HA2.out.frozenAt i
            have e1 : bits BinOp.or IntKind.i64 (zs[i]?.getD 0) (2 ^ j) = orB (zs[i]?.getD 0) j := orB_bits (hb12 i).1 (hb12 i).2 (by omega)
            have hb2' := addN_bd (a := i) hb12 (show j < 12 by omega)
            have e2 : bits BinOp.or IntKind.i64 ((addN zs i j)[j]?.getD 0) (2 ^ i) = orB ((addN zs i j)[j]?.getD 0) i := orB_bits (hb2' j).1 (hb2' j).2 (by omega)
            have HBD := Lib.hid (joinV_bd (a := i) (b := j) hb12 (by omega) (by omega))
            clear HNO h0 h1 hu0 hv0 HA hzs hb2' hb12
            go_wp2_with fail
            refine (sin_is true _ _ _ _ H0.out).mono ?_
            rintro e w' ⟨rfl, rfl⟩
            go_wp2_with fail
            refine (sin_is true _ _ _ _ H1.out).mono ?_
            rintro e w' ⟨rfl, rfl⟩
            go_wp2
            go_region_law (fail)
            obtain ⟨w2, hw⟩ : ∃ w2, (wr.setCell ⟨w.heap.size, i, none⟩ (.int .i64 (orB (zs[i]?.getD 0) j))).drew = w2 := ⟨_, rfl⟩
            rw [hw]
            have HB2 : Hid (Below w.heap.size w w2) := by rw [← hw]; exact (HB.out.setCell (p := ⟨w.heap.size, i, none⟩) (Nat.le_refl _) _).drew
            have hA2 : Arr w2 w.heap.size (some ⟨w.heap.size, 0, none⟩) n n (addN zs i j) := by rw [← hw]; exact (HA2.out.set i _).drew
            have hz := hA2.cellAt j hj'
            rw [List.getD_eq_getElem?_getD] at hz
            have hfz := hA2.frozenAt j
            have HA3 := Lib.hid hA2
            clear hx0 hx1 hcell hy hfy hA2 hw HA2
            go_wp2
            go_region_law (fail)
            go_wp2
            go_roundw
            case rel =>
              refine ⟨k + 1, by omega, by go_num, ?_, ?_, fun t ht => ?_, ?_⟩
              · rw [HT.out, HP.out]; exact (HA3.out.set j _).drew
              · rw [HT.out, HP.out]; exact HBD.out
              · rcases Nat.lt_succ_iff_lt_or_eq.1 ht with h | rfl
                · exact HG.out t h
                · exact HOK
              · exact (HB2.out.setCell (p := ⟨w.heap.size, j, none⟩) (Nat.le_refl _) _).drew
            case measure => simp [intOf]; omega
      · obtain rfl : m = k := by omega
        have HOK : Hid (ofOk n es = true) := ofOk_yes HV.out (fun j hj => (hag j (by rw [hl.out]; exact hj)).out)
        have HT : Hid (putAll n (es.take m) = putAll n es) := by
          show putAll n (es.take m) = _
          rw [List.take_of_length_le (by rw [← hl.out]; exact Nat.le_refl _)]
        have HA := Lib.hid hA
        have HB := Lib.hid hB
        clear hA hB hag hA0 hw1
        go_wp2
        go_ret2
        exact ⟨_, _, _, by rw [HOK.out]; rfl, by rw [GraphOfR, if_pos HOK.out, Int.toNat_natCast, ← HT.out]; exact HA.out, HB.out⟩
end Go.Proofs.Ytpllijjocccaaaa
