/- GraphMoved of the reference. -/
import Derived.Test.YtpllijjocccaaaaMoved
import Derived.Test.YtpllijjocccaaaaSGraphOf
namespace Go.Proofs.Ytpllijjocccaaaa
open Go.RowKit Go.Shelf

theorem sbit_is (v s : Int) (k : Nat) (i : Int) (w : World) (hs : 0 ≤ s) (hs2 : s < 4096) (hi : i = (k : Int)) (hk : k < 12) (hv : bitI s k = v) :
    Calls Try.prog 87 #[.int .i64 s, .int .i64 i] w fun e w' => e = .returned (.int .i64 v) ∧ w' = w := by
  subst hi hv
  exact (l1Bit_any s k hs (by omega) (by omega) (by omega) w).mono fun _ _ ⟨h, e⟩ => ⟨by rw [h, Int.toNat_natCast], e.symm⟩
set_option maxRecDepth 100000 in
set_option maxHeartbeats 4000000 in
theorem sGraphMoved_t (b off n cap cap2 : Nat) (pa : Option Addr) (zs ps : List Int) (w : World) (hs : SlAt w (some ⟨b, off, none⟩) n zs) (ht : SlAt w pa n ps) (hg : graphB zs = true) :
    Calls Try.prog 42 #[.slice (some ⟨b, off, none⟩) n cap, .slice pa n cap2] w fun e w' => ∃ a' n' c', e = .returned (.tuple #[.slice a' n' c', .bool (movOk zs ps)]) ∧ Arr w' w.heap.size a' n' c' (GraphMovedR zs ps) ∧ Below w.heap.size w w' := by
  have hG := isG_of hg
  rw [← hs.len] at hG
  have hn2 := hG.le
  have hl := Lib.hid hs.len
  have hl2 := Lib.hid ht.len
  have HG := Lib.hid hg
  have HS := Lib.hid hs
  obtain ⟨b2, o2, rfl, hb2, hc2⟩ := ht.at' hG.pos
  have HC2 := Lib.hid hc2
  have HT := Lib.hid ht
  obtain ⟨i0, hi, hz0, hz1, hz2⟩ := info_parts infoInt
  clear hg hs ht hc2
  go_enter Try.func42, Try.ntmps42
  go_wp2_with fail
  refine (sGraphIn_is true _ _ _ _ _ HS.out HG.out).mono ?_
  rintro e w1 ⟨rfl, hb1⟩
  go_wp2
  go_loop [6, 7] (fun u p => ∃ (k s : Nat), k ≤ n ∧ p = .int .i64 k ∧ u = .int .i64 s ∧ Hid (s = seenTo ps k) ∧ (∀ j, j < k → Hid (movAt n ps j = true))) (fun _ p => 12 - (intOf p).toNat)
  case atStart => exact ⟨0, 0, by omega, rfl, rfl, rfl, fun j hj => absurd hj (Nat.not_lt_zero j)⟩
  case round =>
    obtain ⟨k, s, hk, rfl, rfl, HQ, hag⟩ := hrel
    have HA := Lib.hid hag
    clear hag
    by_cases hlt : k < n
    · have hlt' : (k : Int) < n := by omega
      have hx := (hb1.cell (p := ⟨b2, o2 + k, none⟩) hb2).trans (HC2.out k hlt)
      rw [List.getD_eq_getElem?_getD] at hx
      obtain ⟨x, hxx⟩ : ∃ x, ps[k]?.getD (0 : Int) = x := ⟨_, rfl⟩
      rw [hxx] at hx
      have HX := Lib.hid hxx
      have hsl : s < 4096 := by rw [HQ.out]; exact seenTo_lt hn2 k fun j hj => (HA.out j hj).out
      have HNO : movAt n ps k = false → Hid (movOk zs ps = false) := fun h => movOk_no (k := k) (by rw [← hl.out]; exact hlt) (by rw [← hl.out]; exact h)
      clear hxx
      cases h0 : (decide (0 ≤ x) && decide (x < n)) with
      | false =>
        have HN := HNO (by rw [movAt, HX.out, h0]; rfl)
        have H0 := Lib.hid (rng_eq h0)
        clear HNO h0
        go_wp2_with fail
        refine (sin_is false _ _ _ _ H0.out).mono ?_
        rintro e w' ⟨rfl, rfl⟩
        go_wp2
        go_ret2
        exact ⟨_, _, _, by rw [HN.out]; rfl, by rw [GraphMovedR_no HN.out]; exact Arr.empty hb1.size, hb1.alloc hb1.size _⟩
      | true =>
        have hx0 : 0 ≤ x ∧ x < n := by simpa using h0
        obtain ⟨j, rfl⟩ := Int.eq_ofNat_of_zero_le hx0.1
        have H0 := Lib.hid (rng_eq h0)
        have hj : j < n := by omega
        have HP : Hid (pAt ps k = j) := by show pAt ps k = j; rw [pAt, HX.out, Int.toNat_natCast]
        cases h1 : s.testBit j with
        | true =>
          have HN := HNO (by rw [movAt, HX.out, h0, HP.out, ← HQ.out, h1]; rfl)
          have hbi : bitI (s : Int) j = 1 := bitI_yes (by simpa using h1)
          have HB := Lib.hid hbi
          clear HNO h0 h1 hx0 hbi
          go_wp2_with fail
          refine (sin_is true _ _ _ _ H0.out).mono ?_
          rintro e w' ⟨rfl, rfl⟩
          go_wp2_with fail
          refine (sbit_is 1 s j _ _ (by omega) (by omega) rfl (by omega) HB.out).mono ?_
          rintro e w' ⟨rfl, rfl⟩
          go_wp2
          go_ret2
          exact ⟨_, _, _, by rw [HN.out]; rfl, by rw [GraphMovedR_no HN.out]; exact Arr.empty hb1.size, hb1.alloc hb1.size _⟩
        | false =>
          have hbi : bitI (s : Int) j = 0 := bitI_no (by simpa using h1)
          have HB := Lib.hid hbi
          have HM : Hid (movAt n ps k = true) := by show movAt n ps k = true; rw [movAt, HX.out, h0, HP.out, ← HQ.out, h1]; rfl
          have hpj := npow_bd j (by omega)
          have hw1 : IntKind.i64.wrap (2 ^ j) = 2 ^ j := IntWalk.i64_in _ (by omega)
          have e1 : bits BinOp.or IntKind.i64 (s : Int) (2 ^ j) = ((s ||| 2 ^ j : Nat) : Int) := by
            rw [← pow_int j]; exact i64_or_nat _ _ (by omega) (by have := pow_int j; omega)
          clear HNO h0 h1 hx0 hbi
          go_wp2_with fail
          refine (sin_is true _ _ _ _ H0.out).mono ?_
          rintro e w' ⟨rfl, rfl⟩
          go_wp2_with fail
          refine (sbit_is 0 s j _ _ (by omega) (by omega) rfl (by omega) HB.out).mono ?_
          rintro e w' ⟨rfl, rfl⟩
          go_wp2
          go_round
          case rel =>
            refine ⟨k + 1, s ||| 2 ^ j, by omega, by go_num, rfl, ?_, fun t ht => ?_⟩
            · show s ||| 2 ^ j = seenTo ps (k + 1)
              rw [seenTo_succ, HP.out, ← HQ.out]
            · rcases Nat.lt_succ_iff_lt_or_eq.1 ht with h | rfl
              · exact HA.out t h
              · exact HM
          case measure => simp [intOf]; omega
    · obtain rfl : n = k := by omega
      have hOK := movOk_yes (zs := zs) (ps := ps) HG.out (by rw [← hl2.out, hl.out]) (fun j hj => by rw [← hl.out] at hj ⊢; exact (HA.out j hj).out)
      have HOK := Lib.hid hOK
      have hP : ∀ j, j < n → ∃ v, ps[j]?.getD (0 : Int) = (v : Nat) ∧ pAt ps j = v ∧ v < n := fun j hj => by
        obtain ⟨q1, _, q3, _⟩ := movAt_of (HA.out j hj).out
        exact ⟨pAt ps j, by unfold pAt; omega, rfl, q3⟩
      have HP := Lib.hid hP
      clear hOK hP HA
      go_wp2_with (at_make; refine wpList_make_full _ rfl _ _ 23 rfl w1.heap.size 3 i0 (.int .i64 0) 1 under_ints hi hz0 hz1 .i64 .i64 n n n rfl rfl rfl rfl (by rw [hz2]; omega) (by unfold maxLen; omega) (Nat.le_refl _) ?_; intro w2 hown hgrow)
      have hw2 : Below w1.heap.size w1 w2 := (Below.refl _ _).grown hgrow (Nat.le_refl _) (by simp)
      have hA0 : Arr w2 w1.heap.size (some ⟨w1.heap.size, 0, none⟩) n n (List.replicate n 0) := ⟨by
        have e : (madeCells (Value.cells (.int .i64 0)) (n * 1)).toList = (List.replicate n (0 : Int)).map (Value.int .i64) := by
          rw [show (Value.cells (.int .i64 0)) = #[.int .i64 0] from rfl, toList_madeCells_one]; simp
        rw [← e]; exact hown, by simp⟩
      clear hown hgrow
      go_loopw [9] (fun p wr => ∃ i : Nat, i ≤ n ∧ p = .int .i64 i ∧ Arr wr w1.heap.size (some ⟨w1.heap.size, 0, none⟩) n n (mvTo zs ps i) ∧ Bd12 (mvTo zs ps i) ∧ Below w1.heap.size w1 wr) (fun p _ => 12 - (intOf p).toNat)
      case atStart => exact ⟨0, by omega, rfl, by rw [show mvTo zs ps 0 = List.replicate n 0 by rw [mvTo, ← hl.out]; rfl]; exact hA0, by rw [show mvTo zs ps 0 = List.replicate n 0 by rw [mvTo, ← hl.out]; rfl]; exact Bd12_zero n, hw2⟩
      case round =>
        obtain ⟨i, hi', rfl, hA, hbd, hB⟩ := hrel
        have HA := Lib.hid hA
        have HD := Lib.hid hbd
        have HB := Lib.hid hB
        clear hA hbd hB hA0 hw2
        by_cases hlt2 : i < n
        · have hlt2' : (i : Int) < n := by omega
          obtain ⟨q1, q2, q3⟩ := hG.ok i hlt2
          obtain ⟨z, hz⟩ : ∃ z, zs[i]?.getD (0 : Int) = z := ⟨_, rfl⟩
          rw [hz] at q1 q2 q3
          have HZ := Lib.hid hz
          obtain ⟨u, hu1, hu2, hu3⟩ := HP.out i hlt2
          have HU1 := Lib.hid hu1
          have HU2 := Lib.hid hu2
          clear hz hu1 hu2
          go_wp2
          go_loopw [10] (fun p wr => ∃ k : Nat, k ≤ n ∧ p = .int .i64 k ∧ Arr wr w1.heap.size (some ⟨w1.heap.size, 0, none⟩) n n (mvRow ps i (mvTo zs ps i) (bitsTo z.toNat k)) ∧ Bd12 (mvRow ps i (mvTo zs ps i) (bitsTo z.toNat k)) ∧ Below w1.heap.size w1 wr) (fun p _ => 12 - (intOf p).toNat)
          case atStart => exact ⟨0, by omega, rfl, HA.out, HD.out, HB.out⟩
          case round =>
            obtain ⟨k, hk2, rfl, hA, hbd, hB⟩ := hrel
            by_cases hlk : k < n
            · have hlk' : (k : Int) < n := by omega
              obtain ⟨v, hv1, hv2, hv3⟩ := HP.out k hlk
              have ci := (hB.cell (p := ⟨b2, o2 + i, none⟩) (Nat.lt_of_lt_of_le hb2 hb1.size)).trans ((hb1.cell (p := ⟨b2, o2 + i, none⟩) hb2).trans (HC2.out i hlt2))
              have ck := (hB.cell (p := ⟨b2, o2 + k, none⟩) (Nat.lt_of_lt_of_le hb2 hb1.size)).trans ((hb1.cell (p := ⟨b2, o2 + k, none⟩) hb2).trans (HC2.out k hlk))
              rw [List.getD_eq_getElem?_getD, HU1.out] at ci
              rw [List.getD_eq_getElem?_getD, hv1] at ck
              obtain ⟨bg, og, he, hbg, hcg⟩ := ((HS.out.below hb1).below hB).at' hG.pos
              cases he
              have cg := hcg i hlt2
              rw [List.getD_eq_getElem?_getD, HZ.out] at cg
              have co := hA.cellAt u hu3
              have fo := hA.frozenAt u
              rw [List.getD_eq_getElem?_getD] at co
              obtain ⟨o, ho⟩ : ∃ o, (mvRow ps i (mvTo zs ps i) (bitsTo z.toNat k))[u]?.getD (0 : Int) = o := ⟨_, rfl⟩
              have hob := hbd u
              rw [ho] at co hob
              have hpv := npow_bd v (by omega)
              have hw1' : IntKind.i64.wrap (2 ^ v) = 2 ^ v := IntWalk.i64_in _ (by omega)
              have HO := Lib.hid ho
              have HA3 := Lib.hid hA
              have HD3 := Lib.hid hbd
              have HB3 := Lib.hid hB
              have HS3 := Lib.hid (bitsTo_succ z.toNat k)
              have HV2 := Lib.hid hv2
              clear ho hA hbd hB hcg hv1 hv2
              cases hbit : z.toNat.testBit k with
              | true =>
                have hbi : bitI z k = 1 := bitI_yes hbit
                have HBI := Lib.hid hbi
                have e1 : bits BinOp.or IntKind.i64 o (2 ^ v) = orB o v := orB_bits hob.1 hob.2 (by omega)
                have HE : Hid (mvRow ps i (mvTo zs ps i) (bitsTo z.toNat (k + 1)) = (mvRow ps i (mvTo zs ps i) (bitsTo z.toNat k)).set u (orB o v)) := by
                  show mvRow ps i (mvTo zs ps i) (bitsTo z.toNat (k + 1)) = _
                  rw [HS3.out, hbit, if_pos rfl, mvRow_snoc, addN, HU2.out, HV2.out, HO.out]
                have HF : Hid (Bd12 ((mvRow ps i (mvTo zs ps i) (bitsTo z.toNat k)).set u (orB o v))) := by
                  have := addN_bd (a := u) (k := v) HD3.out (by omega)
                  rw [addN, HO.out] at this; exact this
                clear hbi hbit
                go_wp2
                go_still_tail 25, (by kernel_rfl)
                still_call (sbit_is 1 z k _ _ q1 q2 rfl (by omega) HBI.out)
                repeat still_step
                refine wpStill_nil ?_
                change wpList _ _ _ _ _ wr.drew
                go_wp2
                go_roundw
                case rel => exact ⟨k + 1, by omega, by go_num, by rw [HE.out]; exact HA3.out.drew.set u _, by rw [HE.out]; exact HF.out, HB3.out.drew.setCell (p := ⟨w1.heap.size, u, none⟩) (Nat.le_refl _) _⟩
                case measure => simp [intOf]; omega
              | false =>
                have hbi : bitI z k = 0 := bitI_no hbit
                have HBI := Lib.hid hbi
                have e1 : bits BinOp.or IntKind.i64 o 0 = o := by rw [i64_or _ _ hob.1 (by omega) (by omega) (by omega)]; simp; omega
                have hse : (mvRow ps i (mvTo zs ps i) (bitsTo z.toNat k)).set u o = mvRow ps i (mvTo zs ps i) (bitsTo z.toNat k) := by
                  have hlen := HA3.out.len
                  rw [← HO.out, List.getElem?_eq_getElem (by omega), Option.getD_some, List.set_getElem_self]
                have HE : Hid (mvRow ps i (mvTo zs ps i) (bitsTo z.toNat (k + 1)) = (mvRow ps i (mvTo zs ps i) (bitsTo z.toNat k)).set u o) := by
                  show mvRow ps i (mvTo zs ps i) (bitsTo z.toNat (k + 1)) = _
                  rw [HS3.out, hbit, hse]; simp
                have HF : Hid (Bd12 ((mvRow ps i (mvTo zs ps i) (bitsTo z.toNat k)).set u o)) := by
                  show Bd12 _
                  rw [hse]; exact HD3.out
                clear hbi hbit hse
                go_wp2
                go_still_tail 25, (by kernel_rfl)
                still_call (sbit_is 0 z k _ _ q1 q2 rfl (by omega) HBI.out)
                repeat still_step
                refine wpStill_nil ?_
                change wpList _ _ _ _ _ wr.drew
                go_wp2
                go_roundw
                case rel => exact ⟨k + 1, by omega, by go_num, by rw [HE.out]; exact HA3.out.drew.set u _, by rw [HE.out]; exact HF.out, HB3.out.drew.setCell (p := ⟨w1.heap.size, u, none⟩) (Nat.le_refl _) _⟩
                case measure => simp [intOf]; omega
            · obtain rfl : n = k := by omega
              have HE : Hid (mvTo zs ps (i + 1) = mvRow ps i (mvTo zs ps i) (bitsTo z.toNat n)) := by
                show mvTo zs ps (i + 1) = _
                have e := pow_int n
                rw [mvTo_succ, HZ.out, bitsTo_full hn2 (by omega)]
              have HA3 := Lib.hid hA
              have HD3 := Lib.hid hbd
              have HB3 := Lib.hid hB
              clear hA hbd hB
              go_wp2
              go_roundw
              case rel => exact ⟨i + 1, by omega, by go_num, by rw [HE.out]; exact HA3.out, by rw [HE.out]; exact HD3.out, HB3.out⟩
              case measure => simp [intOf]; omega
        · obtain rfl : n = i := by omega
          go_wp2
          go_ret2
          exact ⟨_, _, _, by rw [HOK.out]; rfl, by rw [GraphMovedR, if_pos HOK.out, ← hl.out]; exact HA.out.mono hb1.size, bnext hb1 HB.out⟩
theorem movOk_graph {zs ps : List Int} (h : graphB zs = false) : movOk zs ps = false := by rw [movOk, h]; rfl
theorem movOk_len {zs ps : List Int} (h : ¬ ps.length = zs.length) : movOk zs ps = false := by simp [movOk, h]
set_option maxRecDepth 100000 in
set_option maxHeartbeats 1000000 in
theorem sGraphMoved_any (a : Option Addr) (n cap : Nat) (zs : List Int) (pa : Option Addr) (m cap2 : Nat) (ps : List Int) (w : World) (hs : SlAt w a n zs) (ht : SlAt w pa m ps) :
    Calls Try.prog 42 #[.slice a n cap, .slice pa m cap2] w fun e w' => ∃ a' n' c', e = .returned (.tuple #[.slice a' n' c', .bool (movOk zs ps)]) ∧ Arr w' w.heap.size a' n' c' (GraphMovedR zs ps) ∧ Below w.heap.size w w' := by
  cases hg : graphB zs with
  | false =>
    have HN := Lib.hid (movOk_graph (ps := ps) hg)
    have HG := Lib.hid hg
    clear hg
    go_enter Try.func42, Try.ntmps42
    go_wp2_with fail
    refine (sGraphIn_is false _ _ _ _ _ hs HG.out).mono ?_
    rintro e w1 ⟨rfl, hb1⟩
    go_wp2
    go_ret2
    exact ⟨_, _, _, by rw [HN.out]; rfl, by rw [GraphMovedR_no HN.out]; exact Arr.empty hb1.size, hb1.alloc hb1.size _⟩
  | true =>
    by_cases hm : m = n
    · subst hm
      have hG := isG_of hg
      rw [← hs.len] at hG
      obtain ⟨b, off, rfl, _⟩ := hs.at' hG.pos
      exact sGraphMoved_t b off m cap cap2 pa zs ps w hs ht hg
    · have HN := Lib.hid (movOk_len (zs := zs) (ps := ps) (by rw [← hs.len, ← ht.len]; exact hm))
      have HG := Lib.hid hg
      have hne : ((m : Int) != n) = true := by simpa using (by omega : (m : Int) ≠ n)
      have hbd1 := hs.bd
      have hbd2 := ht.bd
      clear hg
      go_enter Try.func42, Try.ntmps42
      go_wp2_with fail
      refine (sGraphIn_is true _ _ _ _ _ hs HG.out).mono ?_
      rintro e w1 ⟨rfl, hb1⟩
      go_wp2
      go_ret2
      exact ⟨_, _, _, by rw [HN.out]; rfl, by rw [GraphMovedR_no HN.out]; exact Arr.empty hb1.size, hb1.alloc hb1.size _⟩
end Go.Proofs.Ytpllijjocccaaaa
