/- CodeCount, CodeThin, CodeFind, CodePlace of the reference. -/
import Derived.Test.YtpllijjocccaaaaSLeast
import Derived.Test.YtpllijjocccaaaaPlace
namespace Go.Proofs.Ytpllijjocccaaaa
open Go.RowKit Go.Shelf
attribute [local go_sem] Oper.semAt_some

set_option maxRecDepth 100000 in
set_option maxHeartbeats 1000000 in
theorem sCodeCount_any (a : Option Addr) (n cap : Nat) (zs : List Int) (kd mn : Int) (w : World) (hs : SlAt w a n zs) :
    Calls Try.prog 17 #[.slice a n cap, .int .i64 kd, .int .i64 mn] w fun e w' => e = .returned (.tuple #[.int .i64 (CodeCountR zs kd mn : Nat), .bool (countOk zs kd mn)]) ∧ Below w.heap.size w w' := by
  cases hg : graphB zs with
  | false =>
    have HO := Lib.hid (show countOk zs kd mn = false by simp [countOk, leastOk, hg])
    have HR := Lib.hid (show CodeCountR zs kd mn = 0 by simp [CodeCountR, countOk, leastOk, hg])
    have HG := Lib.hid hg
    clear hg
    go_enter Try.func17, Try.ntmps17
    go_wp2_with (go_at_call 60; refine (sGraphIn_is false _ _ _ _ _ hs HG.out).mono ?_; rintro e w1 ⟨rfl, hb1⟩)
    go_ret2
    exact ⟨by rw [HR.out, HO.out]; rfl, hb1⟩
  | true =>
    have hn := (graphB_bd hg).2
    rw [← hs.len] at hn
    have hG := isG_of hg
    rw [← hs.len] at hG
    cases hk : kindB kd with
    | false =>
      have HO := Lib.hid (show countOk zs kd mn = false by simp [countOk, leastOk, hk])
      have HR := Lib.hid (show CodeCountR zs kd mn = 0 by simp [CodeCountR, countOk, leastOk, hk])
      have HG := Lib.hid hg
      have HK := Lib.hid hk
      clear hg hk
      go_enter Try.func17, Try.ntmps17
      go_wp2_with (first
        | (go_at_call 60; refine (sGraphIn_is true _ _ _ _ _ hs HG.out).mono ?_; rintro e w1 ⟨rfl, hb1⟩)
        | (go_at_call 61; refine (skind_is false _ _ HK.out).mono ?_; rintro e w' ⟨rfl, rfl⟩))
      go_ret2
      exact ⟨by rw [HR.out, HO.out]; rfl, hb1⟩
    | true =>
      by_cases hm0 : 0 ≤ mn
      · obtain ⟨kind, rfl, hk3⟩ := kindB_of hk
        obtain ⟨M, hM⟩ : ∃ M, 2 ^ n = M := ⟨_, rfl⟩
        have hM12 : M ≤ 4096 := by rw [← hM]; exact pow12 hn
        have hw1 : IntKind.i64.wrap (2 ^ n) = (M : Int) := by
          have h1 := pow_int n
          rw [hM] at h1
          rw [← h1]; exact IntWalk.i64_in _ (by omega)
        have HO := Lib.hid (show countOk zs kind mn = true by simp [countOk, leastOk, hg, hk, hm0])
        have HR := Lib.hid (show CodeCountR zs kind mn = countTo (isB zs kind) mn M by
          unfold CodeCountR; rw [if_pos (by simp [countOk, leastOk, hg, hk, hm0]), Int.toNat_natCast, ← hs.len, hM])
        have HM := Lib.hid hM
        have HG := Lib.hid hg
        have HK := Lib.hid hk
        have hm0' : ¬ mn < 0 := by omega
        clear hg hk hM
        go_enter Try.func17, Try.ntmps17
        go_wp2_with fail
        refine (sGraphIn_is true _ _ _ _ _ hs HG.out).mono ?_
        rintro e w1 ⟨rfl, hb1⟩
        go_wp2_with fail
        refine (skind_is true _ _ HK.out).mono ?_
        rintro e w' ⟨rfl, rfl⟩
        have hs1 := hs.below hb1
        go_wp2_with fail
        refine (l2Table_any _ _ _ _ _ hs1 hG).mono ?_
        rintro e w2 ⟨ta, tc, rfl, hT, hb2⟩
        have HB2 := Lib.hid (bnext hb1 hb2)
        have HT := Lib.hid hT.rowsAt
        have HS2 := Lib.hid (hs1.below hb2)
        clear hT hs1
        go_wp2
        go_loopw [9, 10] (fun u p wr => ∃ k : Nat, k ≤ M ∧ p = .int .i64 k ∧ u = .int .i64 (countTo (isB zs kind) mn k : Nat) ∧ Below w2.heap.size w2 wr) (fun _ p _ => 4097 - (intOf p).toNat)
        case atStart => exact ⟨0, by omega, rfl, rfl, Below.refl _ _⟩
        case round =>
          obtain ⟨k, hkm, rfl, rfl, hBl⟩ := hrel
          have HS3 := Lib.hid (HS2.out.below hBl)
          have HT3 := Lib.hid (HT.out.below hBl)
          have HB := Lib.hid hBl
          clear hBl
          by_cases hlt : k < M
          · have hlt' : (k : Int) < M := by omega
            have hkn : k < 2 ^ n := by rw [HM.out]; omega
            obtain ⟨v, hv⟩ : ∃ v, isB zs kind k = v := ⟨_, rfl⟩
            obtain ⟨ck, hck⟩ : ∃ x, card k = x := ⟨_, rfl⟩
            have hcs := countTo_succ (isB zs kind) mn k
            have hcl := countTo_le (isB zs kind) mn k
            rw [hck, hv] at hcs
            have HV := Lib.hid hv
            have HCK := Lib.hid hck
            have HCS := Lib.hid hcs
            have HKN := Lib.hid hkn
            clear hv hck hcs hkn
            cases hcm : ((ck : Int) == mn) with
            | false =>
              have hcm' : decide ((ck : Int) = mn) = false := by simpa using hcm
              have HN : Hid (countTo (isB zs kind) mn (k + 1) = countTo (isB zs kind) mn k) := by show _ = _; rw [HCS.out, hcm']; simp
              clear hcm'
              go_wp2_with fail
              refine (scount_is _ k ck _ rfl (by omega) HCK.out).mono ?_
              rintro e w' ⟨rfl, rfl⟩
              go_wp2
              go_roundw
              case rel => exact ⟨k + 1, by omega, by go_num, by rw [HN.out], HB.out⟩
              case measure => simp [intOf]; omega
            | true =>
              have hcm' : decide ((ck : Int) = mn) = true := by simpa using hcm
              cases v with
              | false =>
                have HN : Hid (countTo (isB zs kind) mn (k + 1) = countTo (isB zs kind) mn k) := by show _ = _; rw [HCS.out, hcm']; simp
                clear hcm'
                go_wp2_with fail
                refine (scount_is _ k ck _ rfl (by omega) HCK.out).mono ?_
                rintro e w' ⟨rfl, rfl⟩
                go_wp2_with fail
                refine (sin_of false _ _ _ _ _ _ _ _ kind k _ HS3.out HT3.out HG.out rfl rfl hk3 (by omega) HKN.out HV.out).mono ?_
                rintro e w5 ⟨rfl, hb5⟩
                go_wp2
                go_roundw
                case rel => exact ⟨k + 1, by omega, by go_num, by rw [HN.out], bnext HB.out hb5⟩
                case measure => simp [intOf]; omega
              | true =>
                have HN : Hid (countTo (isB zs kind) mn (k + 1) = countTo (isB zs kind) mn k + 1) := by show _ = _; rw [HCS.out, hcm']; simp
                clear hcm'
                go_wp2_with fail
                refine (scount_is _ k ck _ rfl (by omega) HCK.out).mono ?_
                rintro e w' ⟨rfl, rfl⟩
                go_wp2_with fail
                refine (sin_of true _ _ _ _ _ _ _ _ kind k _ HS3.out HT3.out HG.out rfl rfl hk3 (by omega) HKN.out HV.out).mono ?_
                rintro e w5 ⟨rfl, hb5⟩
                go_wp2
                go_roundw
                case rel => exact ⟨k + 1, by omega, by go_num, by rw [HN.out]; go_num, bnext HB.out hb5⟩
                case measure => simp [intOf]; omega
          · obtain rfl : k = M := by omega
            have hlt' : ¬ (k : Int) < k := by omega
            go_wp2
            go_ret2
            exact ⟨by rw [HR.out, HO.out]; rfl, HB2.out.trans (HB.out.mono HB2.out.size)⟩
      · have HO := Lib.hid (show countOk zs kd mn = false by simp [countOk, hm0])
        have HR := Lib.hid (show CodeCountR zs kd mn = 0 by simp [CodeCountR, countOk, hm0])
        have HG := Lib.hid hg
        have HK := Lib.hid hk
        have hm0' : mn < 0 := by omega
        clear hg hk
        go_enter Try.func17, Try.ntmps17
        go_wp2_with (first
          | (go_at_call 60; refine (sGraphIn_is true _ _ _ _ _ hs HG.out).mono ?_; rintro e w1 ⟨rfl, hb1⟩)
          | (go_at_call 61; refine (skind_is true _ _ HK.out).mono ?_; rintro e w' ⟨rfl, rfl⟩))
        go_ret2
        exact ⟨by rw [HR.out, HO.out]; rfl, hb1⟩

/-! ### CodeThin -/
set_option maxRecDepth 100000 in
set_option maxHeartbeats 1000000 in
theorem sCodeThin_any (a : Option Addr) (n cap : Nat) (zs : List Int) (kd cd : Int) (w : World) (hs : SlAt w a n zs) :
    Calls Try.prog 47 #[.slice a n cap, .int .i64 kd, .int .i64 cd] w fun e w' => e = .returned (.tuple #[.int .i64 (CodeThinR zs kd cd : Nat), .bool (codeInB zs kd cd)]) ∧ Below w.heap.size w w' := by
  cases hi : codeInB zs kd cd with
  | false =>
    have HR := Lib.hid (show CodeThinR zs kd cd = 0 by simp [CodeThinR, hi])
    have HI := Lib.hid hi
    clear hi
    go_enter Try.func47, Try.ntmps47
    go_wp2_with (go_at_call 39; refine (sCodeIn_is false _ _ _ _ _ _ _ hs HI.out).mono ?_; rintro e w1 ⟨rfl, hb1⟩)
    go_ret2
    exact ⟨by rw [HR.out]; rfl, hb1⟩
  | true =>
    obtain ⟨hg, kind, c, rfl, rfl, hk3, hc, hc2, hiv⟩ := codeIn_of hi
    have hG := isG_of hg
    rw [← hs.len] at hG hc2
    have hn2 := hG.le
    have HR := Lib.hid (show CodeThinR zs kind c = thinTo zs kind c (List.range n) by
      unfold CodeThinR
      rw [if_pos hi, Int.toNat_natCast, Int.toNat_natCast, ← bitsTo_all hn2 (Nat.div_eq_of_lt hc2), thinTo_range])
    have HI := Lib.hid hi
    have HG := Lib.hid hg
    have HC2 := Lib.hid hc2
    clear hi hg hiv hc2
    go_enter Try.func47, Try.ntmps47
    go_wp2_with fail
    refine (sCodeIn_is true _ _ _ _ _ _ _ hs HI.out).mono ?_
    rintro e w1 ⟨rfl, hb1⟩
    have hs1 := hs.below hb1
    go_wp2_with fail
    refine (l2Table_any _ _ _ _ _ hs1 hG).mono ?_
    rintro e w2 ⟨ta, tc, rfl, hT, hb2⟩
    have HB2 := Lib.hid (bnext hb1 hb2)
    have HT := Lib.hid hT.rowsAt
    have HS2 := Lib.hid (hs1.below hb2)
    clear hT hs1
    go_wp2
    go_loopw [2, 9] (fun u p wr => ∃ k : Nat, k ≤ n ∧ p = .int .i64 k ∧ u = .int .i64 (thinTo zs kind c (List.range k) : Nat) ∧ Below w2.heap.size w2 wr) (fun _ p _ => 12 - (intOf p).toNat)
    case atStart => exact ⟨0, by omega, rfl, rfl, Below.refl _ _⟩
    case round =>
      obtain ⟨k, hkn, rfl, rfl, hBl⟩ := hrel
      have HS3 := Lib.hid (HS2.out.below hBl)
      have HT3 := Lib.hid (HT.out.below hBl)
      have HB := Lib.hid hBl
      clear hBl
      by_cases hlt : k < n
      · have hlt' : (k : Int) < n := by omega
        have h12 := pow12 hn2
        have hlt2 := thinTo_lt (zs := zs) (kind := kind) HC2.out (List.range k)
        obtain ⟨t, ht⟩ : ∃ t, thinTo zs kind c (List.range k) = t := ⟨_, rfl⟩
        have HSN := Lib.hid (show thinTo zs kind c (List.range (k + 1)) = thinStep zs kind t k by rw [List.range_succ, thinTo_snoc, ht])
        rw [ht] at hlt2 ⊢
        have hlt4 : t < 2 ^ 12 := by omega
        have hp := npow_bd k (by omega)
        have hw1 : IntKind.i64.wrap (2 ^ k) = 2 ^ k := IntWalk.i64_in _ (by omega)
        have ean : bits BinOp.andNot IntKind.i64 (t : Int) (2 ^ k) = ((bdiff t (2 ^ k) : Nat) : Int) := by
          rw [← pow_int k]; exact i64_andNot_nat _ _ (by omega) (by have := pow_int k; omega)
        have hbl : bdiff t (2 ^ k) < 2 ^ n := bdiff_lt hlt2
        have hbl4 : bdiff t (2 ^ k) < 4096 := bdiff_lt (k := 12) hlt4
        obtain ⟨v, hv⟩ : ∃ v, isB zs kind (bdiff t (2 ^ k)) = v := ⟨_, rfl⟩
        have HV := Lib.hid hv
        have HBL := Lib.hid hbl
        clear ht hv hbl
        cases v with
        | false =>
          have HN : Hid (thinTo zs kind c (List.range (k + 1)) = t) := by show _ = _; rw [HSN.out, thinStep, HV.out]; rfl
          go_wp2_with fail
          refine (sin_of false _ _ _ _ _ _ _ _ kind (bdiff t (2 ^ k)) _ HS3.out HT3.out HG.out rfl rfl hk3 hbl4 HBL.out HV.out).mono ?_
          rintro e w5 ⟨rfl, hb5⟩
          go_wp2
          go_roundw
          case rel => exact ⟨k + 1, by omega, by go_num, by rw [HN.out], bnext HB.out hb5⟩
          case measure => simp [intOf]; omega
        | true =>
          have HN : Hid (thinTo zs kind c (List.range (k + 1)) = bdiff t (2 ^ k)) := by show _ = _; rw [HSN.out, thinStep, HV.out]; rfl
          go_wp2_with fail
          refine (sin_of true _ _ _ _ _ _ _ _ kind (bdiff t (2 ^ k)) _ HS3.out HT3.out HG.out rfl rfl hk3 hbl4 HBL.out HV.out).mono ?_
          rintro e w5 ⟨rfl, hb5⟩
          go_wp2
          go_roundw
          case rel => exact ⟨k + 1, by omega, by go_num, by rw [HN.out], bnext HB.out hb5⟩
          case measure => simp [intOf]; omega
      · obtain rfl : k = n := by omega
        go_wp2
        go_ret2
        exact ⟨by rw [HR.out]; rfl, HB2.out.trans (HB.out.mono HB2.out.size)⟩

/-! ### CodeFind -/
theorem at_ne2 {zs : List Int} {u : Int} {k : Nat} (h : (zs[k]?.getD 0 == u) = false) : decide (zs[k]?.getD 0 = u) = false := by simpa using h
set_option maxRecDepth 100000 in
set_option maxHeartbeats 1000000 in
theorem sCodeFind_any (a : Option Addr) (n cap : Nat) (zs : List Int) (cd u : Int) (w : World) (hs : SlAt w a n zs) :
    Calls Try.prog 50 #[.slice a n cap, .int .i64 cd, .int .i64 u] w fun e w' => e = .returned (.tuple #[.int .i64 (CodeFindR zs cd u), .bool (decide (0 ≤ findB zs cd u))]) ∧ Below w.heap.size w w' := by
  cases hi : codeInB zs 2 cd with
  | false =>
    have HF := Lib.hid (show findB zs cd u = -1 by simp [findB, hi])
    have HI := Lib.hid hi
    clear hi
    go_enter Try.func50, Try.ntmps50
    go_wp2_with (go_at_call 39; refine (sCodeIn_is false _ _ _ _ _ _ _ hs HI.out).mono ?_; rintro e w1 ⟨rfl, hb1⟩)
    go_ret2
    exact ⟨by unfold CodeFindR; rw [HF.out]; rfl, hb1⟩
  | true =>
    obtain ⟨hg, kind, c, hk2, rfl, hk3, hc, hc2, hiv⟩ := codeIn_of hi
    clear hk2 hk3 hiv hc2
    have hG := isG_of hg
    rw [← hs.len] at hG
    have hn2 := hG.le
    have hml : n = (marksV zs c).length := by rw [marksV_len, ← hG.len]
    have HF := Lib.hid (show findB zs c u = idxOf (marksV zs c) u by simp [findB, hi])
    have HML := Lib.hid hml
    have HI := Lib.hid hi
    have HG := Lib.hid hg
    clear hi hg hml
    go_enter Try.func50, Try.ntmps50
    go_wp2_with fail
    refine (sCodeIn_is true _ _ _ _ _ _ _ hs HI.out).mono ?_
    rintro e w1 ⟨rfl, hb1⟩
    go_wp2_with fail
    refine (l2Marks_any _ _ _ _ c _ (hs.below hb1) HG.out hc).mono ?_
    rintro e w2 ⟨a2, c2, rfl, hA2, hb2⟩
    have HB := Lib.hid (bnext hb1 hb2)
    have HA := Lib.hid hA2.sl
    clear hA2 hb1 hb2
    go_wp2
    go_loop [9] (fun p => ∃ k : Nat, k ≤ n ∧ p = .int .i64 k ∧ ∀ j, j < k → Hid (decide ((marksV zs c)[j]?.getD 0 = u) = false)) (fun p => 12 - (intOf p).toNat)
    case atStart => exact ⟨0, by omega, rfl, fun j hj => absurd hj (Nat.not_lt_zero j)⟩
    case round =>
      obtain ⟨k, hk, rfl, hag⟩ := hrel
      have HAG := Lib.hid hag
      clear hag
      by_cases hlt : k < n
      · obtain ⟨b, off, rfl, hb, hcc⟩ := HA.out.at' (by omega)
        have hlt' : (k : Int) < n := by omega
        have hx := hcc k hlt
        rw [List.getD_eq_getElem?_getD] at hx
        clear hcc
        cases hv : ((marksV zs c)[k]?.getD 0 == u) with
        | true =>
          have HD : Hid (findB zs c u = k) := by show _ = _; rw [HF.out]; exact idxBy_hit (by rw [← HML.out]; exact hlt) (by simpa using hv) fun j hj => (HAG.out j hj).out
          go_wp2
          go_ret2
          exact ⟨by unfold CodeFindR; rw [HD.out, if_pos (by omega), decide_eq_true (by omega)]; rfl, HB.out⟩
        | false =>
          have HN : Hid (decide ((marksV zs c)[k]?.getD 0 = u) = false) := at_ne2 hv
          go_wp2
          go_round
          case rel =>
            refine ⟨k + 1, by omega, by go_num, fun j hj => ?_⟩
            rcases Nat.lt_succ_iff_lt_or_eq.1 hj with h | rfl
            · exact HAG.out j h
            · exact HN
          case measure => simp [intOf]; omega
      · obtain rfl : n = k := by omega
        have HD : Hid (findB zs c u = -1) := by show _ = _; rw [HF.out]; exact idxBy_miss fun j hj => (HAG.out j (by rw [HML.out]; exact hj)).out
        go_wp2
        go_ret2
        exact ⟨by unfold CodeFindR; rw [HD.out]; rfl, HB.out⟩

/-! ### CodePlace -/
set_option maxRecDepth 100000 in
set_option maxHeartbeats 1000000 in
theorem l2Same_any (a b : Option Addr) (n m ca cb : Nat) (xs ys : List Int) (w : World) (hs : SlAt w a n xs) (ht : SlAt w b m ys) :
    Calls Try.prog 75 #[.slice a n ca, .slice b m cb] w fun e w' => e = .returned (.bool (decide (xs = ys))) ∧ ∃ q, w.drewN q = w' := by
  by_cases hnm : n = m
  · subst hnm
    go_enter Try.func75, Try.ntmps75
    go_wp2
    go_loopw [5] (fun p wr => ∃ k : Nat, k ≤ n ∧ p = .int .i64 k ∧ (∀ j, j < k → xs[j]?.getD 0 = ys[j]?.getD 0) ∧ ∃ q, w.drewN q = wr) (fun p _ => n - (intOf p).toNat)
    case atStart => exact ⟨0, by omega, rfl, by omega, 0, rfl⟩
    case round =>
      obtain ⟨k, hk, rfl, hag, q, rfl⟩ := hrel
      by_cases hlt : k < n
      · obtain ⟨b1, o1, rfl, hb1, hc1⟩ := hs.at' (by omega)
        obtain ⟨b2, o2, rfl, hb2, hc2⟩ := ht.at' (by omega)
        have hx := hc1 k hlt
        have hy := hc2 k hlt
        have hlt' : (k : Int) < n := by omega
        have hbd := hs.bd
        have HG := Lib.hid hag
        clear hc1 hc2 hag
        go_wp2
        go_quiet (fail)
        go_wp2
        · have hne : ¬ xs[k]?.getD 0 = ys[k]?.getD 0 := by
            have h : (xs[k]?.getD 0 != ys[k]?.getD 0) = true := by assumption
            simpa using h
          go_ret
          exact ⟨by rw [ne_of_at hne]; rfl, q + nq, (World.drewN_drewN _ _ _).symm⟩
        · have he : xs[k]?.getD 0 = ys[k]?.getD 0 := by
            have h : (xs[k]?.getD 0 != ys[k]?.getD 0) = false := by assumption
            simpa using h
          go_roundw
          case rel =>
            refine ⟨k + 1, by omega, by go_num, fun j hj => ?_, _, rfl⟩
            rcases Nat.lt_succ_iff_lt_or_eq.1 hj with h | rfl
            · exact HG.out j h
            · exact he
          case measure => simp [intOf]; omega
      · obtain rfl : k = n := by omega
        go_wp2
        go_ret
        exact ⟨by rw [eq_of_at hs.len ht.len hag]; rfl, q, rfl⟩
  · have hne : decide (xs = ys) = false := decide_eq_false fun e => hnm (by rw [hs.len, ht.len, e])
    have H := Lib.hid hne
    clear hne
    go_enter Try.func75, Try.ntmps75
    go_wp2
    go_ret
    exact ⟨by rw [H.out]; rfl, 0, rfl⟩


theorem l2Same_is (v : Bool) (a b : Option Addr) (n m ca cb : Nat) (xs ys : List Int) (w : World) (hs : SlAt w a n xs) (ht : SlAt w b m ys) (hv : decide (xs = ys) = v) :
    Calls Try.prog 75 #[.slice a n ca, .slice b m cb] w fun e w' => e = .returned (.bool v) ∧ Below w.heap.size w w' :=
  (l2Same_any a b n m ca cb xs ys w hs ht).mono fun _ _ ⟨h, q, hq⟩ => ⟨by rw [h, hv], by subst hq; exact bdrewN _ _⟩
set_option maxRecDepth 100000 in
set_option maxHeartbeats 1000000 in
theorem sCodePlace_any (a : Option Addr) (n cap : Nat) (zs : List Int) (cd : Int) (b : Option Addr) (m cb : Nat) (ys : List Int) (w : World) (hs : SlAt w a n zs) (ht : SlAt w b m ys) :
    Calls Try.prog 25 #[.slice a n cap, .int .i64 cd, .slice b m cb] w fun e w' => e = .returned (.tuple #[.int .i64 (CodePlaceR zs cd ys), .bool (decide (0 ≤ placeB zs cd ys))]) ∧ Below w.heap.size w w' := by
  cases hi : codeInB zs 3 cd with
  | false =>
    have HF := Lib.hid (show placeB zs cd ys = -1 by simp [placeB, hi])
    have HI := Lib.hid hi
    clear hi
    go_enter Try.func25, Try.ntmps25
    go_wp2_with (go_at_call 39; refine (sCodeIn_is false _ _ _ _ _ _ _ hs HI.out).mono ?_; rintro e w1 ⟨rfl, hb1⟩)
    go_ret2
    exact ⟨by unfold CodePlaceR; rw [HF.out]; rfl, hb1⟩
  | true =>
    obtain ⟨hg, kind, c, hk2, rfl, hk3, hc, hc2, hiv⟩ := codeIn_of hi
    clear hk2 hk3 hiv
    have hG := isG_of hg
    rw [← hs.len] at hG hc2
    have hn2 := hG.le
    have hml : n = (vecsV zs c).length := by rw [vecsV_len, ← hG.len]
    have HF := Lib.hid (show placeB zs c ys = rowIdx (vecsV zs c) ys by simp [placeB, hi])
    have HML := Lib.hid hml
    have HI := Lib.hid hi
    have HG := Lib.hid hg
    have HC2 := Lib.hid hc2
    have HT := Lib.hid ht
    clear hi hg hml hc2 ht
    go_enter Try.func25, Try.ntmps25
    go_wp2_with fail
    refine (sCodeIn_is true _ _ _ _ _ _ _ hs HI.out).mono ?_
    rintro e w1 ⟨rfl, hb1⟩
    go_wp2_with fail
    refine (l2Vectors_any _ _ _ _ c _ (hs.below hb1) hG hc HC2.out).mono ?_
    rintro e w2 ⟨a2, c2, rfl, hA2, hb2⟩
    have HB := Lib.hid (bnext hb1 hb2)
    have HA := Lib.hid hA2.rowsAt
    have HT2 := Lib.hid (HT.out.below (bnext hb1 hb2))
    clear hA2 hb1 hb2
    go_wp2
    go_loopw [9] (fun p wr => ∃ k : Nat, k ≤ n ∧ p = .int .i64 k ∧ (∀ j, j < k → Hid (decide ((vecsV zs c).getD j [] = ys) = false)) ∧ Below w2.heap.size w2 wr) (fun p _ => 12 - (intOf p).toNat)
    case atStart => exact ⟨0, by omega, rfl, fun j hj => absurd hj (Nat.not_lt_zero j), Below.refl _ _⟩
    case round =>
      obtain ⟨k, hk, rfl, hag, hBl⟩ := hrel
      have HAG := Lib.hid hag
      have HBl := Lib.hid hBl
      clear hag hBl
      by_cases hlt : k < n
      · obtain ⟨b1, off, rfl, hb1, hcc⟩ := (HA.out.below HBl.out).at' (by omega)
        obtain ⟨aj, nj, cj, hcj, hsj⟩ := hcc k hlt
        have hlt' : (k : Int) < n := by omega
        have HT3 := Lib.hid (HT2.out.below HBl.out)
        have HSJ := Lib.hid hsj
        clear hcc hsj
        cases hv : decide ((vecsV zs c).getD k [] = ys) with
        | true =>
          have HD : Hid (placeB zs c ys = k) := by show _ = _; rw [HF.out]; exact idxBy_hit (by rw [← HML.out]; exact hlt) hv fun j hj => (HAG.out j hj).out
          have HV := Lib.hid hv
          clear hv
          go_wp2_with (go_at_call 75; refine (l2Same_is true _ _ _ _ _ _ _ _ _ HSJ.out HT3.out HV.out).mono ?_; rintro e w5 ⟨rfl, hb5⟩)
          go_ret2
          exact ⟨by unfold CodePlaceR; rw [HD.out, if_pos (by omega), decide_eq_true (by omega)]; rfl, bnext (HB.out.trans (HBl.out.mono HB.out.size)) hb5⟩
        | false =>
          have HV := Lib.hid hv
          clear hv
          go_wp2_with (go_at_call 75; refine (l2Same_is false _ _ _ _ _ _ _ _ _ HSJ.out HT3.out HV.out).mono ?_; rintro e w5 ⟨rfl, hb5⟩)
          go_roundw
          case rel =>
            refine ⟨k + 1, by omega, by go_num, fun j hj => ?_, bnext HBl.out hb5⟩
            rcases Nat.lt_succ_iff_lt_or_eq.1 hj with h | rfl
            · exact HAG.out j h
            · exact HV
          case measure => simp [intOf]; omega
      · obtain rfl : n = k := by omega
        have HD : Hid (placeB zs c ys = -1) := by show _ = _; rw [HF.out]; exact idxBy_miss fun j hj => (HAG.out j (by rw [HML.out]; exact hj)).out
        go_wp2
        go_ret2
        exact ⟨by unfold CodePlaceR; rw [HD.out]; rfl, HB.out.trans (HBl.out.mono HB.out.size)⟩
end Go.Proofs.Ytpllijjocccaaaa
