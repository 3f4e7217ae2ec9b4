/- CodeLeast, CodeCount of the program. -/
import Derived.Test.YtpllijjocccaaaaCodes
namespace Go.Proofs.Ytpllijjocccaaaa
open Go.RowKit Go.Shelf
attribute [local go_sem] Oper.semAt_some

theorem size_is (s : Int) (t m : Nat) (w : World) (hst : s = (t : Int)) (ht : t < 4096) (hm : card t = m) : Calls Try.prog 58 #[.int .i64 s] w fun e w' => e = .returned (.int .i64 m) ∧ w = w' := by subst hst hm; exact size_any t w ht
theorem Boxed.below {W W' : World} {R : Nat} {t : TypeId} {v : Value} (h : Boxed W R t v) (hb : Below W.heap.size W W') : Boxed W' R t v := Boxed.stay h (Below.stay hb []) h.lt (by simp)
theorem Bk.heap {W W' : World} {B : Nat} {v0 v1 v2 : Value} (h : Bk W B v0 v1 v2) (hb : Below W.heap.size W W') : Bk W' B v0 v1 v2 := h.below hb
/-- what 'holds' asks: is the set a code of the kind -/
theorem holds_any (v : Bool) (PB PK B n : Nat) (zs : List Int) (sd : Int) (kind c : Nat) (w : World) (hP : Boxed w PB 54 (.pointer (some ⟨B, 0, none⟩))) (hK : Boxed w PK 3 (.int .i64 kind)) (hB : BookAt w B n zs) (hG : IsG n zs) (hsd : sd = (c : Int)) (hk : kind ≤ 3) (hc : c < 4096) (hc2 : c < 2 ^ n) (hv : isB zs kind c = v) :
    Calls Try.prog 66 #[.int .i64 sd, .pointer (some ⟨PB, 0, none⟩), .pointer (some ⟨PK, 0, none⟩)] w fun e w' => e = .returned (.bool v) ∧ Below w.heap.size w w' := by
  have c1 := hP.cell
  have c2 := hK.cell
  subst hsd
  go_enter Try.func66, Try.ntmps66
  go_wp2_with (go_at_call 59; refine (is_is v B n zs _ _ kind c _ hB hG rfl rfl hk hc hc2 hv).mono ?_; rintro e w1 ⟨rfl, hb1⟩)
  go_ret
  exact ⟨rfl, hb1⟩
theorem leastTo_next {P : Nat → Bool} {k : Nat} {acc : Option Nat} (h : leastTo P k = acc) : leastTo P (k + 1) = leastStep P acc k := by rw [leastTo_succ, h]
set_option maxRecDepth 100000 in
set_option maxHeartbeats 2000000 in
theorem least_any (PB PK B n : Nat) (zs : List Int) (kind : Nat) (w : World) (hP : Boxed w PB 54 (.pointer (some ⟨B, 0, none⟩))) (hK : Boxed w PK 3 (.int .i64 kind)) (hB : BookAt w B n zs) (hG : IsG n zs) (hk : kind ≤ 3) (m : Nat) (hm : 2 ^ n = m + 1) :
    Calls Try.prog 65 #[.int .i64 m, .func (.func 66) #[] #[.pointer (some ⟨PB, 0, none⟩), .pointer (some ⟨PK, 0, none⟩)]] w fun e w' =>
      e = .returned (.tuple #[.int .i64 (optN (leastTo (isB zs kind) (m + 1))), .bool (leastTo (isB zs kind) (m + 1)).isSome]) ∧ Below w.heap.size w w' := by
  have hm12 : m < 4096 := by have := pow12 hG.le; omega
  have HM := Lib.hid hm
  clear hm
  go_enter Try.func65, Try.ntmps65
  go_wp2
  go_loopw [6, 7, 8] (fun bst fnd p wr => ∃ (k : Nat) (acc : Option Nat), k ≤ m + 1 ∧ p = .int .i64 k ∧ bst = .int .i64 (optN acc) ∧ fnd = .bool acc.isSome ∧ Hid (leastTo (isB zs kind) k = acc) ∧ Below w.heap.size w wr) (fun _ _ p _ => 4096 - (intOf p).toNat)
  case atStart => exact ⟨0, none, by omega, rfl, rfl, rfl, rfl, Below.refl _ _⟩
  case round =>
    obtain ⟨k, acc, hk', rfl, rfl, rfl, HL, hBl⟩ := hrel
    have HB := Lib.hid hBl
    clear hBl
    by_cases hlt : k ≤ m
    · have hlt' : (k : Int) ≤ m := by omega
      have hkn : k < 2 ^ n := by rw [HM.out]; omega
      obtain ⟨v, hv⟩ : ∃ v, isB zs kind k = v := ⟨_, rfl⟩
      have HV := Lib.hid hv
      have HP := Lib.hid (Boxed.below hP HB.out)
      have HK := Lib.hid (Boxed.below hK HB.out)
      have HBk := Lib.hid (hB.below HB.out)
      have HKN := Lib.hid hkn
      clear hv hkn
      cases acc with
      | none =>
        have hL2 := leastTo_next HL.out
        cases v with
        | true =>
          have HL2 : Hid (leastTo (isB zs kind) (k + 1) = some k) := by show _ = _; rw [hL2]; simp [leastStep, HV.out]
          clear hL2
          simp only [Option.isSome_none, optN]
          go_wp2_with (go_at_call 66; refine (holds_any true PB PK B n zs _ kind k _ HP.out HK.out HBk.out hG rfl hk (by omega) HKN.out HV.out).mono ?_; rintro e w1 ⟨rfl, hb1⟩)
          go_roundw
          case rel => exact ⟨k + 1, some k, by omega, by go_num, rfl, rfl, HL2, bnext HB.out hb1⟩
          case measure => simp [intOf]; omega
        | false =>
          have HL2 : Hid (leastTo (isB zs kind) (k + 1) = none) := by show _ = _; rw [hL2]; simp [leastStep, HV.out]
          clear hL2
          simp only [Option.isSome_none, optN]
          go_wp2_with (go_at_call 66; refine (holds_any false PB PK B n zs _ kind k _ HP.out HK.out HBk.out hG rfl hk (by omega) HKN.out HV.out).mono ?_; rintro e w1 ⟨rfl, hb1⟩)
          go_roundw
          case rel => exact ⟨k + 1, none, by omega, by go_num, rfl, rfl, HL2, bnext HB.out hb1⟩
          case measure => simp [intOf]; omega
      | some b =>
        have hL2 := leastTo_next HL.out
        have hbk : b < k := by
          rcases leastTo_spec (isB zs kind) k with ⟨h, _⟩ | ⟨b', h, h2, _⟩
          · rw [HL.out] at h; cases h
          · rw [HL.out] at h; cases h; exact h2
        obtain ⟨ck, hck⟩ : ∃ x, card k = x := ⟨_, rfl⟩
        obtain ⟨cb, hcb⟩ : ∃ x, card b = x := ⟨_, rfl⟩
        have HCK := Lib.hid hck
        have HCB := Lib.hid hcb
        clear hck hcb
        simp only [Option.isSome_some, optN]
        by_cases hcc : ck < cb
        · cases v with
          | true =>
            have HL2 : Hid (leastTo (isB zs kind) (k + 1) = some k) := by show _ = _; rw [hL2]; simp [leastStep, HCK.out, HCB.out, hcc, HV.out]
            clear hL2
            go_wp2_with fail
            refine (size_is _ k ck _ rfl (by omega) HCK.out).mono ?_
            rintro e w' ⟨rfl, rfl⟩
            go_wp2_with fail
            refine (size_is _ b cb _ rfl (by omega) HCB.out).mono ?_
            rintro e w' ⟨rfl, rfl⟩
            go_wp2_with (go_at_call 66; refine (holds_any true PB PK B n zs _ kind k _ HP.out HK.out HBk.out hG rfl hk (by omega) HKN.out HV.out).mono ?_; rintro e w1 ⟨rfl, hb1⟩)
            go_roundw
            case rel => exact ⟨k + 1, some k, by omega, by go_num, rfl, rfl, HL2, bnext HB.out hb1⟩
            case measure => simp [intOf]; omega
          | false =>
            have HL2 : Hid (leastTo (isB zs kind) (k + 1) = some b) := by show _ = _; rw [hL2]; simp [leastStep, HCK.out, HCB.out, hcc, HV.out]
            clear hL2
            go_wp2_with fail
            refine (size_is _ k ck _ rfl (by omega) HCK.out).mono ?_
            rintro e w' ⟨rfl, rfl⟩
            go_wp2_with fail
            refine (size_is _ b cb _ rfl (by omega) HCB.out).mono ?_
            rintro e w' ⟨rfl, rfl⟩
            go_wp2_with (go_at_call 66; refine (holds_any false PB PK B n zs _ kind k _ HP.out HK.out HBk.out hG rfl hk (by omega) HKN.out HV.out).mono ?_; rintro e w1 ⟨rfl, hb1⟩)
            go_roundw
            case rel => exact ⟨k + 1, some b, by omega, by go_num, rfl, rfl, HL2, bnext HB.out hb1⟩
            case measure => simp [intOf]; omega
        · have hcc' : ¬ (ck : Int) < cb := by omega
          have HL2 : Hid (leastTo (isB zs kind) (k + 1) = some b) := by show _ = _; rw [hL2]; simp [leastStep, HCK.out, HCB.out, hcc]
          clear hL2
          go_wp2_with fail
          refine (size_is _ k ck _ rfl (by omega) HCK.out).mono ?_
          rintro e w' ⟨rfl, rfl⟩
          go_wp2_with fail
          refine (size_is _ b cb _ rfl (by omega) HCB.out).mono ?_
          rintro e w' ⟨rfl, rfl⟩
          go_wp2
          go_roundw
          case rel => exact ⟨k + 1, some b, by omega, by go_num, rfl, rfl, HL2, HB.out⟩
          case measure => simp [intOf]; omega
    · obtain rfl : k = m + 1 := by omega
      have hlt' : ¬ ((m + 1 : Nat) : Int) ≤ m := by omega
      go_wp2
      go_ret2
      exact ⟨by rw [HL.out]; rfl, HB.out⟩
theorem leastOk_of {zs : List Int} {kd : Int} (h : leastOk zs kd = true) : graphB zs = true ∧ kindB kd = true := by simpa [leastOk] using h
set_option maxRecDepth 100000 in
set_option maxHeartbeats 1000000 in
theorem CodeLeast_any (a : Option Addr) (n cap : Nat) (zs : List Int) (kd : Int) (w : World) (hs : SlAt w a n zs) :
    Calls Try.prog 18 #[.slice a n cap, .int .i64 kd] w fun e w' => e = .returned (.tuple #[.int .i64 (optN (CodeLeastR zs kd)), .bool (CodeLeastR zs kd).isSome]) ∧ Below w.heap.size w w' := by
  have hB0 : Below w.heap.size w (w.alloc (.cells #[.int .i64 kd] 3)) := (Below.refl _ _).alloc (Nat.le_refl _) _
  have hX0 := Boxed.new w 3 (.int .i64 kd)
  have hs0 := hs.below hB0
  cases hg : graphB zs with
  | false =>
    have HR := Lib.hid (show CodeLeastR zs kd = none by simp [CodeLeastR, leastOk, hg])
    have HG := Lib.hid hg
    clear hg hX0
    go_enter Try.func18, Try.ntmps18
    go_wp2_with (go_at_call 54; refine (GraphIn_is false _ _ _ _ _ hs0 HG.out).mono ?_; rintro e w1 ⟨rfl, hb1⟩)
    go_ret2
    exact ⟨by rw [HR.out]; rfl, bnext hB0 hb1⟩
  | true =>
    have hn := (graphB_bd hg).2
    rw [← hs.len] at hn
    have hG := isG_of hg
    rw [← hs.len] at hG
    cases hk : kindB kd with
    | false =>
      have HR := Lib.hid (show CodeLeastR zs kd = none by simp [CodeLeastR, leastOk, hk])
      have HG := Lib.hid hg
      have HK := Lib.hid hk
      have HX0 := Lib.hid hX0
      clear hg hk hX0
      go_enter Try.func18, Try.ntmps18
      go_wp2_with fail
      refine (GraphIn_is true _ _ _ _ _ hs0 HG.out).mono ?_
      rintro e w1 ⟨rfl, hb1⟩
      have cX := (Boxed.below HX0.out hb1).cell
      go_wp2_with fail
      refine (isKind_is false _ _ HK.out).mono ?_
      rintro e w' ⟨rfl, rfl⟩
      go_wp2
      go_ret2
      exact ⟨by rw [HR.out]; rfl, bnext hB0 hb1⟩
    | true =>
      obtain ⟨kind, rfl, hk3⟩ := kindB_of hk
      obtain ⟨m, hm⟩ : ∃ m, 2 ^ n = m + 1 := ⟨2 ^ n - 1, by have := Nat.two_pow_pos n; omega⟩
      have HR := Lib.hid (show CodeLeastR zs kind = leastTo (isB zs kind) (m + 1) by
        unfold CodeLeastR leastV; rw [if_pos (by simp [leastOk, hg, hk]), Int.toNat_natCast, ← hs.len, hm])
      have HM := Lib.hid hm
      have HP := Lib.hid (show (2 : Int) ^ n - 1 = (m : Nat) by have := pow_int n; omega)
      have HG := Lib.hid hg
      have HK := Lib.hid hk
      have HX0 := Lib.hid hX0
      clear hg hk hm hX0
      go_enter Try.func18, Try.ntmps18
      go_wp2_with fail
      refine (GraphIn_is true _ _ _ _ _ hs0 HG.out).mono ?_
      rintro e w1 ⟨rfl, hb1⟩
      have hX1 := Boxed.below HX0.out hb1
      have cX := hX1.cell
      go_wp2_with fail
      refine (isKind_is true _ _ HK.out).mono ?_
      rintro e w' ⟨rfl, rfl⟩
      clear cX
      go_wp2_with fail
      refine (bookOf_any _ _ _ _ _ (hs0.below hb1) HG.out).mono ?_
      rintro e w2 ⟨B, rfl, _, hBk, hb2⟩
      have hb3 : Below w2.heap.size w2 (w2.alloc (.cells #[.pointer (some ⟨B, 0, none⟩)] 54)) := (Below.refl _ _).alloc (Nat.le_refl _) _
      have hBk3 := hBk.below hb3
      obtain ⟨a0, cap0, ab, cb, af, cf, hK3, _, _, _⟩ := hBk3.fields
      have c0 := hK3.cell0
      have hX3 := Boxed.below (Boxed.below hX1 hb2) hb3
      have hP3 := Boxed.new w2 54 (.pointer (some ⟨B, 0, none⟩))
      have HX3 := Lib.hid hX3
      have HP3 := Lib.hid hP3
      have HBk3 := Lib.hid hBk3
      have hBB := bnext (bnext (bnext hB0 hb1) hb2) hb3
      clear hX1 hX3 hP3 hK3 hBk3 hBk
      go_wp2_with fail
      refine (all_any _ _ _ _ hn).mono ?_
      rintro e w' ⟨rfl, rfl⟩
      rw [HP.out]
      go_wp2_with fail
      refine (least_any _ _ B n zs kind _ HP3.out HX3.out HBk3.out hG hk3 m HM.out).mono ?_
      rintro e w4 ⟨rfl, hb4⟩
      go_wp2
      go_ret2
      exact ⟨by rw [HR.out]; rfl, bnext hBB hb4⟩

/-! ### CodeCount -/
set_option maxRecDepth 100000 in
set_option maxHeartbeats 1000000 in
theorem CodeCount_any (a : Option Addr) (n cap : Nat) (zs : List Int) (kd mn : Int) (w : World) (hs : SlAt w a n zs) :
    Calls Try.prog 16 #[.slice a n cap, .int .i64 kd, .int .i64 mn] w fun e w' => e = .returned (.tuple #[.int .i64 (CodeCountR zs kd mn : Nat), .bool (countOk zs kd mn)]) ∧ Below w.heap.size w w' := by
  cases hg : graphB zs with
  | false =>
    have HO := Lib.hid (show countOk zs kd mn = false by simp [countOk, leastOk, hg])
    have HR := Lib.hid (show CodeCountR zs kd mn = 0 by simp [CodeCountR, countOk, leastOk, hg])
    have HG := Lib.hid hg
    clear hg
    go_enter Try.func16, Try.ntmps16
    go_wp2_with (go_at_call 54; refine (GraphIn_is false _ _ _ _ _ hs HG.out).mono ?_; rintro e w1 ⟨rfl, hb1⟩)
    go_ret2
    exact ⟨by rw [HR.out, HO.out]; rfl, hb1⟩
  | true =>
    have hn := (graphB_bd hg).2
    rw [← hs.len] at hn
    have hG := isG_of hg
    rw [← hs.len] at hG
    cases hk : kindB kd with
    | false =>
      have HO := Lib.hid (show countOk zs kd mn = false by simp [countOk, leastOk, hk])
      have HR := Lib.hid (show CodeCountR zs kd mn = 0 by simp [CodeCountR, countOk, leastOk, hk])
      have HG := Lib.hid hg
      have HK := Lib.hid hk
      clear hg hk
      go_enter Try.func16, Try.ntmps16
      go_wp2_with (first
        | (go_at_call 54; refine (GraphIn_is true _ _ _ _ _ hs HG.out).mono ?_; rintro e w1 ⟨rfl, hb1⟩)
        | (go_at_call 55; refine (isKind_is false _ _ HK.out).mono ?_; rintro e w' ⟨rfl, rfl⟩))
      go_ret2
      exact ⟨by rw [HR.out, HO.out]; rfl, hb1⟩
    | true =>
      by_cases hm0 : 0 ≤ mn
      · obtain ⟨kind, rfl, hk3⟩ := kindB_of hk
        obtain ⟨m, hm⟩ : ∃ m, 2 ^ n = m + 1 := ⟨2 ^ n - 1, by have := Nat.two_pow_pos n; omega⟩
        have hm12 : m < 4096 := by have := pow12 hG.le; omega
        have HO := Lib.hid (show countOk zs kind mn = true by simp [countOk, leastOk, hg, hk, hm0])
        have HR := Lib.hid (show CodeCountR zs kind mn = countTo (isB zs kind) mn (m + 1) by
          unfold CodeCountR; rw [if_pos (by simp [countOk, leastOk, hg, hk, hm0]), Int.toNat_natCast, ← hs.len, hm])
        have HM := Lib.hid hm
        have HP := Lib.hid (show (2 : Int) ^ n - 1 = (m : Nat) by have := pow_int n; omega)
        have HG := Lib.hid hg
        have HK := Lib.hid hk
        have hm0' : ¬ mn < 0 := by omega
        clear hg hk hm
        go_enter Try.func16, Try.ntmps16
        go_wp2_with fail
        refine (GraphIn_is true _ _ _ _ _ hs HG.out).mono ?_
        rintro e w1 ⟨rfl, hb1⟩
        go_wp2_with fail
        refine (isKind_is true _ _ HK.out).mono ?_
        rintro e w' ⟨rfl, rfl⟩
        go_wp2_with fail
        refine (bookOf_any _ _ _ _ _ (hs.below hb1) HG.out).mono ?_
        rintro e w2 ⟨B, rfl, _, hBk, hb2⟩
        have HB2 := Lib.hid (bnext hb1 hb2)
        have HBk := Lib.hid hBk
        clear hBk
        go_wp2
        go_loopw [9, 10] (fun u p wr => ∃ k : Nat, k ≤ m + 1 ∧ p = .int .i64 k ∧ u = .int .i64 (countTo (isB zs kind) mn k : Nat) ∧ Below w2.heap.size w2 wr) (fun _ p _ => 4096 - (intOf p).toNat)
        case atStart => exact ⟨0, by omega, rfl, rfl, Below.refl _ _⟩
        case round =>
          obtain ⟨k, hkm, rfl, rfl, hBl⟩ := hrel
          have hBr := HBk.out.below hBl
          obtain ⟨a0, cap0, ab, cb, af, cf, hKr, _, _, _⟩ := hBr.fields
          have c0 := hKr.cell0
          have HBr := Lib.hid hBr
          have HB := Lib.hid hBl
          clear hBr hKr hBl
          by_cases hlt : k ≤ m
          · have hlt' : (k : Int) ≤ m := by omega
            have hkn : k < 2 ^ n := by rw [HM.out]; omega
            obtain ⟨v, hv⟩ : ∃ v, isB zs kind k = v := ⟨_, rfl⟩
            obtain ⟨ck, hck⟩ : ∃ x, card k = x := ⟨_, rfl⟩
            have hcs := countTo_succ (isB zs kind) mn k
            have hcl := countTo_le (isB zs kind) mn k
            rw [hck, hv] at hcs
            have HV := Lib.hid hv
            have HCK := Lib.hid hck
            have HCS := Lib.hid hcs
            have HKN := Lib.hid hkn
            clear hv hck hcs hkn
            cases hcm : ((ck : Int) == mn) with
            | false =>
              have hcm' : decide ((ck : Int) = mn) = false := by simpa using hcm
              have HN : Hid (countTo (isB zs kind) mn (k + 1) = countTo (isB zs kind) mn k) := by show _ = _; rw [HCS.out, hcm']; simp
              clear hcm'
              go_wp2_with fail
              refine (all_any _ _ _ _ hn).mono ?_
              rintro e w' ⟨rfl, rfl⟩
              rw [HP.out]
              go_wp2_with fail
              refine (size_is _ k ck _ rfl (by omega) HCK.out).mono ?_
              rintro e w' ⟨rfl, rfl⟩
              go_wp2
              go_roundw
              case rel => exact ⟨k + 1, by omega, by go_num, by rw [HN.out], HB.out⟩
              case measure => simp [intOf]; omega
            | true =>
              have hcm' : decide ((ck : Int) = mn) = true := by simpa using hcm
              cases v with
              | false =>
                have HN : Hid (countTo (isB zs kind) mn (k + 1) = countTo (isB zs kind) mn k) := by show _ = _; rw [HCS.out, hcm']; simp
                clear hcm'
                go_wp2_with fail
                refine (all_any _ _ _ _ hn).mono ?_
                rintro e w' ⟨rfl, rfl⟩
                rw [HP.out]
                go_wp2_with fail
                refine (size_is _ k ck _ rfl (by omega) HCK.out).mono ?_
                rintro e w' ⟨rfl, rfl⟩
                go_wp2_with fail
                refine (is_is false B n zs _ _ kind k _ HBr.out hG rfl rfl hk3 (by omega) HKN.out HV.out).mono ?_
                rintro e w5 ⟨rfl, hb5⟩
                go_wp2
                go_roundw
                case rel => exact ⟨k + 1, by omega, by go_num, by rw [HN.out], bnext HB.out hb5⟩
                case measure => simp [intOf]; omega
              | true =>
                have HN : Hid (countTo (isB zs kind) mn (k + 1) = countTo (isB zs kind) mn k + 1) := by show _ = _; rw [HCS.out, hcm']; simp
                clear hcm'
                go_wp2_with fail
                refine (all_any _ _ _ _ hn).mono ?_
                rintro e w' ⟨rfl, rfl⟩
                rw [HP.out]
                go_wp2_with fail
                refine (size_is _ k ck _ rfl (by omega) HCK.out).mono ?_
                rintro e w' ⟨rfl, rfl⟩
                go_wp2_with fail
                refine (is_is true B n zs _ _ kind k _ HBr.out hG rfl rfl hk3 (by omega) HKN.out HV.out).mono ?_
                rintro e w5 ⟨rfl, hb5⟩
                go_wp2
                go_roundw
                case rel => exact ⟨k + 1, by omega, by go_num, by rw [HN.out]; go_num, bnext HB.out hb5⟩
                case measure => simp [intOf]; omega
          · obtain rfl : k = m + 1 := by omega
            have hlt' : ¬ ((m + 1 : Nat) : Int) ≤ m := by omega
            go_wp2_with fail
            refine (all_any _ _ _ _ hn).mono ?_
            rintro e w' ⟨rfl, rfl⟩
            rw [HP.out]
            go_wp2
            go_ret2
            exact ⟨by rw [HR.out, HO.out]; rfl, HB2.out.trans (HB.out.mono HB2.out.size)⟩
      · have HO := Lib.hid (show countOk zs kd mn = false by simp [countOk, hm0])
        have HR := Lib.hid (show CodeCountR zs kd mn = 0 by simp [CodeCountR, countOk, hm0])
        have HG := Lib.hid hg
        have HK := Lib.hid hk
        have hm0' : mn < 0 := by omega
        clear hg hk
        go_enter Try.func16, Try.ntmps16
        go_wp2_with (first
          | (go_at_call 54; refine (GraphIn_is true _ _ _ _ _ hs HG.out).mono ?_; rintro e w1 ⟨rfl, hb1⟩)
          | (go_at_call 55; refine (isKind_is true _ _ HK.out).mono ?_; rintro e w' ⟨rfl, rfl⟩))
        go_ret2
        exact ⟨by rw [HR.out, HO.out]; rfl, hb1⟩
end Go.Proofs.Ytpllijjocccaaaa
