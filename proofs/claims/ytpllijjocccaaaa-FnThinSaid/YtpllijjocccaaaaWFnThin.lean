/- The law FnThin, walked. -/
import Derived.Test.YtpllijjocccaaaaDraws2
import Derived.Test.YtpllijjocccaaaaCodeL3
import Derived.Test.YtpllijjocccaaaaSCodes
import Derived.Test.YtpllijjocccaaaaThin
namespace Go.Proofs.Ytpllijjocccaaaa
open Go.RowKit Go.Shelf

theorem CodeThin_is (v : Bool) (t : Nat) (a : Option Addr) (n cap : Nat) (zs : List Int) (kd cd : Int) (w : World) (hs : SlAt w a n zs) (hv : codeInB zs kd cd = v) (ht : CodeThinR zs kd cd = t) :
    Calls Try.prog 46 #[.slice a n cap, .int .i64 kd, .int .i64 cd] w fun e w' => e = .returned (.tuple #[.int .i64 t, .bool v]) ∧ Below w.heap.size w w' := by subst hv ht; exact CodeThin_any a n cap zs kd cd w hs
theorem sCodeThin_is (v : Bool) (t : Nat) (a : Option Addr) (n cap : Nat) (zs : List Int) (kd cd : Int) (w : World) (hs : SlAt w a n zs) (hv : codeInB zs kd cd = v) (ht : CodeThinR zs kd cd = t) :
    Calls Try.prog 47 #[.slice a n cap, .int .i64 kd, .int .i64 cd] w fun e w' => e = .returned (.tuple #[.int .i64 t, .bool v]) ∧ Below w.heap.size w w' := by subst hv ht; exact sCodeThin_any a n cap zs kd cd w hs
set_option maxRecDepth 100000 in
set_option maxHeartbeats 4000000 in
theorem FnThin_walk (w : World) (a : Option Addr) (n cap : Nat) (h : BytesAt w a n cap) :
    Calls Try.prog 13 #[.slice a n cap] w fun e w' => e = .returned (.bool true) ∧ Below w.heap.size w w' := by
  have hbd := h.bd
  by_cases hn : n ≤ 1048576
  case neg =>
    have hn' : (1048576 : Int) < n := by omega
    go_enter Try.func13, Try.ntmps13
    go_wp2
    go_ret
    exact ⟨rfl, Below.refl _ _⟩
  have hn' : ¬ (1048576 : Int) < n := by omega
  go_enter Try.func13, Try.ntmps13
  go_wp2_with fail
  refine (DrawCodeThin_any _ _ _ _ h).mono ?_
  rintro e w1 ⟨ga, gn, gc, kd, c, zs, rfl, G1, hn1, hn7, _, hkd, hc, hb1⟩
  obtain ⟨t, ht⟩ : ∃ t, CodeThinR zs kd c = t := ⟨_, rfl⟩
  have HT := Lib.hid ht
  clear ht
  cases hv : codeInB zs kd c with
  | false =>
    have HV := Lib.hid hv
    clear hv
    go_wp2_with fail
    refine (CodeThin_is false t _ _ _ _ _ _ _ G1.sl HV.out HT.out).mono ?_
    rintro e w2 ⟨rfl, hb2⟩
    have G2 := G1.below hb2
    have B2 := bnext hb1 hb2
    go_wp2_with fail
    refine (sCodeThin_is false t _ _ _ _ _ _ _ G2.sl HV.out HT.out).mono ?_
    rintro e w3 ⟨rfl, hb3⟩
    go_wp2
    go_ret
    exact ⟨rfl, bnext B2 hb3⟩
  | true =>
    have hpw : 2 ^ gn ≤ 4096 := Nat.pow_le_pow_right (n := 2) (by omega) (show gn ≤ 12 by omega)
    obtain ⟨l1, l2, l3, l4⟩ := thin_law hv
    rw [HT.out] at l1 l2 l3 l4
    rw [← G1.len] at l1
    have HV := Lib.hid hv
    have L2 := Lib.hid l2
    have L3 := Lib.hid l3
    have L4 := Lib.hid l4
    clear hv l2 l3 l4
    go_wp2_with fail
    refine (CodeThin_is true t _ _ _ _ _ _ _ G1.sl HV.out HT.out).mono ?_
    rintro e w2 ⟨rfl, hb2⟩
    have G2 := G1.below hb2
    have B2 := bnext hb1 hb2
    go_wp2_with fail
    refine (sCodeThin_is true t _ _ _ _ _ _ _ G2.sl HV.out HT.out).mono ?_
    rintro e w3 ⟨rfl, hb3⟩
    have G3 := Lib.hid (G2.below hb3)
    have B3 := Lib.hid (bnext B2 hb3)
    clear hb1 hb2 hb3 G1 G2 B2
    go_wp2
    go_loopw [10] (fun p wr => ∃ i : Nat, i ≤ gn ∧ p = .int .i64 i ∧ Arr wr w.heap.size ga gn gc zs ∧ Below w.heap.size w wr) (fun p _ => 12 - (intOf p).toNat)
    case atStart => exact ⟨0, by omega, rfl, G3.out, B3.out⟩
    case round =>
      obtain ⟨i, hi, rfl, hA, hB⟩ := hrel
      by_cases hlt : i < gn
      · have hlt' : (i : Int) < gn := by omega
        have hb := bit_val t i (by omega) (by omega)
        rw [Int.toNat_natCast, Int.toNat_natCast] at hb
        cases hbit : t.testBit i with
        | true =>
          have hno := Lib.hid (L4.out i hbit)
          rw [hbit] at hb
          clear hbit
          simp only [if_true] at hb
          have hk2 : 2 ^ i ≤ 4096 := Nat.le_trans (Nat.pow_le_pow_right (n := 2) (by omega) hi) hpw
          obtain ⟨m, hm⟩ : ∃ m, 2 ^ i = m := ⟨_, rfl⟩
          have hkc : (2 : Int) ^ i = (m : Int) := by rw [← hm]; simp
          rw [hm] at hno hk2
          have e1 : bits BinOp.andNot IntKind.i64 (t : Int) (m : Int) = ((bdiff t m : Nat) : Int) := i64_andNot_nat _ _ (by omega) (by omega)
          have hw : IntKind.i64.wrap (m : Int) = m := IntWalk.i64_in _ (by omega)
          rw [hkc] at hb
          clear hm
          go_wp2_with fail
          refine (CodeIn_is false _ _ _ _ _ _ _ hA.sl hno.out).mono ?_
          rintro e w4 ⟨rfl, hb4⟩
          have hA4 := hA.below hb4
          have hB4 := bnext hB hb4
          clear hA hB hb4
          go_wp2
          go_roundw
          case rel => exact ⟨i + 1, by omega, by go_num, hA4, hB4⟩
          case measure => simp [intOf]; omega
        | false =>
          rw [hbit] at hb
          clear hbit
          simp only [Bool.false_eq_true, if_false] at hb
          go_wp2
          go_roundw
          case rel => exact ⟨i + 1, by omega, by go_num, hA, hB⟩
          case measure => simp [intOf]; omega
      · obtain rfl : gn = i := by omega
        have e1 : bits BinOp.andNot IntKind.i64 (t : Int) (c : Int) = 0 := by rw [i64_andNot_nat _ _ (by omega) (by omega), L3.out]; rfl
        go_wp2_with fail
        refine (CodeIn_is true _ _ _ _ _ _ _ hA.sl L2.out).mono ?_
        rintro e w4 ⟨rfl, hb4⟩
        have hB4 := bnext hB hb4
        go_wp2
        go_ret
        exact ⟨rfl, hB4⟩
end Go.Proofs.Ytpllijjocccaaaa
