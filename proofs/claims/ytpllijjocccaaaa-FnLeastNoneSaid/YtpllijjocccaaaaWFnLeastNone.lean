/- The law FnLeastNone, walked. -/
import Derived.Test.YtpllijjocccaaaaDraws
import Derived.Test.YtpllijjocccaaaaCodeL2
import Derived.Test.YtpllijjocccaaaaLeast
import Derived.Test.YtpllijjocccaaaaSame
namespace Go.Proofs.Ytpllijjocccaaaa
open Go.RowKit Go.Shelf

theorem CodeLeast_is (v : Bool) (a : Option Addr) (n cap : Nat) (zs : List Int) (k : Nat) (kd : Int) (w : World) (hs : SlAt w a n zs) (hk : kd = (k : Int)) (hv : (CodeLeastR zs k).isSome = v) :
    Calls Try.prog 18 #[.slice a n cap, .int .i64 kd] w fun e w' => ∃ b : Int, e = .returned (.tuple #[.int .i64 b, .bool v]) ∧ Below w.heap.size w w' := by
  subst hk hv
  exact (CodeLeast_any a n cap zs k w hs).mono fun _ _ ⟨h, hb⟩ => ⟨_, h, hb⟩
theorem CodeHas_is' (v : Bool) (a : Option Addr) (n cap : Nat) (zs : List Int) (w : World) (hs : SlAt w a n zs) (hv : codeHasB zs = v) :
    Calls Try.prog 29 #[.slice a n cap] w fun e w' => e = .returned (.bool v) ∧ Below w.heap.size w w' := by subst hv; exact CodeHas_any a n cap zs w hs
set_option maxRecDepth 100000 in
set_option maxHeartbeats 4000000 in
theorem FnLeastNone_walk (w : World) (a : Option Addr) (n cap : Nat) (h : BytesAt w a n cap) :
    Calls Try.prog 8 #[.slice a n cap] w fun e w' => e = .returned (.bool true) ∧ Below w.heap.size w w' := by
  have hbd := h.bd
  by_cases hn : n ≤ 1048576
  case neg =>
    have hn' : (1048576 : Int) < n := by omega
    go_enter Try.func8, Try.ntmps8
    go_wp2
    go_ret
    exact ⟨rfl, Below.refl _ _⟩
  have hn' : ¬ (1048576 : Int) < n := by omega
  go_enter Try.func8, Try.ntmps8
  go_wp2_with fail
  refine (DrawGraphTwins_any _ _ _ _ h).mono ?_
  rintro e w1 ⟨ga, gn, gc, zs, rfl, G1, hn1, hn7, _, hb1⟩
  go_wp2_with fail
  refine (GraphTwins_any _ _ _ _ _ G1.sl).mono ?_
  rintro e w2 ⟨ta, tn, tc, rfl, T2, hb2⟩
  have G2 := G1.below hb2
  have B2 := bnext hb1 hb2
  go_wp2_with fail
  refine (sGraphTwins_any _ _ _ _ _ G2.sl).mono ?_
  rintro e w3 ⟨sa, sn, sc, rfl, S3, hb3⟩
  have G3 := G2.below hb3
  have B3 := bnext B2 hb3
  have T3 := T2.below hb3
  clear hb1 hb2 hb3 G1 G2 B2 T2
  cases hg : graphB zs with
  | false =>
    go_wp2_with fail
    refine (sameRows_yes _ _ _ _ _ _ _ _ _ T3.rowsAt S3.rowsAt rfl).mono ?_
    rintro e w4 ⟨rfl, hb4⟩
    have T4 := T3.below hb4
    have S4 := S3.below hb4
    have B4 := bnext B3 hb4
    go_wp2_with fail
    refine (sameRows_yes _ _ _ _ _ _ _ _ _ T4.rowsAt S4.rowsAt rfl).mono ?_
    rintro e w5 ⟨rfl, hb5⟩
    go_wp2
    go_ret
    exact ⟨rfl, bnext B4 hb5⟩
  | true =>
    go_wp2_with fail
    refine (sameRows_yes _ _ _ _ _ _ _ _ _ T3.rowsAt S3.rowsAt rfl).mono ?_
    rintro e w4 ⟨rfl, hb4⟩
    have G4 := Lib.hid (G3.below hb4)
    have B4 := Lib.hid (bnext B3 hb4)
    have HG := Lib.hid hg
    obtain ⟨v, hv⟩ : ∃ v, decide (tn = 0) = v := ⟨_, rfl⟩
    have hvn : ((tn : Int) == 0) = v := by rw [← hv, Bool.eq_iff_iff]; simp
    have H2 : Hid ((CodeLeastR zs (2 : Nat)).isSome = v) := by
      show _ = _
      rw [least_some2 hg, ← T3.len]; exact hv
    have HH : Hid (codeHasB zs = v) := by
      show _ = _
      rw [has_twins hg, ← T3.len]; exact hv
    clear hv hg T3 S3 hb4 B3 G3
    go_wp2
    go_loopw [8] (fun p wr => ∃ i : Nat, i ≤ 4 ∧ p = .int .i64 i ∧ Arr wr w.heap.size ga gn gc zs ∧ Below w.heap.size w wr) (fun p _ => 12 - (intOf p).toNat)
    case atStart => exact ⟨0, by omega, rfl, G4.out, B4.out⟩
    case round =>
      obtain ⟨i, hi, rfl, hA, hB⟩ := hrel
      by_cases hlt : i < 4
      · have hlt' : (i : Int) < 4 := by omega
        by_cases h2 : i = 2
        · subst h2
          go_wp2_with fail
          refine (CodeLeast_is v _ _ _ _ 2 _ _ hA.sl rfl H2.out).mono ?_
          rintro e w5 ⟨b, rfl, hb5⟩
          have hA4 := hA.below hb5
          have hB4 := bnext hB hb5
          clear hA hB hb5
          cases v <;>
          · go_wp2
            go_roundw
            case rel => exact ⟨3, by omega, by go_num, hA4, hB4⟩
            case measure => simp [intOf]
        · have hs := Lib.hid (least_some HG.out (show i ≤ 3 by omega) h2)
          have h2' : ((i : Int) == 2) = false := by simp; omega
          go_wp2_with fail
          refine (CodeLeast_is true _ _ _ _ i _ _ hA.sl rfl hs.out).mono ?_
          rintro e w5 ⟨b, rfl, hb5⟩
          have hA4 := hA.below hb5
          have hB4 := bnext hB hb5
          clear hA hB hb5
          go_wp2
          go_roundw
          case rel => exact ⟨i + 1, by omega, by go_num, hA4, hB4⟩
          case measure => simp [intOf]; omega
      · obtain rfl : i = 4 := by omega
        go_wp2_with fail
        refine (CodeHas_is' v _ _ _ _ _ hA.sl HH.out).mono ?_
        rintro e w5 ⟨rfl, hb5⟩
        have hB5 := bnext hB hb5
        clear hA hB hb5
        go_wp2
        go_ret
        exact ⟨by simp, hB5⟩
end Go.Proofs.Ytpllijjocccaaaa
