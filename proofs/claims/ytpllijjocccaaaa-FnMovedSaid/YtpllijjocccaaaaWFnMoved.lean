/- The law FnMoved, walked. -/
import Derived.Test.YtpllijjocccaaaaDrawM
import Derived.Test.YtpllijjocccaaaaIso
import Derived.Test.YtpllijjocccaaaaSMoved
import Derived.Test.YtpllijjocccaaaaMovedI
import Derived.Test.YtpllijjocccaaaaLeast
import Derived.Test.YtpllijjocccaaaaLawKit
namespace Go.Proofs.Ytpllijjocccaaaa
open Go.RowKit Go.Shelf

theorem CodeLeast_got (o : Option Nat) (k : Nat) (kd : Int) (a : Option Addr) (n cap : Nat) (zs : List Int) (w : World) (hs : SlAt w a n zs) (hk : kd = (k : Int)) (ho : CodeLeastR zs (k : Nat) = o) :
    Calls Try.prog 18 #[.slice a n cap, .int .i64 kd] w fun e w' => e = .returned (.tuple #[.int .i64 (optN o), .bool o.isSome]) ∧ Below w.heap.size w w' := by subst hk ho; exact CodeLeast_any a n cap zs _ w hs
theorem got_lt {zs : List Int} {kd : Int} {b : Nat} (h : CodeLeastR zs kd = some b) : b < 4096 := by
  unfold CodeLeastR at h
  split at h
  case isFalse => cases h
  rename_i hok
  simp only [leastOk, Bool.and_eq_true] at hok
  rw [leastV] at h
  rcases leastTo_spec (isB zs kd.toNat) (2 ^ zs.length) with ⟨h1, _⟩ | ⟨b', h1, h2, _, _⟩
  · rw [h1] at h; cases h
  · rw [h1] at h; cases h
    have := pow12 (isG_of hok.1).le
    omega
theorem GraphTwins_len (n' : Nat) (a : Option Addr) (n cap : Nat) (zs : List Int) (w : World) (hs : SlAt w a n zs) (hg : graphB zs = true) (hn : (twV zs).length = n') :
    Calls Try.prog 35 #[.slice a n cap] w fun e w' => ∃ a' c', e = .returned (.tuple #[.slice a' n' c', .bool true]) ∧ Below w.heap.size w w' := by
  refine (GraphTwins_any a n cap zs w hs).mono ?_
  rintro e w' ⟨a', m, c', rfl, hA, hb⟩
  obtain rfl : m = n' := by rw [hA.rowsAt.len, GraphTwinsR, if_pos hg]; exact hn
  exact ⟨a', c', by rw [hg], hb⟩
set_option maxRecDepth 100000 in
set_option maxHeartbeats 4000000 in
theorem FnMoved_walk (w : World) (a : Option Addr) (n cap : Nat) (h : BytesAt w a n cap) :
    Calls Try.prog 11 #[.slice a n cap] w fun e w' => e = .returned (.bool true) ∧ Below w.heap.size w w' := by
  have hbd := h.bd
  by_cases hn : n ≤ 1048576
  case neg =>
    have hn' : (1048576 : Int) < n := by omega
    go_enter Try.func11, Try.ntmps11
    go_wp2
    go_ret
    exact ⟨rfl, Below.refl _ _⟩
  have hn' : ¬ (1048576 : Int) < n := by omega
  go_enter Try.func11, Try.ntmps11
  go_wp2_with fail
  refine (DrawGraphMoved_any _ _ _ _ h).mono ?_
  rintro e w1 ⟨ga, gn, gc, pa, pn, pc, ps, zs, rfl, G1, P1, hn1, hn7, _, hb1⟩
  go_wp2_with fail
  refine (GraphMoved_any _ _ _ _ _ _ _ _ _ G1.sl P1).mono ?_
  rintro e w2 ⟨ta, tn, tc, rfl, T2, hb2⟩
  have G2 := G1.below hb2
  have P2 := P1.below hb2
  have B2 := bnext hb1 hb2
  go_wp2_with fail
  refine (sGraphMoved_any _ _ _ _ _ _ _ _ _ G2.sl P2).mono ?_
  rintro e w3 ⟨sa, sn, sc, rfl, S3, hb3⟩
  have G3 := G2.below hb3
  have B3 := bnext B2 hb3
  have T3 := T2.below hb3
  clear hb1 hb2 hb3 G1 G2 P1 P2 B2 T2
  cases hg : movOk zs ps with
  | false =>
    go_wp2_with fail
    refine (sameInts_yes _ _ _ _ _ _ _ _ _ T3.sl S3.sl rfl).mono ?_
    rintro e w4 ⟨rfl, hb4⟩
    have T4 := T3.below hb4
    have S4 := S3.below hb4
    have B4 := bnext B3 hb4
    go_wp2_with fail
    refine (sameInts_yes _ _ _ _ _ _ _ _ _ T4.sl S4.sl rfl).mono ?_
    rintro e w5 ⟨rfl, hb5⟩
    go_wp2
    go_ret
    exact ⟨rfl, bnext B4 hb5⟩
  | true =>
    obtain ⟨f, g, I⟩ := mov_iso hg
    have HI := Lib.hid I
    obtain ⟨zs', hzs⟩ : ∃ zs', GraphMovedR zs ps = zs' := ⟨_, rfl⟩
    rw [hzs] at HI
    have HG1 : Hid (graphB zs = true) := graphB_isG HI.out.ga
    have HG2 : Hid (graphB zs' = true) := graphB_isG HI.out.gb
    obtain ⟨t, ht⟩ : ∃ t, (twV zs).length = t := ⟨_, rfl⟩
    have HT1 := Lib.hid ht
    have HT2 : Hid ((twV zs').length = t) := by show _ = _; rw [← HI.out.twins]; exact ht
    go_wp2_with fail
    refine (sameInts_yes _ _ _ _ _ _ _ _ _ T3.sl S3.sl rfl).mono ?_
    rintro e w4 ⟨rfl, hb4⟩
    have G4 := Lib.hid (G3.below hb4).sl
    have B4 := Lib.hid (bnext B3 hb4)
    have T4 := (T3.below hb4).sl
    rw [hzs] at T4
    have T4 := Lib.hid T4
    clear S3 T3 B3 G3 hb4 hg hzs I ht
    go_wp2
    go_loopw [9] (fun p wr => ∃ i : Nat, i ≤ 4 ∧ p = .int .i64 i ∧ SlAt wr ga gn zs ∧ SlAt wr ta tn zs' ∧ Below w.heap.size w wr) (fun p _ => 12 - (intOf p).toNat)
    case atStart => exact ⟨0, by omega, rfl, G4.out, T4.out, B4.out⟩
    case round =>
      obtain ⟨i, hi, rfl, hS, hT, hB⟩ := hrel
      by_cases hlt : i < 4
      · have hlt' : (i : Int) < 4 := by omega
        rcases HI.out.least (i : Nat) with ⟨h1, h2⟩ | ⟨b, b', h1, h2, h3⟩
        · have H1 := Lib.hid h1
          have H2 := Lib.hid h2
          clear h1 h2
          go_wp2_with fail
          refine (CodeLeast_got none i _ _ _ _ _ _ hS rfl H1.out).mono ?_
          rintro e w5 ⟨rfl, hb5⟩
          have hS5 := hS.below hb5
          have hT5 := hT.below hb5
          have hB5 := bnext hB hb5
          simp only [optN, Option.isSome]
          clear hS hT hB hb5
          go_wp2_with fail
          refine (CodeLeast_got none i _ _ _ _ _ _ hT5 rfl H2.out).mono ?_
          rintro e w6 ⟨rfl, hb6⟩
          have HS6 := Lib.hid (hS5.below hb6)
          have HT6 := Lib.hid (hT5.below hb6)
          have HB6 := Lib.hid (bnext hB5 hb6)
          simp only [optN, Option.isSome]
          clear hS5 hT5 hB5 hb6
          go_wp2
          go_roundw
          case rel => exact ⟨i + 1, by omega, by go_num, HS6.out, HT6.out, HB6.out⟩
          case measure => simp [intOf]; omega
        · have hb4 := got_lt h1
          have hb4' := got_lt h2
          have H1 := Lib.hid h1
          have H2 := Lib.hid h2
          obtain ⟨m, hm⟩ : ∃ m, card b = m := ⟨_, rfl⟩
          have HM1 := Lib.hid hm
          have HM2 : Hid (card b' = m) := by show _ = _; rw [← h3]; exact hm
          clear h1 h2 h3 hm
          go_wp2_with fail
          refine (CodeLeast_got (some b) i _ _ _ _ _ _ hS rfl H1.out).mono ?_
          rintro e w5 ⟨rfl, hb5⟩
          have hS5 := hS.below hb5
          have hT5 := hT.below hb5
          have hB5 := bnext hB hb5
          simp only [optN, Option.isSome]
          clear hS hT hB hb5
          go_wp2_with fail
          refine (CodeLeast_got (some b') i _ _ _ _ _ _ hT5 rfl H2.out).mono ?_
          rintro e w6 ⟨rfl, hb6⟩
          have HS6 := Lib.hid (hS5.below hb6)
          have HT6 := Lib.hid (hT5.below hb6)
          have HB6 := Lib.hid (bnext hB5 hb6)
          simp only [optN, Option.isSome]
          clear hS5 hT5 hB5 hb6
          go_wp2_with fail
          refine (lsize_is m b _ hb4 HM1.out).mono ?_
          rintro e w7 ⟨rfl, rfl⟩
          go_wp2_with fail
          refine (lsize_is m b' _ hb4' HM2.out).mono ?_
          rintro e w8 ⟨rfl, rfl⟩
          go_wp2
          go_roundw
          case rel => exact ⟨i + 1, by omega, by go_num, HS6.out, HT6.out, HB6.out⟩
          case measure => simp [intOf]; omega
      · obtain rfl : i = 4 := by omega
        go_wp2_with fail
        refine (GraphTwins_len t _ _ _ _ _ hS HG1.out HT1.out).mono ?_
        rintro e w5 ⟨xa, xc, rfl, hb5⟩
        have hT5 := hT.below hb5
        have hB5 := bnext hB hb5
        clear hS hT hB hb5
        go_wp2_with fail
        refine (GraphTwins_len t _ _ _ _ _ hT5 HG2.out HT2.out).mono ?_
        rintro e w6 ⟨ya, yc, rfl, hb6⟩
        have HB6 := Lib.hid (bnext hB5 hb6)
        clear hT5 hB5 hb6
        go_wp2
        go_ret
        exact ⟨by simp, HB6.out⟩
end Go.Proofs.Ytpllijjocccaaaa
