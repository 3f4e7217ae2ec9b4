/- The law FnBound, walked. -/
import Derived.Test.YtojfafmfnblocaaDraws
import Derived.Test.YtojfafmfnblocaaNumber
namespace Go.Proofs.Ytojfafmfnblocaa
open Go.RowKit Go.Shelf

theorem LeastBound_is (v : Bool) (x : Int) (a : Option Addr) (n cap : Nat) (zs : List Int) (w : World) (hs : SlAt w a n zs) (hx : LeastBoundR zs = x) (hv : graphB zs = v) :
    Calls Try.prog 55 #[.slice a n cap] w fun e w' => e = .returned (.tuple #[.int .i64 x, .bool v]) ∧ Below w.heap.size w w' := by subst hx hv; exact LeastBound_any a n cap zs w hs
theorem sLeastBound_is (v : Bool) (x : Int) (a : Option Addr) (n cap : Nat) (zs : List Int) (w : World) (hs : SlAt w a n zs) (hx : LeastBoundR zs = x) (hv : graphB zs = v) :
    Calls Try.prog 56 #[.slice a n cap] w fun e w' => e = .returned (.tuple #[.int .i64 x, .bool v]) ∧ Below w.heap.size w w' := by subst hx hv; exact sLeastBound_any a n cap zs w hs
set_option maxRecDepth 100000 in
set_option maxHeartbeats 4000000 in
theorem FnBound_walk (w : World) (a : Option Addr) (n cap : Nat) (h : BytesAt w a n cap) :
    Calls Try.prog 14 #[.slice a n cap] w fun e w' => e = .returned (.bool true) ∧ Below w.heap.size w w' := by
  have hbd := h.bd
  by_cases hn : n ≤ 1048576
  case neg =>
    have hn' : (1048576 : Int) < n := by omega
    go_enter Try.func14, Try.ntmps14
    go_wp2
    go_ret
    exact ⟨rfl, Below.refl _ _⟩
  have hn' : ¬ (1048576 : Int) < n := by omega
  go_enter Try.func14, Try.ntmps14
  go_wp2_with fail
  refine (DrawLeastBound_any _ _ _ _ h).mono ?_
  rintro e w1 ⟨ga, gn, gc, zs, rfl, G1, hn1, hn7, _, hb1⟩
  obtain ⟨x, hx⟩ : ∃ x, LeastBoundR zs = x := ⟨_, rfl⟩
  cases hg : graphB zs with
  | false =>
    have HG := Lib.hid hg
    have HX := Lib.hid hx
    clear hg hx
    go_wp2_with fail
    refine (LeastBound_is false x _ _ _ _ _ G1.sl HX.out HG.out).mono ?_
    rintro e w2 ⟨rfl, hb2⟩
    have G2 := G1.below hb2
    have B2 := bnext hb1 hb2
    go_wp2_with fail
    refine (sLeastBound_is false x _ _ _ _ _ G2.sl HX.out HG.out).mono ?_
    rintro e w3 ⟨rfl, hb3⟩
    go_wp2
    go_ret
    exact ⟨by simp, bnext B2 hb3⟩
  | true =>
    have hxl : x = lbV gn := by rw [← hx, LeastBoundR, if_pos hg, G1.len]
    have hlb := lb_bd hn1 (show gn ≤ 12 by omega)
    have hpw := lb_pow gn (by omega)
    have HLZ := Lib.hid G1.len
    obtain ⟨l, hl⟩ : ∃ l, lbV gn = l := ⟨_, rfl⟩
    rw [hl] at hxl hlb hpw
    subst hxl
    obtain ⟨p, hp, hp2, hp3, hp4, hpw2⟩ := pow_name (i := l) (by omega)
    rw [hp] at hpw
    have HL := Lib.hid hl
    have h1 : (gn : Int) < p := by omega
    have h2 : (p : Int) ≤ 2 * (gn : Int) := by omega
    have HG := Lib.hid hg
    have HX := Lib.hid hx
    clear hg hx hl hp hpw
    go_wp2_with fail
    refine (LeastBound_is true l _ _ _ _ _ G1.sl HX.out HG.out).mono ?_
    rintro e w2 ⟨rfl, hb2⟩
    have G2 := G1.below hb2
    have B2 := bnext hb1 hb2
    go_wp2_with fail
    refine (sLeastBound_is true l _ _ _ _ _ G2.sl HX.out HG.out).mono ?_
    rintro e w3 ⟨rfl, hb3⟩
    have G3 := G2.below hb3
    have B3 := bnext B2 hb3
    clear G1 G2 hb1 hb2 hb3 B2
    rcases ho : CodeLeastR zs (2 : Int) with _ | b
    · have HO := Lib.hid ho
      clear ho
      go_wp2_with fail
      refine (LeastNumber_none _ _ _ _ _ _ G3.sl HO.out).mono ?_
      rintro e w4 ⟨rfl, hb4⟩
      have B4 := bnext B3 hb4
      go_wp2
      go_ret
      exact ⟨by simp, B4⟩
    · have hbl := bound_law ho
      rw [← HLZ.out, HL.out] at hbl
      obtain ⟨m, hm⟩ : ∃ m, card b = m := ⟨_, rfl⟩
      rw [hm] at hbl
      have HO := Lib.hid ho
      have HM := Lib.hid hm
      have hbl2 : (l : Int) ≤ m := by omega
      clear ho hm
      go_wp2_with fail
      refine (LeastNumber_some b m _ _ _ _ _ _ G3.sl HO.out HM.out).mono ?_
      rintro e w4 ⟨rfl, hb4⟩
      have B4 := bnext B3 hb4
      go_wp2
      go_ret
      exact ⟨by simp, B4⟩
end Go.Proofs.Ytojfafmfnblocaa
