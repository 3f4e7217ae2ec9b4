/- The law FnKind, walked. -/
import Derived.Test.YtgifjpaadflboaaDrawK
namespace Go.Proofs.Ytgifjpaadflboaa
open Go.RowKit Go.Shelf

theorem kTo_len (c n i : Nat) : (kTo c n i).length = n := by
  induction i with
  | zero => simp [kTo]
  | succ i ih =>
    rw [kTo_succ]
    have h : ∀ k o, (kRow c n i o k).length = o.length := by
      intro k o
      induction k with
      | zero => simp [kRow]
      | succ k ihk => rw [kRow_succ]; split <;> simp [joinV_len, ihk]
    rw [h, ih]
set_option maxRecDepth 100000 in
set_option maxHeartbeats 4000000 in
theorem FnKind_walk (w : World) (a : Option Addr) (n cap : Nat) (h : BytesAt w a n cap) :
    Calls Try.prog 12 #[.slice a n cap] w fun e w' => e = .returned (.bool true) ∧ Below w.heap.size w w' := by
  have hbd := h.bd
  by_cases hn : n ≤ 1048576
  case neg =>
    have hn' : (1048576 : Int) < n := by omega
    go_enter Try.func12, Try.ntmps12
    go_wp2
    go_ret
    exact ⟨rfl, Below.refl _ _⟩
  have hn' : ¬ (1048576 : Int) < n := by omega
  go_enter Try.func12, Try.ntmps12
  go_wp2_with fail
  refine (DrawGraphKind_any _ _ _ _ h).mono ?_
  rintro e w1 ⟨x, y, rfl, hx, hy, hb1⟩
  go_wp2_with fail
  refine (GraphKind_any _ _ _ (by omega) (by omega)).mono ?_
  rintro e w2 ⟨ga, gn, gc, rfl, G2, hb2⟩
  have B2 := bnext hb1 hb2
  go_wp2_with fail
  refine (sGraphKind_any _ _ _ (by omega) (by omega)).mono ?_
  rintro e w3 ⟨sa, sn, sc, rfl, S3, hb3⟩
  have G3 := G2.below hb3
  have B3 := bnext B2 hb3
  clear hb1 hb2 hb3 G2 B2
  cases hk : kindOk x y with
  | false =>
    have HK := Lib.hid hk
    clear hk
    go_wp2_with fail
    refine (sameInts_yes _ _ _ _ _ _ _ _ _ G3.sl S3.sl rfl).mono ?_
    rintro e w4 ⟨rfl, hb4⟩
    have G4 := G3.below hb4
    have S4 := S3.below hb4
    have B4 := bnext B3 hb4
    go_wp2_with fail
    refine (sameInts_yes _ _ _ _ _ _ _ _ _ G4.sl S4.sl rfl).mono ?_
    rintro e w5 ⟨rfl, hb5⟩
    go_wp2
    go_ret
    exact ⟨rfl, bnext B4 hb5⟩
  | true =>
    obtain ⟨hkx, hky, hkn⟩ := kindOk_of hk
    have hlen : gn = y := by rw [G3.len, GraphKindR, hk, if_pos rfl, kTo_len]; rfl
    have hcon : connB (GraphKindR x y) = true := by
      rw [GraphKindR, hk, if_pos rfl]
      simp only [Int.toNat_natCast]
      rcases kinds_conn x (by omega) y (by omega) with h0 | h0 | h0
      · omega
      · exact absurd h0 (by omega)
      · exact h0
    subst hlen
    have HC := Lib.hid hcon
    have HK := Lib.hid hk
    clear hk hcon
    go_wp2_with fail
    refine (sameInts_yes _ _ _ _ _ _ _ _ _ G3.sl S3.sl rfl).mono ?_
    rintro e w4 ⟨rfl, hb4⟩
    have G4 := G3.below hb4
    have B4 := bnext B3 hb4
    go_wp2_with fail
    refine (GraphConnected_any _ _ _ _ _ G4.sl).mono ?_
    rintro e w5 ⟨rfl, hb5⟩
    rw [HC.out]
    go_wp2
    go_ret
    exact ⟨rfl, bnext B4 hb5⟩
end Go.Proofs.Ytgifjpaadflboaa
