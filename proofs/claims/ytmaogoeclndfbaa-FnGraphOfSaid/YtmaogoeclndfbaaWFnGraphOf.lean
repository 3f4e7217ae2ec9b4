/- The law FnGraphOf, walked. -/
import Derived.Test.YtmaogoeclndfbaaOfL
import Derived.Test.YtmaogoeclndfbaaLawKit
namespace Go.Proofs.Ytmaogoeclndfbaa
open Go.RowKit Go.Shelf

set_option maxRecDepth 100000 in
set_option maxHeartbeats 4000000 in
theorem FnGraphOf_walk (w : World) (a : Option Addr) (n cap : Nat) (h : BytesAt w a n cap) :
    Calls Try.prog 3 #[.slice a n cap] w fun e w' => e = .returned (.bool true) ∧ Below w.heap.size w w' := by
  have hbd := h.bd
  by_cases hn : n ≤ 1048576
  case neg =>
    have hn' : (1048576 : Int) < n := by omega
    go_enter Try.func3, Try.ntmps3
    go_wp2
    go_ret
    exact ⟨rfl, Below.refl _ _⟩
  have hn' : ¬ (1048576 : Int) < n := by omega
  go_enter Try.func3, Try.ntmps3
  go_wp2_with fail
  refine (DrawGraphOf_any _ _ _ _ h).mono ?_
  rintro e w1 ⟨x, ea, em, ec, es, rfl, hx1, hx2, E1, hm9, hb1⟩
  go_wp2_with fail
  refine (GraphOf_any x _ _ _ _ _ (by omega) E1.rowsAt).mono ?_
  rintro e w2 ⟨ta, tn, tc, rfl, T2, hb2⟩
  have E2 := E1.below hb2
  have B2 := bnext hb1 hb2
  go_wp2_with fail
  refine (sGraphOf_any x _ _ _ _ _ (by omega) E2.rowsAt).mono ?_
  rintro e w3 ⟨sa, sn, sc, rfl, S3, hb3⟩
  have E3 := E2.below hb3
  have B3 := bnext B2 hb3
  have T3 := T2.below hb3
  clear hb1 hb2 hb3 E1 E2 B2 T2
  cases hg : ofOk x es with
  | false =>
    go_wp2_with fail
    refine (sameInts_yes _ _ _ _ _ _ _ _ _ T3.sl S3.sl rfl).mono ?_
    rintro e w4 ⟨rfl, hb4⟩
    have T4 := T3.below hb4
    have S4 := S3.below hb4
    have B4 := bnext B3 hb4
    go_wp2_with fail
    refine (sameInts_yes _ _ _ _ _ _ _ _ _ T4.sl S4.sl rfl).mono ?_
    rintro e w5 ⟨rfl, hb5⟩
    go_wp2
    go_ret
    exact ⟨rfl, bnext B4 hb5⟩
  | true =>
    obtain ⟨hx12, hrows⟩ := ofOk_rows hg
    obtain ⟨hob, hoe⟩ := of_back hg
    have hgr := of_graph hg
    have HROW : Hid (∀ j, j < em → (es.getD j []).length = 2) := fun j hj => by
      have hj2 : j < es.length := by rw [← E3.rowsAt.len]; exact hj
      rw [List.getD_eq_getElem?_getD, List.getElem?_eq_getElem hj2]
      exact (okE_two (hrows _ (List.getElem_mem _))).1
    have HOB := Lib.hid hob
    have HOE := Lib.hid hoe
    have HGR := Lib.hid hgr
    have HL := Lib.hid E3.rowsAt.len
    go_wp2_with fail
    refine (sameInts_yes _ _ _ _ _ _ _ _ _ T3.sl S3.sl rfl).mono ?_
    rintro e w4 ⟨rfl, hb4⟩
    have E4 := Lib.hid (E3.below hb4).rowsAt
    have T4 := Lib.hid (T3.below hb4).sl
    have B4 := Lib.hid (bnext B3 hb4)
    have HV := Lib.hid (ArrRV.empty w4 w4.heap.size (Nat.le_refl _))
    have HB0 : Hid (Below w4.heap.size w4 (w4.alloc (.cells #[] 26))) := (Below.refl _ _).alloc (Nat.le_refl _) _
    have HBL : Hid (backTo es em = []) := by show _ = _; rw [HL.out]; exact backTo_len es
    clear S3 T3 B3 E3 hb4 hg hob hoe hgr hrows hx12
    go_wp2
    go_loopw [9, 10] (fun u p wr => ∃ (j : Nat) (a' : Option Addr) (m c' : Nat), j ≤ em ∧ p = .int .i64 ((j : Int) - 1) ∧ u = .slice a' m c' ∧ ArrR wr w4.heap.size a' m c' (backTo es j) ∧ Below w4.heap.size w4 wr) (fun _ p _ => (intOf p + 1).toNat)
    case atStart => exact ⟨em, _, 0, 0, by omega, by go_num, rfl, ⟨[], by rw [HBL.out]; exact HV.out⟩, HB0.out⟩
    case round =>
      obtain ⟨j, a', m, c', hj, rfl, rfl, hA, hB⟩ := hrel
      have hml : m ≤ 9 := by
        have h1 := hA.rowsAt.len
        have h2 := backTo_size es j
        have h3 := HL.out
        omega
      by_cases hlt : 1 ≤ j
      · obtain ⟨i, rfl⟩ : ∃ i, j = i + 1 := ⟨j - 1, by omega⟩
        have hji : ((i + 1 : Nat) : Int) - 1 = i := by omega
        rw [hji]
        have h0 : (0 : Int) ≤ i := by omega
        have hie : (i : Int) < em := by omega
        have hsz := hB.size
        have hBd : Below wr.heap.size wr wr.drew := (Below.refl _ _).drew
        have hEr := (E4.out.below hB).below hBd
        obtain ⟨eb, eo, rfl⟩ := hEr.addr (by omega)
        obtain ⟨ra, rn, rc, hcell, hrow⟩ := hEr.at1 (j := i) (by omega)
        have hrn : rn = 2 := by rw [hrow.len]; exact HROW.out i (by omega)
        subst hrn
        obtain ⟨rb, ro, rfl⟩ := hrow.addr (by omega)
        have c0 := hrow.at1 (j := 0) (by omega)
        have c1 := hrow.at1 (j := 1) (by omega)
        have HST := Lib.hid (backTo_step (es := es) (j := i) (by rw [← HL.out]; omega))
        have HSW : Hid (swapR (es.getD i []) = [(es.getD i [])[1]?.getD 0, (es.getD i [])[0]?.getD 0]) := rfl
        obtain ⟨p0, hp0⟩ : ∃ z, (es.getD i [])[0]?.getD 0 = z := ⟨_, rfl⟩
        obtain ⟨p1, hp1⟩ : ∃ z, (es.getD i [])[1]?.getD 0 = z := ⟨_, rfl⟩
        rw [hp0] at c0 HSW
        rw [hp1] at c1 HSW
        simp only [Nat.add_zero] at c0
        have hA2 := hA.below hBd
        have hB2 := bnext hB hBd
        have HB2 := Lib.hid hB2
        have hsz2 : w4.heap.size ≤ wr.drew.heap.size := hB2.size
        clear hEr hrow hp0 hp1 hA hB hBd hB2 hji
        go_wp2
        go_region_law (refine step_appendPair (W0 := wr.drew) (sa := a') (n := m) (cap := c') (p := p1) (q := p0) rfl (.tmp 62) (.tmp 76) rfl rfl hA2 rfl hsz2 (by omega) ?_; intro g c2 w' hA0 hB0)
        all_goals (
          have HA' := Lib.hid hA0
          have HB' := Lib.hid hB0
          clear hA0 hB0 hA2
          go_wp2
          go_roundw
          case rel =>
            refine ⟨i, _, _, _, by omega, by go_num, rfl, ?_, HB2.out.trans HB'.out⟩
            rw [HST.out, HSW.out]; exact HA'.out
          case measure => first | (simp [intOf]; done) | (simp [intOf]; omega))
      · obtain rfl : j = 0 := by omega
        have E5 := E4.out.below hB
        have T5 := T4.out.below hB
        have B5 := bnext B4.out hB
        have hRW := hA.rowsAt
        clear hA hB
        go_wp2_with fail
        refine (GraphOf_any x _ _ _ _ _ (by omega) hRW).mono ?_
        rintro e w5 ⟨oa, on, oc, rfl, O5, hb5⟩
        rw [HOB.out]
        rw [HOE.out] at O5
        have T6 := T5.below hb5
        have B6 := bnext B5 hb5
        clear T5 B5 hb5 hRW E5
        go_wp2_with fail
        refine (sameInts_yes _ _ _ _ _ _ _ _ _ O5.sl T6 rfl).mono ?_
        rintro e w6 ⟨rfl, hb6⟩
        have T7 := T6.below hb6
        have B7 := bnext B6 hb6
        clear T6 B6 hb6 O5
        go_wp2_with fail
        refine (GraphIn_is true _ _ _ _ _ T7 HGR.out).mono ?_
        rintro e w7 ⟨rfl, hb7⟩
        have B8 := bnext B7 hb7
        go_wp2
        go_ret
        exact ⟨rfl, B8⟩
end Go.Proofs.Ytmaogoeclndfbaa
