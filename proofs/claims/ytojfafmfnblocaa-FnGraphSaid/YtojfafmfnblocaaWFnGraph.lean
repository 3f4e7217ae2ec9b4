/- The law FnGraph, walked. -/
import Derived.Test.YtojfafmfnblocaaDraws
import Derived.Test.YtojfafmfnblocaaGL1
import Derived.Test.YtojfafmfnblocaaLawKit
namespace Go.Proofs.Ytojfafmfnblocaa
open Go.RowKit Go.Shelf

set_option maxRecDepth 100000 in
set_option maxHeartbeats 4000000 in
theorem FnGraph_walk (w : World) (a : Option Addr) (n cap : Nat) (h : BytesAt w a n cap) :
    Calls Try.prog 3 #[.slice a n cap] w fun e w' => e = .returned (.bool true) ∧ Below w.heap.size w w' := by
  have hbd := h.bd
  by_cases hn : n ≤ 1048576
  case neg =>
    have hn' : (1048576 : Int) < n := by omega
    go_enter Try.func3, Try.ntmps3
    go_wp2
    go_ret
    exact ⟨rfl, Below.refl _ _⟩
  have hn' : ¬ (1048576 : Int) < n := by omega
  go_enter Try.func3, Try.ntmps3
  go_wp2_with fail
  refine (DrawGraphIn_any _ _ _ _ h).mono ?_
  rintro e w1 ⟨ga, gn, gc, zs, rfl, G1, hn1, hn7, _, hb1⟩
  cases hg : graphB zs with
  | false =>
    have HGB := Lib.hid hg
    clear hg
    go_wp2_with fail
    refine (GraphIn_is false _ _ _ _ _ G1.sl HGB.out).mono ?_
    rintro e w2 ⟨rfl, hb2⟩
    have G2 := G1.below hb2
    have B2 := bnext hb1 hb2
    go_wp2_with fail
    refine (sGraphIn_is false _ _ _ _ _ G2.sl HGB.out).mono ?_
    rintro e w3 ⟨rfl, hb3⟩
    have B3 := bnext B2 hb3
    go_wp2
    go_ret
    exact ⟨rfl, B3⟩
  | true =>
    have hG0 := isG_of hg
    rw [← G1.len] at hG0
    have HL := Lib.hid G1.len
    have HG := Lib.hid hG0
    have HGB := Lib.hid hg
    have hn12 := hG0.le
    clear hg hG0
    go_wp2_with fail
    refine (GraphIn_is true _ _ _ _ _ G1.sl HGB.out).mono ?_
    rintro e w2 ⟨rfl, hb2⟩
    have G2 := G1.below hb2
    have B2 := bnext hb1 hb2
    go_wp2_with fail
    refine (sGraphIn_is true _ _ _ _ _ G2.sl HGB.out).mono ?_
    rintro e w3 ⟨rfl, hb3⟩
    have G3 := (G2.below hb3).sl
    have B3 := Lib.hid (bnext B2 hb3)
    obtain ⟨b1, o1, rfl⟩ := G3.addr (by omega)
    have G3 := Lib.hid G3
    have HV := Lib.hid (ArrRV.empty w3 w3.heap.size (Nat.le_refl _))
    have HB0 : Hid (Below w3.heap.size w3 (w3.alloc (.cells #[] 23))) := (Below.refl _ _).alloc (Nat.le_refl _) _
    clear G1 G2 hb1 hb2 hb3 B2
    go_wp2
    go_loopw [6, 7, 8] (fun u p _ wr => ∃ (i : Nat) (a' : Option Addr) (m c' : Nat), i ≤ gn ∧ p = .int .i64 i ∧ u = .slice a' m c' ∧ ArrR wr w3.heap.size a' m c' (edTo zs i) ∧ Below w3.heap.size w3 wr) (fun _ p _ _ => 12 - (intOf p).toNat)
    case atStart => exact ⟨0, _, 0, 0, by omega, rfl, rfl, ⟨_, HV.out⟩, HB0.out⟩
    case round =>
      obtain ⟨i, a', m, c', hi, rfl, rfl, hA, hB⟩ := hrel
      by_cases hlt : i < gn
      · have hlt' : (i : Int) < gn := by omega
        have HA := Lib.hid hA
        have HB := Lib.hid hB
        clear hA hB
        go_wp2
        go_loopw [6, 8] (fun u p wr2 => ∃ (k : Nat) (a2 : Option Addr) (m2 c2 : Nat), k ≤ i ∧ p = .int .i64 k ∧ u = .slice a2 m2 c2 ∧ ArrR wr2 w3.heap.size a2 m2 c2 (edTo zs i ++ edRow zs i k) ∧ Below w3.heap.size w3 wr2) (fun _ p _ => 12 - (intOf p).toNat)
        case atStart => exact ⟨0, _, _, _, by omega, rfl, rfl, by simpa [edRow] using HA.out, HB.out⟩
        case round =>
          obtain ⟨k, a2, m2, c2, hk, rfl, rfl, hA, hB⟩ := hrel
          have hsz := hB.size
          have hm2 : m2 ≤ 1099511627776 := by
            have h1 := hA.len
            have h2 := edTo_len zs i (by omega)
            have h3 := edRow_len zs i k
            rw [List.length_append] at h1
            omega
          by_cases hlk : k < i
          · have hlk' : (k : Int) < i := by omega
            have gi := (G3.out.below hB).at1 hlt
            obtain ⟨g1, g2, g3⟩ := gN_lt HG.out hlt
            rw [g3] at gi
            have hbit := bit_nat (gN zs i) k (by omega)
            rw [gN_bit] at hbit
            obtain ⟨gx, hgx⟩ : ∃ gx, gN zs i = gx := ⟨_, rfl⟩
            rw [hgx] at gi hbit g2
            have HB := Lib.hid hB
            clear hB g1 g3 hgx
            cases ha : adjB zs i k with
            | true =>
              have HT := Lib.hid (edRow_yes ha)
              rw [ha] at hbit
              simp only [if_true] at hbit
              clear ha
              go_wp2_with (at_builtin; refine wpList_appendPair (sa := a2) (n := m2) (cap := c2) (p := i) (q := k) rfl (.tmp 50) (.tmp 54) rfl rfl hA rfl hsz hm2 ?_; intro g c' w' hA' hB' hS' hN')
              go_roundw
              case rel =>
                refine ⟨k + 1, _, _, _, by omega, by go_num, rfl, ?_, HB.out.trans hB'⟩
                rw [HT.out, ← List.append_assoc]; exact hA'
              case measure => simp [intOf]; omega
            | false =>
              have HT := Lib.hid (edRow_no ha)
              rw [ha] at hbit
              simp only [Bool.false_eq_true, if_false] at hbit
              clear ha
              go_wp2
              go_roundw
              case rel =>
                refine ⟨k + 1, _, _, _, by omega, by go_num, rfl, ?_, HB.out⟩
                rw [HT.out]; exact hA
              case measure => simp [intOf]; omega
          · obtain rfl : i = k := by omega
            have HT := Lib.hid (edTo_succ zs i)
            have HA2 := Lib.hid hA
            have HB2 := Lib.hid hB
            clear hA hB hsz
            go_wp2
            go_roundw
            case rel =>
              refine ⟨i + 1, _, _, _, by omega, by go_num, rfl, ?_, HB2.out⟩
              rw [HT.out]; exact HA2.out
            case measure => simp [intOf]; omega
      · obtain rfl : gn = i := by omega
        have hput := ed_put HG.out
        have HP := Lib.hid hput.1
        have HR : Hid (GraphOfR (gn : Nat) (edTo zs gn) = zs) := by
          show _ = _
          rw [GraphOfR, if_pos hput.1, Int.toNat_natCast]; exact hput.2
        have hG3 := G3.out.below hB
        have hB3 := bnext B3.out hB
        have hRW := hA.rowsAt
        clear hput hA hB
        go_wp2_with fail
        refine (GraphOf_any gn _ _ _ _ _ (by omega) hRW).mono ?_
        rintro e w5 ⟨oa, on, oc, rfl, O5, hb5⟩
        rw [HP.out]
        rw [HR.out] at O5
        have G5 := hG3.below hb5
        have B5 := bnext hB3 hb5
        clear hG3 hB3 hb5 hRW
        go_wp2_with fail
        refine (sameInts_yes _ _ _ _ _ _ _ _ _ O5.sl G5 rfl).mono ?_
        rintro e w6 ⟨rfl, hb6⟩
        have B6 := bnext B5 hb6
        go_wp2
        go_ret
        exact ⟨rfl, B6⟩
end Go.Proofs.Ytojfafmfnblocaa
