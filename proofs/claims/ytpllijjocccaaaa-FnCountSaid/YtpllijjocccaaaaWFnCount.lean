/- The law FnCount, walked. -/
import Derived.Test.YtpllijjocccaaaaDraws2
import Derived.Test.YtpllijjocccaaaaCodeL4
import Derived.Test.YtpllijjocccaaaaSCodes
import Derived.Test.YtpllijjocccaaaaLeast
import Derived.Test.YtpllijjocccaaaaLawKit
namespace Go.Proofs.Ytpllijjocccaaaa
open Go.RowKit Go.Shelf

theorem CodeCount_is (v : Bool) (x : Nat) (a : Option Addr) (n cap : Nat) (zs : List Int) (kd mn : Int) (w : World) (hs : SlAt w a n zs) (hx : CodeCountR zs kd mn = x) (hv : countOk zs kd mn = v) :
    Calls Try.prog 16 #[.slice a n cap, .int .i64 kd, .int .i64 mn] w fun e w' => e = .returned (.tuple #[.int .i64 x, .bool v]) ∧ Below w.heap.size w w' := by subst hx hv; exact CodeCount_any a n cap zs kd mn w hs
theorem sCodeCount_is (v : Bool) (x : Nat) (a : Option Addr) (n cap : Nat) (zs : List Int) (kd mn : Int) (w : World) (hs : SlAt w a n zs) (hx : CodeCountR zs kd mn = x) (hv : countOk zs kd mn = v) :
    Calls Try.prog 17 #[.slice a n cap, .int .i64 kd, .int .i64 mn] w fun e w' => e = .returned (.tuple #[.int .i64 x, .bool v]) ∧ Below w.heap.size w w' := by subst hx hv; exact sCodeCount_any a n cap zs kd mn w hs
theorem CodeLeast_some (v : Bool) (a : Option Addr) (n cap : Nat) (zs : List Int) (k : Nat) (kd : Int) (w : World) (hs : SlAt w a n zs) (hk : kd = (k : Int)) (hv : (CodeLeastR zs k).isSome = v) :
    Calls Try.prog 18 #[.slice a n cap, .int .i64 kd] w fun e w' => ∃ b : Int, e = .returned (.tuple #[.int .i64 b, .bool v]) ∧ Below w.heap.size w w' := by
  subst hk hv
  exact (CodeLeast_any a n cap zs k w hs).mono fun _ _ ⟨h, hb⟩ => ⟨_, h, hb⟩
/-- the number that the law's loop reckons -/
def ways (g : Nat) : Nat → Nat
  | 0 => 1
  | i + 1 => ways g i * (g - i) / (i + 1)
theorem ways_all : ∀ g : Nat, g ≤ 6 → ∀ i, i ≤ g → countTo (fun _ => true) (i : Nat) (2 ^ g) ≤ ways g i := by decide +kernel
theorem ways_bd : ∀ g : Nat, g ≤ 6 → ∀ i, i ≤ g → ways g i ≤ 100 := by decide +kernel
theorem count_le {P : Nat → Bool} {m : Int} {k : Nat} : countTo P m k ≤ countTo (fun _ => true) m k := by
  unfold countTo
  exact List.countP_mono_left fun x _ h => by simp only [Bool.and_eq_true] at h ⊢; exact ⟨h.1, trivial⟩
theorem card_full : ∀ g : Nat, g ≤ 6 → ∀ s, s < 2 ^ g → card s = g → s + 1 = 2 ^ g := by decide +kernel
theorem full_card : ∀ g : Nat, g ≤ 6 → card (2 ^ g - 1) = g := by decide +kernel
theorem count_all {P : Nat → Bool} {g : Nat} (hg : g ≤ 6) : countTo P (g : Nat) (2 ^ g) = if P (2 ^ g - 1) then 1 else 0 := by
  have hp := Nat.two_pow_pos g
  obtain ⟨k, hk⟩ : ∃ k, 2 ^ g = k + 1 := ⟨2 ^ g - 1, by omega⟩
  rw [hk, countTo_succ]
  have h0 : countTo P (g : Nat) k = 0 := by
    unfold countTo
    rw [List.countP_eq_zero]
    intro s hs
    rw [List.mem_range] at hs
    simp only [Bool.and_eq_true, decide_eq_true_eq, not_and]
    intro hc
    have := card_full g hg s (by omega) (by omega)
    omega
  have hc := full_card g hg
  rw [hk, Nat.add_sub_cancel] at hc
  rw [h0, Nat.add_sub_cancel, hc]
  simp
/-- what the law FnCount says -/
theorem count_law {zs : List Int} {kind : Nat} {m : Int} (h : countOk zs kind m = true) (h6 : zs.length ≤ 6) :
    (∀ k : Nat, m = k → k ≤ zs.length → CodeCountR zs kind m ≤ ways zs.length k) ∧ ((zs.length : Int) < m → CodeCountR zs kind m = 0) ∧
    countOk zs kind (zs.length : Nat) = true ∧ CodeCountR zs kind (zs.length : Nat) = if (CodeLeastR zs kind).isSome then 1 else 0 := by
  have hok : leastOk zs kind = true := by simp only [countOk, Bool.and_eq_true] at h; exact h.1
  have hk := leastOk_of hok
  have hk3 : kind ≤ 3 := by have := hk.2; simp only [kindB, Bool.and_eq_true, decide_eq_true_eq] at this; omega
  have e2 : countOk zs kind (zs.length : Nat) = true := by simp [countOk, hok]
  refine ⟨fun k hm hle => ?_, fun hlt => ?_, e2, ?_⟩
  · rw [CodeCountR, if_pos h, hm]
    exact Nat.le_trans count_le (ways_all _ h6 _ hle)
  · rw [CodeCountR, if_pos h]
    have hz : countTo (isB zs (kind : Int).toNat) m (2 ^ zs.length) = 0 := by
      unfold countTo
      rw [List.countP_eq_zero]
      intro s hs
      rw [List.mem_range] at hs
      have := card_le hs (by omega)
      simp only [Bool.and_eq_true, decide_eq_true_eq, not_and]
      intro hc; omega
    exact hz
  · rw [CodeCountR, if_pos e2, count_all h6, least_isSome hk.1 hk3, Int.toNat_natCast]
    rfl
set_option maxRecDepth 100000 in
set_option maxHeartbeats 4000000 in
theorem FnCount_walk (w : World) (a : Option Addr) (n cap : Nat) (h : BytesAt w a n cap) :
    Calls Try.prog 3 #[.slice a n cap] w fun e w' => e = .returned (.bool true) ∧ Below w.heap.size w w' := by
  have hbd := h.bd
  by_cases hn : n ≤ 1048576
  case neg =>
    have hn' : (1048576 : Int) < n := by omega
    go_enter Try.func3, Try.ntmps3
    go_wp2
    go_ret
    exact ⟨rfl, Below.refl _ _⟩
  have hn' : ¬ (1048576 : Int) < n := by omega
  go_enter Try.func3, Try.ntmps3
  go_wp2_with fail
  refine (DrawCodeCount_any _ _ _ _ h).mono ?_
  rintro e w1 ⟨ga, gn, gc, kd, m, zs, rfl, G1, hn1, hn7, _, hk3, hm1, hm6, hb1⟩
  have hlz := Lib.hid G1.len
  obtain ⟨x, hx⟩ : ∃ x, CodeCountR zs kd m = x := ⟨_, rfl⟩
  cases hv : countOk zs kd m with
  | false =>
    have HX := Lib.hid hx
    have HV := Lib.hid hv
    clear hx hv
    go_wp2_with fail
    refine (CodeCount_is false x _ _ _ _ _ _ _ G1.sl HX.out HV.out).mono ?_
    rintro e w2 ⟨rfl, hb2⟩
    have G2 := G1.below hb2
    have B2 := bnext hb1 hb2
    go_wp2_with fail
    refine (sCodeCount_is false x _ _ _ _ _ _ _ G2.sl HX.out HV.out).mono ?_
    rintro e w3 ⟨rfl, hb3⟩
    go_wp2
    go_ret
    exact ⟨by simp, bnext B2 hb3⟩
  | true =>
    obtain ⟨l1, l2, l3, l4⟩ := count_law hv (by rw [← G1.len]; exact hn7)
    have hm0 : 0 ≤ m := by simp only [countOk, Bool.and_eq_true, decide_eq_true_eq] at hv; exact hv.2
    obtain ⟨y, hy⟩ : ∃ y, CodeCountR zs kd (zs.length : Nat) = y := ⟨_, rfl⟩
    obtain ⟨v, hv2⟩ : ∃ v, (CodeLeastR zs kd).isSome = v := ⟨_, rfl⟩
    rw [hx] at l1 l2
    rw [hy, hv2] at l4
    rw [← G1.len] at l1 l2 l3 hy
    obtain ⟨mm, rfl⟩ : ∃ mm : Nat, m = mm := ⟨m.toNat, by omega⟩
    have l1 := Lib.hid (l1 mm rfl)
    have L2 := Lib.hid l2
    have L3 := Lib.hid l3
    have HX := Lib.hid hx
    have HY := Lib.hid hy
    have HV := Lib.hid hv
    have HV2 := Lib.hid hv2
    clear l2 l3 hx hy hv hv2
    go_wp2_with fail
    refine (CodeCount_is true x _ _ _ _ _ _ _ G1.sl HX.out HV.out).mono ?_
    rintro e w2 ⟨rfl, hb2⟩
    have G2 := G1.below hb2
    have B2 := bnext hb1 hb2
    go_wp2_with fail
    refine (sCodeCount_is true x _ _ _ _ _ _ _ G2.sl HX.out HV.out).mono ?_
    rintro e w3 ⟨rfl, hb3⟩
    have G3 := Lib.hid (G2.below hb3)
    have B3 := Lib.hid (bnext B2 hb3)
    clear G1 G2 hb1 hb2 hb3 B2
    have HL4 := Lib.hid l4
    clear l4
    go_wp2
    go_loopw [10, 11] (fun u p wr => ∃ i : Nat, i ≤ mm ∧ i ≤ gn ∧ p = .int .i64 ((i + 1 : Nat) : Int) ∧ u = .int .i64 (ways gn i : Nat) ∧ ∃ q, w3.drewN q = wr) (fun _ p _ => 12 - (intOf p).toNat)
    case atStart => exact ⟨0, by omega, by omega, by go_num, rfl, 0, rfl⟩
    case round =>
      obtain ⟨i, hi, hig, rfl, rfl, q, rfl⟩ := hrel
      have G3 := Lib.hid (G3.out.below (bdrewN _ q))
      have B3 := Lib.hid (bnext B3.out (bdrewN _ q))
      have hwb := ways_bd gn hn7 i hig
      by_cases hlt : i < mm ∧ i < gn
      · obtain ⟨hl1, hl2⟩ := hlt
        have h1 : ((i + 1 : Nat) : Int) ≤ mm := by omega
        have h2 : ((i + 1 : Nat) : Int) ≤ gn := by omega
        have HW : Hid (ways gn (i + 1) = ways gn i * (gn - i) / (i + 1)) := rfl
        obtain ⟨t, ht⟩ : ∃ t, ways gn i = t := ⟨_, rfl⟩
        rw [ht] at hwb
        have hmul : t * (gn - i) ≤ 600 := Nat.le_trans (Nat.mul_le_mul hwb (show gn - i ≤ 6 by omega)) (by omega)
        obtain ⟨s, hs⟩ : ∃ s, t * (gn - i) = s := ⟨_, rfl⟩
        rw [hs] at hmul
        have e0 : (gn : Int) - ((i + 1 : Nat) : Int) + 1 = ((gn - i : Nat) : Int) := by omega
        have e1 : (t : Int) * ((gn - i : Nat) : Int) = (s : Int) := by rw [← hs]; simp
        have e2 : Int.tdiv (s : Int) ((i + 1 : Nat) : Int) = ((s / (i + 1) : Nat) : Int) := tdiv_nat s (i + 1)
        have e3 : s / (i + 1) ≤ 600 := Nat.le_trans (Nat.div_le_self _ _) hmul
        have HT := Lib.hid ht
        have HS := Lib.hid hs
        obtain ⟨d, hd⟩ : ∃ d, s / (i + 1) = d := ⟨_, rfl⟩
        have HD := Lib.hid hd
        rw [hd] at e2 e3
        rw [ht]
        clear ht hs hd
        have e4 : ¬ ((i + 1 : Nat) : Int) = 0 := by omega
        obtain ⟨g2, hg2⟩ : ∃ g2, gn - i = g2 := ⟨_, rfl⟩
        rw [hg2] at e0 e1
        have hg3 : g2 ≤ 6 := by omega
        have HG2 := Lib.hid hg2
        clear hg2
        have e5 : ((i + 1 : Nat) : Int) = (i : Int) + 1 := by omega
        rw [e5] at e0 e2 e4
        go_wp2
        go_roundw
        case rel => exact ⟨i + 1, by omega, by omega, by go_num, by rw [HW.out, HT.out, HS.out, HD.out], q, rfl⟩
        case measure => simp [intOf]; omega
      · by_cases hgm : gn < mm
        · have hgi : gn = i := by omega
          have h2 : ¬ ((i + 1 : Nat) : Int) ≤ gn := by omega
          have h1 : ((i + 1 : Nat) : Int) ≤ mm := by omega
          have hx0 := L2.out (by omega)
          subst hx0
          have h3 : (gn : Int) < mm := by omega
          clear hwb
          go_wp2
          go_ret
          exact ⟨by simp, B3.out⟩
        · have him : i = mm := by omega
          have h1 : ¬ ((i + 1 : Nat) : Int) ≤ mm := by omega
          have h3 : ¬ (gn : Int) < mm := by omega
          subst him
          have hx1 := l1.out (by omega)
          obtain ⟨t, ht⟩ : ∃ t, ways gn i = t := ⟨_, rfl⟩
          rw [ht] at hx1 ⊢
          have hx2 : (x : Int) ≤ t := by omega
          clear ht hx1 hwb
          go_wp2_with fail
          refine (CodeCount_is true y _ _ _ _ _ _ _ G3.out.sl HY.out L3.out).mono ?_
          rintro e w4 ⟨rfl, hb4⟩
          have G4 := G3.out.below hb4
          have B4 := bnext B3.out hb4
          clear hb4
          go_wp2_with fail
          refine (CodeLeast_some v _ _ _ _ kd _ _ G4.sl rfl HV2.out).mono ?_
          rintro e w5 ⟨bb, rfl, hb5⟩
          have B5 := bnext B4 hb5
          have HL := HL4.out
          cases v with
          | true =>
            have hy1 : y = 1 := HL
            clear HL
            subst hy1
            go_wp2
            go_ret
            exact ⟨by simp, B5⟩
          | false =>
            have hy1 : y = 0 := HL
            clear HL
            subst hy1
            go_wp2
            go_ret
            exact ⟨by simp, B5⟩
end Go.Proofs.Ytpllijjocccaaaa
