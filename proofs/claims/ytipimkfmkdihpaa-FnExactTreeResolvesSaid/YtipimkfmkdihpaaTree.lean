/- Trees: impl.TreeIn and spec.TreeIn answer treeB; their leaves. -/
import Derived.Test.YtipimkfmkdihpaaGL2
import Derived.Test.YtipimkfmkdihpaaSCode
import Derived.Test.YtipimkfmkdihpaaCount
import Derived.Test.YtipimkfmkdihpaaLawKit
namespace Go.Proofs.Ytipimkfmkdihpaa
open Go.RowKit Go.Shelf
attribute [local go_sem] Oper.semAt_some

theorem degSum_bd {zs : List Int} {n : Nat} (hG : IsG n zs) : ∀ k : Nat, k ≤ n → degSum zs k ≤ 12 * k
  | 0, _ => by simp [degSum, sumTo]
  | k + 1, h => by
    have ih := degSum_bd hG k (by omega)
    have h1 := card_le (gN_lt hG (i := k) (by omega)).1 hG.le
    have h2 := hG.le
    have e : degSum zs (k + 1) = degSum zs k + card (gN zs k) := rfl
    omega
theorem GraphConnected_is (v : Bool) (a : Option Addr) (n cap : Nat) (zs : List Int) (w : World) (hs : SlAt w a n zs) (hv : connB zs = v) :
    Calls Try.prog 45 #[.slice a n cap] w fun e w' => e = .returned (.bool v) ∧ Below w.heap.size w w' := by subst hv; exact GraphConnected_any a n cap zs w hs
theorem sGraphConnected_is (v : Bool) (a : Option Addr) (n cap : Nat) (zs : List Int) (w : World) (hs : SlAt w a n zs) (hv : connB zs = v) :
    Calls Try.prog 42 #[.slice a n cap] w fun e w' => e = .returned (.bool v) ∧ Below w.heap.size w w' := by subst hv; exact sGraphConnected_any a n cap zs w hs
theorem isize_is (s : Int) (t m : Nat) (w : World) (hst : s = (t : Int)) (ht : t < 4096) (hm : card t = m) : Calls Try.prog 44 #[.int .i64 s] w fun e w' => e = .returned (.int .i64 m) ∧ w = w' := by subst hst hm; exact size_any t w ht
theorem size_bd (x : Int) (w : World) (h0 : 0 ≤ x) (h1 : x ≤ 9223372036854775807) : Calls Try.prog 44 #[.int .i64 x] w fun e w' => ∃ v : Int, e = .returned (.int .i64 v) ∧ (0 ≤ v ∧ v ≤ 127) ∧ w = w' := by
  obtain ⟨t, rfl⟩ : ∃ t : Nat, x = t := ⟨x.toNat, by omega⟩
  exact size_big t w (by omega)
/-- of a graph the ends of its edges are counted; of another list some number -/
theorem tree_of_graph {zs : List Int} {n : Nat} (hG : IsG n zs) {v : Bool} (hc : connB zs = true) (h : decide (degSum zs n + 2 = 2 * n) = v) : treeB zs = v := by
  rw [treeB, hc, Bool.true_and, ← hG.len, h]
theorem tree_no {zs : List Int} (hc : connB zs = false) : treeB zs = false := by rw [treeB, hc]; rfl
set_option maxRecDepth 100000 in
set_option maxHeartbeats 1000000 in
theorem TreeIn_any (a : Option Addr) (n cap : Nat) (zs : List Int) (w : World) (hs : SlAt w a n zs) (hz : ∀ z ∈ zs, -9223372036854775808 ≤ z ∧ z ≤ 9223372036854775807) :
    Calls Try.prog 16 #[.slice a n cap] w fun e w' => e = .returned (.bool (treeB zs)) ∧ Below w.heap.size w w' := by
  have hl := Lib.hid hs.len
  have hbd := hs.bd
  have HS := Lib.hid hs
  cases hc : connB zs with
  | false =>
    have HZ : Hid (∀ j, j < n → -9223372036854775808 ≤ zs[j]?.getD 0 ∧ zs[j]?.getD 0 ≤ 9223372036854775807) := fun j hj => by
      rw [List.getElem?_eq_getElem (by rw [← hl.out]; exact hj)]
      exact hz _ (List.getElem_mem _)
    have HT := Lib.hid (tree_no hc)
    have HC := Lib.hid hc
    clear hc hz hs
    go_enter Try.func16, Try.ntmps16
    go_wp2
    go_loopw [3, 8] (fun u p wr => ∃ (k : Nat) (v : Int), k ≤ n ∧ p = .int .i64 k ∧ u = .int .i64 v ∧ ∃ q, w.drewN q = wr) (fun _ p _ => n - (intOf p).toNat)
    case atStart => exact ⟨0, 0, by omega, rfl, rfl, 0, rfl⟩
    case round =>
      obtain ⟨k, v, hk, rfl, rfl, q, rfl⟩ := hrel
      by_cases hlt : k < n
      · have hlt' : (k : Int) < n := by omega
        obtain ⟨b, off, rfl⟩ := HS.out.addr (by omega)
        have hx := (HS.out.drewN q).at1 hlt
        obtain ⟨z1, z2⟩ := HZ.out k hlt
        obtain ⟨z, hz⟩ : ∃ z, zs[k]?.getD 0 = z := ⟨_, rfl⟩
        rw [hz] at hx z1 z2
        clear hz
        by_cases h0 : 0 ≤ z
        · go_wp2_with fail
          refine (size_bd _ _ (by omega) (by omega)).mono ?_
          rintro e w5 ⟨s, rfl, ⟨s1, s2⟩, rfl⟩
          go_wp2
          go_roundw
          case rel => exact ⟨k + 1, _, by omega, by go_num, rfl, q, rfl⟩
          case measure => simp [intOf]; omega
        · go_wp2_with fail
          refine (size_bd _ _ (by omega) (by omega)).mono ?_
          rintro e w5 ⟨s, rfl, ⟨s1, s2⟩, rfl⟩
          go_wp2
          go_roundw
          case rel => exact ⟨k + 1, _, by omega, by go_num, rfl, q, rfl⟩
          case measure => simp [intOf]; omega
      · obtain rfl : n = k := by omega
        go_wp2_with fail
        refine (GraphConnected_is false _ _ _ _ _ (HS.out.drewN q) HC.out).mono ?_
        rintro e w5 ⟨rfl, hb5⟩
        have B5 := bnext (bdrewN w q) hb5
        go_wp2
        go_ret
        exact ⟨by rw [HT.out]; rfl, B5⟩
  | true =>
    have hgb : graphB zs = true := by
      have := hc
      simp only [connB, Bool.and_eq_true] at this; exact this.1
    have hG0 := isG_of hgb
    rw [← hs.len] at hG0
    obtain ⟨v, hv⟩ : ∃ v, decide (degSum zs n + 2 = 2 * n) = v := ⟨_, rfl⟩
    have HT := Lib.hid (tree_of_graph hG0 hc hv)
    have HC := Lib.hid hc
    have HG := Lib.hid hG0
    have hn12 := hG0.le
    have HV := Lib.hid hv
    obtain ⟨b, off, rfl⟩ := hs.addr hG0.pos
    clear hc hz hs hgb hG0 hv
    go_enter Try.func16, Try.ntmps16
    go_wp2
    go_loopw [3, 8] (fun u p wr => ∃ (k : Nat), k ≤ n ∧ p = .int .i64 k ∧ u = .int .i64 (degSum zs k : Nat) ∧ ∃ q, w.drewN q = wr) (fun _ p _ => n - (intOf p).toNat)
    case atStart => exact ⟨0, by omega, rfl, rfl, 0, rfl⟩
    case round =>
      obtain ⟨k, hk, rfl, rfl, q, rfl⟩ := hrel
      have hbs := degSum_bd HG.out k hk
      by_cases hlt : k < n
      · have hlt' : (k : Int) < n := by omega
        have hx := (HS.out.drewN q).at1 hlt
        obtain ⟨g1, g2, g3⟩ := gN_lt HG.out hlt
        rw [g3] at hx
        have hcd := card_le g1 hn12
        have hs1 : degSum zs (k + 1) = degSum zs k + card (gN zs k) := rfl
        obtain ⟨gx, hgx⟩ : ∃ gx, gN zs k = gx := ⟨_, rfl⟩
        rw [hgx] at hx g2 hcd hs1
        obtain ⟨m, hm⟩ : ∃ m, card gx = m := ⟨_, rfl⟩
        rw [hm] at hcd hs1
        obtain ⟨s, hs⟩ : ∃ s, degSum zs k = s := ⟨_, rfl⟩
        rw [hs] at hs1 hbs ⊢
        have HM := Lib.hid hm
        have HS1 := Lib.hid hs1
        clear g1 g3 hgx hm hs hs1
        go_wp2_with fail
        refine (isize_is _ gx m _ (by first | rfl | simp | omega) g2 HM.out).mono ?_
        rintro e w5 ⟨rfl, rfl⟩
        go_wp2
        go_roundw
        case rel => exact ⟨k + 1, by omega, by go_num, by rw [HS1.out]; go_num, q, rfl⟩
        case measure => simp [intOf]; omega
      · obtain rfl : n = k := by omega
        obtain ⟨s, hs⟩ : ∃ s, degSum zs n = s := ⟨_, rfl⟩
        rw [hs] at hbs ⊢
        have HV2 := HV.out
        rw [hs] at HV2
        have hn1 := HG.out.pos
        go_wp2_with fail
        refine (GraphConnected_is true _ _ _ _ _ (HS.out.drewN q) HC.out).mono ?_
        rintro e w5 ⟨rfl, hb5⟩
        have B5 := bnext (bdrewN w q) hb5
        have he : ((s : Int) == 2 * ((n : Int) - 1)) = v := by
          rw [← HV2, Bool.eq_iff_iff]
          simp only [beq_iff_eq, decide_eq_true_eq]
          omega
        clear HV2 hs
        cases v <;> (
          go_wp2
          go_ret
          exact ⟨by rw [HT.out]; rfl, B5⟩)
set_option maxRecDepth 100000 in
theorem deg_any (a : Option Addr) (n cap : Nat) (zs : List Int) (x : Int) (k m : Nat) (w : World) (hs : SlAt w a n zs) (hG : IsG n zs) (hx : x = (k : Int)) (hk : k < n) (hm : degN zs k = m) :
    Calls Try.prog 83 #[.slice a n cap, .int .i64 x] w fun e w' => e = .returned (.int .i64 m) ∧ w = w' := by
  subst hx
  obtain ⟨b, off, rfl⟩ := hs.addr (by omega)
  have hx := hs.at1 hk
  obtain ⟨g1, g2, g3⟩ := gN_lt hG hk
  rw [g3] at hx
  have hbd := hs.bd
  have hk' : (k : Int) < n := by omega
  have HM : Hid (card (gN zs k) = m) := hm
  obtain ⟨gx, hgx⟩ : ∃ gx, gN zs k = gx := ⟨_, rfl⟩
  rw [hgx] at hx g2 HM
  clear hm hs hG hgx g1 g3
  go_enter Try.func83, Try.ntmps83
  go_wp2_with fail
  refine (isize_is _ gx m _ rfl g2 HM.out).mono ?_
  rintro e w5 ⟨rfl, rfl⟩
  go_wp2
  go_ret
  exact ⟨rfl, rfl⟩
set_option maxRecDepth 100000 in
theorem sdeg_any (a : Option Addr) (n cap : Nat) (zs : List Int) (x : Int) (k m : Nat) (w : World) (hs : SlAt w a n zs) (hG : IsG n zs) (hx : x = (k : Int)) (hk : k < n) (hm : degN zs k = m) :
    Calls Try.prog 43 #[.slice a n cap, .int .i64 x] w fun e w' => e = .returned (.int .i64 m) ∧ w = w' := by
  subst hx
  obtain ⟨b, off, rfl⟩ := hs.addr (by omega)
  have hx := hs.at1 hk
  obtain ⟨g1, g2, g3⟩ := gN_lt hG hk
  rw [g3] at hx
  have hbd := hs.bd
  have hk' : (k : Int) < n := by omega
  have HM : Hid (card (gN zs k) = m) := hm
  obtain ⟨gx, hgx⟩ : ∃ gx, gN zs k = gx := ⟨_, rfl⟩
  rw [hgx] at hx g2 HM
  clear hm hs hG hgx g1 g3
  go_enter Try.func43, Try.ntmps43
  go_wp2_with fail
  refine (scount_is _ gx m _ rfl g2 HM.out).mono ?_
  rintro e w5 ⟨rfl, rfl⟩
  go_wp2
  go_ret
  exact ⟨rfl, rfl⟩
set_option maxRecDepth 100000 in
set_option maxHeartbeats 1000000 in
theorem sTreeIn_any (a : Option Addr) (n cap : Nat) (zs : List Int) (w : World) (hs : SlAt w a n zs) (_hz : ∀ z ∈ zs, -9223372036854775808 ≤ z ∧ z ≤ 9223372036854775807) :
    Calls Try.prog 14 #[.slice a n cap] w fun e w' => e = .returned (.bool (treeB zs)) ∧ Below w.heap.size w w' := by
  have HS := Lib.hid hs
  cases hc : connB zs with
  | false =>
    have HT := Lib.hid (tree_no hc)
    have HC := Lib.hid hc
    clear hc hs
    go_enter Try.func14, Try.ntmps14
    go_wp2_with fail
    refine (sGraphConnected_is false _ _ _ _ _ HS.out HC.out).mono ?_
    rintro e w5 ⟨rfl, hb5⟩
    go_wp2
    go_ret
    exact ⟨by rw [HT.out]; rfl, hb5⟩
  | true =>
    have hgb : graphB zs = true := by
      have := hc
      simp only [connB, Bool.and_eq_true] at this; exact this.1
    have hG0 := isG_of hgb
    rw [← hs.len] at hG0
    obtain ⟨v, hv⟩ : ∃ v, decide (degSum zs n + 2 = 2 * n) = v := ⟨_, rfl⟩
    have HT := Lib.hid (tree_of_graph hG0 hc hv)
    have HC := Lib.hid hc
    have HG := Lib.hid hG0
    have hn12 := hG0.le
    have hbd := hs.bd
    have HV := Lib.hid hv
    clear hc hs hgb hG0 hv
    go_enter Try.func14, Try.ntmps14
    go_wp2_with fail
    refine (sGraphConnected_is true _ _ _ _ _ HS.out HC.out).mono ?_
    rintro e w1 ⟨rfl, hb1⟩
    have HS1 := Lib.hid (HS.out.below hb1)
    have HB1 := Lib.hid hb1
    clear hb1
    go_wp2
    go_loopw [3, 4] (fun u p wr => ∃ (k : Nat), k ≤ n ∧ p = .int .i64 k ∧ u = .int .i64 (degSum zs k : Nat) ∧ ∃ q, w1.drewN q = wr) (fun _ p _ => n - (intOf p).toNat)
    case atStart => exact ⟨0, by omega, rfl, rfl, 0, rfl⟩
    case round =>
      obtain ⟨k, hk, rfl, rfl, q, rfl⟩ := hrel
      have hbs := degSum_bd HG.out k hk
      by_cases hlt : k < n
      · have hlt' : (k : Int) < n := by omega
        obtain ⟨g1, g2, g3⟩ := gN_lt HG.out hlt
        have hcd : degN zs k ≤ n := card_le g1 hn12
        have hs1 : degSum zs (k + 1) = degSum zs k + degN zs k := rfl
        obtain ⟨m, hm⟩ : ∃ m, degN zs k = m := ⟨_, rfl⟩
        rw [hm] at hcd hs1
        obtain ⟨s, hs⟩ : ∃ s, degSum zs k = s := ⟨_, rfl⟩
        rw [hs] at hs1 hbs ⊢
        have HM := Lib.hid hm
        have HSS := Lib.hid hs1
        clear g1 g2 g3 hm hs hs1
        go_wp2_with fail
        refine (sdeg_any _ _ _ _ _ k m _ (HS1.out.drewN q) HG.out rfl hlt HM.out).mono ?_
        rintro e w5 ⟨rfl, rfl⟩
        go_wp2
        go_roundw
        case rel => exact ⟨k + 1, by omega, by go_num, by rw [HSS.out]; go_num, q, rfl⟩
        case measure => simp [intOf]; omega
      · obtain rfl : n = k := by omega
        obtain ⟨s, hs⟩ : ∃ s, degSum zs n = s := ⟨_, rfl⟩
        rw [hs] at hbs ⊢
        have HV2 := HV.out
        rw [hs] at HV2
        have hn1 := HG.out.pos
        have he : ((s : Int) == 2 * ((n : Int) - 1)) = v := by
          rw [← HV2, Bool.eq_iff_iff]
          simp only [beq_iff_eq, decide_eq_true_eq]
          omega
        have B5 := bnext HB1.out (bdrewN w1 q)
        clear HV2 hs
        cases v <;> (
          go_wp2
          go_ret
          exact ⟨by rw [HT.out]; rfl, B5⟩)
theorem TreeIn_is (v : Bool) (a : Option Addr) (n cap : Nat) (zs : List Int) (w : World) (hs : SlAt w a n zs) (hz : ∀ z ∈ zs, -9223372036854775808 ≤ z ∧ z ≤ 9223372036854775807) (hv : treeB zs = v) :
    Calls Try.prog 16 #[.slice a n cap] w fun e w' => e = .returned (.bool v) ∧ Below w.heap.size w w' := by subst hv; exact TreeIn_any a n cap zs w hs hz
theorem sTreeIn_is (v : Bool) (a : Option Addr) (n cap : Nat) (zs : List Int) (w : World) (hs : SlAt w a n zs) (hz : ∀ z ∈ zs, -9223372036854775808 ≤ z ∧ z ≤ 9223372036854775807) (hv : treeB zs = v) :
    Calls Try.prog 14 #[.slice a n cap] w fun e w' => e = .returned (.bool v) ∧ Below w.heap.size w w' := by subst hv; exact sTreeIn_any a n cap zs w hs hz

/-! ### Leaves -/
def TreeLeavesR (zs : List Int) : Nat := if treeB zs then leafTo zs zs.length else 0
theorem leaf_yes {zs : List Int} {k : Nat} (h : degN zs k = 1) : leafTo zs (k + 1) = leafTo zs k ||| 2 ^ k := by rw [leafTo, if_pos h]
theorem leaf_no {zs : List Int} {k : Nat} (h : degN zs k ≠ 1) : leafTo zs (k + 1) = leafTo zs k := by rw [leafTo, if_neg h]
theorem leaf_4096 {zs : List Int} {k : Nat} (hk : k ≤ 12) : leafTo zs k < 4096 := Nat.lt_of_lt_of_le (leafTo_lt zs k) (Nat.pow_le_pow_right (n := 2) (by omega) hk)
set_option maxRecDepth 100000 in
set_option maxHeartbeats 1000000 in
theorem leaves_any (a : Option Addr) (n cap : Nat) (zs : List Int) (w : World) (hs : SlAt w a n zs) (hG : IsG n zs) :
    Calls Try.prog 53 #[.slice a n cap] w fun e w' => e = .returned (.int .i64 (leafTo zs n : Nat)) ∧ Below w.heap.size w w' := by
  have HS := Lib.hid hs
  have HG := Lib.hid hG
  have hn12 := hG.le
  have hbd := hs.bd
  clear hs hG
  go_enter Try.func53, Try.ntmps53
  go_wp2
  go_loopw [3, 7] (fun u p wr => ∃ (k : Nat), k ≤ n ∧ p = .int .i64 k ∧ u = .int .i64 (leafTo zs k : Nat) ∧ ∃ q, w.drewN q = wr) (fun _ p _ => n - (intOf p).toNat)
  case atStart => exact ⟨0, by omega, rfl, rfl, 0, rfl⟩
  case round =>
    obtain ⟨k, hk, rfl, rfl, q, rfl⟩ := hrel
    by_cases hlt : k < n
    · have hlt' : (k : Int) < n := by omega
      obtain ⟨m, hm⟩ : ∃ m, degN zs k = m := ⟨_, rfl⟩
      have hcd : degN zs k ≤ n := card_le (gN_lt HG.out hlt).1 hn12
      rw [hm] at hcd
      have HM := Lib.hid hm
      have hl4 := leaf_4096 (zs := zs) (k := k) (by omega)
      obtain ⟨s, hs⟩ : ∃ s, leafTo zs k = s := ⟨_, rfl⟩
      have HSE := Lib.hid hs
      rw [hs] at hl4 ⊢
      clear hs
      by_cases h1 : m = 1
      · have HL := Lib.hid (leaf_yes (zs := zs) (k := k) (hm.trans h1))
        subst h1
        obtain ⟨p2, hp, hp2, hp3, hp4, hpw⟩ := pow_name (i := k) (by omega)
        have e1 : bits BinOp.or IntKind.i64 (s : Int) (p2 : Int) = ((s ||| p2 : Nat) : Int) := i64_or_nat _ _ (by omega) (by omega)
        have HP := Lib.hid hp
        clear hm hp
        go_wp2_with fail
        refine (deg_any _ _ _ _ _ k 1 _ (HS.out.drewN q) HG.out rfl hlt HM.out).mono ?_
        rintro e w5 ⟨rfl, rfl⟩
        go_wp2
        go_roundw
        case rel => exact ⟨k + 1, by omega, by go_num, by rw [HL.out, HSE.out, HP.out], q, rfl⟩
        case measure => simp [intOf]; omega
      · have HL := Lib.hid (leaf_no (zs := zs) (k := k) (fun e => h1 (hm.symm.trans e)))
        have h1' : ((m : Int) == 1) = false := by simp; omega
        clear hm
        go_wp2_with fail
        refine (deg_any _ _ _ _ _ k m _ (HS.out.drewN q) HG.out rfl hlt HM.out).mono ?_
        rintro e w5 ⟨rfl, rfl⟩
        go_wp2
        go_roundw
        case rel => exact ⟨k + 1, by omega, by go_num, by rw [HL.out, HSE.out], q, rfl⟩
        case measure => simp [intOf]; omega
    · obtain rfl : n = k := by omega
      have B := bdrewN w q
      go_wp2
      go_ret
      exact ⟨rfl, B⟩
theorem leavesR_no {zs : List Int} (h : treeB zs = false) : TreeLeavesR zs = 0 := by rw [TreeLeavesR, h]; rfl
theorem leavesR_yes {zs : List Int} {n : Nat} (hG : IsG n zs) (h : treeB zs = true) : TreeLeavesR zs = leafTo zs n := by rw [TreeLeavesR, if_pos h, hG.len]
set_option maxRecDepth 100000 in
set_option maxHeartbeats 1000000 in
theorem TreeLeaves_any (a : Option Addr) (n cap : Nat) (zs : List Int) (w : World) (hs : SlAt w a n zs) (hz : ∀ z ∈ zs, -9223372036854775808 ≤ z ∧ z ≤ 9223372036854775807) :
    Calls Try.prog 25 #[.slice a n cap] w fun e w' => e = .returned (.tuple #[.int .i64 (TreeLeavesR zs : Nat), .bool (treeB zs)]) ∧ Below w.heap.size w w' := by
  have HS := Lib.hid hs
  have HZ := Lib.hid hz
  clear hs hz
  cases ht : treeB zs with
  | false =>
    have HT := Lib.hid ht
    have HR := Lib.hid (leavesR_no ht)
    clear ht
    go_enter Try.func25, Try.ntmps25
    go_wp2_with fail
    refine (TreeIn_is false _ _ _ _ _ HS.out HZ.out HT.out).mono ?_
    rintro e w5 ⟨rfl, hb5⟩
    go_wp2
    go_ret2
    exact ⟨by rw [HR.out]; rfl, hb5⟩
  | true =>
    have hG := isG_of (tree_graph ht)
    rw [← HS.out.len] at hG
    have HG := Lib.hid hG
    have HT := Lib.hid ht
    have HR := Lib.hid (leavesR_yes hG ht)
    clear ht hG
    go_enter Try.func25, Try.ntmps25
    go_wp2_with fail
    refine (TreeIn_is true _ _ _ _ _ HS.out HZ.out HT.out).mono ?_
    rintro e w5 ⟨rfl, hb5⟩
    have HS5 := Lib.hid (HS.out.below hb5)
    go_wp2_with fail
    refine (leaves_any _ _ _ _ _ HS5.out HG.out).mono ?_
    rintro e w6 ⟨rfl, hb6⟩
    have B6 := bnext hb5 hb6
    go_wp2
    go_ret2
    exact ⟨by rw [HR.out]; rfl, B6⟩
set_option maxRecDepth 100000 in
set_option maxHeartbeats 1000000 in
theorem sTreeLeaves_any (a : Option Addr) (n cap : Nat) (zs : List Int) (w : World) (hs : SlAt w a n zs) (hz : ∀ z ∈ zs, -9223372036854775808 ≤ z ∧ z ≤ 9223372036854775807) :
    Calls Try.prog 24 #[.slice a n cap] w fun e w' => e = .returned (.tuple #[.int .i64 (TreeLeavesR zs : Nat), .bool (treeB zs)]) ∧ Below w.heap.size w w' := by
  have HS := Lib.hid hs
  have HZ := Lib.hid hz
  have hbd := hs.bd
  clear hs hz
  cases ht : treeB zs with
  | false =>
    have HT := Lib.hid ht
    have HR := Lib.hid (leavesR_no ht)
    clear ht
    go_enter Try.func24, Try.ntmps24
    go_wp2_with fail
    refine (sTreeIn_is false _ _ _ _ _ HS.out HZ.out HT.out).mono ?_
    rintro e w5 ⟨rfl, hb5⟩
    go_wp2
    go_ret2
    exact ⟨by rw [HR.out]; rfl, hb5⟩
  | true =>
    have hG := isG_of (tree_graph ht)
    rw [← HS.out.len] at hG
    have HG := Lib.hid hG
    have hn12 := hG.le
    have HT := Lib.hid ht
    have HR := Lib.hid (leavesR_yes hG ht)
    clear ht hG
    go_enter Try.func24, Try.ntmps24
    go_wp2_with fail
    refine (sTreeIn_is true _ _ _ _ _ HS.out HZ.out HT.out).mono ?_
    rintro e w1 ⟨rfl, hb1⟩
    have HS1 := Lib.hid (HS.out.below hb1)
    have HB1 := Lib.hid hb1
    clear hb1
    go_wp2
    go_loopw [4, 5] (fun u p wr => ∃ (k : Nat), k ≤ n ∧ p = .int .i64 k ∧ u = .int .i64 (leafTo zs k : Nat) ∧ ∃ q, w1.drewN q = wr) (fun _ p _ => n - (intOf p).toNat)
    case atStart => exact ⟨0, by omega, rfl, rfl, 0, rfl⟩
    case round =>
      obtain ⟨k, hk, rfl, rfl, q, rfl⟩ := hrel
      by_cases hlt : k < n
      · have hlt' : (k : Int) < n := by omega
        obtain ⟨m, hm⟩ : ∃ m, degN zs k = m := ⟨_, rfl⟩
        have hcd : degN zs k ≤ n := card_le (gN_lt HG.out hlt).1 hn12
        rw [hm] at hcd
        have HM := Lib.hid hm
        have hl4 := leaf_4096 (zs := zs) (k := k) (by omega)
        obtain ⟨s, hs⟩ : ∃ s, leafTo zs k = s := ⟨_, rfl⟩
        have HSE := Lib.hid hs
        rw [hs] at hl4 ⊢
        clear hs
        by_cases h1 : m = 1
        · have HL := Lib.hid (leaf_yes (zs := zs) (k := k) (hm.trans h1))
          subst h1
          obtain ⟨p2, hp, hp2, hp3, hp4, hpw⟩ := pow_name (i := k) (by omega)
          have e1 : bits BinOp.or IntKind.i64 (s : Int) (p2 : Int) = ((s ||| p2 : Nat) : Int) := i64_or_nat _ _ (by omega) (by omega)
          have HP := Lib.hid hp
          clear hm hp
          go_wp2_with fail
          refine (sdeg_any _ _ _ _ _ k 1 _ (HS1.out.drewN q) HG.out rfl hlt HM.out).mono ?_
          rintro e w5 ⟨rfl, rfl⟩
          go_wp2
          go_roundw
          case rel => exact ⟨k + 1, by omega, by go_num, by rw [HL.out, HSE.out, HP.out], q, rfl⟩
          case measure => simp [intOf]; omega
        · have HL := Lib.hid (leaf_no (zs := zs) (k := k) (fun e => h1 (hm.symm.trans e)))
          have h1' : ((m : Int) == 1) = false := by simp; omega
          clear hm
          go_wp2_with fail
          refine (sdeg_any _ _ _ _ _ k m _ (HS1.out.drewN q) HG.out rfl hlt HM.out).mono ?_
          rintro e w5 ⟨rfl, rfl⟩
          go_wp2
          go_roundw
          case rel => exact ⟨k + 1, by omega, by go_num, by rw [HL.out, HSE.out], q, rfl⟩
          case measure => simp [intOf]; omega
      · obtain rfl : n = k := by omega
        have B5 := bnext HB1.out (bdrewN w1 q)
        go_wp2
        go_ret2
        exact ⟨by rw [HR.out]; rfl, B5⟩
theorem TreeLeaves_is (v : Bool) (x : Nat) (a : Option Addr) (n cap : Nat) (zs : List Int) (w : World) (hs : SlAt w a n zs) (hz : ∀ z ∈ zs, -9223372036854775808 ≤ z ∧ z ≤ 9223372036854775807) (hx : TreeLeavesR zs = x) (hv : treeB zs = v) :
    Calls Try.prog 25 #[.slice a n cap] w fun e w' => e = .returned (.tuple #[.int .i64 x, .bool v]) ∧ Below w.heap.size w w' := by subst hx hv; exact TreeLeaves_any a n cap zs w hs hz
theorem sTreeLeaves_is (v : Bool) (x : Nat) (a : Option Addr) (n cap : Nat) (zs : List Int) (w : World) (hs : SlAt w a n zs) (hz : ∀ z ∈ zs, -9223372036854775808 ≤ z ∧ z ≤ 9223372036854775807) (hx : TreeLeavesR zs = x) (hv : treeB zs = v) :
    Calls Try.prog 24 #[.slice a n cap] w fun e w' => e = .returned (.tuple #[.int .i64 x, .bool v]) ∧ Below w.heap.size w w' := by subst hx hv; exact sTreeLeaves_any a n cap zs w hs hz
end Go.Proofs.Ytipimkfmkdihpaa
