/- Forks and resolving numbers of trees: the reference. -/
import Derived.Deep.LoopGhost
import Derived.Test.YtipimkfmkdihpaaForkM
import Derived.Test.YtipimkfmkdihpaaTree
namespace Go.Proofs.Ytipimkfmkdihpaa
open Go.RowKit Go.Shelf
attribute [local go_sem] Oper.semAt_some

theorem tbit_is (v : Bool) (s : Nat) (k : Nat) (z i : Int) (w : World) (hz : z = (s : Int)) (hs : s < 4096) (hi : i = (k : Int)) (hk : k < 12) (hv : s.testBit k = v) :
    Calls Try.prog 64 #[.int .i64 z, .int .i64 i] w fun e w' => e = .returned (.int .i64 (if v then 1 else 0)) ∧ w = w' := by
  subst hi hz hv
  exact (l1Bit_any s k (by omega) (by omega) (by omega) (by omega) w).mono fun _ _ ⟨h, e⟩ => ⟨by rw [h, Int.toNat_natCast]; rfl, e⟩
/-- what the inner loop has found -/
def nxTo (t : Int) (k : Nat) : Int := if t < k then t else -1
set_option maxRecDepth 100000 in
set_option maxHeartbeats 4000000 in
theorem sfork_any (a : Option Addr) (n cap : Nat) (zs : List Int) (lf : Int) (leaf : Nat) (w : World) (hs : SlAt w a n zs) (hG : IsG n zs) (hlf : lf = (leaf : Int)) (hl : leaf < n) (h1 : degN zs leaf = 1) :
    Calls Try.prog 65 #[.slice a n cap, .int .i64 lf] w fun e w' => e = .returned (.int .i64 (forkV zs leaf)) ∧ Below w.heap.size w w' := by
  subst hlf
  have hn12 := hG.le
  have hbd := hs.bd
  obtain ⟨b, off, rfl⟩ := hs.addr hG.pos
  have HF0 := Lib.hid (FI.start hG hl h1)
  have HG := Lib.hid hG
  have HS := Lib.hid hs
  have HD0 : Hid (degN zs leaf < 3) := by show _ < _; omega
  clear hG hs h1
  go_enter Try.func65, Try.ntmps65
  go_wp2
  go_loopg [5, 6] 12 (fun g u p wx => w = wx ∧ ∃ (i seen x : Nat) (ls : Int), g = 12 - i ∧ i ≤ 11 ∧ u = .int .i64 ls ∧ p = .int .i64 x ∧ -1 ≤ ls ∧ ls ≤ 12 ∧ Hid (FI n zs i seen x) ∧ Hid (degN zs x < 3) ∧ Hid (forkGo zs (13 - i) seen x = forkV zs leaf) ∧ Hid (∀ z, adjB zs x z = true → seen.testBit z = decide ((z : Int) = ls)))
  case atStart => exact ⟨rfl, 0, 0, leaf, -1, by omega, by omega, rfl, rfl, by omega, by omega, HF0, HD0, rfl, fun z _ => by rw [Nat.zero_testBit]; exact (decide_eq_false (by omega)).symm⟩
  case round =>
    obtain ⟨rfl, i, seen, x, ls, hgk, hi, rfl, rfl, hls1, hls2, HF, HD, HV, HB⟩ := hrel
    have hxn := HF.out.atn
    have hx' : (x : Int) < n := by omega
    have hcell := HS.out.at1 hxn
    obtain ⟨g1, g2, g3⟩ := gN_lt HG.out hxn
    rw [g3] at hcell
    -- the target: -1 or the one node that is next
    obtain ⟨t, ht1, ht2, htN⟩ : ∃ t : Int, -1 ≤ t ∧ t < n ∧ Hid (∀ j : Nat, (adjB zs x j && !decide ((j : Int) = ls)) = decide ((j : Int) = t)) ∧ Hid ((t = -1 ∧ nextN zs seen x = 0) ∨ ∃ y : Nat, t = y ∧ y < n ∧ nextN zs seen x = 2 ^ y ∧ adjB zs x y = true ∧ seen.testBit y = false ∧ y ≠ x) := by
      have hb : ∀ j, (adjB zs x j && !decide ((j : Int) = ls)) = (nextN zs seen x).testBit j := fun j => by
        rw [next_bit HG.out]
        cases ha : adjB zs x j with
        | false => rfl
        | true => rw [HB.out j ha]
      rcases HF.out.one HG.out HD.out with h0 | ⟨y, h2, h3, h4, h5, h6⟩
      · refine ⟨-1, by omega, by have := HG.out.pos; omega, fun j => ?_, .inl ⟨rfl, h0⟩⟩
        rw [hb, h0, Nat.zero_testBit]; exact (decide_eq_false (by omega)).symm
      · refine ⟨y, by omega, by omega, fun j => ?_, .inr ⟨y, rfl, h2, h3, h4, h5, h6⟩⟩
        rw [hb, h3, Nat.testBit_two_pow, decide_eq_decide]; omega
    obtain ⟨HP, HT⟩ := htN
    obtain ⟨gx, hgx⟩ : ∃ gx, gN zs x = gx := ⟨_, rfl⟩
    rw [hgx] at hcell g2
    have HGX : Hid (∀ j, gx.testBit j = adjB zs x j) := fun j => by rw [← hgx]; rfl
    clear g1 g3 hgx
    go_wp2
    go_loopg [7, 8] n (fun g u p wx => w = wx ∧ ∃ k : Nat, g = n - k ∧ k ≤ n ∧ p = .int .i64 k ∧ u = .int .i64 (nxTo t k))
    case atStart => exact ⟨rfl, 0, by omega, by omega, rfl, by rw [show nxTo t (0 : Nat) = -1 by unfold nxTo; split <;> omega]⟩
    case round =>
      obtain ⟨rfl, k, hgk2, hk, rfl, rfl⟩ := hrel
      by_cases hlt : k < n
      · have hlt' : (k : Int) < n := by omega
        have hp := HP.out k
        obtain ⟨o, ho⟩ : ∃ o, nxTo t k = o := ⟨_, rfl⟩
        have hnx : nxTo t (k + 1 : Nat) = if (k : Int) = t then (k : Int) else o := by
          rw [← ho]; unfold nxTo
          by_cases e : (k : Int) = t
          · rw [if_pos e, if_pos (by omega)]; exact e.symm
          · rw [if_neg e]
            by_cases e2 : t < k
            · rw [if_pos e2, if_pos (by omega)]
            · rw [if_neg e2, if_neg (by omega)]
        have HNX := Lib.hid hnx
        rw [ho]
        clear hnx ho
        cases hadj : adjB zs x k with
        | false =>
          rw [hadj] at hp
          have hkt : ¬ (k : Int) = t := by simpa using hp.symm
          have HBT : Hid (gx.testBit k = false) := by show _ = _; rw [HGX.out, hadj]
          clear hp hadj
          go_wp2_with fail
          refine (tbit_is false gx k _ _ _ rfl g2 rfl (by omega) HBT.out).mono ?_
          rintro e w5 ⟨rfl, rfl⟩
          simp only [Bool.false_eq_true, if_false]
          go_wp2
          go_roundg (n - (k + 1))
          case measure => omega
          case rel => exact ⟨rfl, k + 1, by omega, by omega, by go_num, by rw [HNX.out, if_neg hkt]⟩
        | true =>
          rw [hadj, Bool.true_and] at hp
          have HBT : Hid (gx.testBit k = true) := by show _ = _; rw [HGX.out, hadj]
          clear hadj
          by_cases hkl : (k : Int) = ls
          · have hkt : ¬ (k : Int) = t := by
              have := hp.symm
              simp [hkl] at this
              omega
            have hkl' : ((k : Int) == ls) = true := by simpa using hkl
            clear hp hkl
            go_wp2_with fail
            refine (tbit_is true gx k _ _ _ rfl g2 rfl (by omega) HBT.out).mono ?_
            rintro e w5 ⟨rfl, rfl⟩
            simp only [if_true]
            go_wp2
            go_roundg (n - (k + 1))
            case measure => omega
            case rel => exact ⟨rfl, k + 1, by omega, by omega, by go_num, by rw [HNX.out, if_neg hkt]⟩
          · have hkt : (k : Int) = t := by
              have := hp.symm
              simpa [hkl] using this
            have hkl' : ((k : Int) == ls) = false := by simpa using hkl
            have HKT := Lib.hid hkt
            clear hp hkt hkl
            go_wp2_with fail
            refine (tbit_is true gx k _ _ _ rfl g2 rfl (by omega) HBT.out).mono ?_
            rintro e w5 ⟨rfl, rfl⟩
            simp only [if_true]
            go_wp2
            go_roundg (n - (k + 1))
            case measure => omega
            case rel => exact ⟨rfl, k + 1, by omega, by omega, by go_num, by rw [HNX.out, if_pos HKT.out]⟩
      · obtain rfl : n = k := by omega
        have hnn : nxTo t n = t := by unfold nxTo; rw [if_pos (by omega)]
        rw [hnn]
        clear hnn
        have hfu : ∃ f, 13 - i = f + 1 := ⟨12 - i, by omega⟩
        obtain ⟨f, hf⟩ := hfu
        rcases HT.out with ⟨rfl, h0⟩ | ⟨y, rfl, h2, h3, h4, h5, h6⟩
        · have HR : Hid (forkV zs leaf = -1) := by
            show _ = _
            rw [← HV.out, hf]; exact forkGo_none HD.out h0
          clear h0 hcell
          go_wp2
          go_ret
          exact ⟨by rw [HR.out]; rfl, Below.refl _ _⟩
        · have HF2 := Lib.hid (HF.out.step HG.out HD.out h2 h4 h5 h6)
          have hle := HF2.out.le HG.out
          have HV2 : Hid (forkGo zs (13 - (i + 1)) (seen ||| 2 ^ x) y = forkV zs leaf) := by
            show _ = _
            rw [← HV.out, hf, forkGo_step HD.out h3, show 13 - (i + 1) = f by omega]
          have HB2 : Hid (∀ z, adjB zs y z = true → (seen ||| 2 ^ x).testBit z = decide ((z : Int) = (x : Int))) := fun z hz => by
            rw [HF.out.back HG.out h4 h5 h6 z hz, decide_eq_decide]; omega
          obtain ⟨m, hm⟩ : ∃ m, degN zs y = m := ⟨_, rfl⟩
          have HM := Lib.hid hm
          have hmn : m ≤ n := by rw [← hm]; exact card_le (gN_lt HG.out h2).1 hn12
          have hy' : ¬ (y : Int) < 0 := by omega
          by_cases h3m : 3 ≤ m
          · have HR : Hid (forkV zs leaf = y) := by
              show _ = _
              rw [← HV2.out]
              obtain ⟨f2, hf2⟩ : ∃ f2, 13 - (i + 1) = f2 + 1 := ⟨11 - i, by omega⟩
              rw [hf2]; exact forkGo_fork (by rw [hm]; exact h3m)
            have hm2 : (2 : Int) < m := by omega
            clear h3 h4 h5 h6 hm hcell
            go_wp2_with fail
            refine (sdeg_any _ _ _ _ _ y m _ HS.out HG.out rfl h2 HM.out).mono ?_
            rintro e w5 ⟨rfl, rfl⟩
            go_wp2
            go_ret
            exact ⟨by rw [HR.out]; rfl, Below.refl _ _⟩
          · have hm2 : ¬ (2 : Int) < m := by omega
            have HD2 : Hid (degN zs y < 3) := by show _ < _; omega
            clear h3 h4 h5 h6 hm hcell
            go_wp2_with fail
            refine (sdeg_any _ _ _ _ _ y m _ HS.out HG.out rfl h2 HM.out).mono ?_
            rintro e w5 ⟨rfl, rfl⟩
            go_wp2
            go_roundg (12 - (i + 1))
            case measure => omega
            case rel => exact ⟨rfl, i + 1, seen ||| 2 ^ x, y, x, by omega, by omega, rfl, rfl, by omega, by omega, HF2, HD2, HV2, HB2⟩
def TreeForksR (zs : List Int) : Nat := if treeB zs then forksV zs else 0
theorem forks_step (zs : List Int) (s k : Nat) : forksTo zs (bitsTo s (k + 1)) = if s.testBit k then forkStep zs (forksTo zs (bitsTo s k)) k else forksTo zs (bitsTo s k) := by
  rw [bitsTo_succ]
  split
  · rw [forksTo_snoc]
  · rw [List.append_nil]
theorem bitsTo_mem {s k x : Nat} (h : x ∈ bitsTo s k) : x < k ∧ s.testBit x = true := by simpa [bitsTo] using h
theorem leaves_lt {zs : List Int} {n k : Nat} (hG : IsG n zs) (_hk : k ≤ n) : forksTo zs (bitsTo (leafTo zs n) k) < 2 ^ n ∧ forksTo zs (bitsTo (leafTo zs n) k) < 4096 := by
  have h := forksTo_lt hG (bitsTo (leafTo zs n) k) fun x hx => by
    have h1 := (bitsTo_mem hx).2
    rw [leafTo_bit, Bool.and_eq_true, decide_eq_true_eq, decide_eq_true_eq] at h1; exact h1
  have := pow12 hG.le
  omega
theorem forksR_no {zs : List Int} (h : treeB zs = false) : TreeForksR zs = 0 := by rw [TreeForksR, h]; rfl
theorem forksR_yes {zs : List Int} {n : Nat} (hG : IsG n zs) (h : treeB zs = true) : TreeForksR zs = forksTo zs (bitsTo (leafTo zs n) n) := by
  rw [TreeForksR, if_pos h, forksV, ← hG.len, bitsTo_all hG.le (Nat.div_eq_of_lt (leafTo_lt zs n))]
set_option maxRecDepth 100000 in
set_option maxHeartbeats 2000000 in
theorem sTreeForks_any (a : Option Addr) (n cap : Nat) (zs : List Int) (w : World) (hs : SlAt w a n zs) (hz : ∀ z ∈ zs, -9223372036854775808 ≤ z ∧ z ≤ 9223372036854775807) :
    Calls Try.prog 30 #[.slice a n cap] w fun e w' => e = .returned (.tuple #[.int .i64 (TreeForksR zs : Nat), .bool (treeB zs)]) ∧ Below w.heap.size w w' := by
  have HS := Lib.hid hs
  have HZ := Lib.hid hz
  have hbd := hs.bd
  clear hs hz
  cases ht : treeB zs with
  | false =>
    have HT := Lib.hid ht
    have HR := Lib.hid (forksR_no ht)
    have HL := Lib.hid (leavesR_no ht)
    clear ht
    go_enter Try.func30, Try.ntmps30
    go_wp2_with fail
    refine (sTreeLeaves_is false 0 _ _ _ _ _ HS.out HZ.out HL.out HT.out).mono ?_
    rintro e w5 ⟨rfl, hb5⟩
    by_cases hn0 : 0 < n
    · have hn0' : (0 : Int) < n := by omega
      go_wp2
      go_loopw [6, 7] (fun u p wr => u = .int .i64 0 ∧ p = .int .i64 0 ∧ wr = w5) (fun _ p _ => 0)
      case atStart => exact ⟨rfl, rfl, rfl⟩
      case round =>
        obtain ⟨rfl, rfl, rfl⟩ := hrel
        go_wp2
        go_ret2
        exact ⟨by rw [HR.out]; rfl, hb5⟩
    · have hn0' : ¬ (0 : Int) < n := by omega
      go_wp2
      go_loopw [6, 7] (fun u p wr => u = .int .i64 0 ∧ p = .int .i64 0 ∧ wr = w5) (fun _ p _ => 0)
      case atStart => exact ⟨rfl, rfl, rfl⟩
      case round =>
        obtain ⟨rfl, rfl, rfl⟩ := hrel
        go_wp2
        go_ret2
        exact ⟨by rw [HR.out]; rfl, hb5⟩
  | true =>
    have hG := isG_of (tree_graph ht)
    rw [← HS.out.len] at hG
    have HG := Lib.hid hG
    have hn12 := hG.le
    have HT := Lib.hid ht
    have HR := Lib.hid (forksR_yes hG ht)
    have HL := Lib.hid (leavesR_yes hG ht)
    have hl4 := leaf_4096 (zs := zs) hn12
    obtain ⟨l, hl⟩ : ∃ l, leafTo zs n = l := ⟨_, rfl⟩
    have HLE := Lib.hid hl
    rw [hl] at hl4
    clear ht hG hl
    go_enter Try.func30, Try.ntmps30
    go_wp2_with fail
    refine (sTreeLeaves_is true l _ _ _ _ _ HS.out HZ.out (by rw [HL.out, HLE.out]) HT.out).mono ?_
    rintro e w1 ⟨rfl, hb1⟩
    have HS1 := Lib.hid (HS.out.below hb1)
    have HB1 := Lib.hid hb1
    clear hb1
    go_wp2
    go_loopw [6, 7] (fun u p wr => ∃ k : Nat, k ≤ n ∧ p = .int .i64 k ∧ u = .int .i64 (forksTo zs (bitsTo l k) : Nat) ∧ SlAt wr a n zs ∧ Below w.heap.size w wr) (fun _ p _ => n - (intOf p).toNat)
    case atStart => exact ⟨0, by omega, rfl, rfl, HS1.out, HB1.out⟩
    case round =>
      obtain ⟨k, hk, rfl, rfl, hS, hB⟩ := hrel
      have hst := (leaves_lt (zs := zs) HG.out hk).2
      rw [HLE.out] at hst
      have HST := Lib.hid (forks_step zs l k)
      obtain ⟨s, hsv⟩ : ∃ s, forksTo zs (bitsTo l k) = s := ⟨_, rfl⟩
      have HSV := Lib.hid hsv
      rw [hsv] at hst ⊢
      clear hsv
      by_cases hlt : k < n
      · have hlt' : (k : Int) < n := by omega
        have hlb : l.testBit k = decide (degN zs k = 1) := by rw [← HLE.out, leafTo_bit, decide_eq_true hlt]; rfl
        have HS := Lib.hid hS
        have HB := Lib.hid hB
        clear hS hB
        cases hbit : l.testBit k with
        | false =>
          have HBT := Lib.hid hbit
          clear hbit hlb
          go_wp2_with fail
          refine (tbit_is false l k _ _ _ rfl hl4 rfl (by omega) HBT.out).mono ?_
          rintro e w5 ⟨rfl, rfl⟩
          simp only [Bool.false_eq_true, if_false]
          go_wp2
          go_roundw
          case rel => exact ⟨k + 1, by omega, by go_num, by rw [HST.out, HBT.out, HSV.out]; rfl, HS.out, HB.out⟩
          case measure => simp [intOf]; omega
        | true =>
          have HBT := Lib.hid hbit
          rw [hbit] at hlb
          have h1 : degN zs k = 1 := by simpa using hlb.symm
          obtain ⟨v1, v2⟩ := forkV_bd HG.out hlt h1
          have HD1 := Lib.hid h1
          have HFS : Hid (forksTo zs (bitsTo l (k + 1)) = if 0 ≤ forkV zs k then s ||| 2 ^ (forkV zs k).toNat else s) := by
            show _ = _
            rw [HST.out, HBT.out, if_pos rfl, HSV.out]; rfl
          obtain ⟨v, hv⟩ : ∃ v, forkV zs k = v := ⟨_, rfl⟩
          have HVE := Lib.hid hv
          rw [hv] at v1 v2
          clear hbit hlb h1 hv
          go_wp2_with fail
          refine (tbit_is true l k _ _ _ rfl hl4 rfl (by omega) HBT.out).mono ?_
          rintro e w5 ⟨rfl, rfl⟩
          simp only [if_true]
          go_wp2_with fail
          refine (sfork_any _ _ _ _ _ k _ HS.out HG.out rfl hlt HD1.out).mono ?_
          rintro e w6 ⟨rfl, hb6⟩
          rw [HVE.out]
          have HS6 := Lib.hid (HS.out.below hb6)
          have HB6 := Lib.hid (bnext HB.out hb6)
          clear hb6
          by_cases h0 : 0 ≤ v
          · obtain ⟨vn, rfl⟩ : ∃ vn : Nat, v = vn := ⟨v.toNat, by omega⟩
            obtain ⟨p2, hp, hp2, hp3, hp4, hpw⟩ := pow_name (i := vn) (by omega)
            have e1 : bits BinOp.or IntKind.i64 (s : Int) (p2 : Int) = ((s ||| p2 : Nat) : Int) := i64_or_nat _ _ (by omega) (by omega)
            have HP := Lib.hid hp
            clear hp
            go_wp2
            go_roundw
            case rel => exact ⟨k + 1, by omega, by go_num, by rw [HFS.out, HVE.out, if_pos h0, Int.toNat_natCast, HP.out], HS6.out, HB6.out⟩
            case measure => simp [intOf]; omega
          · go_wp2
            go_roundw
            case rel => exact ⟨k + 1, by omega, by go_num, by rw [HFS.out, HVE.out, if_neg (by omega)], HS6.out, HB6.out⟩
            case measure => simp [intOf]; omega
      · obtain rfl : n = k := by omega
        go_wp2
        go_ret2
        exact ⟨by rw [HR.out, HLE.out, HSV.out]; rfl, hB⟩
theorem sTreeForks_is (v : Bool) (x : Nat) (a : Option Addr) (n cap : Nat) (zs : List Int) (w : World) (hs : SlAt w a n zs) (hz : ∀ z ∈ zs, -9223372036854775808 ≤ z ∧ z ≤ 9223372036854775807) (hx : TreeForksR zs = x) (hv : treeB zs = v) :
    Calls Try.prog 30 #[.slice a n cap] w fun e w' => e = .returned (.tuple #[.int .i64 x, .bool v]) ∧ Below w.heap.size w w' := by subst hx hv; exact sTreeForks_any a n cap zs w hs hz
def TreeResolvesR (zs : List Int) : Int := if treeB zs then (if zs.length = 1 then 0 else if TreeForksR zs = 0 then 1 else (card (TreeLeavesR zs) : Int) - card (TreeForksR zs)) else 0
theorem forksR_lt {zs : List Int} : TreeForksR zs < 4096 := by
  unfold TreeForksR
  split
  · rename_i h
    have hG := isG_of (tree_graph h)
    have h1 := (leaves_lt hG (Nat.le_refl _)).2
    rw [forksV, ← bitsTo_all hG.le (Nat.div_eq_of_lt (leafTo_lt zs zs.length))]; exact h1
  · omega
theorem leavesR_lt {zs : List Int} : TreeLeavesR zs < 4096 := by
  unfold TreeLeavesR
  split
  · rename_i h; exact leaf_4096 (isG_of (tree_graph h)).le
  · omega
theorem scount_of (s : Nat) (v : Int) (w : World) (h : s < 4096 ∧ (card s : Int) = v) : Calls Try.prog 68 #[.int .i64 s] w fun e w' => e = .returned (.int .i64 v) ∧ w = w' := by
  obtain ⟨hs, rfl⟩ := h; exact scount_any s w hs
theorem card_12 {s : Nat} (h : s < 4096) : card s ≤ 12 := card_le (n := 12) h (Nat.le_refl _)
set_option maxRecDepth 100000 in
set_option maxHeartbeats 2000000 in
theorem sTreeResolves_any (a : Option Addr) (n cap : Nat) (zs : List Int) (w : World) (hs : SlAt w a n zs) (hz : ∀ z ∈ zs, -9223372036854775808 ≤ z ∧ z ≤ 9223372036854775807) :
    Calls Try.prog 34 #[.slice a n cap] w fun e w' => e = .returned (.tuple #[.int .i64 (TreeResolvesR zs), .bool (treeB zs)]) ∧ Below w.heap.size w w' := by
  have HS := Lib.hid hs
  have HZ := Lib.hid hz
  have hbd := hs.bd
  have hln := Lib.hid hs.len
  clear hs hz
  obtain ⟨l, hl⟩ : ∃ l, TreeLeavesR zs = l := ⟨_, rfl⟩
  obtain ⟨f, hf⟩ : ∃ f, TreeForksR zs = f := ⟨_, rfl⟩
  have hl4 : l < 4096 := by rw [← hl]; exact leavesR_lt
  have hf4 : f < 4096 := by rw [← hf]; exact forksR_lt
  have HL := Lib.hid hl
  have HF := Lib.hid hf
  clear hl hf
  cases ht : treeB zs with
  | false =>
    have HR : Hid (TreeResolvesR zs = 0) := by show _ = _; rw [TreeResolvesR, ht]; rfl
    have HT := Lib.hid ht
    clear ht
    go_enter Try.func34, Try.ntmps34
    go_wp2_with fail
    refine (sTreeLeaves_is false l _ _ _ _ _ HS.out HZ.out HL.out HT.out).mono ?_
    rintro e w5 ⟨rfl, hb5⟩
    go_wp2
    go_ret2
    exact ⟨by rw [HR.out]; rfl, hb5⟩
  | true =>
    have HR : Hid (TreeResolvesR zs = if n = 1 then 0 else if f = 0 then 1 else (card l : Int) - card f) := by show _ = _; rw [TreeResolvesR, ht, HL.out, HF.out, hln.out]; rfl
    have HT := Lib.hid ht
    clear ht
    go_enter Try.func34, Try.ntmps34
    go_wp2_with fail
    refine (sTreeLeaves_is true l _ _ _ _ _ HS.out HZ.out HL.out HT.out).mono ?_
    rintro e w5 ⟨rfl, hb5⟩
    by_cases hn1 : n = 1
    · have hn1' : ((n : Int) == 1) = true := by simp; omega
      have HR2 : Hid (TreeResolvesR zs = 0) := by show _ = _; rw [HR.out, if_pos hn1]
      clear hn1
      go_wp2
      go_ret2
      exact ⟨by rw [HR2.out]; rfl, hb5⟩
    · have hn1' : ((n : Int) == 1) = false := by simp; omega
      have HS5 := Lib.hid (HS.out.below hb5)
      go_wp2_with fail
      refine (sTreeForks_is true f _ _ _ _ _ HS5.out HZ.out HF.out HT.out).mono ?_
      rintro e w6 ⟨rfl, hb6⟩
      have B6 := bnext hb5 hb6
      by_cases hf0 : f = 0
      · have HR2 : Hid (TreeResolvesR zs = 1) := by show _ = _; rw [HR.out, if_neg hn1, if_pos hf0]
        subst hf0
        go_wp2
        go_ret2
        exact ⟨by rw [HR2.out]; rfl, B6⟩
      · have hf0' : ((f : Int) == 0) = false := by simp; omega
        have HR2 : Hid (TreeResolvesR zs = (card l : Int) - card f) := by show _ = _; rw [HR.out, if_neg hn1, if_neg hf0]
        have c1 := card_12 hl4
        have c2 := card_12 hf4
        obtain ⟨cl, hcl⟩ : ∃ cl, card l = cl := ⟨_, rfl⟩
        obtain ⟨cf, hcf⟩ : ∃ cf, card f = cf := ⟨_, rfl⟩
        have HA : Hid (l < 4096 ∧ (card l : Int) = cl) := ⟨hl4, by rw [hcl]⟩
        have HB : Hid (f < 4096 ∧ (card f : Int) = cf) := ⟨hf4, by rw [hcf]⟩
        rw [hcl, hcf] at HR2
        rw [hcl] at c1
        rw [hcf] at c2
        clear hcl hcf
        go_wp2_with fail
        refine (scount_of l _ _ HA.out).mono ?_
        rintro e w7 ⟨rfl, rfl⟩
        go_wp2_with fail
        refine (scount_of f _ _ HB.out).mono ?_
        rintro e w8 ⟨rfl, rfl⟩
        go_wp2
        go_ret2
        exact ⟨by rw [HR2.out]; rfl, B6⟩
end Go.Proofs.Ytipimkfmkdihpaa
