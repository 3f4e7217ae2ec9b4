/- The other graph, of the program and of the reference. -/
import Derived.Test.YtojfafmfnblocaaBalls
namespace Go.Proofs.Ytojfafmfnblocaa
open Go.RowKit Go.Shelf

theorem addr_add (b off j : Nat) : (⟨b, off, none⟩ : Addr).add j = ⟨b, off + j, none⟩ := by unfold Addr.add; split <;> simp_all
def ballN (zs : List Int) (i : Nat) : Nat := (zs[i]?.getD 0).toNat ||| 2 ^ i
def otherV (zs : List Int) (i : Nat) : Int := ((bdiff (2 ^ zs.length - 1) (ballN zs i) : Nat) : Int)
def othersV (zs : List Int) : List Int := (List.range zs.length).map (otherV zs)
theorem othersV_len (zs : List Int) : (othersV zs).length = zs.length := by simp [othersV]
theorem map_range_take (f : Nat → Int) {n k : Nat} (hk : k < n) : ((List.range n).map f).take k ++ [f k] = ((List.range n).map f).take (k + 1) := by
  rw [← List.map_take, ← List.map_take, List.take_range, List.take_range, Nat.min_eq_left (Nat.le_of_lt hk), Nat.min_eq_left hk, List.range_succ, List.map_append]; rfl
theorem ballN_lt {n : Nat} {zs : List Int} (hG : IsG n zs) {i : Nat} (hi : i < n) : ballN zs i < 2 ^ n := by
  obtain ⟨q1, q2, q3⟩ := hG.ok i hi
  have e := pow_int n
  exact Nat.or_lt_two_pow (by omega) (Nat.pow_lt_pow_right (by omega) hi)
theorem pow12 {n : Nat} (h : n ≤ 12) : 2 ^ n ≤ 4096 := Nat.pow_le_pow_right (n := 2) (by omega) h
theorem other_bits {n : Nat} {zs : List Int} (hG : IsG n zs) {i : Nat} (hi : i < n) : bits BinOp.andNot IntKind.i64 (2 ^ n - 1) (ballV zs i) = otherV zs i := by
  have h1 := pow12 hG.le
  have h2 := ballN_lt hG hi
  have e := pow_int n
  have h3 : 1 ≤ 2 ^ n := Nat.one_le_two_pow
  have e2 : (2 : Int) ^ n - 1 = ((2 ^ n - 1 : Nat) : Int) := by omega
  rw [e2, show ballV zs i = ((ballN zs i : Nat) : Int) from rfl, i64_andNot_nat _ _ (by omega) (by omega), hG.len]; rfl

set_option maxRecDepth 100000 in
set_option maxHeartbeats 1000000 in
theorem clone_any (b off n cap : Nat) (zs : List Int) (w : World) (hz : n = zs.length) (hc : ∀ j, j < n → w.cell? ⟨b, off + j, none⟩ = some (.int .i64 (zs.getD j 0))) (hn : 1 ≤ n) (hn2 : n ≤ 12) :
    Calls Try.prog 69 #[.slice (some ⟨b, off, none⟩) n cap] w fun e w' => ∃ g c', e = .returned (.slice (some ⟨g, 0, none⟩) n c') ∧ Arr w' w.heap.size (some ⟨g, 0, none⟩) n c' zs ∧ Below w.heap.size w w' := by
  obtain ⟨i0, hi, hz0, hz1, hz2⟩ := info_parts infoInt
  have hnews : ∀ (j : Nat) (u : Value), (zs.map (Value.int .i64))[j]? = some u → w.cell? ((⟨b, off, none⟩ : Addr).add j) = some u := by
    intro j u hj
    rw [List.getElem?_map] at hj
    by_cases hlt : j < zs.length
    · rw [List.getElem?_eq_getElem hlt] at hj
      simp only [Option.map_some, Option.some.injEq] at hj
      subst hj
      have := hc j (by omega)
      rw [List.getD_eq_getElem?_getD, List.getElem?_eq_getElem hlt] at this
      rw [addr_add]; simpa using this
    · rw [List.getElem?_eq_none (by omega)] at hj; cases hj
  have HN := Lib.hid hnews
  have HZ := Lib.hid hz
  clear hnews hc hz
  go_enter Try.func69, Try.ntmps69
  go_wp2_with (at_builtin; refine wpList_append_own w rfl _ _ 53 rfl w.heap.size 3 i0 (.int .i64 0) 1 8 under_graph hi hz0 hz1 hz2 rfl (by decide) (.slice none 0 0) 0 [] rfl (World.ownsRow_nil _ _ _ _) ⟨b, off, none⟩ n cap (zs.map (Value.int .i64)) rfl (by rw [List.length_map, ← HZ.out]; omega) HN.out (by intro u hu; obtain ⟨z, _, rfl⟩ := List.mem_map.1 hu; rfl) (by unfold maxLen; omega) (by omega) (Nat.le_refl _) ?_; intro v' w1 hown hgrow _; rw [Nat.zero_add, List.nil_append] at hown; obtain ⟨g, c', hv⟩ := owned_some hown hn; subst hv)
  go_ret
  exact ⟨_, _, rfl, ⟨hown, HZ.out⟩, (Below.refl _ _).grown hgrow (Nat.le_refl _) (by simp [Value.ownBlock])⟩

set_option maxRecDepth 100000 in
theorem all_any (a : Option Addr) (n cap : Nat) (w : World) (hn : n ≤ 12) : Calls Try.prog 70 #[.slice a n cap] w fun e w' => e = .returned (.int .i64 (2 ^ n - 1)) ∧ w = w' := by
  have hp := npow_bd n (by omega)
  go_enter Try.func70, Try.ntmps70
  go_wp2
  go_ret
  exact ⟨rfl, rfl⟩

def GraphOtherR (zs : List Int) : List Int := if graphB zs then othersV zs else []
theorem GraphOther_small {zs : List Int} : (GraphOtherR zs).length ≤ 4096 := by
  unfold GraphOtherR
  split
  · rename_i h; rw [othersV_len]; have := graphB_bd h; omega
  · simp
theorem getD_int (f : Nat → Int) {n k : Nat} (hk : k < n) : ((List.range n).map f)[k]?.getD 0 = f k := by simp [hk]
set_option maxRecDepth 100000 in
set_option maxHeartbeats 2000000 in
theorem GraphOther_any (a : Option Addr) (n cap : Nat) (zs : List Int) (w : World) (hs : SlAt w a n zs) :
    Calls Try.prog 25 #[.slice a n cap] w fun e w' => ∃ a' n' c', e = .returned (.tuple #[.slice a' n' c', .bool (graphB zs)]) ∧ Arr w' w.heap.size a' n' c' (GraphOtherR zs) ∧ Below w.heap.size w w' := by
  cases hg : graphB zs with
  | false =>
    have HR := Lib.hid (show GraphOtherR zs = [] by simp [GraphOtherR, hg])
    have HG := Lib.hid hg
    clear hg
    go_enter Try.func25, Try.ntmps25
    go_wp2_with (go_at_call 16; refine (GraphIn_is false _ _ _ _ _ hs HG.out).mono ?_; rintro e w1 ⟨rfl, hb1⟩)
    go_ret2
    exact ⟨_, _, _, rfl, by rw [HR.out]; exact ⟨World.ownsRow_nil _ _ _ _, rfl⟩, hb1⟩
  | true =>
    have HR := Lib.hid (show GraphOtherR zs = othersV zs by simp [GraphOtherR, hg])
    have hG := isG_of hg
    have HG := Lib.hid hg
    have HZ := Lib.hid hs.len
    rw [← hs.len] at hG
    have hn1 := hG.pos
    have hn2 := hG.le
    obtain ⟨b, off, rfl, hb, hc⟩ := hs.at' hG.pos
    clear hg
    go_enter Try.func25, Try.ntmps25
    go_wp2_with (go_at_call 16; refine (GraphIn_is true _ _ _ _ _ hs HG.out).mono ?_; rintro e w1 ⟨rfl, hb1⟩)
    refine (clone_any b off n cap zs _ HZ.out (fun j hj => (hb1.cell (p := ⟨b, off + j, none⟩) hb).trans (hc j hj)) hn1 hn2).mono ?_
    rintro e w2 ⟨g, c', rfl, hA0, hb2⟩
    have hB0 : Below w.heap.size w w2 := bnext hb1 hb2
    have hA1 := hA0.mono hb1.size
    clear hA0 hb1 hb2
    go_wp2
    go_loopw [13] (fun p wr => ∃ (k : Nat) (ys : List Int), k ≤ n ∧ p = .int .i64 k ∧ Arr wr w.heap.size (some ⟨g, 0, none⟩) n c' ys ∧ (∀ j, j < k → ys[j]? = (othersV zs)[j]?) ∧ Below w.heap.size w wr) (fun p _ => 12 - (intOf p).toNat)
    case atStart => exact ⟨0, _, by omega, rfl, hA1, by omega, hB0⟩
    case round =>
      obtain ⟨k, ys, hk, rfl, hA, hag, hB⟩ := hrel
      by_cases hlt : k < n
      · have HC := Lib.hid (show ∀ j, j < n → wr.cell? ⟨b, off + j, none⟩ = some (.int .i64 (zs.getD j 0)) from fun j hj => (hB.cell (p := ⟨b, off + j, none⟩) hb).trans (hc j hj))
        have hlt' : (k : Int) < n := by omega
        have eo := other_bits hG hlt
        have hl1 := HZ.out
        have hl2 := hA.len
        have HX := Lib.hid (set_agree (ys := ys) (zs := othersV zs) (k := k) (by rw [othersV_len]; omega) (by rw [othersV_len]; omega) hag)
        have ev := getD_int (otherV zs) (n := zs.length) (k := k) (by omega)
        have hgl := (hA.lt _ rfl).1
        have HE := Lib.hid (show (othersV zs)[k]?.getD 0 = otherV zs k from ev)
        have hc2 := hA.cellAt k hlt
        have hf2 := hA.frozenAt k
        have HA := Lib.hid hA
        have HB := Lib.hid hB
        clear hc hA hB hag hl1 hl2 ev hB0 hA1
        go_wp2_with (first
          | (go_at_call 70; refine (all_any _ _ _ _ hn2).mono ?_; rintro e w' ⟨rfl, rfl⟩)
          | (go_at_call 71; refine (ball_any b off n cap zs _ _ hG HC.out (by omega) (by omega)).mono ?_; rintro e w' ⟨rfl, q, rfl⟩; rw [Int.toNat_natCast]))
        go_roundw
        case rel =>
          have hX := HX.out
          rw [HE.out] at hX
          refine ⟨k + 1, ys.set k (otherV zs k), by omega, by go_num, ?_, hX, ?_⟩
          · exact (HA.out.below (bdrewN _ q)).set k (otherV zs k)
          · exact ((HB.out.trans ((bdrewN _ q).mono HB.out.size)).setCell (p := ⟨g, k, none⟩) hgl _)
        case measure => simp [intOf]; omega
      · obtain rfl : k = n := by omega
        have hl1 := HZ.out
        have hl2 := hA.len
        have e := agree_all (ys := ys) (zs := othersV zs) (by rw [othersV_len]; omega) (fun j hj => hag j (by rw [othersV_len] at hj; omega))
        clear hl1 hl2
        go_wp2
        go_ret2
        exact ⟨_, _, _, rfl, by rw [HR.out, ← e]; exact hA, hB⟩
set_option maxRecDepth 100000 in
set_option maxHeartbeats 2000000 in
theorem sGraphOther_any (a : Option Addr) (n cap : Nat) (zs : List Int) (w : World) (hs : SlAt w a n zs) :
    Calls Try.prog 26 #[.slice a n cap] w fun e w' => ∃ a' n' c', e = .returned (.tuple #[.slice a' n' c', .bool (graphB zs)]) ∧ Arr w' w.heap.size a' n' c' (GraphOtherR zs) ∧ Below w.heap.size w w' := by
  have hA0 : Arr (w.alloc (.cells #[] 3)) w.heap.size (some ⟨w.heap.size, 0, none⟩) 0 0 [] := ⟨World.ownsRow_lit w #[] 0 (Nat.le_refl _) (by omega) rfl, rfl⟩
  have hB0 : Below w.heap.size w (w.alloc (.cells #[] 3)) := (Below.refl _ _).alloc (Nat.le_refl _) _
  cases hg : graphB zs with
  | false =>
    have HR := Lib.hid (show GraphOtherR zs = [] by simp [GraphOtherR, hg])
    have HG := Lib.hid hg
    clear hg
    go_enter Try.func26, Try.ntmps26
    go_wp2_with (go_at_call 17; refine (sGraphIn_is false _ _ _ _ _ (hs.below hB0) HG.out).mono ?_; rintro e w1 ⟨rfl, hb1⟩)
    go_ret2
    exact ⟨_, _, _, rfl, by rw [HR.out]; exact hA0.below hb1, bnext hB0 hb1⟩
  | true =>
    have HR := Lib.hid (show GraphOtherR zs = othersV zs by simp [GraphOtherR, hg])
    have hG := isG_of hg
    have HG := Lib.hid hg
    have HZ := Lib.hid hs.len
    rw [← hs.len] at hG
    have hn1 := hG.pos
    have hn2 := hG.le
    obtain ⟨b, off, rfl, hb, hc⟩ := hs.at' hG.pos
    clear hg
    go_enter Try.func26, Try.ntmps26
    go_wp2_with (go_at_call 17; refine (sGraphIn_is true _ _ _ _ _ (hs.below hB0) HG.out).mono ?_; rintro e w1 ⟨rfl, hb1⟩)
    have hA1 := hA0.below hb1
    have hB1 := bnext hB0 hb1
    clear hA0 hB0 hb1
    go_loopw [4, 5] (fun u p wr => ∃ (k : Nat) (a' : Option Addr) (c' : Nat), k ≤ n ∧ p = .int .i64 k ∧ u = .slice a' k c' ∧ Arr wr w.heap.size a' k c' ((othersV zs).take k) ∧ Below w.heap.size w wr) (fun _ p _ => 12 - (intOf p).toNat)
    case atStart => exact ⟨0, _, _, by omega, rfl, rfl, hA1, hB1⟩
    case round =>
      obtain ⟨k, a', c', hk, rfl, rfl, hA, hB⟩ := hrel
      by_cases hlt : k < n
      · have hx := (hB.cell (p := ⟨b, off + k, none⟩) hb).trans (hc k hlt)
        rw [List.getD_eq_getElem?_getD] at hx
        obtain ⟨q1, q2, q3⟩ := hG.ok k hlt
        have hlt' : (k : Int) < n := by omega
        have hp := npow_bd k (by omega)
        have hpn := npow_bd n (by omega)
        have hw1 : IntKind.i64.wrap (2 ^ k) = 2 ^ k := IntWalk.i64_in _ (by omega)
        have hw2 : IntKind.i64.wrap (2 ^ n) = 2 ^ n := IntWalk.i64_in _ (by omega)
        have hw3 : IntKind.i64.wrap (2 ^ n - 1) = 2 ^ n - 1 := IntWalk.i64_in _ (by omega)
        have e1 : bits BinOp.or IntKind.i64 (zs[k]?.getD 0) (2 ^ k) = ballV zs k := ball_bits q1 q2 (show k < 12 by omega)
        have e2 := other_bits hG hlt
        have hsz := hB.size
        have HT := Lib.hid (map_range_take (otherV zs) (n := zs.length) (k := k) (by rw [← HZ.out]; exact hlt))
        clear hc hA1 hB1
        go_wp2
        go_region_law (refine step_append1 (W := (wr.alloc (.cells #[.int .i64 (otherV zs k)] 3)).drew) (g0 := wr.heap.size) (u := otherV zs k) 23 under_ints rfl (.tmp 17) (.tmp 30) rfl rfl (hA.alloc _).drew rfl (cell_new_drew _ _ _) (by simp; omega) (by omega) ?_; intro g c2 w2 hA2 hS2)
        rw [show (othersV zs).take k ++ [otherV zs k] = (othersV zs).take (k + 1) from HT.out] at hA2
        have hS3 : Below w.heap.size w w2 := sbelow ((hB.alloc hsz _).drew) hS2 (blk_lo hA) (by simp; omega)
        clear hS2 hA hB hw1 hw2 hw3
        go_wp2
        go_roundw
        case rel => exact ⟨k + 1, _, _, by omega, by go_num, rfl, hA2, hS3⟩
        case measure => simp [intOf]; omega
      · obtain rfl : k = n := by omega
        go_wp2
        go_ret2
        exact ⟨_, _, _, rfl, by rw [HR.out, show othersV zs = (othersV zs).take k from (List.take_of_length_le (by rw [othersV_len, ← HZ.out]; exact Nat.le_refl _)).symm]; exact hA, hB⟩
end Go.Proofs.Ytojfafmfnblocaa
