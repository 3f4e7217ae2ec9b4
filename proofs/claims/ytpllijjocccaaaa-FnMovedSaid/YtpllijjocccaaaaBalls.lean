/- Balls and the other graph. -/
import Derived.StillTailTactics
import Derived.Deep.RegionLaw
import Derived.Test.YtpllijjocccaaaaLeastBound
namespace Go.Proofs.Ytpllijjocccaaaa
open Go.RowKit Go.Shelf

theorem under_ints : Try.prog.underlying 23 = some (.slice 3) := Try.underlying23
theorem Arr.alloc {w : World} {lo n cap : Nat} {a : Option Addr} {zs : List Int} (h : Arr w lo a n cap zs) (o : Obj) : Arr (w.alloc o) lo a n cap zs := h.below ((Below.refl _ _).alloc (Nat.le_refl _) o)
/-- 'append(s, x)' of one integer onto a slice of the call's own -/
theorem wp_append1 {o : Oper} {a : Act} {K : Act → World → Prop} {Q : Exit → Act → World → Prop} {W : World} {lo n cap g0 : Nat} {sa : Option Addr} {zs : List Int} {u : Int} (T : TypeId) (hT : Try.prog.underlying T = some (.slice 3))
    (s x : Operand) (ho : o.op = .call { callee := .builtin .append, args := #[s, x], argTypes := #[T, T] })
    (hs : a.eval s = .slice sa n cap) (hA : Arr W lo sa n cap zs) (hx : a.eval x = .slice (some ⟨g0, 0, none⟩) 1 1) (hc : W.cell? ⟨g0, 0, none⟩ = some (.int .i64 u)) (hlo : lo ≤ W.heap.size) (hn : n ≤ 1099511627776)
    (h : ∀ g c' w', Arr w' lo (some ⟨g, 0, none⟩) (n + 1) c' (zs ++ [u]) → Stay W.heap.size (blk sa) W w' → K (a.put o.dst (.slice (some ⟨g, 0, none⟩) (n + 1) c')) w') : o.wp Try.prog a W K Q := by
  obtain ⟨i0, hi, hz0, hz1, hz2⟩ := info_parts infoInt
  refine wp_append_own W s x T ho lo 3 i0 (.int .i64 0) 1 8 hT hi hz0 hz1 hz2 rfl (by decide) _ _ _ hs hA.own ⟨g0, 0, none⟩ 1 1 [.int .i64 u] hx rfl ?_ ?_ (by unfold maxLen; omega) (by omega) hlo ?_
  · intro j v hj
    match j, hj with
    | 0, hj =>
      simp at hj; subst hj
      simpa [Addr.add] using hc
  · intro v hv; simp at hv; subst hv; rfl
  · intro v' w' hown hgrow _
    rcases hown.2 with ⟨_, h0⟩ | ⟨g, c, cur, rfl, r⟩
    · omega
    · refine h g c w' ⟨by simpa using hown, by rw [List.length_append, ← hA.len]; rfl⟩ ?_
      refine (Stay.refl _ _ _).grown hgrow (Nat.le_refl _) fun k hk => .inl ?_
      cases sa with
      | none => simp [Value.ownBlock] at hk
      | some y => simp [Value.ownBlock] at hk; simp [blk, hk]
theorem step_append1 {ops : Array Oper} {o : Oper} {a : Act} {K : Act → World → Prop} {Q : Exit → Act → World → Prop} {E : Prop} {W : World} {lo n cap g0 : Nat} {sa : Option Addr} {zs : List Int} {u : Int} (T : TypeId) (hT : Try.prog.underlying T = some (.slice 3)) (hgd : o.guard = none)
    (s x : Operand) (ho : o.op = .call { callee := .builtin .append, args := #[s, x], argTypes := #[T, T] })
    (hs : a.eval s = .slice sa n cap) (hA : Arr W lo sa n cap zs) (hx : a.eval x = .slice (some ⟨g0, 0, none⟩) 1 1) (hc : W.cell? ⟨g0, 0, none⟩ = some (.int .i64 u)) (hlo : lo ≤ W.heap.size) (hn : n ≤ 1099511627776)
    (h : ∀ g c' w', Arr w' lo (some ⟨g, 0, none⟩) (n + 1) c' (zs ++ [u]) → Stay W.heap.size (blk sa) W w' → K (a.put o.dst (.slice (some ⟨g, 0, none⟩) (n + 1) c')) w') :
    if Region.wanted o (yielded ops a.tmps) = true then Oper.wp Try.prog o a W K Q else E := by
  rw [if_pos (by simp [Region.wanted, hgd])]
  exact wp_append1 T hT s x ho hs hA hx hc hlo hn h
theorem wpList_append1 {ops : Array Oper} {rest : List Oper} {o : Oper} {a : Act} {Q : Exit → Act → World → Prop} {W : World} {lo n cap g0 : Nat} {sa : Option Addr} {zs : List Int} {u : Int} (T : TypeId) (hT : Try.prog.underlying T = some (.slice 3)) (hgd : o.guard = none)
    (s x : Operand) (ho : o.op = .call { callee := .builtin .append, args := #[s, x], argTypes := #[T, T] })
    (hs : a.eval s = .slice sa n cap) (hA : Arr W lo sa n cap zs) (hx : a.eval x = .slice (some ⟨g0, 0, none⟩) 1 1) (hc : W.cell? ⟨g0, 0, none⟩ = some (.int .i64 u)) (hlo : lo ≤ W.heap.size) (hn : n ≤ 1099511627776)
    (h : ∀ g c' w', Arr w' lo (some ⟨g, 0, none⟩) (n + 1) c' (zs ++ [u]) → Stay W.heap.size (blk sa) W w' → wpList Try.prog ops Q rest (a.put o.dst (.slice (some ⟨g, 0, none⟩) (n + 1) c')) w') :
    wpList Try.prog ops Q (o :: rest) a W :=
  wpList_plain hgd fun _ hK => wp_append1 T hT s x ho hs hA hx hc hlo hn fun g c' w' h1 h2 => hK _ _ (h g c' w' h1 h2)
theorem pow_int (n : Nat) : ((2 ^ n : Nat) : Int) = (2 : Int) ^ n := by simp

theorem cell_new (w : World) (v : Value) (t : TypeId) : (w.alloc (.cells #[v] t)).cell? ⟨w.heap.size, 0, none⟩ = some v := by
  rw [World.cell?_alloc_at _ _ _ _ rfl]; rfl
theorem cell_new_drew (w : World) (v : Value) (t : TypeId) : (w.alloc (.cells #[v] t)).drew.cell? ⟨w.heap.size, 0, none⟩ = some v := cell_new w v t
/-- a graph's lists of neighbours as natural numbers -/
structure IsG (n : Nat) (zs : List Int) : Prop where
  len : n = zs.length
  pos : 1 ≤ n
  le : n ≤ 12
  ok : ∀ i, i < n → 0 ≤ zs[i]?.getD 0 ∧ zs[i]?.getD 0 < 4096 ∧ zs[i]?.getD 0 < 2 ^ n
  irr : ∀ i, i < n → (zs[i]?.getD 0).toNat.testBit i = false
  sym : ∀ i k, i < n → k < n → (zs[i]?.getD 0).toNat.testBit k = (zs[k]?.getD 0).toNat.testBit i
theorem isG_of {zs : List Int} (h : graphB zs = true) : IsG zs.length zs := by
  have hb := graphB_bd h
  have h' := h
  simp only [graphB, Bool.and_eq_true, List.all_eq_true, List.mem_range, decide_eq_true_eq] at h'
  refine ⟨rfl, hb.1, hb.2, fun i hi => okAt_bd rfl hb.2 (h'.2.1 i hi), fun i hi => ?_, fun i k hi hk => ?_⟩
  · have := h'.2.1 i hi
    simp only [okAt, Bool.and_eq_true, List.getD_eq_getElem?_getD] at this
    simpa using this.2
  · refine bitI_inj.1 (Classical.byContradiction fun hne => ?_)
    rw [graphB_pair hi hk hne] at h; cases h

/-- the ball of node i: g[i] | 1 << i -/
def ballV (zs : List Int) (i : Nat) : Int := (((zs[i]?.getD 0).toNat ||| 2 ^ i : Nat) : Int)
def ballsV (zs : List Int) : List Int := (List.range zs.length).map (ballV zs)
theorem ball_bits {x : Int} {i : Nat} (h0 : 0 ≤ x) (h1 : x < 4096) (hi : i < 12) : bits BinOp.or IntKind.i64 x (2 ^ i) = ((x.toNat ||| 2 ^ i : Nat) : Int) := by
  have hp := npow_bd i (by omega)
  have e := pow_int i
  rw [i64_or _ _ h0 (by omega) (by omega) (by omega), ← e, Int.toNat_natCast]
theorem ballsV_take {zs : List Int} {k : Nat} (hk : k < zs.length) : (ballsV zs).take k ++ [ballV zs k] = (ballsV zs).take (k + 1) := by
  unfold ballsV
  rw [← List.map_take, ← List.map_take, List.take_range, List.take_range, Nat.min_eq_left (Nat.le_of_lt hk), Nat.min_eq_left hk, List.range_succ, List.map_append]; rfl
theorem ballsV_len (zs : List Int) : (ballsV zs).length = zs.length := by simp [ballsV]

set_option maxRecDepth 100000 in
set_option maxHeartbeats 1000000 in
theorem sl1Balls_any (a : Option Addr) (n cap : Nat) (zs : List Int) (w : World) (hs : SlAt w a n zs) (hg : graphB zs = true) :
    Calls Try.prog 82 #[.slice a n cap] w fun e w' => ∃ a' c', e = .returned (.slice a' n c') ∧ Arr w' w.heap.size a' n c' (ballsV zs) ∧ Below w.heap.size w w' := by
  have hG := isG_of hg
  rw [← hs.len] at hG
  have hn2 := hG.le
  obtain ⟨b, off, rfl, hb, hc⟩ := hs.at' hG.pos
  go_enter Try.func82, Try.ntmps82
  go_wp2
  have hA0 : Arr (w.alloc (.cells #[] 3)) w.heap.size (some ⟨w.heap.size, 0, none⟩) 0 0 [] := ⟨World.ownsRow_lit w #[] 0 (Nat.le_refl _) (by omega) rfl, rfl⟩
  have hB0 : Below w.heap.size w (w.alloc (.cells #[] 3)) := (Below.refl _ _).alloc (Nat.le_refl _) _
  go_loopw [3, 4] (fun u p wr => ∃ (k : Nat) (a' : Option Addr) (c' : Nat), k ≤ n ∧ p = .int .i64 k ∧ u = .slice a' k c' ∧ Arr wr w.heap.size a' k c' ((ballsV zs).take k) ∧ Below w.heap.size w wr) (fun _ p _ => 12 - (intOf p).toNat)
  case atStart => exact ⟨0, _, _, by omega, rfl, rfl, hA0, hB0⟩
  case round =>
    obtain ⟨k, a', c', hk, rfl, rfl, hA, hB⟩ := hrel
    by_cases hlt : k < n
    · have hx := (hB.cell (p := ⟨b, off + k, none⟩) hb).trans (hc k hlt)
      rw [List.getD_eq_getElem?_getD] at hx
      obtain ⟨q1, q2, q3⟩ := hG.ok k hlt
      have hlt' : (k : Int) < n := by omega
      have hp := npow_bd k (by omega)
      have hw1 : IntKind.i64.wrap (2 ^ k) = 2 ^ k := IntWalk.i64_in _ (by omega)
      have e1 := ball_bits q1 q2 (show k < 12 by omega)
      have hsz := hB.size
      have HT := Lib.hid (ballsV_take (zs := zs) (k := k) (by rw [← hs.len]; exact hlt))
      go_wp2
      go_region_law (refine step_append1 (W := (wr.alloc (.cells #[.int .i64 (ballV zs k)] 3)).drew) (g0 := wr.heap.size) (u := ballV zs k) 23 under_ints rfl (.tmp 12) (.tmp 20) rfl rfl (hA.alloc _).drew rfl (cell_new_drew _ _ _) (by simp; omega) (by omega) ?_; intro g c2 w2 hA2 hS2)
      rw [HT.out] at hA2
      have hS3 : Below w.heap.size w w2 := sbelow ((hB.alloc hsz _).drew) hS2 (blk_lo hA) (by simp; omega)
      clear hS2 hA hB
      go_wp2
      go_roundw
      case rel => exact ⟨k + 1, _, _, by omega, by go_num, rfl, hA2, hS3⟩
      case measure => simp [intOf]; omega
    · obtain rfl : k = n := by omega
      go_wp2
      go_ret
      exact ⟨_, _, rfl, by rw [show ballsV zs = (ballsV zs).take k from (List.take_of_length_le (by rw [ballsV_len, ← hs.len]; exact Nat.le_refl _)).symm]; exact hA, hB⟩

set_option maxRecDepth 100000 in
set_option maxHeartbeats 1000000 in
theorem ball_any (b off n cap : Nat) (zs : List Int) (i : Int) (w : World) (hG : IsG n zs) (hc : ∀ j, j < n → w.cell? ⟨b, off + j, none⟩ = some (.int .i64 (zs.getD j 0))) (hi0 : 0 ≤ i) (hi : i < n) :
    Calls Try.prog 81 #[.slice (some ⟨b, off, none⟩) n cap, .int .i64 i] w fun e w' => e = .returned (.int .i64 (ballV zs i.toNat)) ∧ ∃ q, w.drewN q = w' := by
  obtain ⟨k, rfl⟩ := Int.eq_ofNat_of_zero_le hi0
  have hlt : k < n := by omega
  have hn2 := hG.le
  have hx := hc k hlt
  rw [List.getD_eq_getElem?_getD] at hx
  obtain ⟨q1, q2, q3⟩ := hG.ok k hlt
  have hp := npow_bd k (by omega)
  have hw1 : IntKind.i64.wrap (2 ^ k) = 2 ^ k := IntWalk.i64_in _ (by omega)
  have e1 : bits BinOp.or IntKind.i64 (zs[k]?.getD 0) (2 ^ k) = ballV zs k := ball_bits q1 q2 (show k < 12 by omega)
  rw [Int.toNat_natCast]
  clear hc hG
  go_enter Try.func81, Try.ntmps81
  go_wp2
  go_quiet (fail)
  go_wp2
  go_ret
  exact ⟨rfl, _, rfl⟩

theorem under_graph : Try.prog.underlying 57 = some (.slice 3) := Try.underlying57
set_option maxRecDepth 100000 in
set_option maxHeartbeats 1000000 in
theorem balls_any (a : Option Addr) (n cap : Nat) (zs : List Int) (w : World) (hs : SlAt w a n zs) (hg : graphB zs = true) :
    Calls Try.prog 92 #[.slice a n cap] w fun e w' => ∃ a' c', e = .returned (.slice a' n c') ∧ Arr w' w.heap.size a' n c' (ballsV zs) ∧ Below w.heap.size w w' := by
  have hG := isG_of hg
  rw [← hs.len] at hG
  have hn2 := hG.le
  obtain ⟨b, off, rfl, hb, hc⟩ := hs.at' hG.pos
  go_enter Try.func92, Try.ntmps92
  go_wp2
  go_loopw [3, 7] (fun u p wr => ∃ (k : Nat) (a' : Option Addr) (c' : Nat), k ≤ n ∧ p = .int .i64 k ∧ u = .slice a' k c' ∧ Arr wr w.heap.size a' k c' ((ballsV zs).take k) ∧ Below w.heap.size w wr) (fun _ p _ => 12 - (intOf p).toNat)
  case atStart => exact ⟨0, _, _, by omega, rfl, rfl, ⟨World.ownsRow_nil _ _ _ _, rfl⟩, Below.refl _ _⟩
  case round =>
    obtain ⟨k, a', c', hk, rfl, rfl, hA, hB⟩ := hrel
    by_cases hlt : k < n
    · have hcw : ∀ j, j < n → wr.cell? ⟨b, off + j, none⟩ = some (.int .i64 (zs.getD j 0)) := fun j hj => (hB.cell (p := ⟨b, off + j, none⟩) hb).trans (hc j hj)
      have HC := Lib.hid hcw
      have hlt' : (k : Int) < n := by omega
      have hsz := hB.size
      have HT := Lib.hid (ballsV_take (zs := zs) (k := k) (by rw [← hs.len]; exact hlt))
      clear hcw hc
      go_wp2_with (first
        | (go_at_call 81; refine (ball_any b off n cap zs _ _ hG HC.out (by omega) (by omega)).mono ?_; rintro e w' ⟨rfl, q, rfl⟩; rw [Int.toNat_natCast])
        | (at_builtin; refine wpList_append1 (W := (wr.alloc (.cells #[.int .i64 (ballV zs k)] 3)).drewN q) (g0 := wr.heap.size) (u := ballV zs k) 23 under_ints rfl (.tmp 10) (.tmp 14) rfl rfl ((hA.alloc _).below (bdrewN _ _)) rfl (cell_new _ _ _) (by simp; omega) (by omega) ?_; intro g c2 w2 hA2 hS2))
      rw [HT.out] at hA2
      have hS3 : Below w.heap.size w w2 := sbelow ((hB.alloc hsz _).trans ((bdrewN _ q).mono (by simp; omega))) hS2 (blk_lo hA) (by simp; omega)
      clear hS2 hA hB
      go_wp2
      go_roundw
      case rel => exact ⟨k + 1, _, _, by omega, by go_num, rfl, hA2, hS3⟩
      case measure => simp [intOf]; omega
    · obtain rfl : k = n := by omega
      go_wp2
      go_ret
      exact ⟨_, _, rfl, by rw [show ballsV zs = (ballsV zs).take k from (List.take_of_length_le (by rw [ballsV_len, ← hs.len]; exact Nat.le_refl _)).symm]; exact hA, hB⟩

def GraphBallsR (zs : List Int) : List Int := if graphB zs then ballsV zs else []
theorem GraphBalls_small {zs : List Int} : (GraphBallsR zs).length ≤ 4096 := by
  unfold GraphBallsR
  split
  · rename_i h; rw [ballsV_len]; have := graphB_bd h; omega
  · simp
end Go.Proofs.Ytpllijjocccaaaa
