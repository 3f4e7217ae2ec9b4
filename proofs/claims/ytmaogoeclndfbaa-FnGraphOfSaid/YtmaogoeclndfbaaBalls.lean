/- Balls and the other graph. -/
import Derived.StillTailTactics
import Derived.Deep.RegionLaw
import Derived.Test.YtmaogoeclndfbaaLeastBound
namespace Go.Proofs.Ytmaogoeclndfbaa
open Go.RowKit Go.Shelf

theorem under_ints : Try.prog.underlying 26 = some (.slice 3) := Try.underlying26
theorem Arr.alloc {w : World} {lo n cap : Nat} {a : Option Addr} {zs : List Int} (h : Arr w lo a n cap zs) (o : Obj) : Arr (w.alloc o) lo a n cap zs := h.below ((Below.refl _ _).alloc (Nat.le_refl _) o)
/-- 'append(s, x)' of one integer onto a slice of the call's own -/
theorem wp_append1 {o : Oper} {a : Act} {K : Act → World → Prop} {Q : Exit → Act → World → Prop} {W : World} {lo n cap g0 : Nat} {sa : Option Addr} {zs : List Int} {u : Int} (T : TypeId) (hT : Try.prog.underlying T = some (.slice 3))
    (s x : Operand) (ho : o.op = .call { callee := .builtin .append, args := #[s, x], argTypes := #[T, T] })
    (hs : a.eval s = .slice sa n cap) (hA : Arr W lo sa n cap zs) (hx : a.eval x = .slice (some ⟨g0, 0, none⟩) 1 1) (hc : W.cell? ⟨g0, 0, none⟩ = some (.int .i64 u)) (hlo : lo ≤ W.heap.size) (hn : n ≤ 1099511627776)
    (h : ∀ g c' w', Arr w' lo (some ⟨g, 0, none⟩) (n + 1) c' (zs ++ [u]) → Stay W.heap.size (blk sa) W w' → K (a.put o.dst (.slice (some ⟨g, 0, none⟩) (n + 1) c')) w') : o.wp Try.prog a W K Q := by
  obtain ⟨i0, hi, hz0, hz1, hz2⟩ := info_parts infoInt
  refine wp_append_own W s x T ho lo 3 i0 (.int .i64 0) 1 8 hT hi hz0 hz1 hz2 rfl (by decide) _ _ _ hs hA.own ⟨g0, 0, none⟩ 1 1 [.int .i64 u] hx rfl ?_ ?_ (by unfold maxLen; omega) (by omega) hlo ?_
  · intro j v hj
    match j, hj with
    | 0, hj =>
      simp at hj; subst hj
      simpa [Addr.add] using hc
  · intro v hv; simp at hv; subst hv; rfl
  · intro v' w' hown hgrow _
    rcases hown.2 with ⟨_, h0⟩ | ⟨g, c, cur, rfl, r⟩
    · omega
    · refine h g c w' ⟨by simpa using hown, by rw [List.length_append, ← hA.len]; rfl⟩ ?_
      refine (Stay.refl _ _ _).grown hgrow (Nat.le_refl _) fun k hk => .inl ?_
      cases sa with
      | none => simp [Value.ownBlock] at hk
      | some y => simp [Value.ownBlock] at hk; simp [blk, hk]
theorem step_append1 {ops : Array Oper} {o : Oper} {a : Act} {K : Act → World → Prop} {Q : Exit → Act → World → Prop} {E : Prop} {W : World} {lo n cap g0 : Nat} {sa : Option Addr} {zs : List Int} {u : Int} (T : TypeId) (hT : Try.prog.underlying T = some (.slice 3)) (hgd : o.guard = none)
    (s x : Operand) (ho : o.op = .call { callee := .builtin .append, args := #[s, x], argTypes := #[T, T] })
    (hs : a.eval s = .slice sa n cap) (hA : Arr W lo sa n cap zs) (hx : a.eval x = .slice (some ⟨g0, 0, none⟩) 1 1) (hc : W.cell? ⟨g0, 0, none⟩ = some (.int .i64 u)) (hlo : lo ≤ W.heap.size) (hn : n ≤ 1099511627776)
    (h : ∀ g c' w', Arr w' lo (some ⟨g, 0, none⟩) (n + 1) c' (zs ++ [u]) → Stay W.heap.size (blk sa) W w' → K (a.put o.dst (.slice (some ⟨g, 0, none⟩) (n + 1) c')) w') :
    if Region.wanted o (yielded ops a.tmps) = true then Oper.wp Try.prog o a W K Q else E := by
  rw [if_pos (by simp [Region.wanted, hgd])]
  exact wp_append1 T hT s x ho hs hA hx hc hlo hn h
theorem wpList_append1 {ops : Array Oper} {rest : List Oper} {o : Oper} {a : Act} {Q : Exit → Act → World → Prop} {W : World} {lo n cap g0 : Nat} {sa : Option Addr} {zs : List Int} {u : Int} (T : TypeId) (hT : Try.prog.underlying T = some (.slice 3)) (hgd : o.guard = none)
    (s x : Operand) (ho : o.op = .call { callee := .builtin .append, args := #[s, x], argTypes := #[T, T] })
    (hs : a.eval s = .slice sa n cap) (hA : Arr W lo sa n cap zs) (hx : a.eval x = .slice (some ⟨g0, 0, none⟩) 1 1) (hc : W.cell? ⟨g0, 0, none⟩ = some (.int .i64 u)) (hlo : lo ≤ W.heap.size) (hn : n ≤ 1099511627776)
    (h : ∀ g c' w', Arr w' lo (some ⟨g, 0, none⟩) (n + 1) c' (zs ++ [u]) → Stay W.heap.size (blk sa) W w' → wpList Try.prog ops Q rest (a.put o.dst (.slice (some ⟨g, 0, none⟩) (n + 1) c')) w') :
    wpList Try.prog ops Q (o :: rest) a W :=
  wpList_plain hgd fun _ hK => wp_append1 T hT s x ho hs hA hx hc hlo hn fun g c' w' h1 h2 => hK _ _ (h g c' w' h1 h2)
theorem pow_int (n : Nat) : ((2 ^ n : Nat) : Int) = (2 : Int) ^ n := by simp

theorem cell_new (w : World) (v : Value) (t : TypeId) : (w.alloc (.cells #[v] t)).cell? ⟨w.heap.size, 0, none⟩ = some v := by
  rw [World.cell?_alloc_at _ _ _ _ rfl]; rfl
theorem cell_new_drew (w : World) (v : Value) (t : TypeId) : (w.alloc (.cells #[v] t)).drew.cell? ⟨w.heap.size, 0, none⟩ = some v := cell_new w v t
/-- a graph's lists of neighbours as natural numbers -/
structure IsG (n : Nat) (zs : List Int) : Prop where
  len : n = zs.length
  pos : 1 ≤ n
  le : n ≤ 12
  ok : ∀ i, i < n → 0 ≤ zs[i]?.getD 0 ∧ zs[i]?.getD 0 < 4096 ∧ zs[i]?.getD 0 < 2 ^ n
  irr : ∀ i, i < n → (zs[i]?.getD 0).toNat.testBit i = false
  sym : ∀ i k, i < n → k < n → (zs[i]?.getD 0).toNat.testBit k = (zs[k]?.getD 0).toNat.testBit i
theorem isG_of {zs : List Int} (h : graphB zs = true) : IsG zs.length zs := by
  have hb := graphB_bd h
  have h' := h
  simp only [graphB, Bool.and_eq_true, List.all_eq_true, List.mem_range, decide_eq_true_eq] at h'
  refine ⟨rfl, hb.1, hb.2, fun i hi => okAt_bd rfl hb.2 (h'.2.1 i hi), fun i hi => ?_, fun i k hi hk => ?_⟩
  · have := h'.2.1 i hi
    simp only [okAt, Bool.and_eq_true, List.getD_eq_getElem?_getD] at this
    simpa using this.2
  · refine bitI_inj.1 (Classical.byContradiction fun hne => ?_)
    rw [graphB_pair hi hk hne] at h; cases h

/-- the ball of node i: g[i] | 1 << i -/
def ballV (zs : List Int) (i : Nat) : Int := (((zs[i]?.getD 0).toNat ||| 2 ^ i : Nat) : Int)
def ballsV (zs : List Int) : List Int := (List.range zs.length).map (ballV zs)
theorem ball_bits {x : Int} {i : Nat} (h0 : 0 ≤ x) (h1 : x < 4096) (hi : i < 12) : bits BinOp.or IntKind.i64 x (2 ^ i) = ((x.toNat ||| 2 ^ i : Nat) : Int) := by
  have hp := npow_bd i (by omega)
  have e := pow_int i
  rw [i64_or _ _ h0 (by omega) (by omega) (by omega), ← e, Int.toNat_natCast]
theorem ballsV_take {zs : List Int} {k : Nat} (hk : k < zs.length) : (ballsV zs).take k ++ [ballV zs k] = (ballsV zs).take (k + 1) := by
  unfold ballsV
  rw [← List.map_take, ← List.map_take, List.take_range, List.take_range, Nat.min_eq_left (Nat.le_of_lt hk), Nat.min_eq_left hk, List.range_succ, List.map_append]; rfl
theorem ballsV_len (zs : List Int) : (ballsV zs).length = zs.length := by simp [ballsV]

theorem under_graph : Try.prog.underlying 36 = some (.slice 3) := Try.underlying36
def GraphBallsR (zs : List Int) : List Int := if graphB zs then ballsV zs else []
theorem GraphBalls_small {zs : List Int} : (GraphBallsR zs).length ≤ 4096 := by
  unfold GraphBallsR
  split
  · rename_i h; rw [ballsV_len]; have := graphB_bd h; omega
  · simp
end Go.Proofs.Ytmaogoeclndfbaa
