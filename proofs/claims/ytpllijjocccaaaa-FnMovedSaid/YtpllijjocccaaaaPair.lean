/- append of a pair. -/
import Derived.Test.YtpllijjocccaaaaRwsM
namespace Go.Proofs.Ytpllijjocccaaaa
open Go.RowKit Go.Shelf

theorem blk_loR {w : World} {lo n cap : Nat} {a : Option Addr} {zs : List (List Int)} {vs : List RowV} (h : ArrRV w lo a n cap zs vs) : ∀ k ∈ blk a, lo ≤ k := by
  cases a with
  | none => simp [blk]
  | some x => intro k hk; simp [blk] at hk; subst hk; exact (h.mainlt x rfl).1
/-- 'append(rows, []int{p, q})' onto rows of the call's own -/
theorem wpList_appendPair {ops : Array Oper} {rest : List Oper} {o : Oper} {a : Act} {Q : Exit → Act → World → Prop} {W0 : World} {lo n cap : Nat} {sa : Option Addr} {rows : List (List Int)} {p q : Int} (hgd : o.guard = none)
    (s x : Operand) (ho : o.op = .call { callee := .builtin .append, args := #[s, x], argTypes := #[37, 37] })
    (hs : a.eval s = .slice sa n cap) (hA : ArrR W0 lo sa n cap rows) (hx : a.eval x = .slice (some ⟨W0.heap.size + 1, 0, none⟩) 1 1) (hlo : lo ≤ W0.heap.size) (hn : n ≤ 1099511627776)
    (h : ∀ g c' w', ArrR w' lo (some ⟨g, 0, none⟩) (n + 1) c' (rows ++ [[p, q]]) → Below lo W0 w' → Stay W0.heap.size (blk sa) W0 w' → (∀ k, k < W0.heap.size → k ∉ blk sa → g ≠ k) → wpList Try.prog ops Q rest (a.put o.dst (.slice (some ⟨g, 0, none⟩) (n + 1) c')) w') :
    wpList Try.prog ops Q (o :: rest) a ((W0.alloc (.cells #[.int .i64 p, .int .i64 q] 3)).alloc (.cells #[.slice (some ⟨W0.heap.size, 0, none⟩) 2 2] 23)) := by
  obtain ⟨vs, hV⟩ := hA
  have h1 : Arr (W0.alloc (.cells #[.int .i64 p, .int .i64 q] 3)) W0.heap.size (some ⟨W0.heap.size, 0, none⟩) 2 2 [p, q] := ⟨World.ownsRow_lit W0 #[.int .i64 p, .int .i64 q] 2 (Nat.le_refl _) (by unfold maxLen; omega) rfl, rfl⟩
  have hB : Below lo W0 ((W0.alloc (.cells #[.int .i64 p, .int .i64 q] 3)).alloc (.cells #[.slice (some ⟨W0.heap.size, 0, none⟩) 2 2] 23)) := ((Below.refl _ _).alloc hlo _).alloc (by simp; omega) _
  have hB' : Below W0.heap.size W0 ((W0.alloc (.cells #[.int .i64 p, .int .i64 q] 3)).alloc (.cells #[.slice (some ⟨W0.heap.size, 0, none⟩) 2 2] 23)) := ((Below.refl _ _).alloc (Nat.le_refl _) _).alloc (by simp) _
  have hc : ((W0.alloc (.cells #[.int .i64 p, .int .i64 q] 3)).alloc (.cells #[.slice (some ⟨W0.heap.size, 0, none⟩) 2 2] 23)).cell? ⟨W0.heap.size + 1, 0, none⟩ = some (.slice (some ⟨W0.heap.size, 0, none⟩) 2 2) := by
    have := cell_new (W0.alloc (.cells #[.int .i64 p, .int .i64 q] 3)) (.slice (some ⟨W0.heap.size, 0, none⟩) 2 2) 23
    rw [← this]; congr 2; simp
  exact wpList_append1R (W0 := W0) (u := (some ⟨W0.heap.size, 0, none⟩, 2, 2)) (r := [p, q]) hgd s x ho hs hV (hV.below hB') (h1.alloc _) hx hc hlo (by simp; omega) hn fun g c' w' k1 k2 k3 => h g c' w' ⟨_, k1⟩ (sbelow hB k2 (blk_loR hV) (by simp; omega)) ((Below.stay hB' (blk sa)).trans (k2.mono (by simp; omega))) fun k hk hm => by
    rcases k3 with ⟨y, rfl, rfl⟩ | h3
    · exact fun e => hm (by simp [blk, e])
    · simp at h3; omega

theorem ballsV_at {zs : List Int} {k : Nat} (hk : k < zs.length) : (ballsV zs)[k]?.getD 0 = ballV zs k := by
  simp [ballsV, hk]
/-- append of one integer; the new row's block is the old one's or new -/
theorem wp_append1L {o : Oper} {a : Act} {K : Act → World → Prop} {Q : Exit → Act → World → Prop} {W : World} {lo n cap g0 : Nat} {sa : Option Addr} {zs : List Int} {u : Int} (T : TypeId) (hT : Try.prog.underlying T = some (.slice 3))
    (s x : Operand) (ho : o.op = .call { callee := .builtin .append, args := #[s, x], argTypes := #[T, T] })
    (hs : a.eval s = .slice sa n cap) (hA : Arr W lo sa n cap zs) (hx : a.eval x = .slice (some ⟨g0, 0, none⟩) 1 1) (hc : W.cell? ⟨g0, 0, none⟩ = some (.int .i64 u)) (hlo : lo ≤ W.heap.size) (hn : n ≤ 1099511627776)
    (h : ∀ g c' w', Arr w' lo (some ⟨g, 0, none⟩) (n + 1) c' (zs ++ [u]) → Stay W.heap.size (blk sa) W w' → (∀ j, j < W.heap.size → j ∉ blk sa → j ∉ blk (some (⟨g, 0, none⟩ : Addr))) → K (a.put o.dst (.slice (some ⟨g, 0, none⟩) (n + 1) c')) w') : o.wp Try.prog a W K Q := by
  obtain ⟨i0, hi, hz0, hz1, hz2⟩ := info_parts infoInt
  refine wp_append_lies W s x T ho lo 3 i0 (.int .i64 0) 1 8 hT hi hz0 hz1 hz2 rfl (by decide) _ _ _ hs hA.own ⟨g0, 0, none⟩ 1 1 [.int .i64 u] hx rfl ?_ ?_ (by omega) (by unfold maxLen; omega) (by omega) hlo W.heap.size rfl ?_
  · intro j v hj
    match j, hj with
    | 0, hj =>
      simp at hj; subst hj
      simpa [Addr.add] using hc
  · intro v hv; simp at hv; subst hv; rfl
  · intro g c' w' hown hgrow hgg hglt
    refine h g c' w' ⟨by simpa using hown, by rw [List.length_append, ← hA.len]; rfl⟩ ?_ ?_
    · refine (Stay.refl _ _ _).grown hgrow (Nat.le_refl _) fun k hk => .inl ?_
      cases sa with
      | none => simp [Value.ownBlock] at hk
      | some y => simp [Value.ownBlock] at hk; simp [blk, hk]
    · intro j hj hm
      simp only [blk, List.mem_singleton]
      rcases hgg with hg1 | hg1
      · cases sa with
        | none => simp [Value.ownBlock] at hg1
        | some y =>
          simp [Value.ownBlock] at hg1
          simp [blk] at hm
          omega
      · omega
theorem wpList_append1L {ops : Array Oper} {rest : List Oper} {o : Oper} {a : Act} {Q : Exit → Act → World → Prop} {W : World} {lo n cap g0 : Nat} {sa : Option Addr} {zs : List Int} {u : Int} (T : TypeId) (hT : Try.prog.underlying T = some (.slice 3)) (hgd : o.guard = none)
    (s x : Operand) (ho : o.op = .call { callee := .builtin .append, args := #[s, x], argTypes := #[T, T] })
    (hs : a.eval s = .slice sa n cap) (hA : Arr W lo sa n cap zs) (hx : a.eval x = .slice (some ⟨g0, 0, none⟩) 1 1) (hc : W.cell? ⟨g0, 0, none⟩ = some (.int .i64 u)) (hlo : lo ≤ W.heap.size) (hn : n ≤ 1099511627776)
    (h : ∀ g c' w', Arr w' lo (some ⟨g, 0, none⟩) (n + 1) c' (zs ++ [u]) → Stay W.heap.size (blk sa) W w' → (∀ j, j < W.heap.size → j ∉ blk sa → j ∉ blk (some (⟨g, 0, none⟩ : Addr))) → wpList Try.prog ops Q rest (a.put o.dst (.slice (some ⟨g, 0, none⟩) (n + 1) c')) w') :
    wpList Try.prog ops Q (o :: rest) a W :=
  wpList_plain hgd fun _ hK => wp_append1L T hT s x ho hs hA hx hc hlo hn fun g c' w' h1 h2 h3 => hK _ _ (h g c' w' h1 h2 h3)
end Go.Proofs.Ytpllijjocccaaaa
