/- append of a pair. -/
import Derived.Test.YtjjnjmemfeadnaaRwsM
namespace Go.Proofs.Ytjjnjmemfeadnaa
open Go.RowKit Go.Shelf

theorem blk_loR {w : World} {lo n cap : Nat} {a : Option Addr} {zs : List (List Int)} {vs : List RowV} (h : ArrRV w lo a n cap zs vs) : ∀ k ∈ blk a, lo ≤ k := by
  cases a with
  | none => simp [blk]
  | some x => intro k hk; simp [blk] at hk; subst hk; exact (h.mainlt x rfl).1
/-- 'append(rows, []int{p, q})' onto rows of the call's own -/
theorem wpList_appendPair {ops : Array Oper} {rest : List Oper} {o : Oper} {a : Act} {Q : Exit → Act → World → Prop} {W0 : World} {lo n cap : Nat} {sa : Option Addr} {rows : List (List Int)} {p q : Int} (hgd : o.guard = none)
    (s x : Operand) (ho : o.op = .call { callee := .builtin .append, args := #[s, x], argTypes := #[38, 38] })
    (hs : a.eval s = .slice sa n cap) (hA : ArrR W0 lo sa n cap rows) (hx : a.eval x = .slice (some ⟨W0.heap.size + 1, 0, none⟩) 1 1) (hlo : lo ≤ W0.heap.size) (hn : n ≤ 1099511627776)
    (h : ∀ g c' w', ArrR w' lo (some ⟨g, 0, none⟩) (n + 1) c' (rows ++ [[p, q]]) → Below lo W0 w' → Stay W0.heap.size (blk sa) W0 w' → (∀ k, k < W0.heap.size → k ∉ blk sa → g ≠ k) → wpList Try.prog ops Q rest (a.put o.dst (.slice (some ⟨g, 0, none⟩) (n + 1) c')) w') :
    wpList Try.prog ops Q (o :: rest) a ((W0.alloc (.cells #[.int .i64 p, .int .i64 q] 3)).alloc (.cells #[.slice (some ⟨W0.heap.size, 0, none⟩) 2 2] 26)) := by
  obtain ⟨vs, hV⟩ := hA
  have h1 : Arr (W0.alloc (.cells #[.int .i64 p, .int .i64 q] 3)) W0.heap.size (some ⟨W0.heap.size, 0, none⟩) 2 2 [p, q] := ⟨World.ownsRow_lit W0 #[.int .i64 p, .int .i64 q] 2 (Nat.le_refl _) (by unfold maxLen; omega) rfl, rfl⟩
  have hB : Below lo W0 ((W0.alloc (.cells #[.int .i64 p, .int .i64 q] 3)).alloc (.cells #[.slice (some ⟨W0.heap.size, 0, none⟩) 2 2] 26)) := ((Below.refl _ _).alloc hlo _).alloc (by simp; omega) _
  have hB' : Below W0.heap.size W0 ((W0.alloc (.cells #[.int .i64 p, .int .i64 q] 3)).alloc (.cells #[.slice (some ⟨W0.heap.size, 0, none⟩) 2 2] 26)) := ((Below.refl _ _).alloc (Nat.le_refl _) _).alloc (by simp) _
  have hc : ((W0.alloc (.cells #[.int .i64 p, .int .i64 q] 3)).alloc (.cells #[.slice (some ⟨W0.heap.size, 0, none⟩) 2 2] 26)).cell? ⟨W0.heap.size + 1, 0, none⟩ = some (.slice (some ⟨W0.heap.size, 0, none⟩) 2 2) := by
    have := cell_new (W0.alloc (.cells #[.int .i64 p, .int .i64 q] 3)) (.slice (some ⟨W0.heap.size, 0, none⟩) 2 2) 26
    rw [← this]; congr 2; simp
  exact wpList_append1R (W0 := W0) (u := (some ⟨W0.heap.size, 0, none⟩, 2, 2)) (r := [p, q]) hgd s x ho hs hV (hV.below hB') (h1.alloc _) hx hc hlo (by simp; omega) hn fun g c' w' k1 k2 k3 => h g c' w' ⟨_, k1⟩ (sbelow hB k2 (blk_loR hV) (by simp; omega)) ((Below.stay hB' (blk sa)).trans (k2.mono (by simp; omega))) fun k hk hm => by
    rcases k3 with ⟨y, rfl, rfl⟩ | h3
    · exact fun e => hm (by simp [blk, e])
    · simp at h3; omega

end Go.Proofs.Ytjjnjmemfeadnaa
