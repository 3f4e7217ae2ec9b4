/- The laws' marks on slices of slices. -/
import Derived.Test.YtpllijjocccaaaaRwsL
namespace Go.Proofs.Ytpllijjocccaaaa
open Go.RowKit Go.Shelf

def rblk (vs : List RowV) : List Nat := vs.flatMap fun v => blk v.1
theorem mem_blk {a : Option Addr} {k : Nat} : k ∈ blk a ↔ ∃ x, a = some x ∧ x.block = k := by
  cases a with
  | none => simp [blk]
  | some y => simp [blk]; exact eq_comm
theorem mem_rblk {vs : List RowV} {k : Nat} : k ∈ rblk vs ↔ ∃ (j : Nat) (v : RowV) (x : Addr), vs[j]? = some v ∧ v.1 = some x ∧ x.block = k := by
  unfold rblk
  rw [List.mem_flatMap]
  constructor
  · rintro ⟨v, hv, hk⟩
    obtain ⟨x, hx, e⟩ := mem_blk.1 hk
    obtain ⟨j, hj⟩ := List.mem_iff_getElem?.1 hv
    exact ⟨j, v, x, hj, hx, e⟩
  · rintro ⟨j, v, x, hj, hx, e⟩
    exact ⟨v, List.mem_of_getElem? hj, mem_blk.2 ⟨x, hx, e⟩⟩
/-- the blocks of rows -/
def rbs (a : Option Addr) (vs : List RowV) : List Nat := blk a ++ rblk vs
theorem Arr.ge {w : World} {lo n cap : Nat} {a : Option Addr} {zs : List Int} (h : Arr w lo a n cap zs) : ∀ k ∈ blk a, lo ≤ k := blk_lo h
theorem Arr.lt' {w : World} {lo n cap : Nat} {a : Option Addr} {zs : List Int} (h : Arr w lo a n cap zs) : ∀ k ∈ blk a, k < w.heap.size := fun k hk => by
  obtain ⟨x, hx, rfl⟩ := mem_blk.1 hk; exact (h.lt x hx).2
theorem ArrRV.ge {w : World} {lo n cap : Nat} {a : Option Addr} {rws : List (List Int)} {vs : List RowV} (h : ArrRV w lo a n cap rws vs) : ∀ k ∈ rbs a vs, lo ≤ k := fun k hk => by
  rcases List.mem_append.1 hk with h1 | h1
  · obtain ⟨x, hx, rfl⟩ := mem_blk.1 h1; exact (h.mainlt x hx).1
  · obtain ⟨j, v, x, hj, hx, rfl⟩ := mem_rblk.1 h1; exact (h.rowlt hj x hx).1
theorem ArrRV.lt' {w : World} {lo n cap : Nat} {a : Option Addr} {rws : List (List Int)} {vs : List RowV} (h : ArrRV w lo a n cap rws vs) : ∀ k ∈ rbs a vs, k < w.heap.size := fun k hk => by
  rcases List.mem_append.1 hk with h1 | h1
  · obtain ⟨x, hx, rfl⟩ := mem_blk.1 h1; exact (h.mainlt x hx).2
  · obtain ⟨j, v, x, hj, hx, rfl⟩ := mem_rblk.1 h1; exact (h.rowlt hj x hx).2
theorem apartN {ks ex : List Nat} {s : Nat} (hN : ∀ k ∈ ks, s ≤ k) (hO : ∀ k ∈ ex, k < s) : ∀ k ∈ ks, k ∉ ex := fun k hk hm => by have h1 := hN k hk; have h2 := hO k hm; omega
theorem apartO {ks ex : List Nat} {s : Nat} (hO : ∀ k ∈ ks, k < s) (hN : ∀ k ∈ ex, s ≤ k) : ∀ k ∈ ks, k ∉ ex := fun k hk hm => by have h1 := hO k hk; have h2 := hN k hm; omega
theorem Arr.stay' {w w' : World} {lo n cap : Nat} {ex : List Nat} {a : Option Addr} {zs : List Int} (h : Arr w lo a n cap zs) (hb : Stay w.heap.size ex w w') (hx : ∀ k ∈ blk a, k ∉ ex) : Arr w' lo a n cap zs :=
  h.stay hb fun x hxx => hx _ (mem_blk.2 ⟨x, hxx, rfl⟩)
theorem ArrRV.stay' {w w' : World} {lo n cap : Nat} {ex : List Nat} {a : Option Addr} {rws : List (List Int)} {vs : List RowV} (h : ArrRV w lo a n cap rws vs) (hb : Stay w.heap.size ex w w') (hx : ∀ k ∈ rbs a vs, k ∉ ex) : ArrRV w' lo a n cap rws vs :=
  h.stay hb (fun y hy => hx _ (List.mem_append.2 (.inl (mem_blk.2 ⟨y, hy, rfl⟩)))) (fun j v x hj hv => hx _ (List.mem_append.2 (.inr (mem_rblk.2 ⟨j, v, x, hj, hv, rfl⟩))))
theorem ArrRV.setRow {w w' : World} {lo n cap j : Nat} {a : Option Addr} {rws : List (List Int)} {vs : List RowV} {v : RowV} {r : List Int} (h : ArrRV w lo a n cap rws vs) (hv : vs[j]? = some v) (hr : Arr w' lo v.1 v.2.1 v.2.2 r) (hS : Stay w.heap.size (blk v.1) w w') : ArrRV w' lo a n cap (rws.set j r) vs := by
  have hj : j < vs.length := (List.getElem?_eq_some_iff.1 hv).1
  have h1 := h.len
  have h2 := h.vlen
  refine ⟨⟨h.own.1, ?_⟩, by rw [List.length_set]; exact h1, h2, ?_, h.main, h.apart⟩
  · rcases h.own.2 with h3 | ⟨g, c, cur, hv', hg, hh, r'⟩
    · exact .inl h3
    · refine .inr ⟨g, c, cur, hv', hg, ?_, r'⟩
      simp only [Value.slice.injEq] at hv'
      obtain ⟨rfl, _, rfl⟩ := hv'
      refine (hS.block g (Array.getElem?_eq_some_iff.1 hh).1 fun hm => ?_).trans hh
      obtain ⟨x, hx, e⟩ := mem_blk.1 hm
      exact h.main j v x _ hv hx rfl e
  · intro i u hu
    by_cases e : i = j
    · subst e
      rw [hv] at hu; cases hu
      rw [List.getD_eq_getElem?_getD, List.getElem?_set, if_pos rfl, if_pos (by omega)]; exact hr
    · rw [List.getD_eq_getElem?_getD, List.getElem?_set, if_neg (Ne.symm e), ← List.getD_eq_getElem?_getD]
      refine (h.row i u hu).stay hS fun x hx hm => ?_
      obtain ⟨y, hy, e2⟩ := mem_blk.1 hm
      exact h.apart i j u v x y e hu hv hx hy e2.symm

def markTo (k : Int) (zs : List (List Int)) (j : Nat) : List (List Int) := (List.range zs.length).map fun i => if i < j then upFrom (k + totLen (zs.take i)) (zs.getD i []).length else zs.getD i []
def markR (k : Int) (zs : List (List Int)) : List (List Int) := markTo k zs zs.length
theorem markTo_len (k : Int) (zs : List (List Int)) (j : Nat) : (markTo k zs j).length = zs.length := by simp [markTo]
theorem markTo_zero (k : Int) (zs : List (List Int)) : markTo k zs 0 = zs := by
  refine List.ext_getElem (markTo_len _ _ _) fun i h1 h2 => ?_
  simp [markTo, h2]
theorem markTo_succ {k : Int} {zs : List (List Int)} {j : Nat} (hj : j < zs.length) : (markTo k zs j).set j (upFrom (k + totLen (zs.take j)) (zs.getD j []).length) = markTo k zs (j + 1) := by
  refine List.ext_getElem (by rw [List.length_set, markTo_len, markTo_len]) fun i h1 h2 => ?_
  rw [List.getElem_set]
  split
  · subst j; simp [markTo]
  · simp only [markTo, List.getElem_map, List.getElem_range]
    by_cases hi : i < j
    · rw [if_pos hi, if_pos (by omega)]
    · rw [if_neg hi, if_neg (by omega)]
theorem markTo_at {k : Int} {zs : List (List Int)} {i j : Nat} (hi : i < zs.length) : (markTo k zs j).getD i [] = if i < j then upFrom (k + totLen (zs.take i)) (zs.getD i []).length else zs.getD i [] := by
  rw [List.getD_eq_getElem?_getD]; simp [markTo, hi]
theorem totLen_le (zs : List (List Int)) (k : Nat) : totLen (zs.take k) ≤ totLen zs := by
  unfold totLen
  conv => rhs; rw [← List.take_append_drop k zs]
  rw [List.map_append, List.sum_append]; omega
theorem row_le_totLen {zs : List (List Int)} {r : List Int} (h : r ∈ zs) : r.length ≤ totLen zs := by
  unfold totLen
  induction zs with
  | nil => cases h
  | cons x xs ih =>
    rw [List.map_cons, List.sum_cons]
    rcases List.mem_cons.1 h with rfl | h
    · omega
    · have := ih h; omega
end Go.Proofs.Ytpllijjocccaaaa
