/- Distances to a code, tables of distances: the reference. -/
import Derived.Test.YtmaogoeclndfbaaSMarks
import Derived.Test.YtmaogoeclndfbaaStillIn
import Derived.Test.YtmaogoeclndfbaaNodes3
import Derived.Test.YtmaogoeclndfbaaWk
namespace Go.Proofs.Ytmaogoeclndfbaa
open Go.RowKit Go.Shelf
attribute [local go_sem] Oper.semAt_some

theorem ArrRV.grow {W W' : World} {lo n cap G j m g c' : Nat} {rws : List (List Int)} {vs : List RowV} {v : RowV} {r' : List Int} (h : ArrRV W lo (some ⟨G, 0, none⟩) n cap rws vs) (hv : vs[j]? = some v)
    (hr : Arr W' lo (some ⟨g, 0, none⟩) m c' r') (hS : Stay W.heap.size (blk v.1) W W') (hg : ∀ k, k < W.heap.size → k ∉ blk v.1 → k ∉ blk (some (⟨g, 0, none⟩ : Addr))) :
    ArrRV (W'.setCell ⟨G, j, none⟩ (.slice (some ⟨g, 0, none⟩) m c')) lo (some ⟨G, 0, none⟩) n cap (rws.set j r') (vs.set j (some ⟨g, 0, none⟩, m, c')) := by
  have hSc : Stay W'.heap.size [G] W' (W'.setCell ⟨G, j, none⟩ (.slice (some ⟨g, 0, none⟩) m c')) := (Stay.refl _ _ _).setCell (p := ⟨G, j, none⟩) (.inl (by simp)) _
  have hGl := (h.mainlt _ rfl).2
  have hGv : G ∉ blk v.1 := fun hm => by
    obtain ⟨x, hx, he⟩ := mem_blk.1 hm
    exact h.main j v x _ hv hx rfl he
  have hGg : G ≠ g := fun e => hg G hGl hGv (by simp [blk, e])
  have hj : j < n := by have := (List.getElem?_eq_some_iff.1 hv).1; have := h.vlen; omega
  have hl := h.len
  have hvl := h.vlen
  have hown : W'.ownsRow lo 26 1 (.slice (some ⟨G, 0, none⟩) n cap) n (vs.map RowV.val) := by
    refine ⟨h.own.1, ?_⟩
    rcases h.own.2 with h1 | ⟨g0, c, cur, hv0, hg0, hh, r⟩
    · exact .inl h1
    · refine .inr ⟨g0, c, cur, hv0, hg0, ?_, r⟩
      simp only [Value.slice.injEq] at hv0
      obtain ⟨e1, _, e2⟩ := hv0
      cases e1
      exact (hS.block G hGl hGv).trans hh
  have cases' : ∀ (i : Nat) (u : RowV), (vs.set j (some ⟨g, 0, none⟩, m, c'))[i]? = some u → (i = j ∧ u = (some ⟨g, 0, none⟩, m, c')) ∨ (i ≠ j ∧ vs[i]? = some u) := fun i u hi => by
    rw [List.getElem?_set] at hi
    by_cases e : j = i
    · subst e; rw [if_pos rfl, if_pos (by omega)] at hi; exact .inl ⟨rfl, by simpa using hi.symm⟩
    · rw [if_neg e] at hi; exact .inr ⟨Ne.symm e, hi⟩
  have hother : ∀ (i : Nat) (u : RowV) (x : Addr), i ≠ j → vs[i]? = some u → u.1 = some x → x.block ∉ blk v.1 ∧ x.block ≠ g := fun i u x hne hi hx => by
    have h1 : x.block ∉ blk v.1 := fun hm => by
      obtain ⟨y, hy, he⟩ := mem_blk.1 hm
      exact h.apart i j u v x y hne hi hv hx hy he.symm
    exact ⟨h1, fun e => hg x.block (h.rowlt hi x hx).2 h1 (by simp [blk, e])⟩
  refine ⟨by rw [List.map_set]; exact (hown.stored j _).1, by rw [List.length_set]; exact hl, by rw [List.length_set]; exact hvl, ?_, ?_, ?_⟩
  · intro i u hi
    rcases cases' i u hi with ⟨rfl, rfl⟩ | ⟨hne, hi'⟩
    · rw [List.getD_eq_getElem?_getD, List.getElem?_set, if_pos rfl, if_pos (by omega)]
      exact hr.stay hSc (fun x hx => by cases hx; simp; omega)
    · rw [List.getD_eq_getElem?_getD, List.getElem?_set, if_neg (Ne.symm hne), ← List.getD_eq_getElem?_getD]
      exact ((h.row i u hi').stay hS (fun x hx => (hother i u x hne hi' hx).1)).stay hSc (fun x hx => by have := h.main i u x _ hi' hx rfl; simpa using this)
  · intro i u x y hi hx hy
    cases hy
    rcases cases' i u hi with ⟨rfl, rfl⟩ | ⟨hne, hi'⟩
    · cases hx; simp only; omega
    · exact h.main i u x _ hi' hx rfl
  · intro i k v1 v2 x y hik h1 h2 hx hy
    rcases cases' i v1 h1 with ⟨rfl, rfl⟩ | ⟨hne, h1'⟩ <;> rcases cases' k v2 h2 with ⟨rfl, rfl⟩ | ⟨hne2, h2'⟩
    · omega
    · cases hx; exact fun e => (hother k v2 y hne2 h2' hy).2 e.symm
    · cases hy; exact (hother i v1 x hne h1' hx).2
    · exact h.apart i k v1 v2 x y hik h1' h2' hx hy

theorem Arr.isCells {w : World} {lo n cap : Nat} {a : Option Addr} {zs : List Int} (h : Arr w lo a n cap zs) : ∀ k ∈ blk a, ∃ o, w.heap[k]? = some o ∧ o.isCells = true := fun k hk => by
  rcases h.form with ⟨rfl, _⟩ | ⟨g, cur, rfl, _, hg, _⟩
  · simp [blk] at hk
  · simp [blk] at hk; subst hk; exact ⟨_, hg, rfl⟩
theorem vec_step {W W5 w5 : World} {lo B1 n cap A i m g vn vc c' : Nat} {va : Option Addr} {rws : List (List Int)} {vs : List RowV} {r' : List Int} (hA : ArrRV W lo (some ⟨A, 0, none⟩) n cap rws vs) (hv : vs[i]? = some (va, vn, vc)) (hin : i < n)
    (hb : Below W.heap.size W W5) (hr5 : Arr w5 lo (some ⟨g, 0, none⟩) m c' r') (hS : Stay W5.heap.size (blk va) W5 w5) (hN : ∀ k, k < W5.heap.size → k ∉ blk va → k ∉ blk (some (⟨g, 0, none⟩ : Addr)))
    (hrow : ∀ (v : RowV) (x : Addr), vs[i]? = some v → v.1 = some x → B1 ≤ x.block) (hno : ∀ (j : Nat) (v : RowV), i < j → vs[j]? = some v → v.1 = none) (hB1 : B1 ≤ W.heap.size) :
    (∃ exs, Stay W.heap.size exs W (w5.setCell ⟨A, i, none⟩ (.slice (some ⟨g, 0, none⟩) m c')) ∧ ∀ k ∈ exs, k ∈ [A] ∨ (B1 ≤ k ∧ ∃ o, W.heap[k]? = some o ∧ o.isCells = true)) ∧
    ∃ vs', ArrRV (w5.setCell ⟨A, i, none⟩ (.slice (some ⟨g, 0, none⟩) m c')) lo (some ⟨A, 0, none⟩) n cap (rws.set i r') vs' ∧ (∀ (v : RowV) (x : Addr), vs'[i]? = some v → v.1 = some x → B1 ≤ x.block) ∧ (∀ (j : Nat) (v : RowV), i < j → vs'[j]? = some v → v.1 = none) := by
  have hl := hA.vlen
  refine ⟨⟨A :: blk va, ?_, ?_⟩, _, (hA.below hb).grow hv hr5 hS hN, ?_, ?_⟩
  · have h1 : Stay W.heap.size (A :: blk va) W w5 := (Below.stay hb (A :: blk va)).trans ((hS.weak (by intro k hk; exact List.mem_cons_of_mem _ hk)).mono hb.size)
    exact h1.setCell (p := ⟨A, i, none⟩) (.inl (by simp)) _
  · intro k hk
    rcases List.mem_cons.1 hk with rfl | hk
    · exact .inl (by simp)
    · obtain ⟨x, hx, rfl⟩ := mem_blk.1 hk
      exact .inr ⟨hrow _ x hv hx, (hA.row i _ hv).isCells _ hk⟩
  · intro v x hv' hx
    rw [List.getElem?_set, if_pos rfl, if_pos (by omega)] at hv'
    obtain rfl := Option.some.inj hv'
    obtain rfl := Option.some.inj hx
    refine Nat.le_of_not_lt fun hlt => ?_
    have hs := hb.size
    have h1 : g ∉ blk va := fun hm => by
      obtain ⟨y, hy, he⟩ := mem_blk.1 hm
      have := hrow _ y hv hy
      simp only at hlt; omega
    exact hN g (by simp only at hlt; omega) h1 (by simp [blk])
  · intro j v hj hv'
    rw [List.getElem?_set, if_neg (by omega)] at hv'
    exact hno j v hj hv'
def vecV (zs : List Int) (c i : Nat) : List Int := (bitsOf c).map fun x => distV zs x i
def vecsV (zs : List Int) (c : Nat) : List (List Int) := (List.range zs.length).map (vecV zs c)
/-- the rows when rows 0 to i-1 are done and row i has the nodes of pre -/
def vecTo (zs : List Int) (c i : Nat) (pre : List Nat) : List (List Int) := (List.range zs.length).map fun j => if j < i then vecV zs c j else if j = i then pre.map fun x => distV zs x i else []
theorem vecTo_len (zs : List Int) (c i : Nat) (pre : List Nat) : (vecTo zs c i pre).length = zs.length := by simp [vecTo]
theorem vecTo_zero (zs : List Int) (c : Nat) : vecTo zs c 0 [] = List.replicate zs.length [] := by
  unfold vecTo; apply List.ext_getElem (by simp); intro j h1 h2; simp
theorem vecTo_set {zs : List Int} {c i : Nat} {pre : List Nat} (_hi : i < zs.length) (x : Nat) : (vecTo zs c i pre).set i (pre.map (fun x => distV zs x i) ++ [distV zs x i]) = vecTo zs c i (pre ++ [x]) := by
  apply List.ext_getElem (by simp [vecTo]); intro j h1 h2
  rw [List.getElem_set]
  by_cases e : i = j
  · subst e; simp [vecTo]
  · rw [if_neg e]; simp only [vecTo, List.getElem_map, List.getElem_range]; rw [if_neg (Ne.symm e), if_neg (Ne.symm e)]
theorem vecTo_at {zs : List Int} {c i : Nat} {pre : List Nat} (hi : i < zs.length) : (vecTo zs c i pre).getD i [] = pre.map fun x => distV zs x i := by
  rw [List.getD_eq_getElem?_getD, List.getElem?_eq_getElem (by rw [vecTo_len]; exact hi)]; simp [vecTo]
theorem vecTo_next (zs : List Int) (c i : Nat) : vecTo zs c i (bitsOf c) = vecTo zs c (i + 1) [] := by
  unfold vecTo
  apply List.ext_getElem (by simp); intro j h1 h2
  simp only [List.getElem_map, List.getElem_range]
  by_cases h : j < i
  · rw [if_pos h, if_pos (by omega)]
  · rw [if_neg h]
    by_cases e : j = i
    · subst e; rw [if_pos rfl, if_pos (by omega)]; rfl
    · rw [if_neg e, if_neg (by omega)]; split <;> rfl
theorem vecTo_all (zs : List Int) (c : Nat) : vecTo zs c zs.length [] = vecsV zs c := by
  unfold vecTo vecsV
  apply List.ext_getElem (by simp); intro j h1 h2
  simp only [List.getElem_map, List.getElem_range]
  rw [if_pos (by simpa using h2)]
theorem farV_at {zs : List Int} {x : Nat} (hx : x < zs.length) : (farV zs).getD x [] = distsV zs x := by
  rw [List.getD_eq_getElem?_getD, List.getElem?_eq_getElem (by rw [farV_len]; exact hx)]; simp [farV]
theorem vecsV_len (zs : List Int) (c : Nat) : (vecsV zs c).length = zs.length := by simp [vecsV]
theorem vecV_len (zs : List Int) (c i : Nat) : (vecV zs c i).length ≤ 12 := by
  unfold vecV; rw [List.length_map]; unfold bitsOf; exact Nat.le_trans (List.length_filter_le _ _) (by simp)
def CodeVectorsR (zs : List Int) (c : Int) : List (List Int) := if fitsB zs c then vecsV zs c.toNat else []
theorem CodeVectors_small {zs : List Int} {c : Int} : (CodeVectorsR zs c).length ≤ 4096 ∧ totLen (CodeVectorsR zs c) ≤ 4096 := by
  unfold CodeVectorsR
  split
  · rename_i h
    have hb := graphB_bd (fits_bd h).1
    rw [vecsV_len]
    refine ⟨by omega, ?_⟩
    have hall : ∀ (l : List (List Int)), (∀ r ∈ l, r.length ≤ 12) → totLen l ≤ 12 * l.length := by
      intro l
      induction l with
      | nil => intro _; simp [totLen]
      | cons r l ih =>
        intro h
        have h1 := ih fun x hx => h x (List.mem_cons_of_mem _ hx)
        have h2 := h r List.mem_cons_self
        simp only [totLen, List.map_cons, List.sum_cons, List.length_cons] at h1 ⊢
        omega
    have h3 := hall (vecsV zs c.toNat) (fun r hr => by
      obtain ⟨i, _, rfl⟩ := List.mem_map.1 hr
      exact vecV_len _ _ _)
    rw [vecsV_len] at h3; omega
  · simp [totLen]
end Go.Proofs.Ytmaogoeclndfbaa
namespace Go.Proofs.Ytmaogoeclndfbaa
open Go.RowKit Go.Shelf

theorem ArrRV.empty' {w : World} {lo : Nat} (h : lo ≤ w.heap.size) : ArrRV (w.alloc (.cells #[] 26)) lo (some ⟨w.heap.size, 0, none⟩) 0 0 [] [] := ArrRV.empty w lo h
/-- the table of all distances, row by row -/
theorem tabV_take {zs : List Int} {k : Nat} (hk : k < zs.length) : (farV zs).take k ++ [distsV zs k] = (farV zs).take (k + 1) := farV_take hk
/-- the row of node i over the nodes of the code below k -/
def rowTo (zs : List Int) (c i k : Nat) : List Int := (bitsTo c k).map fun x => distV zs i x
theorem rowTo_succ (zs : List Int) (c i k : Nat) : rowTo zs c i (k + 1) = rowTo zs c i k ++ if c.testBit k then [distV zs i k] else [] := by
  unfold rowTo; rw [bitsTo_succ, List.map_append]; congr 1; split <;> rfl
theorem rowTo_len (zs : List Int) (c i k : Nat) : (rowTo zs c i k).length ≤ k := by unfold rowTo; rw [List.length_map]; exact bitsTo_len c k
theorem rowTo_all {zs : List Int} {c i n : Nat} (hG : IsG n zs) (hi : i < n) (hc : c < 2 ^ n) : rowTo zs c i n = vecV zs c i := by
  unfold rowTo vecV
  rw [bitsTo_all hG.le (Nat.div_eq_of_lt hc)]
  exact List.map_congr_left fun x hx => dist_symm hG hi (lt_of_mem_bitsOf hc hx)
theorem vecsV_take {zs : List Int} {c k : Nat} (hk : k < zs.length) : (vecsV zs c).take k ++ [vecV zs c k] = (vecsV zs c).take (k + 1) := by
  unfold vecsV
  rw [← List.map_take, ← List.map_take, List.take_range, List.take_range, Nat.min_eq_left (Nat.le_of_lt hk), Nat.min_eq_left hk, List.range_succ, List.map_append]; rfl
end Go.Proofs.Ytmaogoeclndfbaa
