/- The laws' helpers on slices of slices. -/
import Derived.Test.YtpllijjocccaaaaRws
namespace Go.Proofs.Ytpllijjocccaaaa
open Go.RowKit Go.Shelf

theorem ArrRV.set {W W0 : World} {lo n cap g j : Nat} {rws : List (List Int)} {vs : List RowV} {u : RowV} {r : List Int} (h0 : ArrRV W0 lo (some ⟨g, 0, none⟩) n cap rws vs) (h : ArrRV W lo (some ⟨g, 0, none⟩) n cap rws vs)
    (hr : Arr W W0.heap.size u.1 u.2.1 u.2.2 r) (hj : j < n) (hlo : lo ≤ W0.heap.size) : ArrRV (W.setCell ⟨g, j, none⟩ u.val) lo (some ⟨g, 0, none⟩) n cap (rws.set j r) (vs.set j u) := by
  have hS : Stay W.heap.size [g] W (W.setCell ⟨g, j, none⟩ u.val) := (Stay.refl _ _ _).setCell (p := ⟨g, j, none⟩) (.inl (by simp)) _
  have hg0 := (h0.mainlt _ rfl).2
  have hl := h.len
  have hv := h.vlen
  have cases' : ∀ (i : Nat) (v : RowV), (vs.set j u)[i]? = some v → (i = j ∧ v = u) ∨ (i ≠ j ∧ vs[i]? = some v) := fun i v hi => by
    rw [List.getElem?_set] at hi
    by_cases e : j = i
    · subst e; rw [if_pos rfl, if_pos (by omega)] at hi; exact .inl ⟨rfl, by simpa using hi.symm⟩
    · rw [if_neg e] at hi; exact .inr ⟨Ne.symm e, hi⟩
  have hug : ∀ x, u.1 = some x → x.block ≠ g := fun x hx => by have h1 := (hr.lt x hx).1; simp only at hg0; omega
  refine ⟨by rw [List.map_set]; exact (h.own.stored j _).1, by rw [List.length_set]; exact hl, by rw [List.length_set]; exact hv, ?_, ?_, ?_⟩
  · intro i v hi
    rcases cases' i v hi with ⟨rfl, rfl⟩ | ⟨hne, hi'⟩
    · rw [List.getD_eq_getElem?_getD, List.getElem?_set, if_pos rfl, if_pos (by omega)]
      exact (hr.mono hlo).stay hS (fun x hx => by simpa using hug x hx)
    · rw [List.getD_eq_getElem?_getD, List.getElem?_set, if_neg (Ne.symm hne), ← List.getD_eq_getElem?_getD]
      exact (h.row i v hi').stay hS (fun x hx => by have := h.main i v x _ hi' hx rfl; simpa using this)
  · intro i v x y hi hx hy
    cases hy
    rcases cases' i v hi with ⟨rfl, rfl⟩ | ⟨hne, hi'⟩
    · exact hug x hx
    · exact h.main i v x _ hi' hx rfl
  · intro i k v1 v2 x y hik h1 h2 hx hy
    rcases cases' i v1 h1 with ⟨rfl, rfl⟩ | ⟨hne, h1'⟩ <;> rcases cases' k v2 h2 with ⟨rfl, rfl⟩ | ⟨hne2, h2'⟩
    · omega
    · have a1 := (h0.rowlt h2' y hy).2
      have a2 := (hr.lt x hx).1
      omega
    · have a1 := (h0.rowlt h1' x hx).2
      have a2 := (hr.lt y hy).1
      omega
    · exact h.apart i k v1 v2 x y hik h1' h2' hx hy
theorem set_agreeR {ys zs : List (List Int)} {k : Nat} (hk : k < zs.length) (hl : ys.length = zs.length) (h : ∀ j, j < k → ys[j]? = zs[j]?) : ∀ j, j < k + 1 → (ys.set k (zs.getD k []))[j]? = zs[j]? := by
  intro j hj
  rw [List.getElem?_set]
  by_cases e : k = j
  · subst e
    rw [if_pos rfl, if_pos (by omega), List.getD_eq_getElem?_getD, List.getElem?_eq_getElem hk]; rfl
  · rw [if_neg e]; exact h j (by omega)
theorem agree_allR {ys zs : List (List Int)} (hl : ys.length = zs.length) (h : ∀ j, j < zs.length → ys[j]? = zs[j]?) : ys = zs := by
  apply List.ext_getElem?
  intro j
  by_cases hj : j < zs.length
  · exact h j hj
  · rw [List.getElem?_eq_none (by omega), List.getElem?_eq_none (by omega)]

theorem rows_ne {xs ys : List (List Int)} {k : Nat} (h : ¬ xs.getD k [] = ys.getD k []) : decide (xs = ys) = false := decide_eq_false fun e => h (by rw [e])
theorem rows_eq {xs ys : List (List Int)} {n : Nat} (h1 : n = xs.length) (h2 : n = ys.length) (h : ∀ j, j < n → xs.getD j [] = ys.getD j []) : decide (xs = ys) = true := by
  refine decide_eq_true (List.ext_getElem (by omega) fun j hj hj' => ?_)
  have h3 := h j (by omega)
  rw [List.getD_eq_getElem?_getD, List.getD_eq_getElem?_getD, List.getElem?_eq_getElem hj, List.getElem?_eq_getElem hj'] at h3
  simpa using h3
def totLen (zs : List (List Int)) : Nat := (zs.map List.length).sum
theorem totLen_take {zs : List (List Int)} {k : Nat} (h : k < zs.length) : totLen (zs.take (k + 1)) = totLen (zs.take k) + (zs.getD k []).length := by
  unfold totLen
  rw [List.take_succ_eq_append_getElem h, List.map_append, List.sum_append, List.getD_eq_getElem?_getD, List.getElem?_eq_getElem h]; simp
end Go.Proofs.Ytpllijjocccaaaa
