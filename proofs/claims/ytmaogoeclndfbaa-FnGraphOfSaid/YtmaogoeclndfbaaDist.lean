/- impl.distances: by levels. -/
import Derived.Test.YtmaogoeclndfbaaDistM
namespace Go.Proofs.Ytmaogoeclndfbaa
open Go.RowKit Go.Shelf
attribute [local go_sem] Oper.semAt_some

theorem boxes1 (w : World) (v : Value) (t : TypeId) : Boxed (w.alloc (.cells #[v] t)) w.heap.size t v := Boxed.new w t v

theorem or_lt_of {S E : Nat} (h : ∀ x, E.testBit x = true → S.testBit x = false) (hE : E ≠ 0) : S < S ||| E := by
  refine Nat.lt_of_le_of_ne Nat.left_le_or fun e => hE ?_
  apply Nat.eq_of_testBit_eq
  intro i
  rw [Nat.zero_testBit]
  cases hb : E.testBit i with
  | false => rfl
  | true =>
    have h1 := h i hb
    have h2 : (S ||| E).testBit i = true := by rw [Nat.testBit_or, hb, Bool.or_true]
    rw [← e, h1] at h2; cases h2
theorem ext_at {xs ys : List Int} (hl : ys.length = xs.length) (h : ∀ j, j < xs.length → xs[j]?.getD 0 = ys[j]?.getD 0) : xs = ys := by
  refine List.ext_getElem hl.symm fun j hj hj' => ?_
  have h3 := h j hj
  rw [List.getElem?_eq_getElem hj, List.getElem?_eq_getElem hj'] at h3
  simpa using h3
theorem Arr.same {w w' : World} {lo n cap : Nat} {a : Option Addr} {zs : List Int} (h : Arr w lo a n cap zs) (hb : ∀ x, a = some x → w'.heap[x.block]? = w.heap[x.block]?) : Arr w' lo a n cap zs := by
  refine ⟨⟨h.own.1, ?_⟩, h.len⟩
  rcases h.own.2 with h1 | ⟨g, c, cur, hv, hg, hh, r⟩
  · exact .inl h1
  · refine .inr ⟨g, c, cur, hv, hg, ?_, r⟩
    simp only [Value.slice.injEq] at hv
    obtain ⟨rfl, _, rfl⟩ := hv
    exact (hb _ rfl).trans hh
end Go.Proofs.Ytmaogoeclndfbaa
