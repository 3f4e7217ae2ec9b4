/- Slices of slices of integers: read ('RowsAt'), owned by the call ('ArrR'). -/
import Derived.Deep.AppendLies
import Derived.Test.YtpllijjocccaaaaDistG
namespace Go.Proofs.Ytpllijjocccaaaa
open Go.RowKit Go.Shelf

/-- the slice value '.slice a n _' reads as the rows -/
structure RowsAt (w : World) (a : Option Addr) (n : Nat) (rows : List (List Int)) : Prop where
  len : n = rows.length
  bd : n ≤ 9223372036854775807
  at' : 0 < n → ∃ b off, a = some ⟨b, off, none⟩ ∧ b < w.heap.size ∧ ∀ j, j < n → ∃ aj nj cj, w.cell? ⟨b, off + j, none⟩ = some (.slice aj nj cj) ∧ SlAt w aj nj (rows.getD j [])
theorem RowsAt.below {w w' : World} {a : Option Addr} {n : Nat} {rows : List (List Int)} (h : RowsAt w a n rows) (hb : Below w.heap.size w w') : RowsAt w' a n rows :=
  ⟨h.len, h.bd, fun hn => by
    obtain ⟨b, off, e, hlt, hc⟩ := h.at' hn
    refine ⟨b, off, e, Nat.lt_of_lt_of_le hlt hb.size, fun j hj => ?_⟩
    obtain ⟨aj, nj, cj, hcell, hs⟩ := hc j hj
    exact ⟨aj, nj, cj, (hb.cell (p := ⟨b, off + j, none⟩) hlt).trans hcell, hs.below hb⟩⟩

abbrev RowV := Option Addr × Nat × Nat
def RowV.val (v : RowV) : Value := .slice v.1 v.2.1 v.2.2
structure ArrRV (w : World) (lo : Nat) (a : Option Addr) (n cap : Nat) (rows : List (List Int)) (vs : List RowV) : Prop where
  own : w.ownsRow lo 23 1 (.slice a n cap) n (vs.map RowV.val)
  len : n = rows.length
  vlen : n = vs.length
  row : ∀ (j : Nat) (v : RowV), vs[j]? = some v → Arr w lo v.1 v.2.1 v.2.2 (rows.getD j [])
  main : ∀ (j : Nat) (v : RowV) (x y : Addr), vs[j]? = some v → v.1 = some x → a = some y → x.block ≠ y.block
  apart : ∀ (i j : Nat) (u v : RowV) (x y : Addr), i ≠ j → vs[i]? = some u → vs[j]? = some v → u.1 = some x → v.1 = some y → x.block ≠ y.block
/-- the slice '.slice a n cap' and its rows lie in blocks of the call's own, each apart from the others -/
def ArrR (w : World) (lo : Nat) (a : Option Addr) (n cap : Nat) (rows : List (List Int)) : Prop := ∃ vs, ArrRV w lo a n cap rows vs
section
variable {w w' W : World} {lo n cap : Nat} {a : Option Addr} {rws : List (List Int)} {vs : List RowV}
theorem ArrRV.form (h : ArrRV w lo a n cap rws vs) : (a = none ∧ n = 0 ∧ cap = 0) ∨ ∃ g cur, a = some ⟨g, 0, none⟩ ∧ lo ≤ g ∧ w.heap[g]? = some (.cells cur 23 (0, 0)) ∧ n ≤ cap ∧ cap ≤ maxLen ∧ cur.size = cap ∧ cur.toList.take n = vs.map RowV.val := by
  rcases h.own.2 with ⟨h1, h2⟩ | ⟨g, c, cur, hv, hg, hh, hn, hm, hs, ht⟩
  · simp only [Value.slice.injEq] at h1
    exact .inl ⟨h1.1, h2, h1.2.2⟩
  · simp only [Value.slice.injEq] at hv
    obtain ⟨rfl, _, rfl⟩ := hv
    exact .inr ⟨g, cur, rfl, hg, hh, hn, hm, by simpa using hs, by simpa using ht⟩
theorem ArrRV.mainlt (h : ArrRV w lo a n cap rws vs) : ∀ y, a = some y → lo ≤ y.block ∧ y.block < w.heap.size := fun y hy => h.own.lt y.block (by rw [hy]; rfl)
theorem ArrRV.rowlt (h : ArrRV w lo a n cap rws vs) {j : Nat} {v : RowV} (hv : vs[j]? = some v) : ∀ x, v.1 = some x → lo ≤ x.block ∧ x.block < w.heap.size := fun x hx => (h.row j v hv).lt x hx
theorem ArrRV.cellAt {g : Nat} (h : ArrRV w lo (some ⟨g, 0, none⟩) n cap rws vs) {j : Nat} {v : RowV} (hv : vs[j]? = some v) : w.cell? ⟨g, j, none⟩ = some v.val := by
  have hj : j < vs.length := (List.getElem?_eq_some_iff.1 hv).1
  rw [h.own.cellAt j (by have := h.vlen; omega), List.getElem?_map, hv]; rfl
theorem ArrRV.frozenAt {g : Nat} (h : ArrRV w lo (some ⟨g, 0, none⟩) n cap rws vs) (j : Nat) : w.frozen? ⟨g, j, none⟩ = false := h.own.frozenAt j
theorem ArrRV.rowsAt (h : ArrRV w lo a n cap rws vs) : RowsAt w a n rws := by
  rcases h.form with ⟨_, rfl, _⟩ | ⟨g, cur, rfl, hlo, hg, hn, hm, hs, ht⟩
  · exact ⟨h.len, by omega, fun h => absurd h (by omega)⟩
  · refine ⟨h.len, by simp [maxLen] at hm; omega, fun _ => ⟨g, 0, rfl, (Array.getElem?_eq_some_iff.1 hg).1, fun j hj => ?_⟩⟩
    have hj' : j < vs.length := by have := h.vlen; omega
    obtain ⟨v, hv⟩ : ∃ v, vs[j]? = some v := ⟨_, List.getElem?_eq_getElem hj'⟩
    rw [Nat.zero_add]
    exact ⟨v.1, v.2.1, v.2.2, h.cellAt hv, (h.row j v hv).sl⟩
theorem ArrRV.stay {ex : List Nat} (h : ArrRV w lo a n cap rws vs) (hb : Stay w.heap.size ex w w') (hx : ∀ y, a = some y → y.block ∉ ex) (hr : ∀ (j : Nat) (v : RowV) (x : Addr), vs[j]? = some v → v.1 = some x → x.block ∉ ex) : ArrRV w' lo a n cap rws vs := by
  refine ⟨⟨h.own.1, ?_⟩, h.len, h.vlen, fun j v hv => (h.row j v hv).stay hb (fun x hxx => hr j v x hv hxx), h.main, h.apart⟩
  rcases h.own.2 with h1 | ⟨g, c, cur, hv, hg, hh, r⟩
  · exact .inl h1
  · refine .inr ⟨g, c, cur, hv, hg, ?_, r⟩
    simp only [Value.slice.injEq] at hv
    obtain ⟨rfl, _, rfl⟩ := hv
    exact (hb.block g (Array.getElem?_eq_some_iff.1 hh).1 (hx _ rfl)).trans hh
theorem ArrRV.below (h : ArrRV w lo a n cap rws vs) (hb : Below w.heap.size w w') : ArrRV w' lo a n cap rws vs := h.stay (Below.stay hb []) (fun _ _ => by simp) (fun _ _ _ _ _ => by simp)
theorem ArrRV.mono {lo' : Nat} (h : ArrRV w lo a n cap rws vs) (hl : lo' ≤ lo) : ArrRV w lo' a n cap rws vs := by
  refine ⟨⟨h.own.1, ?_⟩, h.len, h.vlen, fun j v hv => (h.row j v hv).mono hl, h.main, h.apart⟩
  rcases h.own.2 with h1 | ⟨g, c, cur, hv, hg, r⟩
  · exact .inl h1
  · exact .inr ⟨g, c, cur, hv, Nat.le_trans hl hg, r⟩
theorem ArrRV.nil (w : World) (lo : Nat) : ArrRV w lo none 0 0 [] [] := ⟨World.ownsRow_nil _ _ _ _, rfl, rfl, by simp, by simp, by simp⟩
theorem ArrRV.empty (w : World) (lo : Nat) (h : lo ≤ w.heap.size) : ArrRV (w.alloc (.cells #[] 23)) lo (some ⟨w.heap.size, 0, none⟩) 0 0 [] [] := ⟨World.ownsRow_lit w #[] 0 h (by omega) rfl, rfl, rfl, by simp, by simp, by simp⟩
end
theorem ArrR.rowsAt {w : World} {lo n cap : Nat} {a : Option Addr} {rows : List (List Int)} (h : ArrR w lo a n cap rows) : RowsAt w a n rows := by obtain ⟨vs, h⟩ := h; exact h.rowsAt
theorem ArrR.below {w w' : World} {lo n cap : Nat} {a : Option Addr} {rows : List (List Int)} (h : ArrR w lo a n cap rows) (hb : Below w.heap.size w w') : ArrR w' lo a n cap rows := by obtain ⟨vs, h⟩ := h; exact ⟨vs, h.below hb⟩
theorem ArrR.mono {w : World} {lo lo' n cap : Nat} {a : Option Addr} {rows : List (List Int)} (h : ArrR w lo a n cap rows) (hl : lo' ≤ lo) : ArrR w lo' a n cap rows := by obtain ⟨vs, h⟩ := h; exact ⟨vs, h.mono hl⟩
theorem ArrR.len {w : World} {lo n cap : Nat} {a : Option Addr} {rows : List (List Int)} (h : ArrR w lo a n cap rows) : n = rows.length := by obtain ⟨vs, h⟩ := h; exact h.len
theorem infoInts : (Try.prog.info? 23).map (fun i => (i.zero, i.size, i.bytes)) = some (some (.slice none 0 0), 1, 24) := by kernel_rfl
theorem under_rows : Try.prog.underlying 37 = some (.slice 23) := Try.underlying37

/-- 'append(s, row)' onto rows of the call's own: the row was made after W0 -/
theorem wp_append1R {o : Oper} {a : Act} {K : Act → World → Prop} {Q : Exit → Act → World → Prop} {W W0 : World} {lo n cap g0 : Nat} {sa : Option Addr} {rows : List (List Int)} {vs : List RowV} {u : RowV} {r : List Int}
    (s x : Operand) (ho : o.op = .call { callee := .builtin .append, args := #[s, x], argTypes := #[37, 37] })
    (hs : a.eval s = .slice sa n cap) (hA0 : ArrRV W0 lo sa n cap rows vs) (hA : ArrRV W lo sa n cap rows vs) (hr : Arr W W0.heap.size u.1 u.2.1 u.2.2 r) (hx : a.eval x = .slice (some ⟨g0, 0, none⟩) 1 1) (hc : W.cell? ⟨g0, 0, none⟩ = some u.val) (hlo : lo ≤ W0.heap.size) (hlo2 : lo ≤ W.heap.size) (hn : n ≤ 1099511627776)
    (h : ∀ g c' w', ArrRV w' lo (some ⟨g, 0, none⟩) (n + 1) c' (rows ++ [r]) (vs ++ [u]) → Stay W.heap.size (blk sa) W w' → ((∃ y, sa = some y ∧ y.block = g) ∨ g = W.heap.size) → K (a.put o.dst (.slice (some ⟨g, 0, none⟩) (n + 1) c')) w') : o.wp Try.prog a W K Q := by
  obtain ⟨i0, hi, hz0, hz1, hz2⟩ := info_parts infoInts
  refine wp_append_lies W s x 37 ho lo 23 i0 (.slice none 0 0) 1 24 under_rows hi hz0 hz1 hz2 rfl (by decide) _ _ _ hs hA.own ⟨g0, 0, none⟩ 1 1 [u.val] hx rfl ?_ ?_ (by omega) (by unfold maxLen; omega) (by omega) hlo2 W.heap.size rfl ?_
  · intro j v hj
    match j, hj with
    | 0, hj =>
      simp at hj; subst hj
      simpa [Addr.add] using hc
  · intro v hv; simp at hv; subst hv; rfl
  · intro g c' w' hown hgrow hgg hglt
    have hS : Stay W.heap.size (blk sa) W w' := by
      refine (Stay.refl _ _ _).grown hgrow (Nat.le_refl _) fun k hk => .inl ?_
      cases sa with
      | none => simp [Value.ownBlock] at hk
      | some y => simp [Value.ownBlock] at hk; simp [blk, hk]
    have hsab : ∀ y, sa = some y → (Value.slice sa n cap).ownBlock = some y.block := fun y hy => by rw [hy]; rfl
    have hnb : ∀ k, k ∈ blk sa → ∃ y, sa = some y ∧ y.block = k := fun k hk => by
      cases sa with
      | none => simp [blk] at hk
      | some y => simp [blk] at hk; exact ⟨y, rfl, hk.symm⟩
    have hgc : (∃ y, sa = some y ∧ y.block = g) ∨ g = W.heap.size := by
      rcases hgg with hg1 | hg1
      · left
        cases sa with
        | none => simp [Value.ownBlock] at hg1
        | some y => simp [Value.ownBlock] at hg1; exact ⟨y, rfl, hg1⟩
      · exact .inr hg1
    have hold : ∀ (j : Nat) (v : RowV) (x : Addr), vs[j]? = some v → v.1 = some x → x.block ∉ blk sa := fun j v x hv hx hm => by
      obtain ⟨y, hy, he⟩ := hnb _ hm
      exact hA.main j v x y hv hx hy he.symm
    have hrow : ∀ (j : Nat) (v : RowV), (vs ++ [u])[j]? = some v → (j < n ∧ vs[j]? = some v) ∨ (j = n ∧ v = u) := fun j v hv => by
      have hl := hA.vlen
      by_cases hj : j < n
      · left; rw [List.getElem?_append_left (by omega)] at hv; exact ⟨hj, hv⟩
      · right
        rw [List.getElem?_append_right (by omega)] at hv
        have h0 : j - vs.length = 0 := by
          refine Classical.byContradiction fun hne => ?_
          rw [List.getElem?_eq_none (by simp; omega)] at hv; cases hv
        rw [h0] at hv
        exact ⟨by omega, by simpa using hv.symm⟩
    have hun : ∀ x, u.1 = some x → x.block ∉ blk sa := fun x hx hm => by
      obtain ⟨y, hy, he⟩ := hnb _ hm
      have h1 := (hr.lt x hx).1
      have h2 := (hA0.mainlt y hy).2
      omega
    refine h g c' w' ⟨by simpa using hown, by rw [List.length_append, ← hA.len]; rfl, by rw [List.length_append, ← hA.vlen]; rfl, ?_, ?_, ?_⟩ hS hgc
    · intro j v hv
      rcases hrow j v hv with ⟨hj, hv'⟩ | ⟨rfl, rfl⟩
      · rw [List.getD_eq_getElem?_getD, List.getElem?_append_left (by have := hA.len; omega), ← List.getD_eq_getElem?_getD]
        exact (hA.row j v hv').stay hS (fun x hx => hold j v x hv' hx)
      · rw [List.getD_eq_getElem?_getD, List.getElem?_append_right (by have := hA.len; omega), show j - rows.length = 0 from by have := hA.len; omega]
        exact (hr.mono hlo).stay hS hun
    · intro j v x y hv hx hy
      cases hy
      rcases hrow j v hv with ⟨hj, hv'⟩ | ⟨_, rfl⟩
      · rcases hgc with ⟨y, hy, he⟩ | he
        · have := hA.main j v x y hv' hx hy; simp only; omega
        · have := (hA.rowlt hv' x hx).2; simp only; omega
      · rcases hgc with ⟨y, hy, he⟩ | he
        · have h1 := (hr.lt x hx).1
          have h2 := (hA0.mainlt y hy).2
          simp only; omega
        · have := (hr.lt x hx).2; simp only; omega
    · intro i j v1 v2 x y hij h1 h2 hx hy
      rcases hrow i v1 h1 with ⟨hi', h1'⟩ | ⟨hi', e1⟩ <;> rcases hrow j v2 h2 with ⟨hj', h2'⟩ | ⟨hj', e2⟩
      · exact hA.apart i j v1 v2 x y hij h1' h2' hx hy
      · subst e2
        have a1 := (hA0.rowlt h1' x hx).2
        have a2 := (hr.lt y hy).1
        omega
      · subst e1
        have a1 := (hA0.rowlt h2' y hy).2
        have a2 := (hr.lt x hx).1
        omega
      · omega
theorem step_append1R {ops : Array Oper} {o : Oper} {a : Act} {K : Act → World → Prop} {Q : Exit → Act → World → Prop} {E : Prop} {W W0 : World} {lo n cap g0 : Nat} {sa : Option Addr} {rows : List (List Int)} {vs : List RowV} {u : RowV} {r : List Int} (hgd : o.guard = none)
    (s x : Operand) (ho : o.op = .call { callee := .builtin .append, args := #[s, x], argTypes := #[37, 37] })
    (hs : a.eval s = .slice sa n cap) (hA0 : ArrRV W0 lo sa n cap rows vs) (hA : ArrRV W lo sa n cap rows vs) (hr : Arr W W0.heap.size u.1 u.2.1 u.2.2 r) (hx : a.eval x = .slice (some ⟨g0, 0, none⟩) 1 1) (hc : W.cell? ⟨g0, 0, none⟩ = some u.val) (hlo : lo ≤ W0.heap.size) (hlo2 : lo ≤ W.heap.size) (hn : n ≤ 1099511627776)
    (h : ∀ g c' w', ArrRV w' lo (some ⟨g, 0, none⟩) (n + 1) c' (rows ++ [r]) (vs ++ [u]) → Stay W.heap.size (blk sa) W w' → ((∃ y, sa = some y ∧ y.block = g) ∨ g = W.heap.size) → K (a.put o.dst (.slice (some ⟨g, 0, none⟩) (n + 1) c')) w') :
    if Region.wanted o (yielded ops a.tmps) = true then Oper.wp Try.prog o a W K Q else E := by
  rw [if_pos (by simp [Region.wanted, hgd])]
  exact wp_append1R s x ho hs hA0 hA hr hx hc hlo hlo2 hn h
theorem wpList_append1R {ops : Array Oper} {rest : List Oper} {o : Oper} {a : Act} {Q : Exit → Act → World → Prop} {W W0 : World} {lo n cap g0 : Nat} {sa : Option Addr} {rows : List (List Int)} {vs : List RowV} {u : RowV} {r : List Int} (hgd : o.guard = none)
    (s x : Operand) (ho : o.op = .call { callee := .builtin .append, args := #[s, x], argTypes := #[37, 37] })
    (hs : a.eval s = .slice sa n cap) (hA0 : ArrRV W0 lo sa n cap rows vs) (hA : ArrRV W lo sa n cap rows vs) (hr : Arr W W0.heap.size u.1 u.2.1 u.2.2 r) (hx : a.eval x = .slice (some ⟨g0, 0, none⟩) 1 1) (hc : W.cell? ⟨g0, 0, none⟩ = some u.val) (hlo : lo ≤ W0.heap.size) (hlo2 : lo ≤ W.heap.size) (hn : n ≤ 1099511627776)
    (h : ∀ g c' w', ArrRV w' lo (some ⟨g, 0, none⟩) (n + 1) c' (rows ++ [r]) (vs ++ [u]) → Stay W.heap.size (blk sa) W w' → ((∃ y, sa = some y ∧ y.block = g) ∨ g = W.heap.size) → wpList Try.prog ops Q rest (a.put o.dst (.slice (some ⟨g, 0, none⟩) (n + 1) c')) w') :
    wpList Try.prog ops Q (o :: rest) a W :=
  wpList_plain hgd fun _ hK => wp_append1R s x ho hs hA0 hA hr hx hc hlo hlo2 hn fun g c' w' h1 h2 h3 => hK _ _ (h g c' w' h1 h2 h3)
end Go.Proofs.Ytpllijjocccaaaa
