/- The law of 'for x := range nodes(set) { .. }' where the body writes cells that were made within the loop. -/
import Derived.Test.YtpllijjocccaaaaRwsM
namespace Go.Proofs.Ytpllijjocccaaaa
open Go.RowKit Go.Shelf

/-- whatever is cells lies as it lay -/
def CellsKept (W W' : World) : Prop := ∀ (k : Nat) (es : Array Value) (e : TypeId) (fz : Nat × Nat), W.heap[k]? = some (Obj.cells es e fz) → W'.heap[k]? = some (Obj.cells es e fz)
theorem CellsKept.owns {base : Nat} {W W' : World} (h : CellsKept W W') {e : TypeId} {size n : Nat} {v : Value} {xs : List Value} (hc : W.ownsRow base e size v n xs) : W'.ownsRow base e size v n xs := by
  obtain ⟨h1, h2⟩ := hc
  refine ⟨h1, ?_⟩
  rcases h2 with h2 | ⟨g, cap, cur, hv, hg, hh, r⟩
  · exact .inl h2
  · exact .inr ⟨g, cap, cur, hv, hg, h _ _ _ _ hh, r⟩
theorem CellsKept.arr {lo n cap : Nat} {a : Option Addr} {zs : List Int} {W W' : World} (h : CellsKept W W') (hc : Arr W lo a n cap zs) : Arr W' lo a n cap zs := ⟨h.owns hc.own, hc.len⟩
theorem CellsKept.arrRV {lo n cap : Nat} {a : Option Addr} {rws : List (List Int)} {vs : List RowV} {W W' : World} (h : CellsKept W W') (hc : ArrRV W lo a n cap rws vs) : ArrRV W' lo a n cap rws vs :=
  ⟨h.owns hc.own, hc.len, hc.vlen, fun j v hv => h.arr (hc.row j v hv), hc.main, hc.apart⟩
theorem CellsKept.boxed {W W' : World} {R : Nat} {t : TypeId} {v : Value} (h : CellsKept W W') (hb : Boxed W R t v) : Boxed W' R t v := h _ _ _ _ hb
theorem Turned.kept {lo : Nat} {W W' : World} (h : Turned lo W W') : CellsKept W W' := h.cells

theorem wp_nodesL {g : Operand} {t : Tmp} {assign body : Code} {Q : Exit → Act → World → Prop} {a : Act} {w : World} {Bn s : Nat}
    (hg : a.eval g = .func (.func 102) #[] #[.pointer (some ⟨Bn, 0, none⟩)]) (hs : s < 4096) (hB : Bn < w.heap.size) (hb : w.cell? ⟨Bn, 0, none⟩ = some (.int .i64 s))
    (I Ix : List Nat → World → Prop) (hI : OwnFrom w.heap.size I) (hIx : OwnFrom w.heap.size Ix) (h0 : I [] w)
    (hround : ∀ (l x : Nat) (W : World) (K : Act → World → Prop), x ∈ bitsOf s → (∀ a', (∀ (l : Nat) (pre : List Nat) (W : World), (∀ y ∈ pre, y ∈ bitsOf s) → pre.length < 12 → I pre W →
        body.wpIn (Fence.wide.inRound l) 7 Try.prog (nodePost w.heap.size Bn I Ix (pre ++ [x]) W) a' W) → K a' W) →
      assign.wpIn (Fence.wide.inRound l) 7 Try.prog (Exit.then K (fun _ _ _ => False)) { tmps := a.tmps.setIfInBounds t (.int .i64 x), defers := [] } W)
    (hdone : ∀ (D : Nat) (W : World), w.heap.size ≤ D → I (bitsOf s) W → W.heap[D]? = some (.deferred (some [])) → Q .normal { a with defers := { target := .collected D, args := #[] } :: a.defers } W)
    (hstop : ∀ (D : Nat) (pre : List Nat) (W : World), w.heap.size ≤ D → pre <+: bitsOf s → Ix pre W → W.heap[D]? = some (.deferred (some [])) → Q .ret { a with defers := { target := .collected D, args := #[] } :: a.defers } W) :
    (Code.rangeFunc g #[t] assign body).wp Try.prog Q a w := by
  refine (wpIn_wide (n := 9)).1 ?_
  refine wpIn_rangeFunc_ownH (F := Fence.wide) (n := 9) rfl (by omega) (gf := 102) (lb := #[.pointer (some ⟨Bn, 0, none⟩)]) hg trivial (enters_of Try.func102 (by kernel_rfl) rfl)
    (nodes_stops 8 (by omega) Bn s hs w hB hb) (fun h k => KeepsBox.t h k) (KeepsBox.b hB) (Below.refl _ _) (fun _ => rfl)
    (fun (pre : List (Node s)) W => I (pre.map (·.1)) W) (fun c (pre : List (Node s)) W => c = .ret ∧ Ix (pre.map (·.1)) W)
    (fun s' A B row hs' hg' hr => hI (List.map (fun x : Node s => x.1) s') A B row hs' hg' hr) (fun c s' A B row hs' hg' hr => ⟨hs'.1, hIx (List.map (fun x : Node s => x.1) s') A B row hs'.2 hg' hr⟩) h0
    (fun x a' _ => ∀ (l : Nat) (pre : List Nat) (W : World), (∀ y ∈ pre, y ∈ bitsOf s) → pre.length < 12 → I pre W → body.wpIn (Fence.wide.inRound l) 7 Try.prog (nodePost w.heap.size Bn I Ix (pre ++ [x.1]) W) a' W)
    (fun x a' _ _ _ _ hs' _ _ => hs') ?_ ?_ ?_ ?_
  · intro l pre x W K hi hK
    have h := hround l x.1 W K x.2 (fun a' ha => hK a' W (KeepsFrom.refl _ _) (KeepsBox.refl Bn W) hi ha)
    simpa using h
  · intro l pre x a' W _ _ hi hax hlen
    refine wpIn_mono (hax l (pre.map (·.1)) W (fun y hy => by obtain ⟨z, _, rfl⟩ := List.mem_map.1 hy; exact z.2) (by rw [List.length_map]; exact hlen) hi) ?_
    intro e a' W' hp
    cases e <;> first | exact hp.elim | (simpa [nodePost, ownPostG] using hp)
  · intro D xs W hD hS hi hk
    have hS' : xs.map (·.1) = bitsOf s := hS
    have hi' : I (xs.map (·.1)) W := hi
    rw [hS'] at hi'
    exact hdone D W hD hi' hk
  · rintro D c pre W hD hS ⟨rfl, hi⟩ hk
    exact (wpIn_wide (n := 9)).2 (wp_ret (hstop D _ W hD hS hi hk))

/-- what the body of a round over nodes owes -/
def bodyPostS (B _Bn : Nat) (ex : List Nat) (Fa Fx : List Nat → World → Prop) (xs : List Nat) (W : World) : Exit → Act → World → Prop
  | .normal, _, W' => (∃ exs, Stay W.heap.size exs W W' ∧ ∀ k ∈ exs, k ∈ ex ∨ (B ≤ k ∧ ∃ o, W.heap[k]? = some o ∧ o.isCells = true)) ∧ Fa xs W'
  | .ret, _, W' => (∃ exs, Stay W.heap.size exs W W' ∧ ∀ k ∈ exs, k ∈ ex ∨ (B ≤ k ∧ ∃ o, W.heap[k]? = some o ∧ o.isCells = true)) ∧ Fx xs W'
  | _, _, _ => False
theorem wp_nodes3 {g : Operand} {t : Tmp} {assign body : Code} {Q : Exit → Act → World → Prop} {a : Act} {w : World} {Bn s : Nat}
    (hg : a.eval g = .func (.func 102) #[] #[.pointer (some ⟨Bn, 0, none⟩)]) (hs : s < 4096) (hB : Bn < w.heap.size) (hb : w.cell? ⟨Bn, 0, none⟩ = some (.int .i64 s))
    (ex : List Nat) (hex : ∀ k ∈ ex, k < w.heap.size ∧ k ≠ Bn) (Fa Fx : List Nat → World → Prop)
    (hFa : ∀ pre W W', Fa pre W → CellsKept W W' → Fa pre W') (hFx : ∀ pre W W', Fx pre W → CellsKept W W' → Fx pre W')
    (h0 : Fa [] w)
    (hround : ∀ (l x : Nat) (W : World) (K : Act → World → Prop), x ∈ bitsOf s → (∀ a', (∀ (l : Nat) (pre : List Nat) (W : World), (∀ y ∈ pre, y ∈ bitsOf s) → pre.length < 12 → Stay w.heap.size ex w W → Fa pre W →
        body.wpIn (Fence.wide.inRound l) 7 Try.prog (bodyPostS w.heap.size Bn ex Fa Fx (pre ++ [x]) W) a' W) → K a' W) →
      assign.wpIn (Fence.wide.inRound l) 7 Try.prog (Exit.then K (fun _ _ _ => False)) { tmps := a.tmps.setIfInBounds t (.int .i64 x), defers := [] } W)
    (hdone : ∀ (D : Nat) (W : World), w.heap.size ≤ D → Stay w.heap.size ex w W → Fa (bitsOf s) W → W.heap[D]? = some (.deferred (some [])) → Q .normal { a with defers := { target := .collected D, args := #[] } :: a.defers } W)
    (hstop : ∀ (D : Nat) (pre : List Nat) (W : World), w.heap.size ≤ D → pre <+: bitsOf s → Stay w.heap.size ex w W → Fx pre W → W.heap[D]? = some (.deferred (some [])) → Q .ret { a with defers := { target := .collected D, args := #[] } :: a.defers } W) :
    (Code.rangeFunc g #[t] assign body).wp Try.prog Q a w := by
  have kept : ∀ (A B : World) (row : Option Nat), A.grownBy B row → (∀ r, row = some r → w.heap.size ≤ r ∧ ∃ o : Obj, A.heap[r]? = some o ∧ o.isCells = false) → CellsKept A B := by
    intro A B row hg' hr k es e fz hk
    rw [hg'.block k (Array.getElem?_eq_some_iff.1 hk).1 (fun er => by
      obtain ⟨_, o, ho, hf⟩ := hr k er.symm
      rw [hk] at ho; cases ho; simp [Obj.isCells] at hf)]
    exact hk
  have own : ∀ (F : List Nat → World → Prop), (∀ pre W W', F pre W → CellsKept W W' → F pre W') → OwnFrom w.heap.size (fun pre W => Stay w.heap.size ex w W ∧ F pre W) := by
    intro F hF s' A B row hs' hg' hr
    exact ⟨hs'.1.grown hg' hs'.1.size (fun k e => .inr (hr k e).1), hF _ A B hs'.2 (kept A B row hg' hr)⟩
  refine wp_nodesL hg hs hB hb (fun pre W => Stay w.heap.size ex w W ∧ Fa pre W) (fun pre W => Stay w.heap.size ex w W ∧ Fx pre W) (own Fa hFa) (own Fx hFx) ⟨Stay.refl _ _ _, h0⟩ ?_ ?_ ?_
  · intro l x W K hx hK
    refine hround l x W K hx fun a' ha => hK a' ?_
    rintro l pre W hpre hlen ⟨hS, hF⟩
    have hle : w.heap.size ≤ W.heap.size := hS.size
    have from' : ∀ W', (∃ exs, Stay W.heap.size exs W W' ∧ ∀ k ∈ exs, k ∈ ex ∨ (w.heap.size ≤ k ∧ ∃ o, W.heap[k]? = some o ∧ o.isCells = true)) →
        KeepsFrom w.heap.size W W' ∧ KeepsBox Bn W W' ∧ Stay w.heap.size ex W W' := fun W' ⟨exs, h, hx⟩ => by
      refine ⟨⟨h.size, fun k o hk ho hc => (h.block k (Array.getElem?_eq_some_iff.1 ho).1 (fun hm => ?_)).trans ho⟩, ?_, ⟨h.os, h.tape, h.output, h.size, fun k hk hn => h.block k (by omega) (fun hm => ?_)⟩⟩
      · rcases hx k hm with h1 | ⟨_, o', ho', hc'⟩
        · have := (hex k h1).1; omega
        · rw [ho] at ho'; cases ho'; rw [hc] at hc'; cases hc'
      · refine h.cell (p := ⟨Bn, 0, none⟩) (by show Bn < W.heap.size; omega) (fun hm => ?_)
        rcases hx Bn hm with h1 | ⟨h1, _⟩
        · exact (hex Bn h1).2 rfl
        · omega
      · rcases hx k hm with h1 | ⟨h1, _⟩
        · exact hn h1
        · omega
    refine wpIn_mono (ha l pre W hpre hlen hS hF) ?_
    intro e a' W' hp
    cases e with
    | normal => exact ⟨(from' _ hp.1).1, (from' _ hp.1).2.1, hS.trans (from' _ hp.1).2.2, hp.2⟩
    | ret => exact ⟨(from' _ hp.1).1, hS.trans (from' _ hp.1).2.2, hp.2⟩
    | exit id => exact hp.elim
    | goto l => exact hp.elim
    | panic c => exact hp.elim
    | outgrown => exact hp.elim
  · rintro D W hD ⟨hS, hF⟩ hk
    exact hdone D W hD hS hF hk
  · rintro D pre W hD hpre ⟨hS, hF⟩ hk
    exact hstop D pre W hD hpre hS hF hk
/-- the law in the words of 'Stay', with how many came before -/
theorem wp_nodes2L {g : Operand} {t : Tmp} {assign body : Code} {Q : Exit → Act → World → Prop} {a : Act} {w : World} {Bn s : Nat}
    (hg : a.eval g = .func (.func 102) #[] #[.pointer (some ⟨Bn, 0, none⟩)]) (hs : s < 4096) (hB : Bn < w.heap.size) (hb : w.cell? ⟨Bn, 0, none⟩ = some (.int .i64 s))
    (ex : List Nat) (hex : ∀ k ∈ ex, k < w.heap.size ∧ k ≠ Bn) (Fa Fx : List Nat → World → Prop)
    (hFa : ∀ pre W W', Fa pre W → (∀ k ∈ ex, W'.heap[k]? = W.heap[k]?) → Fa pre W') (hFx : ∀ pre W W', Fx pre W → (∀ k ∈ ex, W'.heap[k]? = W.heap[k]?) → Fx pre W')
    (h0 : Fa [] w)
    (hround : ∀ (l x : Nat) (W : World) (K : Act → World → Prop), x ∈ bitsOf s → (∀ a', (∀ (l : Nat) (pre : List Nat) (W : World), (∀ y ∈ pre, y ∈ bitsOf s) → pre.length < 12 → Stay w.heap.size ex w W → Fa pre W →
        body.wpIn (Fence.wide.inRound l) 7 Try.prog (bodyPostN ex Fa Fx (pre ++ [x]) W) a' W) → K a' W) →
      assign.wpIn (Fence.wide.inRound l) 7 Try.prog (Exit.then K (fun _ _ _ => False)) { tmps := a.tmps.setIfInBounds t (.int .i64 x), defers := [] } W)
    (hdone : ∀ (D : Nat) (W : World), w.heap.size ≤ D → Stay w.heap.size ex w W → Fa (bitsOf s) W → W.heap[D]? = some (.deferred (some [])) → Q .normal { a with defers := { target := .collected D, args := #[] } :: a.defers } W)
    (hstop : ∀ (D : Nat) (pre : List Nat) (W : World), w.heap.size ≤ D → pre <+: bitsOf s → Stay w.heap.size ex w W → Fx pre W → W.heap[D]? = some (.deferred (some [])) → Q .ret { a with defers := { target := .collected D, args := #[] } :: a.defers } W) :
    (Code.rangeFunc g #[t] assign body).wp Try.prog Q a w := by
  have own : ∀ (F : List Nat → World → Prop), (∀ pre W W', F pre W → (∀ k ∈ ex, W'.heap[k]? = W.heap[k]?) → F pre W') → OwnFrom w.heap.size (fun pre W => Stay w.heap.size ex w W ∧ F pre W) := by
    intro F hF s' A B row hs' hg' hr
    refine ⟨hs'.1.grown hg' hs'.1.size (fun k e => .inr (hr k e).1), hF _ A B hs'.2 fun k hk => hg'.block k (by have := (hex k hk).1; have := hs'.1.size; omega) (fun e => ?_)⟩
    have h1 := (hr k e.symm).1
    have h2 := (hex k hk).1
    omega
  refine wp_nodesL hg hs hB hb (fun pre W => Stay w.heap.size ex w W ∧ Fa pre W) (fun pre W => Stay w.heap.size ex w W ∧ Fx pre W) (own Fa hFa) (own Fx hFx) ⟨Stay.refl _ _ _, h0⟩ ?_ ?_ ?_
  · intro l x W K hx hK
    refine hround l x W K hx fun a' ha => hK a' ?_
    rintro l pre W hpre hlen ⟨hS, hF⟩
    have hle : w.heap.size ≤ W.heap.size := hS.size
    have from' : ∀ W', Stay W.heap.size ex W W' → KeepsFrom w.heap.size W W' := fun W' h => ⟨h.size, fun k o hk ho hc => (h.block k (Array.getElem?_eq_some_iff.1 ho).1 (fun hm => by have := (hex k hm).1; omega)).trans ho⟩
    refine wpIn_mono (ha l pre W hpre hlen hS hF) ?_
    intro e a' W' hp
    cases e with
    | normal => exact ⟨from' _ hp.1, hp.1.cell (p := ⟨Bn, 0, none⟩) (by show Bn < W.heap.size; omega) (fun hm => (hex Bn hm).2 rfl), hS.trans (hp.1.mono hle), hp.2⟩
    | ret => exact ⟨from' _ hp.1, hS.trans (hp.1.mono hle), hp.2⟩
    | exit id => exact hp.elim
    | goto l => exact hp.elim
    | panic c => exact hp.elim
    | outgrown => exact hp.elim
  · rintro D W hD ⟨hS, hF⟩ hk
    exact hdone D W hD hS hF hk
  · rintro D pre W hD hpre ⟨hS, hF⟩ hk
    exact hstop D pre W hD hpre hS hF hk
end Go.Proofs.Ytpllijjocccaaaa
