/- Slices of integers: read ('SlAt'), owned by the call ('Arr'); the helpers of the laws. -/
import Derived.Test.YtpllijjocccaaaaNodes
import Derived.Deep.QuietTactic
import Derived.BigQuiet
namespace Go.Proofs.Ytpllijjocccaaaa
open Go.RowKit Go.Shelf
attribute [local go_sem] Oper.semAt_some

theorem bnext {B : Nat} {w w1 w2 : World} (h : Below B w w1) (k : Below w1.heap.size w1 w2) (hB : B ≤ w.heap.size := by first | exact Nat.le_refl _ | omega) : Below B w w2 := h.trans (k.mono (Nat.le_trans hB h.size))
theorem bdrewN (w : World) (q : Nat) : Below w.heap.size w (w.drewN q) := ⟨rfl, rfl, rfl, Nat.le_refl _, fun _ _ => rfl⟩
/-- the slice value '.slice a n _' reads as the integers zs -/
structure SlAt (w : World) (a : Option Addr) (n : Nat) (zs : List Int) : Prop where
  len : n = zs.length
  bd : n ≤ 9223372036854775807
  at' : 0 < n → ∃ b off, a = some ⟨b, off, none⟩ ∧ b < w.heap.size ∧ ∀ j, j < n → w.cell? ⟨b, off + j, none⟩ = some (.int .i64 (zs.getD j 0))
theorem SlAt.below {w w' : World} {a : Option Addr} {n : Nat} {zs : List Int} (h : SlAt w a n zs) (hb : Below w.heap.size w w') : SlAt w' a n zs :=
  ⟨h.len, h.bd, fun hn => by
    obtain ⟨b, off, e, hlt, hc⟩ := h.at' hn
    exact ⟨b, off, e, Nat.lt_of_lt_of_le hlt hb.size, fun j hj => (hb.cell (p := ⟨b, off + j, none⟩) hlt).trans (hc j hj)⟩⟩
theorem SlAt.stay {w w' : World} {ex : List Nat} {a : Option Addr} {n : Nat} {zs : List Int} (h : SlAt w a n zs) (hb : Stay w.heap.size ex w w') (hx : ∀ b ∈ ex, ∀ x, a = some x → x.block ≠ b) : SlAt w' a n zs :=
  ⟨h.len, h.bd, fun hn => by
    obtain ⟨b, off, e, hlt, hc⟩ := h.at' hn
    exact ⟨b, off, e, Nat.lt_of_lt_of_le hlt hb.size, fun j hj => (hb.cell (p := ⟨b, off + j, none⟩) hlt (fun hm => hx _ hm _ e rfl)).trans (hc j hj)⟩⟩
theorem SlAt.drew {w : World} {a : Option Addr} {n : Nat} {zs : List Int} (h : SlAt w a n zs) : SlAt w.drew a n zs := h.below ((Below.refl _ _).drew)
theorem SlAt.nil (w : World) (a : Option Addr) : SlAt w a 0 [] := ⟨rfl, by omega, fun h => absurd h (by omega)⟩

/-- the slice '.slice a n cap' owns, in a block from lo on, the integers zs -/
structure Arr (w : World) (lo : Nat) (a : Option Addr) (n cap : Nat) (zs : List Int) : Prop where
  own : w.ownsRow lo 3 1 (.slice a n cap) n (zs.map (Value.int .i64))
  len : n = zs.length
theorem Arr.form {w : World} {lo n cap : Nat} {a : Option Addr} {zs : List Int} (h : Arr w lo a n cap zs) : (a = none ∧ n = 0 ∧ cap = 0) ∨ ∃ g cur, a = some ⟨g, 0, none⟩ ∧ lo ≤ g ∧ w.heap[g]? = some (.cells cur 3 (0, 0)) ∧ n ≤ cap ∧ cap ≤ maxLen ∧ cur.size = cap ∧ cur.toList.take n = zs.map (Value.int .i64) := by
  rcases h.own.2 with ⟨h1, h2⟩ | ⟨g, c, cur, hv, hg, hh, hn, hm, hs, ht⟩
  · simp only [Value.slice.injEq] at h1
    exact .inl ⟨h1.1, h2, h1.2.2⟩
  · simp only [Value.slice.injEq] at hv
    obtain ⟨rfl, _, rfl⟩ := hv
    exact .inr ⟨g, cur, rfl, hg, hh, hn, hm, by simpa using hs, by simpa using ht⟩
theorem Arr.sl {w : World} {lo n cap : Nat} {a : Option Addr} {zs : List Int} (h : Arr w lo a n cap zs) : SlAt w a n zs := by
  rcases h.form with ⟨_, rfl, _⟩ | ⟨g, cur, rfl, hlo, hg, hn, hm, hs, ht⟩
  · exact ⟨h.len, by omega, fun h => absurd h (by omega)⟩
  · refine ⟨h.len, by simp [maxLen] at hm; omega, fun _ => ⟨g, 0, rfl, (Array.getElem?_eq_some_iff.1 hg).1, fun j hj => ?_⟩⟩
    have hj' : j < zs.length := by have := h.len; omega
    have e := congrArg (fun l : List Value => l[j]?) ht
    simp only [List.getElem?_take, if_pos hj, List.getElem?_map] at e
    rw [Nat.zero_add]
    unfold World.cell?
    simp only [hg]
    simp only [Array.getElem?_toList] at e
    simp [e, List.getElem?_eq_getElem hj', List.getD_eq_getElem?_getD]
theorem Arr.kept {w w' : World} {lo n cap : Nat} {a : Option Addr} {zs : List Int} {row : Option Nat} (h : Arr w lo a n cap zs) (hg : w.grownBy w' row) (hne : ∀ x, a = some x → some x.block ≠ row) : Arr w' lo a n cap zs :=
  ⟨h.own.kept hg (by cases a with
    | none => exact .inl rfl
    | some x => exact .inr (hne x rfl)), h.len⟩
theorem Arr.lt {w : World} {lo n cap : Nat} {a : Option Addr} {zs : List Int} (h : Arr w lo a n cap zs) : ∀ x, a = some x → lo ≤ x.block ∧ x.block < w.heap.size := fun x hx => h.own.lt x.block (by rw [hx]; rfl)
theorem Arr.stay {w w' : World} {lo n cap : Nat} {ex : List Nat} {a : Option Addr} {zs : List Int} (h : Arr w lo a n cap zs) (hb : Stay w.heap.size ex w w') (hx : ∀ x, a = some x → x.block ∉ ex) : Arr w' lo a n cap zs := by
  refine ⟨⟨h.own.1, ?_⟩, h.len⟩
  rcases h.own.2 with h1 | ⟨g, c, cur, hv, hg, hh, r⟩
  · exact .inl h1
  · refine .inr ⟨g, c, cur, hv, hg, ?_, r⟩
    simp only [Value.slice.injEq] at hv
    obtain ⟨rfl, _, rfl⟩ := hv
    exact (hb.block g (Array.getElem?_eq_some_iff.1 hh).1 (hx _ rfl)).trans hh
theorem Arr.below {w w' : World} {lo n cap : Nat} {a : Option Addr} {zs : List Int} (h : Arr w lo a n cap zs) (hb : Below w.heap.size w w') : Arr w' lo a n cap zs := h.stay (Below.stay hb []) (fun _ _ => by simp)
theorem Arr.drew {w : World} {lo n cap : Nat} {a : Option Addr} {zs : List Int} (h : Arr w lo a n cap zs) : Arr w.drew lo a n cap zs := h.below ((Below.refl _ _).drew)
theorem Arr.mono {w : World} {lo lo' n cap : Nat} {a : Option Addr} {zs : List Int} (h : Arr w lo a n cap zs) (hl : lo' ≤ lo) : Arr w lo' a n cap zs := by
  refine ⟨⟨h.own.1, ?_⟩, h.len⟩
  rcases h.own.2 with h1 | ⟨g, c, cur, hv, hg, r⟩
  · exact .inl h1
  · exact .inr ⟨g, c, cur, hv, Nat.le_trans hl hg, r⟩
theorem Arr.set {w : World} {lo n cap g : Nat} {zs : List Int} (h : Arr w lo (some ⟨g, 0, none⟩) n cap zs) (j : Nat) (u : Int) : Arr (w.setCell ⟨g, j, none⟩ (.int .i64 u)) lo (some ⟨g, 0, none⟩) n cap (zs.set j u) :=
  ⟨by rw [List.map_set]; exact (h.own.stored j _).1, by rw [List.length_set]; exact h.len⟩
theorem Arr.cellAt {w : World} {lo n cap g : Nat} {zs : List Int} (h : Arr w lo (some ⟨g, 0, none⟩) n cap zs) (j : Nat) (hj : j < n) : w.cell? ⟨g, j, none⟩ = some (.int .i64 (zs.getD j 0)) := by
  rw [h.own.cellAt j (by omega), List.getElem?_map]
  have := h.len
  rw [List.getElem?_eq_getElem (by omega), List.getD_eq_getElem?_getD, List.getElem?_eq_getElem (by omega)]; rfl
theorem Arr.frozenAt {w : World} {lo n cap g : Nat} {zs : List Int} (h : Arr w lo (some ⟨g, 0, none⟩) n cap zs) (j : Nat) : w.frozen? ⟨g, j, none⟩ = false := h.own.frozenAt j
theorem Turned.arr {lo base n cap : Nat} {a : Option Addr} {zs : List Int} {W W' : World} (h : Turned lo W W') (hc : Arr W base a n cap zs) : Arr W' base a n cap zs := ⟨Turned.owns h hc.own, hc.len⟩

theorem infoInt : (Try.prog.info? 3).map (fun i => (i.zero, i.size, i.bytes)) = some (some (.int .i64 0), 1, 8) := by kernel_rfl
theorem set_agree {ys zs : List Int} {k : Nat} (hk : k < zs.length) (hl : ys.length = zs.length) (h : ∀ j, j < k → ys[j]? = zs[j]?) : ∀ j, j < k + 1 → (ys.set k (zs[k]?.getD 0))[j]? = zs[j]? := by
  intro j hj
  rw [List.getElem?_set]
  by_cases e : k = j
  · subst e
    rw [if_pos rfl, if_pos (by omega), List.getElem?_eq_getElem hk]; rfl
  · rw [if_neg e]; exact h j (by omega)
theorem agree_all {ys zs : List Int} (hl : ys.length = zs.length) (h : ∀ j, j < zs.length → ys[j]? = zs[j]?) : ys = zs := by
  apply List.ext_getElem?
  intro j
  by_cases hj : j < zs.length
  · exact h j hj
  · rw [List.getElem?_eq_none (by omega), List.getElem?_eq_none (by omega)]

theorem SlAt.drewN {w : World} {a : Option Addr} {n : Nat} {zs : List Int} (h : SlAt w a n zs) (m : Nat) : SlAt (w.drewN m) a n zs := by
  exact h.below ⟨rfl, rfl, rfl, Nat.le_refl _, fun _ _ => rfl⟩
theorem ne_of_at {xs ys : List Int} {k : Nat} (h : ¬ xs[k]?.getD 0 = ys[k]?.getD 0) : decide (xs = ys) = false := decide_eq_false fun e => h (by rw [e])
theorem eq_of_at {xs ys : List Int} {n : Nat} (h1 : n = xs.length) (h2 : n = ys.length) (h : ∀ j, j < n → xs[j]?.getD 0 = ys[j]?.getD 0) : decide (xs = ys) = true := by
  refine decide_eq_true (List.ext_getElem (by omega) fun j hj hj' => ?_)
  have h3 := h j (by omega)
  rw [List.getElem?_eq_getElem hj, List.getElem?_eq_getElem hj'] at h3
  simpa using h3
/-- the block that a slice leads to -/
def blk : Option Addr → List Nat
  | none => []
  | some x => [x.block]
theorem blk_lo {w : World} {lo n cap : Nat} {a : Option Addr} {zs : List Int} (h : Arr w lo a n cap zs) : ∀ k ∈ blk a, lo ≤ k := by
  cases a with
  | none => simp [blk]
  | some x => intro k hk; simp [blk] at hk; subst hk; exact (h.lt x rfl).1
theorem sbelow {lo : Nat} {ex : List Nat} {w W w2 : World} (hB : Below lo w W) (hS : Stay W.heap.size ex W w2) (hex : ∀ k ∈ ex, lo ≤ k) (hlo : lo ≤ W.heap.size) : Below lo w w2 := hB.trans (hS.below hlo hex)
def upFrom (k : Int) (n : Nat) : List Int := (List.range n).map fun (i : Nat) => k + (i : Int)
theorem upFrom_len (k : Int) (n : Nat) : (upFrom k n).length = n := by simp [upFrom]
theorem upFrom_at (k : Int) (n i : Nat) (h : i < n) : (upFrom k n)[i]?.getD 0 = k + i := by simp [upFrom, h]
theorem apart_new {W Wc : World} {lo n cap n' cap' : Nat} {a b : Option Addr} {zs ys : List Int} (hN : Arr W Wc.heap.size a n cap zs) (hO : Arr Wc lo b n' cap' ys) : ∀ x, a = some x → x.block ∉ blk b := by
  intro x hx hm
  cases b with
  | none => simp [blk] at hm
  | some y =>
    simp [blk] at hm
    have h1 := (hN.lt x hx).1
    have h2 := (hO.lt y rfl).2
    omega
theorem apart_old {W Wc : World} {lo n cap n' cap' : Nat} {a b : Option Addr} {zs ys : List Int} (hO : Arr Wc lo a n cap zs) (hN : Arr W Wc.heap.size b n' cap' ys) : ∀ x, a = some x → x.block ∉ blk b := by
  intro x hx hm
  cases b with
  | none => simp [blk] at hm
  | some y =>
    simp [blk] at hm
    have h1 := (hO.lt x hx).2
    have h2 := (hN.lt y rfl).1
    omega

theorem owned_some {w : World} {lo n : Nat} {v : Value} {xs : List Value} {e : TypeId} (h : w.ownsRow lo e 1 v n xs) (hn : 1 ≤ n) : ∃ g c, v = .slice (some ⟨g, 0, none⟩) n c := by
  rcases h.2 with ⟨_, h0⟩ | ⟨g, c, cur, rfl, r⟩
  · omega
  · exact ⟨g, c, rfl⟩
end Go.Proofs.Ytpllijjocccaaaa
