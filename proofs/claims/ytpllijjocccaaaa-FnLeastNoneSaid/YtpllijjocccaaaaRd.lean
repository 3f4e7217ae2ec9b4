/- The reader of codes: l6Open, pick. -/
import Derived.Test.YtpllijjocccaaaaRwsM
namespace Go.Proofs.Ytpllijjocccaaaa
open Go.RowKit Go.Shelf
attribute [local go_sem] Oper.semAt_some

/-- the slice '.slice a n _' reads as bytes -/
structure BytesAt (w : World) (a : Option Addr) (n cap : Nat) : Prop where
  bd : n ≤ 9223372036854775807
  le : n ≤ cap
  at' : 0 < n → ∃ b off, a = some ⟨b, off, none⟩ ∧ b < w.heap.size ∧ ∀ j, j < n → ∃ v : Nat, v < 256 ∧ w.cell? ⟨b, off + j, none⟩ = some (.int .u8 v)
theorem BytesAt.below {w w' : World} {a : Option Addr} {n cap : Nat} (h : BytesAt w a n cap) (hb : Below w.heap.size w w') : BytesAt w' a n cap :=
  ⟨h.bd, h.le, fun hn => by
    obtain ⟨b, off, e, hlt, hc⟩ := h.at' hn
    exact ⟨b, off, e, Nat.lt_of_lt_of_le hlt hb.size, fun j hj => by
      obtain ⟨v, hv, h1⟩ := hc j hj
      exact ⟨v, hv, (hb.cell (p := ⟨b, off + j, none⟩) hlt).trans h1⟩⟩⟩

/-- block R holds a reader whose bytes lie below B, at place p -/
structure RdAt (w : World) (B R : Nat) (p : Nat) : Prop where
  lo : B ≤ R
  at' : ∃ a n cap, w.heap[R]? = some (.cells #[.slice a n cap, .int .i64 p] 79 (0, 0)) ∧ n ≤ 2000 ∧ (0 < n → ∃ b off, a = some ⟨b, off, none⟩ ∧ b < B ∧ ∀ j, j < n → ∃ v : Nat, v < 256 ∧ w.cell? ⟨b, off + j, none⟩ = some (.int .u8 v))
theorem RdAt.lt {w : World} {B R p : Nat} (h : RdAt w B R p) : R < w.heap.size := by
  obtain ⟨a, n, cap, h1, _⟩ := h.at'
  exact (Array.getElem?_eq_some_iff.1 h1).1
theorem RdAt.stay {w w' : World} {B R p n : Nat} {ex : List Nat} (h : RdAt w B R p) (hs : Stay n ex w w') (hR : R < n) (hx : ∀ k ∈ ex, B ≤ k ∧ k ≠ R) : RdAt w' B R p := by
  refine ⟨h.lo, ?_⟩
  obtain ⟨a, m, cap, h1, h2, h3⟩ := h.at'
  refine ⟨a, m, cap, (hs.block R hR fun hm => (hx R hm).2 rfl).trans h1, h2, fun hm => ?_⟩
  obtain ⟨b, off, e, hb, hc⟩ := h3 hm
  have := h.lo
  exact ⟨b, off, e, hb, fun j hj => by
    obtain ⟨v, hv, h4⟩ := hc j hj
    exact ⟨v, hv, (hs.cell (p := ⟨b, off + j, none⟩) (by show b < n; omega) (fun hm => by have := (hx b hm).1; omega)).trans h4⟩⟩
theorem RdAt.below {w w' : World} {B R p : Nat} (h : RdAt w B R p) (hb : Below w.heap.size w w') : RdAt w' B R p := h.stay (Below.stay hb []) h.lt (by simp)

def inPick (n : Int) (x : Nat) : Prop := ((x : Int) < n ∨ x = 0) ∧ x < 1099511627776
theorem inPick_lt {n : Int} {x : Nat} (h : inPick n x) (hn : 1 ≤ n) : (x : Int) < n := by rcases h.1 with h | h <;> omega
theorem inPick_zero {n : Int} : inPick n 0 := ⟨.inr rfl, by omega⟩
theorem inPick_mod {n : Int} {y : Int} (hn : 1 ≤ n) (hb : n ≤ 1099511627776) : ∃ x : Nat, y % n = x ∧ inPick n x := by
  have h1 := Int.emod_nonneg y (show n ≠ 0 by omega)
  have h2 := Int.emod_lt_of_pos y (show 0 < n by omega)
  exact ⟨(y % n).toNat, by omega, .inl (by omega), by omega⟩
/-- what pick leaves -/
def Picked (B R p : Nat) (n : Int) (w : World) (e : Ending) (w' : World) : Prop := ∃ x : Nat, inPick n x ∧ e = .returned (.int .i64 x) ∧ RdAt w' B R (p + 1) ∧ Stay w.heap.size [R] w w'
theorem rd_set {w : World} {B R p : Nat} (h : RdAt w B R p) (q : Nat) : RdAt ((w.setCell ⟨R, 1, none⟩ (.int .i64 ((p + 1 : Nat) : Int))).drewN q) B R (p + 1) ∧ Stay w.heap.size [R] w ((w.setCell ⟨R, 1, none⟩ (.int .i64 ((p + 1 : Nat) : Int))).drewN q) := by
  have hS : Stay w.heap.size [R] w (w.setCell ⟨R, 1, none⟩ (.int .i64 ((p + 1 : Nat) : Int))) := (Stay.refl _ _ _).setCell (p := ⟨R, 1, none⟩) (.inl (by simp)) _
  refine ⟨⟨h.lo, ?_⟩, hS.trans (Below.stay (bdrewN _ q |>.mono (by simp [World.setCell])) _)⟩
  obtain ⟨a, m, cap, h1, h2, h3⟩ := h.at'
  refine ⟨a, m, cap, ?_, h2, fun hm => ?_⟩
  · show (w.setCell ⟨R, 1, none⟩ _).heap[R]? = _
    simp [World.setCell, Array.getElem?_modify, h1]
  · obtain ⟨b, off, e, hb, hc⟩ := h3 hm
    have h4 := h.lo
    have h5 := h.lt
    exact ⟨b, off, e, hb, fun j hj => by
      obtain ⟨v, hv, h6⟩ := hc j hj
      exact ⟨v, hv, (hS.cell (p := ⟨b, off + j, none⟩) (by show b < _; omega) (by simp; omega)).trans h6⟩⟩
end Go.Proofs.Ytpllijjocccaaaa
