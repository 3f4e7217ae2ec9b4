/- Small facts that the walks of laws use. -/
import Derived.Test.YtipimkfmkdihpaaRwsL
import Derived.Test.YtipimkfmkdihpaaRws
namespace Go.Proofs.Ytipimkfmkdihpaa
open Go.RowKit Go.Shelf
attribute [local go_sem] Oper.semAt_some

/-- how many of the first k nodes lie in s -/
def cardTo (s k : Nat) : Nat := (List.range k).countP fun i => s.testBit i
theorem cardTo_succ (s k : Nat) : cardTo s (k + 1) = cardTo s k + if s.testBit k then 1 else 0 := by
  unfold cardTo; rw [List.range_succ, List.countP_append]; congr 1; cases h : s.testBit k <;> simp [h]
theorem cardTo_le (s k : Nat) : cardTo s k ≤ k := by
  unfold cardTo; have := List.countP_le_length (p := fun i => s.testBit i) (l := List.range k); simpa using this
theorem cardTo_12 (s : Nat) : cardTo s 12 = card s := (card_eq s).symm
theorem cardTo_past {s : Nat} (hs : s < 4096) : ∀ k, 12 ≤ k → cardTo s k = card s := by
  intro k hk
  obtain ⟨d, rfl⟩ := Nat.le.dest hk
  induction d with
  | zero => exact cardTo_12 s
  | succ d ih =>
    rw [← Nat.add_assoc, cardTo_succ, ih (by omega), Nat.testBit_lt_two_pow (Nat.lt_of_lt_of_le hs (Nat.pow_le_pow_right (n := 2) (by omega) (show 12 ≤ 12 + d by omega)))]
    simp
end Go.Proofs.Ytipimkfmkdihpaa
namespace Go.Proofs.Ytipimkfmkdihpaa
open Go.RowKit Go.Shelf

theorem SlAt.addr {w : World} {a : Option Addr} {n : Nat} {zs : List Int} (h : SlAt w a n zs) (hn : 0 < n) : ∃ b off, a = some ⟨b, off, none⟩ := by
  obtain ⟨b, off, e, _, _⟩ := h.at' hn; exact ⟨b, off, e⟩
theorem SlAt.lt1 {w : World} {b off n : Nat} {zs : List Int} (h : SlAt w (some ⟨b, off, none⟩) n zs) (hn : 0 < n) : b < w.heap.size := by
  obtain ⟨b', off', e, hb, _⟩ := h.at' hn; cases e; exact hb
theorem SlAt.at1 {w : World} {b off n : Nat} {zs : List Int} (h : SlAt w (some ⟨b, off, none⟩) n zs) {j : Nat} (hj : j < n) : w.cell? ⟨b, off + j, none⟩ = some (.int .i64 (zs[j]?.getD 0)) := by
  obtain ⟨b', off', e, _, hc⟩ := h.at' (by omega); cases e; rw [← List.getD_eq_getElem?_getD]; exact hc j hj
theorem RowsAt.addr {w : World} {a : Option Addr} {n : Nat} {rows : List (List Int)} (h : RowsAt w a n rows) (hn : 0 < n) : ∃ b off, a = some ⟨b, off, none⟩ := by
  obtain ⟨b, off, e, _, _⟩ := h.at' hn; exact ⟨b, off, e⟩
theorem RowsAt.at1 {w : World} {b off n : Nat} {rows : List (List Int)} (h : RowsAt w (some ⟨b, off, none⟩) n rows) {j : Nat} (hj : j < n) :
    ∃ aj nj cj, w.cell? ⟨b, off + j, none⟩ = some (.slice aj nj cj) ∧ SlAt w aj nj (rows.getD j []) := by
  obtain ⟨b', off', e, _, hc⟩ := h.at' (by omega); cases e; exact hc j hj
theorem RowsAt.lt1 {w : World} {b off n : Nat} {rows : List (List Int)} (h : RowsAt w (some ⟨b, off, none⟩) n rows) (hn : 0 < n) : b < w.heap.size := by
  obtain ⟨b', off', e, hb, _⟩ := h.at' hn; cases e; exact hb
theorem cell_drewN {w : World} {b off : Nat} (hb : b < w.heap.size) (q : Nat) : (w.drewN q).cell? ⟨b, off, none⟩ = w.cell? ⟨b, off, none⟩ := (bdrewN w q).cell (p := ⟨b, off, none⟩) hb
/-- a bit of a set -/
theorem bit_nat (s i : Nat) (hs : s ≤ 4096) : bits BinOp.and IntKind.i64 ((s : Int) / 2 ^ i) 1 = if s.testBit i then 1 else 0 := by
  have hb := bit_val s i (by omega) (by omega)
  rwa [Int.toNat_natCast, Int.toNat_natCast] at hb
theorem bit_yes {s i : Nat} (hs : s ≤ 4096) (h : s.testBit i = true) : bits BinOp.and IntKind.i64 ((s : Int) / 2 ^ i) 1 = 1 := by rw [bit_nat s i hs, h]; rfl
theorem bit_no {s i : Nat} (hs : s ≤ 4096) (h : s.testBit i = false) : bits BinOp.and IntKind.i64 ((s : Int) / 2 ^ i) 1 = 0 := by rw [bit_nat s i hs, h]; rfl
theorem andNot_nat {a b d : Nat} (ha : a ≤ 4096) (hb : b ≤ 4096) (h : bdiff a b = d) : bits BinOp.andNot IntKind.i64 (a : Int) (b : Int) = (d : Int) := by
  rw [i64_andNot_nat _ _ (by omega) (by omega), h]
/-- a power of two up to 2 ^ 12, by a name -/
theorem pow_name {i : Nat} (hi : i ≤ 12) : ∃ m : Nat, 2 ^ i = m ∧ (2 : Int) ^ i = (m : Int) ∧ 1 ≤ m ∧ m ≤ 4096 ∧ IntKind.i64.wrap (m : Int) = m := by
  have h1 := Nat.two_pow_pos i
  have h2 : 2 ^ i ≤ 4096 := Nat.pow_le_pow_right (n := 2) (by omega) hi
  exact ⟨2 ^ i, rfl, by simp, h1, h2, IntWalk.i64_in _ (by omega)⟩
end Go.Proofs.Ytipimkfmkdihpaa
