/- What the rows' frames share: slices of slices. -/
import Derived.Deep.Matrix
import Derived.Test.YtgifjpaadflboaaFrame
import Derived.Test.YtgifjpaadflboaaRws
namespace Go.Proofs.Ytgifjpaadflboaa
open Go.RowKit Go.ChangeShapes Go.WideShapes Go.ChangeAt

theorem rows_of {W : World} {base : Nat} {x : Addr} {len cap : Nat} {A : Nat → Option Addr} {L C : Nat → Nat} {Z : Nat → List Int} (hl : len ≤ cap) (hm : cap ≤ maxLen)
    (hx : ∀ r, r < cap → W.cell? (x.add r) = some (.slice (A r) (L r) (C r)) ∧ L r ≤ C r ∧ C r ≤ maxLen ∧ (Z r).length = C r ∧ (∀ n ∈ Z r, (Lit.int .i64 n).wf = true) ∧ (A r = none → C r = 0) ∧
        ∀ a', A r = some a' → base ≤ a'.block ∧ ∀ c, c < C r → W.cell? (a'.add c) = some (.int .i64 ((Z r).getD c 0))) :
    RowsAt W (some x) len ((List.range len).map fun r => (Z r).take (L r)) ∧ ∀ r ∈ ((List.range len).map fun r => (Z r).take (L r)), ∀ z ∈ r, -9223372036854775808 ≤ z ∧ z ≤ 9223372036854775807 := by
  have row : ∀ r, r < len → IsRow .i64 W (A r) (L r) (C r) (Z r) := fun r hr => by
    obtain ⟨_, h1, h2, h3, h4, h5, h6⟩ := hx r (by omega)
    cases hA : A r with
    | none =>
      have h0 := h5 hA
      exact .inl ⟨rfl, by omega, h0, List.length_eq_zero_iff.1 (by omega)⟩
    | some y => exact .inr ⟨y, rfl, h1, h2, h3, fun i hi => (h6 y hA).2 i (by omega), h4⟩
  refine ⟨⟨by simp, by unfold maxLen at hm; omega, fun hp => ?_⟩, ?_⟩
  · obtain ⟨b, off, spot⟩ := x
    have h0 := (hx 0 (by omega)).1
    have hspot : spot = none := by simpa [Addr.add] using World.cell?_spot h0
    subst hspot
    have hadd : ∀ j, (⟨b, off, none⟩ : Addr).add j = ⟨b, off + j, none⟩ := fun j => by simp [Addr.add]
    refine ⟨b, off, rfl, World.block_lt_of_cell? W _ h0, fun j hj => ⟨A j, L j, C j, ?_, ?_⟩⟩
    · have := (hx j (by omega)).1
      rwa [hadd] at this
    · have e : (((List.range len).map fun r => (Z r).take (L r)).getD j []) = (Z j).take (L j) := by simp [List.getD_eq_getElem?_getD, hj]
      rw [e]; exact isRow_sl (row j hj)
  · intro r hr z hz
    obtain ⟨j, hj, rfl⟩ := List.mem_map.1 hr
    exact isRow_wf (row j (List.mem_range.1 hj)) z hz
theorem rows_nil (W : World) : RowsAt W none 0 [] ∧ ∀ r ∈ ([] : List (List Int)), ∀ z ∈ r, -9223372036854775808 ≤ z ∧ z ≤ 9223372036854775807 := ⟨⟨rfl, by omega, fun h => absurd h (by omega)⟩, by simp⟩
end Go.Proofs.Ytgifjpaadflboaa
