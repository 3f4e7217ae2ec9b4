/- The statement FnKind: what is drawn, and that kinds are connected. -/
import Derived.Test.YtgifjpaadflboaaKind
import Derived.Test.YtgifjpaadflboaaPick
import Derived.Test.YtgifjpaadflboaaSame
namespace Go.Proofs.Ytgifjpaadflboaa
open Go.RowKit Go.Shelf

theorem kinds_conn : ∀ c, c < 4 → ∀ n : Nat, n < 13 → n = 0 ∨ (c = 1 ∧ n < 3) ∨ connB (kTo c n n) = true := by decide +kernel
set_option maxRecDepth 100000 in
set_option maxHeartbeats 1000000 in
theorem DrawGraphKind_any (a : Option Addr) (n cap : Nat) (w : World) (h : BytesAt w a n cap) :
    Calls Try.prog 42 #[.slice a n cap] w fun e w' => ∃ x y : Nat, e = .returned (.tuple #[.int .i64 x, .int .i64 y]) ∧ x < 5 ∧ y < 14 ∧ Below w.heap.size w w' := by
  go_enter Try.func42, Try.ntmps42
  go_wp2_with fail
  refine (l6Open_any _ _ _ _ h).mono ?_
  rintro e w1 ⟨R, rfl, hR, hb1⟩
  go_wp2_with fail
  refine (pick_any _ _ _ _ _ hR (by omega) (by omega)).mono ?_
  rintro e w2 ⟨x, hx, rfl, hR2, hS2⟩
  have hx' := inPick_lt hx (by omega)
  go_wp2_with fail
  refine (pick_any _ _ _ _ _ hR2 (by omega) (by omega)).mono ?_
  rintro e w3 ⟨y, hy, rfl, hR3, hS3⟩
  have hy' := inPick_lt hy (by omega)
  go_wp2
  go_ret2
  have hlo := hR.lo
  exact ⟨x, y, rfl, by omega, by omega, (hb1.trans (hS2.below hb1.size (by simp; omega))).trans (hS3.below (Nat.le_trans hb1.size hS2.size) (by simp; omega))⟩
end Go.Proofs.Ytgifjpaadflboaa
