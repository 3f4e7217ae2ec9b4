/- CodeLeast, CodeCount of the reference. -/
import Derived.Test.YtojfafmfnblocaaSIs
namespace Go.Proofs.Ytojfafmfnblocaa
open Go.RowKit Go.Shelf
attribute [local go_sem] Oper.semAt_some

theorem leastTo_next' {P : Nat → Bool} {k : Nat} {acc : Option Nat} (h : leastTo P k = acc) : leastTo P (k + 1) = leastStep P acc k := by rw [leastTo_succ, h]
def lstN (n : Nat) (acc : Option Nat) : Int := match acc with | none => (n : Int) + 1 | some b => (card b : Int)
theorem lstN_none (n : Nat) : lstN n none = (n : Int) + 1 := rfl
theorem lstN_some (n b : Nat) : lstN n (some b) = (card b : Int) := rfl
end Go.Proofs.Ytojfafmfnblocaa
