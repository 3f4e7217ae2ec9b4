/- impl.size: how many nodes a set has. -/
import Derived.Test.YtmaogoeclndfbaaDistM
namespace Go.Proofs.Ytmaogoeclndfbaa
open Go.RowKit Go.Shelf

def oA (x : Int) : Int := IntKind.u64.wrap (bits BinOp.and IntKind.u64 (x / 2) 6148914691236517205 + bits BinOp.and IntKind.u64 x 6148914691236517205)
def oB (x : Int) : Int := IntKind.u64.wrap (bits BinOp.and IntKind.u64 (x / 4) 3689348814741910323 + bits BinOp.and IntKind.u64 x 3689348814741910323)
def oC (x : Int) : Int := bits BinOp.and IntKind.u64 (IntKind.u64.wrap (x / 16 + x)) 1085102592571150095
def oD (x : Int) : Int := IntKind.u64.wrap (x + x / 256)
def oE (x : Int) : Int := IntKind.u64.wrap (x + x / 65536)
def oF (x : Int) : Int := IntKind.u64.wrap (x + x / 4294967296)
def oG (x : Int) : Int := bits BinOp.and IntKind.i64 (wrap64 x) 127
def ones (x : Int) : Int := oG (oF (oE (oD (oC (oB (oA x))))))
theorem ones_pairs : ∀ a : Nat, a < 64 → ∀ b : Nat, b < 64 → ones ((64 * a + b : Nat) : Int) = card (64 * a + b) := by decide +kernel
theorem ones_small (x : Nat) (hx : x < 4096) : ones x = card x := by
  have h := ones_pairs (x / 64) (by omega) (x % 64) (by omega)
  rw [show 64 * (x / 64) + x % 64 = x by omega] at h
  exact h
theorem oG_bd (x : Int) : 0 ≤ oG x ∧ oG x ≤ 127 := by
  unfold oG
  show 0 ≤ IntKind.i64.wrap ((BitVec.ofInt 64 (wrap64 x) &&& BitVec.ofInt 64 (127 : Int)).toNat : Int) ∧ IntKind.i64.wrap ((BitVec.ofInt 64 (wrap64 x) &&& BitVec.ofInt 64 (127 : Int)).toNat : Int) ≤ 127
  have h : (BitVec.ofInt 64 (wrap64 x) &&& BitVec.ofInt 64 (127 : Int)).toNat ≤ 127 := by
    rw [BitVec.toNat_and, show (BitVec.ofInt 64 (127 : Int)).toNat = 127 from rfl]
    exact Nat.and_le_right
  rw [i64_wrap_nat _ (by omega)]
  omega
theorem u64_bd (x : Int) : 0 ≤ IntKind.u64.wrap x ∧ IntKind.u64.wrap x ≤ 18446744073709551615 := by
  have e : IntKind.u64.wrap x = x % 18446744073709551616 := by simp [IntKind.wrap, IntKind.signed, IntKind.bits]
  rw [e]; omega
end Go.Proofs.Ytmaogoeclndfbaa
