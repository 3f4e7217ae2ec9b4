/- impl.size: how many nodes a set has. -/
import Derived.Test.YtpllijjocccaaaaDistM
namespace Go.Proofs.Ytpllijjocccaaaa
open Go.RowKit Go.Shelf

def oA (x : Int) : Int := IntKind.u64.wrap (bits BinOp.and IntKind.u64 (x / 2) 6148914691236517205 + bits BinOp.and IntKind.u64 x 6148914691236517205)
def oB (x : Int) : Int := IntKind.u64.wrap (bits BinOp.and IntKind.u64 (x / 4) 3689348814741910323 + bits BinOp.and IntKind.u64 x 3689348814741910323)
def oC (x : Int) : Int := bits BinOp.and IntKind.u64 (IntKind.u64.wrap (x / 16 + x)) 1085102592571150095
def oD (x : Int) : Int := IntKind.u64.wrap (x + x / 256)
def oE (x : Int) : Int := IntKind.u64.wrap (x + x / 65536)
def oF (x : Int) : Int := IntKind.u64.wrap (x + x / 4294967296)
def oG (x : Int) : Int := bits BinOp.and IntKind.i64 (wrap64 x) 127
def ones (x : Int) : Int := oG (oF (oE (oD (oC (oB (oA x))))))
theorem ones_pairs : ∀ a : Nat, a < 64 → ∀ b : Nat, b < 64 → ones ((64 * a + b : Nat) : Int) = card (64 * a + b) := by decide +kernel
theorem ones_small (x : Nat) (hx : x < 4096) : ones x = card x := by
  have h := ones_pairs (x / 64) (by omega) (x % 64) (by omega)
  rw [show 64 * (x / 64) + x % 64 = x by omega] at h
  exact h
theorem oG_bd (x : Int) : 0 ≤ oG x ∧ oG x ≤ 127 := by
  unfold oG
  show 0 ≤ IntKind.i64.wrap ((BitVec.ofInt 64 (wrap64 x) &&& BitVec.ofInt 64 (127 : Int)).toNat : Int) ∧ IntKind.i64.wrap ((BitVec.ofInt 64 (wrap64 x) &&& BitVec.ofInt 64 (127 : Int)).toNat : Int) ≤ 127
  have h : (BitVec.ofInt 64 (wrap64 x) &&& BitVec.ofInt 64 (127 : Int)).toNat ≤ 127 := by
    rw [BitVec.toNat_and, show (BitVec.ofInt 64 (127 : Int)).toNat = 127 from rfl]
    exact Nat.and_le_right
  rw [i64_wrap_nat _ (by omega)]
  omega
theorem u64_bd (x : Int) : 0 ≤ IntKind.u64.wrap x ∧ IntKind.u64.wrap x ≤ 18446744073709551615 := by
  have e : IntKind.u64.wrap x = x % 18446744073709551616 := by simp [IntKind.wrap, IntKind.signed, IntKind.bits]
  rw [e]; omega
set_option maxRecDepth 100000 in
set_option maxHeartbeats 1000000 in
theorem ones64_any (x : Nat) (w : World) (_hx : x ≤ 9223372036854775807) : Calls Try.prog 104 #[.int .u64 x] w fun e w' => e = .returned (.int .i64 (ones x)) ∧ w = w' := by
  obtain ⟨a, ha⟩ : ∃ a, oA x = a := ⟨_, rfl⟩
  obtain ⟨b, hb⟩ : ∃ b, oB a = b := ⟨_, rfl⟩
  obtain ⟨c, hc⟩ : ∃ c, oC b = c := ⟨_, rfl⟩
  obtain ⟨d, hd⟩ : ∃ d, oD c = d := ⟨_, rfl⟩
  obtain ⟨g, hg⟩ : ∃ g, oE d = g := ⟨_, rfl⟩
  obtain ⟨h, hh⟩ : ∃ h, oF g = h := ⟨_, rfl⟩
  obtain ⟨v, hv⟩ : ∃ v, oG h = v := ⟨_, rfl⟩
  have HV : Hid (ones x = v) := by show ones x = v; unfold ones; rw [ha, hb, hc, hd, hg, hh, hv]
  unfold oA at ha
  unfold oB at hb
  unfold oC at hc
  unfold oD at hd
  unfold oE at hg
  unfold oF at hh
  unfold oG at hv
  have ba : 0 ≤ a ∧ a ≤ 18446744073709551615 := by rw [← ha]; exact u64_bd _
  have bb : 0 ≤ b ∧ b ≤ 18446744073709551615 := by rw [← hb]; exact u64_bd _
  have bc : 0 ≤ c ∧ c ≤ 18446744073709551615 := by rw [← hc]; exact u64_bd _
  have bd : 0 ≤ d ∧ d ≤ 18446744073709551615 := by rw [← hd]; exact u64_bd _
  have bg : 0 ≤ g ∧ g ≤ 18446744073709551615 := by rw [← hg]; exact u64_bd _
  have bh : 0 ≤ h ∧ h ≤ 18446744073709551615 := by rw [← hh]; exact u64_bd _
  obtain ⟨ba1, ba2⟩ := ba
  obtain ⟨bb1, bb2⟩ := bb
  obtain ⟨bc1, bc2⟩ := bc
  obtain ⟨bd1, bd2⟩ := bd
  obtain ⟨bg1, bg2⟩ := bg
  obtain ⟨bh1, bh2⟩ := bh
  go_enter Try.func104, Try.ntmps104
  go_wp2
  go_ret
  exact ⟨by rw [HV.out]; rfl, rfl⟩
set_option maxRecDepth 100000 in
theorem onesC_any (x : Nat) (w : World) (hx : x ≤ 9223372036854775807) : Calls Try.prog 94 #[.int .u64 x] w fun e w' => e = .returned (.int .i64 (ones x)) ∧ w = w' := by
  go_enter Try.func94, Try.ntmps94
  go_wp2_with (go_at_call 104; refine (ones64_any _ _ hx).mono ?_; rintro e w' ⟨rfl, rfl⟩)
  go_ret
  exact ⟨rfl, rfl⟩
set_option maxRecDepth 100000 in
theorem size_big (x : Nat) (w : World) (hx : x ≤ 9223372036854775807) : Calls Try.prog 58 #[.int .i64 x] w fun e w' => ∃ v : Int, e = .returned (.int .i64 v) ∧ (0 ≤ v ∧ v ≤ 127) ∧ w = w' := by
  have e : IntKind.u64.wrap (x : Int) = x := IntWalk.u64_in _ (by omega)
  go_enter Try.func58, Try.ntmps58
  go_wp2_with (go_at_call 94; refine (onesC_any x _ hx).mono ?_; rintro e w' ⟨rfl, rfl⟩)
  go_ret
  exact ⟨_, rfl, oG_bd _, rfl⟩
set_option maxRecDepth 100000 in
theorem size_any (x : Nat) (w : World) (hx : x < 4096) : Calls Try.prog 58 #[.int .i64 x] w fun e w' => e = .returned (.int .i64 (card x)) ∧ w = w' := by
  have e : IntKind.u64.wrap (x : Int) = x := IntWalk.u64_in _ (by omega)
  have H := Lib.hid (ones_small x hx)
  go_enter Try.func58, Try.ntmps58
  go_wp2_with (go_at_call 94; refine (onesC_any x _ (by omega)).mono ?_; rintro e w' ⟨rfl, rfl⟩; rw [H.out])
  go_ret
  exact ⟨rfl, rfl⟩
end Go.Proofs.Ytpllijjocccaaaa
