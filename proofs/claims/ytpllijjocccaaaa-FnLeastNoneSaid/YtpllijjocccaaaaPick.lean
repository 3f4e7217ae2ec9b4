/- The reader of codes: l6Open, pick. -/
import Derived.Test.YtpllijjocccaaaaRd
namespace Go.Proofs.Ytpllijjocccaaaa
open Go.RowKit Go.Shelf
attribute [local go_sem] Oper.semAt_some

theorem i64_xor_nat (a b : Nat) (ha : a < 9223372036854775808) (hb : b < 9223372036854775808) : bits .xor .i64 (a : Int) (b : Int) = ((a ^^^ b : Nat) : Int) := by
  show IntKind.i64.wrap ((BitVec.ofInt 64 (a : Int) ^^^ BitVec.ofInt 64 (b : Int)).toNat : Int) = _
  rw [BitVec.toNat_xor, ofInt_i64 a ha, ofInt_i64 b hb]
  exact i64_wrap_nat _ (Nat.xor_lt_two_pow (n := 63) ha hb)
theorem tmod_nat (a b : Nat) : Int.tmod (a : Int) (b : Int) = ((a % b : Nat) : Int) := by
  rw [Int.tmod_eq_emod_of_nonneg (by omega)]; simp
theorem tdiv_nat (a b : Nat) : Int.tdiv (a : Int) (b : Int) = ((a / b : Nat) : Int) := by
  rw [Int.tdiv_eq_ediv_of_nonneg (by omega)]; simp
theorem rd_cells {w : World} {R p n cap : Nat} {a : Option Addr} (h : w.heap[R]? = some (.cells #[.slice a n cap, .int .i64 p] 79 (0, 0))) :
    w.cell? ⟨R, 0, none⟩ = some (.slice a n cap) ∧ w.cell? ⟨R, 1, none⟩ = some (.int .i64 p) ∧ w.frozen? ⟨R, 1, none⟩ = false := by
  simp [World.cell?, World.frozen?, h]
set_option maxRecDepth 100000 in
set_option maxHeartbeats 1000000 in
theorem pick_any (B R p : Nat) (n : Int) (w : World) (h : RdAt w B R p) (hp : p ≤ 1000000) (hn : n ≤ 1099511627776) :
    Calls Try.prog 53 #[.pointer (some ⟨R, 0, none⟩), .int .i64 n] w (Picked B R p n w) := by
  obtain ⟨a, m, cap, h1, h2, h3⟩ := h.at'
  obtain ⟨c0, c1, f1⟩ := rd_cells h1
  have HS := Lib.hid (rd_set h)
  have hRB := h.lo
  have hR := h.lt
  clear h h1
  by_cases h0 : n < 1
  · clear h3
    go_enter Try.func53, Try.ntmps53
    go_wp2
    go_ret
    exact ⟨0, inPick_zero, rfl, HS.out 0⟩
  · by_cases hm : m = 0
    · subst hm
      clear h3
      go_enter Try.func53, Try.ntmps53
      go_wp2
      go_ret
      exact ⟨0, inPick_zero, rfl, HS.out 0⟩
    · obtain ⟨b, off, rfl, hb, hc⟩ := h3 (by omega)
      have hm1 : 0 < (m : Int) := by omega
      have hbR : b ≠ R := by omega
      by_cases hk : p < m
      · obtain ⟨v, hv, cv⟩ := hc p hk
        have hk' : (p : Int) < m := by omega
        clear hc
        go_enter Try.func53, Try.ntmps53
        go_wp2
        go_ret
        obtain ⟨x, hx, hi⟩ := inPick_mod (y := (v : Int)) h0 hn
        exact ⟨x, hi, by rw [hx]; rfl, HS.out 0⟩
      · obtain ⟨q1, hq1⟩ : ∃ q, p % m = q := ⟨_, rfl⟩
        obtain ⟨q2, hq2⟩ : ∃ q, (p * 7 + 3) % m = q := ⟨_, rfl⟩
        obtain ⟨q3, hq3⟩ : ∃ q, p / m = q := ⟨_, rfl⟩
        have l1 : q1 < m := by rw [← hq1]; exact Nat.mod_lt _ (by omega)
        have l2 : q2 < m := by rw [← hq2]; exact Nat.mod_lt _ (by omega)
        have l3 : q3 ≤ p := by rw [← hq3]; exact Nat.div_le_self _ _
        obtain ⟨v1, hv1, cv1⟩ := hc q1 l1
        obtain ⟨v2, hv2, cv2⟩ := hc q2 l2
        have t1 : Int.tmod (p : Int) (m : Int) = q1 := by rw [tmod_nat, hq1]
        have t2 : Int.tmod ((p : Int) * 7 + 3) (m : Int) = q2 := by
          have e : (p : Int) * 7 + 3 = ((p * 7 + 3 : Nat) : Int) := by omega
          rw [e, tmod_nat, hq2]
        have t3 : Int.tdiv (p : Int) (m : Int) = q3 := by rw [tdiv_nat, hq3]
        have L1 : (q1 : Int) < m := by omega
        have L2 : (q2 : Int) < m := by omega
        have e1 : IntKind.i64.wrap ((p : Int) * 7) = (p : Int) * 7 := IntWalk.i64_in _ (by omega)
        have e2 : IntKind.i64.wrap ((p : Int) * 7 + 3) = (p : Int) * 7 + 3 := IntWalk.i64_in _ (by omega)
        have e3 : IntKind.i64.wrap ((v1 : Int) * 131) = (v1 : Int) * 131 := IntWalk.i64_in _ (by omega)
        have e4 : IntKind.i64.wrap ((v2 : Int) * 1117) = (v2 : Int) * 1117 := IntWalk.i64_in _ (by omega)
        have e5 : IntKind.i64.wrap ((v1 : Int) * 131 + (v2 : Int) * 1117) = (v1 : Int) * 131 + (v2 : Int) * 1117 := IntWalk.i64_in _ (by omega)
        have e6 : IntKind.i64.wrap ((p : Int) * 29) = (p : Int) * 29 := IntWalk.i64_in _ (by omega)
        have e7 : IntKind.i64.wrap ((v1 : Int) * 131 + (v2 : Int) * 1117 + (p : Int) * 29) = (v1 : Int) * 131 + (v2 : Int) * 1117 + (p : Int) * 29 := IntWalk.i64_in _ (by omega)
        have e8 : IntKind.i64.wrap ((q3 : Int) * 53) = (q3 : Int) * 53 := IntWalk.i64_in _ (by omega)
        have e9 : IntKind.i64.wrap ((v1 : Int) * 131 + (v2 : Int) * 1117 + (p : Int) * 29 + (q3 : Int) * 53) = (v1 : Int) * 131 + (v2 : Int) * 1117 + (p : Int) * 29 + (q3 : Int) * 53 := IntWalk.i64_in _ (by omega)
        have e10 : IntKind.i64.wrap (q3 : Int) = q3 := IntWalk.i64_in _ (by omega)
        have e11 : IntKind.i64.wrap (v1 : Int) = v1 := IntWalk.i64_in _ (by omega)
        have e12 : IntKind.i64.wrap (v2 : Int) = v2 := IntWalk.i64_in _ (by omega)
        have hk' : ¬ (p : Int) < m := by omega
        clear hc h3 hq1 hq2 hq3
        go_enter Try.func53, Try.ntmps53
        go_wp2
        go_quiet (fail)
        obtain ⟨y, hy⟩ : ∃ y : Nat, (v1 : Int) * 131 + (v2 : Int) * 1117 + (p : Int) * 29 + (q3 : Int) * 53 = y := ⟨v1 * 131 + v2 * 1117 + p * 29 + q3 * 53, by omega⟩
        have hyb : y < 1073741824 := by omega
        rw [hy]
        clear e1 e2 e3 e4 e5 e6 e7 e8 e9 e10 e11 e12 t1 t2 t3 cv1 cv2 hy
        have hxb : y ^^^ y / 64 < 1073741824 := Nat.xor_lt_two_pow (n := 30) hyb (Nat.lt_of_le_of_lt (Nat.div_le_self _ _) hyb)
        have ex : bits BinOp.xor IntKind.i64 (y : Int) ((y : Int) / 64) = ((y ^^^ y / 64 : Nat) : Int) := by
          have e : (y : Int) / 64 = ((y / 64 : Nat) : Int) := by omega
          rw [e]; exact i64_xor_nat _ _ (by omega) (by have := Nat.div_le_self y 64; omega)
        obtain ⟨z, hz⟩ : ∃ z, y ^^^ y / 64 = z := ⟨_, rfl⟩
        rw [hz] at ex hxb
        clear hz
        go_wp2
        go_ret
        obtain ⟨x, hx, hi⟩ := inPick_mod (y := (z : Int)) h0 hn
        exact ⟨x, hi, by rw [hx]; rfl, HS.out nq⟩
set_option maxRecDepth 100000 in
set_option maxHeartbeats 1000000 in
theorem l6Open_any (a : Option Addr) (n cap : Nat) (w : World) (h : BytesAt w a n cap) :
    Calls Try.prog 51 #[.slice a n cap] w fun e w' => ∃ R, e = .returned (.pointer (some ⟨R, 0, none⟩)) ∧ RdAt w' w.heap.size R 0 ∧ Below w.heap.size w w' := by
  have hbd := h.bd
  have hle := h.le
  have mk : ∀ m, m ≤ n → m ≤ 2000 → ∀ c, RdAt (w.alloc (.cells #[.slice a m c, .int .i64 0] 79)) w.heap.size w.heap.size 0 := fun m hm hm2 c => by
    refine ⟨Nat.le_refl _, a, m, c, by rw [World.alloc_heap_new]; rfl, hm2, fun hp => ?_⟩
    obtain ⟨b, off, e, hb, hc⟩ := h.at' (by omega)
    refine ⟨b, off, e, hb, fun j hj => ?_⟩
    obtain ⟨v, hv, h1⟩ := hc j (by omega)
    exact ⟨v, hv, (((Below.refl _ _).alloc (Nat.le_refl _) _).cell (p := ⟨b, off + j, none⟩) hb).trans h1⟩
  have HM := Lib.hid mk
  clear mk
  by_cases hn : n ≤ 2000
  · have hn' : ¬ (2000 : Int) < n := by omega
    go_enter Try.func51, Try.ntmps51
    go_wp2
    go_ret
    exact ⟨_, rfl, HM.out n (Nat.le_refl _) hn _, (Below.refl _ _).alloc (Nat.le_refl _) _⟩
  · have hn' : (2000 : Int) < n := by omega
    have hc' : (2000 : Int) ≤ cap := by omega
    obtain ⟨b, off, rfl, hb, _⟩ := h.at' (by omega)
    go_enter Try.func51, Try.ntmps51
    go_wp2
    go_ret
    exact ⟨_, rfl, HM.out 2000 (by omega) (Nat.le_refl _) _, (Below.refl _ _).alloc (Nat.le_refl _) _⟩
end Go.Proofs.Ytpllijjocccaaaa
