/- The reader of codes: l6Open, pick. -/
import Derived.Test.YtpllijjocccaaaaRwsM
namespace Go.Proofs.Ytpllijjocccaaaa
open Go.RowKit Go.Shelf
attribute [local go_sem] Oper.semAt_some

/-- the slice '.slice a n _' reads as bytes -/
structure BytesAt (w : World) (a : Option Addr) (n cap : Nat) : Prop where
  bd : n ≤ 9223372036854775807
  le : n ≤ cap
  at' : 0 < n → ∃ b off, a = some ⟨b, off, none⟩ ∧ b < w.heap.size ∧ ∀ j, j < n → ∃ v : Nat, v < 256 ∧ w.cell? ⟨b, off + j, none⟩ = some (.int .u8 v)
theorem BytesAt.below {w w' : World} {a : Option Addr} {n cap : Nat} (h : BytesAt w a n cap) (hb : Below w.heap.size w w') : BytesAt w' a n cap :=
  ⟨h.bd, h.le, fun hn => by
    obtain ⟨b, off, e, hlt, hc⟩ := h.at' hn
    exact ⟨b, off, e, Nat.lt_of_lt_of_le hlt hb.size, fun j hj => by
      obtain ⟨v, hv, h1⟩ := hc j hj
      exact ⟨v, hv, (hb.cell (p := ⟨b, off + j, none⟩) hlt).trans h1⟩⟩⟩

/-- block R holds a reader whose bytes lie below B, at place p -/
structure RdAt (w : World) (B R : Nat) (p : Nat) : Prop where
  lo : B ≤ R
  at' : ∃ a n cap, w.heap[R]? = some (.cells #[.slice a n cap, .int .i64 p] 79 (0, 0)) ∧ n ≤ 2000 ∧ (0 < n → ∃ b off, a = some ⟨b, off, none⟩ ∧ b < B ∧ ∀ j, j < n → ∃ v : Nat, v < 256 ∧ w.cell? ⟨b, off + j, none⟩ = some (.int .u8 v))
theorem RdAt.lt {w : World} {B R p : Nat} (h : RdAt w B R p) : R < w.heap.size := by
  obtain ⟨a, n, cap, h1, _⟩ := h.at'
  exact (Array.getElem?_eq_some_iff.1 h1).1
theorem RdAt.stay {w w' : World} {B R p n : Nat} {ex : List Nat} (h : RdAt w B R p) (hs : Stay n ex w w') (hR : R < n) (hx : ∀ k ∈ ex, B ≤ k ∧ k ≠ R) : RdAt w' B R p := by
  refine ⟨h.lo, ?_⟩
  obtain ⟨a, m, cap, h1, h2, h3⟩ := h.at'
  refine ⟨a, m, cap, (hs.block R hR fun hm => (hx R hm).2 rfl).trans h1, h2, fun hm => ?_⟩
  obtain ⟨b, off, e, hb, hc⟩ := h3 hm
  have := h.lo
  exact ⟨b, off, e, hb, fun j hj => by
    obtain ⟨v, hv, h4⟩ := hc j hj
    exact ⟨v, hv, (hs.cell (p := ⟨b, off + j, none⟩) (by show b < n; omega) (fun hm => by have := (hx b hm).1; omega)).trans h4⟩⟩
theorem RdAt.below {w w' : World} {B R p : Nat} (h : RdAt w B R p) (hb : Below w.heap.size w w') : RdAt w' B R p := h.stay (Below.stay hb []) h.lt (by simp)

def inPick (n : Int) (x : Nat) : Prop := ((x : Int) < n ∨ x = 0) ∧ x < 1099511627776
theorem inPick_lt {n : Int} {x : Nat} (h : inPick n x) (hn : 1 ≤ n) : (x : Int) < n := by rcases h.1 with h | h <;> omega
theorem inPick_zero {n : Int} : inPick n 0 := ⟨.inr rfl, by omega⟩
theorem inPick_mod {n : Int} {y : Int} (hn : 1 ≤ n) (hb : n ≤ 1099511627776) : ∃ x : Nat, y % n = x ∧ inPick n x := by
  have h1 := Int.emod_nonneg y (show n ≠ 0 by omega)
  have h2 := Int.emod_lt_of_pos y (show 0 < n by omega)
  exact ⟨(y % n).toNat, by omega, .inl (by omega), by omega⟩
/-- what pick leaves -/
def Picked (B R p : Nat) (n : Int) (w : World) (e : Ending) (w' : World) : Prop := ∃ x : Nat, inPick n x ∧ e = .returned (.int .i64 x) ∧ RdAt w' B R (p + 1) ∧ Stay w.heap.size [R] w w'
theorem rd_set {w : World} {B R p : Nat} (h : RdAt w B R p) (q : Nat) : RdAt ((w.setCell ⟨R, 1, none⟩ (.int .i64 ((p + 1 : Nat) : Int))).drewN q) B R (p + 1) ∧ Stay w.heap.size [R] w ((w.setCell ⟨R, 1, none⟩ (.int .i64 ((p + 1 : Nat) : Int))).drewN q) := by
  have hS : Stay w.heap.size [R] w (w.setCell ⟨R, 1, none⟩ (.int .i64 ((p + 1 : Nat) : Int))) := (Stay.refl _ _ _).setCell (p := ⟨R, 1, none⟩) (.inl (by simp)) _
  refine ⟨⟨h.lo, ?_⟩, hS.trans (Below.stay (bdrewN _ q |>.mono (by simp [World.setCell])) _)⟩
  obtain ⟨a, m, cap, h1, h2, h3⟩ := h.at'
  refine ⟨a, m, cap, ?_, h2, fun hm => ?_⟩
  · show (w.setCell ⟨R, 1, none⟩ _).heap[R]? = _
    simp [World.setCell, Array.getElem?_modify, h1]
  · obtain ⟨b, off, e, hb, hc⟩ := h3 hm
    have h4 := h.lo
    have h5 := h.lt
    exact ⟨b, off, e, hb, fun j hj => by
      obtain ⟨v, hv, h6⟩ := hc j hj
      exact ⟨v, hv, (hS.cell (p := ⟨b, off + j, none⟩) (by show b < _; omega) (by simp; omega)).trans h6⟩⟩
end Go.Proofs.Ytpllijjocccaaaa
namespace Go.Proofs.Ytpllijjocccaaaa
open Go.RowKit Go.Shelf
attribute [local go_sem] Oper.semAt_some

theorem i64_xor_nat (a b : Nat) (ha : a < 9223372036854775808) (hb : b < 9223372036854775808) : bits .xor .i64 (a : Int) (b : Int) = ((a ^^^ b : Nat) : Int) := by
  show IntKind.i64.wrap ((BitVec.ofInt 64 (a : Int) ^^^ BitVec.ofInt 64 (b : Int)).toNat : Int) = _
  rw [BitVec.toNat_xor, ofInt_i64 a ha, ofInt_i64 b hb]
  exact i64_wrap_nat _ (Nat.xor_lt_two_pow (n := 63) ha hb)
theorem tmod_nat (a b : Nat) : Int.tmod (a : Int) (b : Int) = ((a % b : Nat) : Int) := by
  rw [Int.tmod_eq_emod_of_nonneg (by omega)]; simp
theorem tdiv_nat (a b : Nat) : Int.tdiv (a : Int) (b : Int) = ((a / b : Nat) : Int) := by
  rw [Int.tdiv_eq_ediv_of_nonneg (by omega)]; simp
theorem rd_cells {w : World} {R p n cap : Nat} {a : Option Addr} (h : w.heap[R]? = some (.cells #[.slice a n cap, .int .i64 p] 79 (0, 0))) :
    w.cell? ⟨R, 0, none⟩ = some (.slice a n cap) ∧ w.cell? ⟨R, 1, none⟩ = some (.int .i64 p) ∧ w.frozen? ⟨R, 1, none⟩ = false := by
  simp [World.cell?, World.frozen?, h]
set_option maxRecDepth 100000 in
set_option maxHeartbeats 1000000 in
theorem pick_any (B R p : Nat) (n : Int) (w : World) (h : RdAt w B R p) (hp : p ≤ 1000000) (hn : n ≤ 1099511627776) :
    Calls Try.prog 53 #[.pointer (some ⟨R, 0, none⟩), .int .i64 n] w (Picked B R p n w) := by
  obtain ⟨a, m, cap, h1, h2, h3⟩ := h.at'
  obtain ⟨c0, c1, f1⟩ := rd_cells h1
  have HS := Lib.hid (rd_set h)
  have hRB := h.lo
  have hR := h.lt
  clear h h1
  by_cases h0 : n < 1
  · clear h3
    go_enter Try.func53, Try.ntmps53
    go_wp2
    go_ret
    exact ⟨0, inPick_zero, rfl, HS.out 0⟩
  · by_cases hm : m = 0
    · subst hm
      clear h3
      go_enter Try.func53, Try.ntmps53
      go_wp2
      go_ret
      exact ⟨0, inPick_zero, rfl, HS.out 0⟩
    · obtain ⟨b, off, rfl, hb, hc⟩ := h3 (by omega)
      have hm1 : 0 < (m : Int) := by omega
      have hbR : b ≠ R := by omega
      by_cases hk : p < m
      · obtain ⟨v, hv, cv⟩ := hc p hk
        have hk' : (p : Int) < m := by omega
        clear hc
        go_enter Try.func53, Try.ntmps53
        go_wp2
        go_ret
        obtain ⟨x, hx, hi⟩ := inPick_mod (y := (v : Int)) h0 hn
        exact ⟨x, hi, by rw [hx]; rfl, HS.out 0⟩
      · obtain ⟨q1, hq1⟩ : ∃ q, p % m = q := ⟨_, rfl⟩
        obtain ⟨q2, hq2⟩ : ∃ q, (p * 7 + 3) % m = q := ⟨_, rfl⟩
        obtain ⟨q3, hq3⟩ : ∃ q, p / m = q := ⟨_, rfl⟩
        have l1 : q1 < m := by rw [← hq1]; exact Nat.mod_lt _ (by omega)
        have l2 : q2 < m := by rw [← hq2]; exact Nat.mod_lt _ (by omega)
        have l3 : q3 ≤ p := by rw [← hq3]; exact Nat.div_le_self _ _
        obtain ⟨v1, hv1, cv1⟩ := hc q1 l1
        obtain ⟨v2, hv2, cv2⟩ := hc q2 l2
        have t1 : Int.tmod (p : Int) (m : Int) = q1 := by rw [tmod_nat, hq1]
        have t2 : Int.tmod ((p : Int) * 7 + 3) (m : Int) = q2 := by
          have e : (p : Int) * 7 + 3 = ((p * 7 + 3 : Nat) : Int) := by omega
          rw [e, tmod_nat, hq2]
        have t3 : Int.tdiv (p : Int) (m : Int) = q3 := by rw [tdiv_nat, hq3]
        have L1 : (q1 : Int) < m := by omega
        have L2 : (q2 : Int) < m := by omega
        have e1 : IntKind.i64.wrap ((p : Int) * 7) = (p : Int) * 7 := IntWalk.i64_in _ (by omega)
        have e2 : IntKind.i64.wrap ((p : Int) * 7 + 3) = (p : Int) * 7 + 3 := IntWalk.i64_in _ (by omega)
        have e3 : IntKind.i64.wrap ((v1 : Int) * 131) = (v1 : Int) * 131 := IntWalk.i64_in _ (by omega)
        have e4 : IntKind.i64.wrap ((v2 : Int) * 1117) = (v2 : Int) * 1117 := IntWalk.i64_in _ (by omega)
        have e5 : IntKind.i64.wrap ((v1 : Int) * 131 + (v2 : Int) * 1117) = (v1 : Int) * 131 + (v2 : Int) * 1117 := IntWalk.i64_in _ (by omega)
        have e6 : IntKind.i64.wrap ((p : Int) * 29) = (p : Int) * 29 := IntWalk.i64_in _ (by omega)
        have e7 : IntKind.i64.wrap ((v1 : Int) * 131 + (v2 : Int) * 1117 + (p : Int) * 29) = (v1 : Int) * 131 + (v2 : Int) * 1117 + (p : Int) * 29 := IntWalk.i64_in _ (by omega)
        have e8 : IntKind.i64.wrap ((q3 : Int) * 53) = (q3 : Int) * 53 := IntWalk.i64_in _ (by omega)
        have e9 : IntKind.i64.wrap ((v1 : Int) * 131 + (v2 : Int) * 1117 + (p : Int) * 29 + (q3 : Int) * 53) = (v1 : Int) * 131 + (v2 : Int) * 1117 + (p : Int) * 29 + (q3 : Int) * 53 := IntWalk.i64_in _ (by omega)
        have e10 : IntKind.i64.wrap (q3 : Int) = q3 := IntWalk.i64_in _ (by omega)
        have e11 : IntKind.i64.wrap (v1 : Int) = v1 := IntWalk.i64_in _ (by omega)
        have e12 : IntKind.i64.wrap (v2 : Int) = v2 := IntWalk.i64_in _ (by omega)
        have hk' : ¬ (p : Int) < m := by omega
        clear hc h3 hq1 hq2 hq3
        go_enter Try.func53, Try.ntmps53
        go_wp2
        go_quiet (fail)
        obtain ⟨y, hy⟩ : ∃ y : Nat, (v1 : Int) * 131 + (v2 : Int) * 1117 + (p : Int) * 29 + (q3 : Int) * 53 = y := ⟨v1 * 131 + v2 * 1117 + p * 29 + q3 * 53, by omega⟩
        have hyb : y < 1073741824 := by omega
        rw [hy]
        clear e1 e2 e3 e4 e5 e6 e7 e8 e9 e10 e11 e12 t1 t2 t3 cv1 cv2 hy
        have hxb : y ^^^ y / 64 < 1073741824 := Nat.xor_lt_two_pow (n := 30) hyb (Nat.lt_of_le_of_lt (Nat.div_le_self _ _) hyb)
        have ex : bits BinOp.xor IntKind.i64 (y : Int) ((y : Int) / 64) = ((y ^^^ y / 64 : Nat) : Int) := by
          have e : (y : Int) / 64 = ((y / 64 : Nat) : Int) := by omega
          rw [e]; exact i64_xor_nat _ _ (by omega) (by have := Nat.div_le_self y 64; omega)
        obtain ⟨z, hz⟩ : ∃ z, y ^^^ y / 64 = z := ⟨_, rfl⟩
        rw [hz] at ex hxb
        clear hz
        go_wp2
        go_ret
        obtain ⟨x, hx, hi⟩ := inPick_mod (y := (z : Int)) h0 hn
        exact ⟨x, hi, by rw [hx]; rfl, HS.out nq⟩
set_option maxRecDepth 100000 in
set_option maxHeartbeats 1000000 in
theorem l6Open_any (a : Option Addr) (n cap : Nat) (w : World) (h : BytesAt w a n cap) :
    Calls Try.prog 51 #[.slice a n cap] w fun e w' => ∃ R, e = .returned (.pointer (some ⟨R, 0, none⟩)) ∧ RdAt w' w.heap.size R 0 ∧ Below w.heap.size w w' := by
  have hbd := h.bd
  have hle := h.le
  have mk : ∀ m, m ≤ n → m ≤ 2000 → ∀ c, RdAt (w.alloc (.cells #[.slice a m c, .int .i64 0] 79)) w.heap.size w.heap.size 0 := fun m hm hm2 c => by
    refine ⟨Nat.le_refl _, a, m, c, by rw [World.alloc_heap_new]; rfl, hm2, fun hp => ?_⟩
    obtain ⟨b, off, e, hb, hc⟩ := h.at' (by omega)
    refine ⟨b, off, e, hb, fun j hj => ?_⟩
    obtain ⟨v, hv, h1⟩ := hc j (by omega)
    exact ⟨v, hv, (((Below.refl _ _).alloc (Nat.le_refl _) _).cell (p := ⟨b, off + j, none⟩) hb).trans h1⟩
  have HM := Lib.hid mk
  clear mk
  by_cases hn : n ≤ 2000
  · have hn' : ¬ (2000 : Int) < n := by omega
    go_enter Try.func51, Try.ntmps51
    go_wp2
    go_ret
    exact ⟨_, rfl, HM.out n (Nat.le_refl _) hn _, (Below.refl _ _).alloc (Nat.le_refl _) _⟩
  · have hn' : (2000 : Int) < n := by omega
    have hc' : (2000 : Int) ≤ cap := by omega
    obtain ⟨b, off, rfl, hb, _⟩ := h.at' (by omega)
    go_enter Try.func51, Try.ntmps51
    go_wp2
    go_ret
    exact ⟨_, rfl, HM.out 2000 (by omega) (Nat.le_refl _) _, (Below.refl _ _).alloc (Nat.le_refl _) _⟩
end Go.Proofs.Ytpllijjocccaaaa
