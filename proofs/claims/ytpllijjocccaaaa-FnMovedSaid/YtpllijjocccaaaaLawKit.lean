/- Small facts that the walks of laws use. -/
import Derived.Test.YtpllijjocccaaaaRwsL
import Derived.Test.YtpllijjocccaaaaRws
namespace Go.Proofs.Ytpllijjocccaaaa
open Go.RowKit Go.Shelf
attribute [local go_sem] Oper.semAt_some

set_option maxRecDepth 100000 in
set_option maxHeartbeats 1000000 in
theorem sameInts_any (a b : Option Addr) (n m ca cb : Nat) (xs ys : List Int) (w : World) (hs : SlAt w a n xs) (ht : SlAt w b m ys) :
    Calls Try.prog 27 #[.slice a n ca, .slice b m cb] w fun e w' => e = .returned (.bool (decide (xs = ys))) ∧ ∃ q, w.drewN q = w' := by
  by_cases hnm : n = m
  · subst hnm
    go_enter Try.func27, Try.ntmps27
    go_wp2
    go_loopw [5] (fun p wr => ∃ k : Nat, k ≤ n ∧ p = .int .i64 k ∧ (∀ j, j < k → xs[j]?.getD 0 = ys[j]?.getD 0) ∧ ∃ q, w.drewN q = wr) (fun p _ => n - (intOf p).toNat)
    case atStart => exact ⟨0, by omega, rfl, by omega, 0, rfl⟩
    case round =>
      obtain ⟨k, hk, rfl, hag, q, rfl⟩ := hrel
      by_cases hlt : k < n
      · obtain ⟨b1, o1, rfl, hb1, hc1⟩ := hs.at' (by omega)
        obtain ⟨b2, o2, rfl, hb2, hc2⟩ := ht.at' (by omega)
        have hx := hc1 k hlt
        have hy := hc2 k hlt
        have hlt' : (k : Int) < n := by omega
        have hbd := hs.bd
        have HG := Lib.hid hag
        clear hc1 hc2 hag
        go_wp2
        go_quiet (fail)
        go_wp2
        · have hne : ¬ xs[k]?.getD 0 = ys[k]?.getD 0 := by
            have h : (xs[k]?.getD 0 != ys[k]?.getD 0) = true := by assumption
            simpa using h
          go_ret
          exact ⟨by rw [ne_of_at hne]; rfl, q + nq, (World.drewN_drewN _ _ _).symm⟩
        · have he : xs[k]?.getD 0 = ys[k]?.getD 0 := by
            have h : (xs[k]?.getD 0 != ys[k]?.getD 0) = false := by assumption
            simpa using h
          go_roundw
          case rel =>
            refine ⟨k + 1, by omega, by go_num, fun j hj => ?_, _, rfl⟩
            rcases Nat.lt_succ_iff_lt_or_eq.1 hj with h | rfl
            · exact HG.out j h
            · exact he
          case measure => simp [intOf]; omega
      · obtain rfl : k = n := by omega
        go_wp2
        go_ret
        exact ⟨by rw [eq_of_at hs.len ht.len hag]; rfl, q, rfl⟩
  · have hne : decide (xs = ys) = false := decide_eq_false fun e => hnm (by rw [hs.len, ht.len, e])
    have H := Lib.hid hne
    clear hne
    go_enter Try.func27, Try.ntmps27
    go_wp2
    go_ret
    exact ⟨by rw [H.out]; rfl, 0, rfl⟩

theorem sameInts_isq (v : Bool) (a b : Option Addr) (n m ca cb : Nat) (xs ys : List Int) (w : World) (hs : SlAt w a n xs) (ht : SlAt w b m ys) (hv : decide (xs = ys) = v) (q0 : Nat) :
    Calls Try.prog 27 #[.slice a n ca, .slice b m cb] (w.drewN q0) fun e w' => e = .returned (.bool v) ∧ ∃ q, w' = w.drewN q := by
  subst hv
  exact (sameInts_any a b n m ca cb xs ys _ (hs.drewN q0) (ht.drewN q0)).mono fun _ _ ⟨h, q, hq⟩ => ⟨h, q0 + q, by rw [← hq, World.drewN_drewN]⟩
set_option maxRecDepth 100000 in
set_option maxHeartbeats 1000000 in
theorem sameRows_any (a b : Option Addr) (n m ca cb : Nat) (xs ys : List (List Int)) (w : World) (hs : RowsAt w a n xs) (ht : RowsAt w b m ys) :
    Calls Try.prog 37 #[.slice a n ca, .slice b m cb] w fun e w' => e = .returned (.bool (decide (xs = ys))) ∧ ∃ q, w.drewN q = w' := by
  by_cases hnm : n = m
  · subst hnm
    have HS := Lib.hid hs
    have HT := Lib.hid ht
    clear hs ht
    go_enter Try.func37, Try.ntmps37
    go_wp2
    go_loopw [5] (fun p wr => ∃ k : Nat, k ≤ n ∧ p = .int .i64 k ∧ (∀ j, j < k → Hid (xs.getD j [] = ys.getD j [])) ∧ ∃ q, w.drewN q = wr) (fun p _ => n - (intOf p).toNat)
    case atStart => exact ⟨0, by omega, rfl, fun j hj => absurd hj (Nat.not_lt_zero j), 0, rfl⟩
    case round =>
      obtain ⟨k, hk, rfl, hag, hq⟩ := hrel
      have HQ := Lib.hid hq
      have HG := Lib.hid hag
      have hdr : Below w.heap.size w wr := by obtain ⟨q, rfl⟩ := hq; exact bdrewN w q
      have hs := HS.out.below hdr
      have ht := HT.out.below hdr
      have hbd := hs.bd
      clear hag hq hdr
      by_cases hlt : k < n
      · obtain ⟨b1, o1, rfl, hb1, hc1⟩ := hs.at' (by omega)
        obtain ⟨b2, o2, rfl, hb2, hc2⟩ := ht.at' (by omega)
        obtain ⟨a3, n3, c3, hx, hsx⟩ := hc1 k hlt
        obtain ⟨a4, n4, c4, hy, hsy⟩ := hc2 k hlt
        have hlt' : (k : Int) < n := by omega
        clear hc1 hc2 hs ht
        cases hv : decide (xs.getD k [] = ys.getD k []) with
        | true =>
          have HV := Lib.hid hv
          clear hv
          go_wp2
          go_quiet ((go_at_call 27; exact sameInts_isq true _ _ _ _ _ _ _ _ _ hsx hsy HV.out _))
          go_wp2
          go_roundw
          case rel =>
            refine ⟨k + 1, by omega, by go_num, fun j hj => ?_, drews HQ.out _⟩
            rcases Nat.lt_succ_iff_lt_or_eq.1 hj with h | rfl
            · exact HG.out j h
            · exact Lib.hid (of_decide_eq_true HV.out)
          case measure => simp [intOf]; omega
        | false =>
          have HV := Lib.hid hv
          clear hv
          go_wp2
          go_quiet ((go_at_call 27; exact sameInts_isq false _ _ _ _ _ _ _ _ _ hsx hsy HV.out _))
          go_wp2
          go_ret
          exact ⟨by rw [rows_ne (of_decide_eq_false HV.out)]; rfl, drews HQ.out _⟩
      · obtain rfl : n = k := by omega
        clear hs ht
        go_wp2
        go_ret
        exact ⟨by rw [rows_eq HS.out.len HT.out.len (fun j hj => (HG.out j hj).out)]; rfl, HQ.out⟩
  · have hne : decide (xs = ys) = false := decide_eq_false fun e => hnm (by rw [hs.len, ht.len, e])
    have H := Lib.hid hne
    clear hne hs ht
    go_enter Try.func37, Try.ntmps37
    go_wp2
    go_ret
    exact ⟨by rw [H.out]; rfl, 0, rfl⟩
theorem sameInts_is (v : Bool) (a b : Option Addr) (n m ca cb : Nat) (xs ys : List Int) (w : World) (hs : SlAt w a n xs) (ht : SlAt w b m ys) (hv : decide (xs = ys) = v) :
    Calls Try.prog 27 #[.slice a n ca, .slice b m cb] w fun e w' => e = .returned (.bool v) ∧ Below w.heap.size w w' :=
  (sameInts_any a b n m ca cb xs ys w hs ht).mono fun _ _ ⟨h, q, hq⟩ => ⟨by rw [h, hv], by subst hq; exact bdrewN _ _⟩
theorem sameInts_yes (a b : Option Addr) (n m ca cb : Nat) (xs ys : List Int) (w : World) (hs : SlAt w a n xs) (ht : SlAt w b m ys) (hv : xs = ys) :
    Calls Try.prog 27 #[.slice a n ca, .slice b m cb] w fun e w' => e = .returned (.bool true) ∧ Below w.heap.size w w' := sameInts_is true a b n m ca cb xs ys w hs ht (by rw [hv]; simp)
theorem sameRows_yes (a b : Option Addr) (n m ca cb : Nat) (xs ys : List (List Int)) (w : World) (hs : RowsAt w a n xs) (ht : RowsAt w b m ys) (hv : xs = ys) :
    Calls Try.prog 37 #[.slice a n ca, .slice b m cb] w fun e w' => e = .returned (.bool true) ∧ Below w.heap.size w w' :=
  (sameRows_any a b n m ca cb xs ys w hs ht).mono fun _ _ ⟨h, q, hq⟩ => ⟨by rw [h, hv]; simp, by subst hq; exact bdrewN _ _⟩

/-- how many of the first k nodes lie in s -/
def cardTo (s k : Nat) : Nat := (List.range k).countP fun i => s.testBit i
theorem cardTo_succ (s k : Nat) : cardTo s (k + 1) = cardTo s k + if s.testBit k then 1 else 0 := by
  unfold cardTo; rw [List.range_succ, List.countP_append]; congr 1; cases h : s.testBit k <;> simp [h]
theorem cardTo_le (s k : Nat) : cardTo s k ≤ k := by
  unfold cardTo; have := List.countP_le_length (p := fun i => s.testBit i) (l := List.range k); simpa using this
theorem cardTo_12 (s : Nat) : cardTo s 12 = card s := (card_eq s).symm
theorem cardTo_past {s : Nat} (hs : s < 4096) : ∀ k, 12 ≤ k → cardTo s k = card s := by
  intro k hk
  obtain ⟨d, rfl⟩ := Nat.le.dest hk
  induction d with
  | zero => exact cardTo_12 s
  | succ d ih =>
    rw [← Nat.add_assoc, cardTo_succ, ih (by omega), Nat.testBit_lt_two_pow (Nat.lt_of_lt_of_le hs (Nat.pow_le_pow_right (n := 2) (by omega) (show 12 ≤ 12 + d by omega)))]
    simp
set_option maxRecDepth 100000 in
set_option maxHeartbeats 1000000 in
theorem lsize_any (s : Nat) (w : World) (hs : s < 4096) : Calls Try.prog 21 #[.int .i64 s] w fun e w' => e = .returned (.int .i64 (card s)) ∧ w = w' := by
  go_enter Try.func21, Try.ntmps21
  go_wp2
  go_loop [3, 4] (fun u p => ∃ k : Nat, k ≤ 30 ∧ p = .int .i64 k ∧ u = .int .i64 (cardTo s k)) (fun _ p => 30 - (intOf p).toNat)
  case atStart => exact ⟨0, by omega, rfl, rfl⟩
  case round =>
    obtain ⟨k, hk, rfl, rfl⟩ := hrel
    by_cases hlt : k < 30
    · have hlt' : (k : Int) < 30 := by omega
      have hc := cardTo_le s k
      have hb := bit_val s k (by omega) (by omega)
      rw [Int.toNat_natCast, Int.toNat_natCast] at hb
      have HS := Lib.hid (cardTo_succ s k)
      cases hbit : s.testBit k with
      | true =>
        rw [hbit] at hb
        have HB := Lib.hid hbit
        clear hbit
        simp only [if_true] at hb
        go_wp2
        go_round
        case rel => exact ⟨k + 1, by omega, by go_num, by rw [HS.out, HB.out]; go_num⟩
        case measure => simp [intOf]; omega
      | false =>
        rw [hbit] at hb
        have HB := Lib.hid hbit
        clear hbit
        simp only [Bool.false_eq_true, if_false] at hb
        go_wp2
        go_round
        case rel => exact ⟨k + 1, by omega, by go_num, by rw [HS.out, HB.out]; go_num⟩
        case measure => simp [intOf]; omega
    · obtain rfl : k = 30 := by omega
      have HC := Lib.hid (cardTo_past hs 30 (by omega))
      go_wp2
      go_ret
      exact ⟨by rw [HC.out]; rfl, rfl⟩
end Go.Proofs.Ytpllijjocccaaaa
namespace Go.Proofs.Ytpllijjocccaaaa
open Go.RowKit Go.Shelf

theorem SlAt.addr {w : World} {a : Option Addr} {n : Nat} {zs : List Int} (h : SlAt w a n zs) (hn : 0 < n) : ∃ b off, a = some ⟨b, off, none⟩ := by
  obtain ⟨b, off, e, _, _⟩ := h.at' hn; exact ⟨b, off, e⟩
theorem SlAt.lt1 {w : World} {b off n : Nat} {zs : List Int} (h : SlAt w (some ⟨b, off, none⟩) n zs) (hn : 0 < n) : b < w.heap.size := by
  obtain ⟨b', off', e, hb, _⟩ := h.at' hn; cases e; exact hb
theorem SlAt.at1 {w : World} {b off n : Nat} {zs : List Int} (h : SlAt w (some ⟨b, off, none⟩) n zs) {j : Nat} (hj : j < n) : w.cell? ⟨b, off + j, none⟩ = some (.int .i64 (zs[j]?.getD 0)) := by
  obtain ⟨b', off', e, _, hc⟩ := h.at' (by omega); cases e; rw [← List.getD_eq_getElem?_getD]; exact hc j hj
theorem RowsAt.addr {w : World} {a : Option Addr} {n : Nat} {rows : List (List Int)} (h : RowsAt w a n rows) (hn : 0 < n) : ∃ b off, a = some ⟨b, off, none⟩ := by
  obtain ⟨b, off, e, _, _⟩ := h.at' hn; exact ⟨b, off, e⟩
theorem RowsAt.at1 {w : World} {b off n : Nat} {rows : List (List Int)} (h : RowsAt w (some ⟨b, off, none⟩) n rows) {j : Nat} (hj : j < n) :
    ∃ aj nj cj, w.cell? ⟨b, off + j, none⟩ = some (.slice aj nj cj) ∧ SlAt w aj nj (rows.getD j []) := by
  obtain ⟨b', off', e, _, hc⟩ := h.at' (by omega); cases e; exact hc j hj
theorem RowsAt.lt1 {w : World} {b off n : Nat} {rows : List (List Int)} (h : RowsAt w (some ⟨b, off, none⟩) n rows) (hn : 0 < n) : b < w.heap.size := by
  obtain ⟨b', off', e, hb, _⟩ := h.at' hn; cases e; exact hb
theorem cell_drewN {w : World} {b off : Nat} (hb : b < w.heap.size) (q : Nat) : (w.drewN q).cell? ⟨b, off, none⟩ = w.cell? ⟨b, off, none⟩ := (bdrewN w q).cell (p := ⟨b, off, none⟩) hb
/-- a bit of a set -/
theorem bit_nat (s i : Nat) (hs : s ≤ 4096) : bits BinOp.and IntKind.i64 ((s : Int) / 2 ^ i) 1 = if s.testBit i then 1 else 0 := by
  have hb := bit_val s i (by omega) (by omega)
  rwa [Int.toNat_natCast, Int.toNat_natCast] at hb
theorem bit_yes {s i : Nat} (hs : s ≤ 4096) (h : s.testBit i = true) : bits BinOp.and IntKind.i64 ((s : Int) / 2 ^ i) 1 = 1 := by rw [bit_nat s i hs, h]; rfl
theorem bit_no {s i : Nat} (hs : s ≤ 4096) (h : s.testBit i = false) : bits BinOp.and IntKind.i64 ((s : Int) / 2 ^ i) 1 = 0 := by rw [bit_nat s i hs, h]; rfl
theorem andNot_nat {a b d : Nat} (ha : a ≤ 4096) (hb : b ≤ 4096) (h : bdiff a b = d) : bits BinOp.andNot IntKind.i64 (a : Int) (b : Int) = (d : Int) := by
  rw [i64_andNot_nat _ _ (by omega) (by omega), h]
theorem lsize_is (m : Nat) (s : Nat) (w : World) (hs : s < 4096) (h : card s = m) : Calls Try.prog 21 #[.int .i64 s] w fun e w' => e = .returned (.int .i64 m) ∧ w = w' := by subst h; exact lsize_any s w hs
/-- a power of two up to 2 ^ 12, by a name -/
theorem pow_name {i : Nat} (hi : i ≤ 12) : ∃ m : Nat, 2 ^ i = m ∧ (2 : Int) ^ i = (m : Int) ∧ 1 ≤ m ∧ m ≤ 4096 ∧ IntKind.i64.wrap (m : Int) = m := by
  have h1 := Nat.two_pow_pos i
  have h2 : 2 ^ i ≤ 4096 := Nat.pow_le_pow_right (n := 2) (by omega) hi
  exact ⟨2 ^ i, rfl, by simp, h1, h2, IntWalk.i64_in _ (by omega)⟩
end Go.Proofs.Ytpllijjocccaaaa
