/- Drawn trees. -/
import Derived.Test.YtojfafmfnblocaaDrawG
namespace Go.Proofs.Ytojfafmfnblocaa
open Go.RowKit Go.Shelf
attribute [local go_sem] Oper.semAt_some

/-- a drawn tree, seldom another graph -/
def DrawnT (w : World) (e : Ending) (w' : World) : Prop :=
  ∃ (a : Option Addr) (n c : Nat) (zs : List Int), e = .returned (.slice a n c) ∧ Arr w' w.heap.size a n c zs ∧ 1 ≤ n ∧ n ≤ 9 ∧ Bd12 zs ∧ Below w.heap.size w w'
set_option maxRecDepth 100000 in
set_option maxHeartbeats 4000000 in
theorem l91Tree_any (B R p : Nat) (w : World) (h : RdAt w B R p) (hp : p ≤ 500000) :
    Calls Try.prog 76 #[.pointer (some ⟨R, 0, none⟩)] w fun e w' => ∃ (a : Option Addr) (n c : Nat) (zs : List Int), e = .returned (.slice a n c) ∧ Arr w' w.heap.size a n c zs ∧ 1 ≤ n ∧ n ≤ 9 ∧ Bd12 zs ∧ Stay w.heap.size [R] w w' := by
  have hR := h.lt
  have hlo := h.lo
  go_enter Try.func76, Try.ntmps76
  go_wp2_with fail
  refine (pick_any _ _ _ _ _ h (by omega) (by omega)).mono ?_
  rintro e w1 ⟨x, hx, rfl, h1, hS1⟩
  have hx' := inPick_lt hx (by omega)
  obtain ⟨n, hn⟩ : ∃ n, x + 1 = n := ⟨_, rfl⟩
  have hn1 : 1 ≤ n := by omega
  have hnm : n ≤ 9 := by omega
  have hx1 : (1 : Int) + x = n := by omega
  clear hx h hn hx'
  have HV := Lib.hid (ArrRV.empty w1 w.heap.size hS1.size)
  have HR1 := Lib.hid (h1.below ((Below.refl _ _).alloc (Nat.le_refl _) (.cells #[] 23)))
  have HS1 := Lib.hid (hS1.alloc hS1.size (.cells #[] 23))
  clear h1 hS1
  go_wp2
  go_loopw [4, 5] (fun u q wr => ∃ (i : Nat) (a' : Option Addr) (m c' p' : Nat) (rows : List (List Int)), 1 ≤ i ∧ i ≤ n ∧ q = .int .i64 i ∧ u = .slice a' m c' ∧ ArrR wr w.heap.size a' m c' rows ∧ (∀ r ∈ rows, okE n r = true) ∧ m ≤ 12 * i ∧ RdAt wr B R p' ∧ p' ≤ p + 4 + 12 * i ∧ Stay w.heap.size [R] w wr) (fun _ q _ => 12 - (intOf q).toNat)
  case atStart => exact ⟨1, _, _, _, _, _, Nat.le_refl _, hn1, rfl, rfl, ⟨_, HV.out⟩, by simp, by omega, HR1.out, by omega, HS1.out⟩
  case round =>
    obtain ⟨i, a', m, c', p', rows, hi1, hi, rfl, rfl, hA, hok, hml, hrd, hpl, hst⟩ := hrel
    by_cases hlt : i < n
    · have hlt' : (i : Int) < n := by omega
      have HST := Lib.hid hst
      have HA := Lib.hid hA
      clear hst hA
      go_wp2_with fail
      refine (pick_any _ _ _ _ _ hrd (by omega) (by omega)).mono ?_
      rintro e w6 ⟨k, hk, rfl, h6, hS6⟩
      have hk' := inPick_lt hk (by omega)
      have hA6 := HA.out.stayR hS6 hR
      have hS := HST.out.next hS6 HST.out.size
      have hsz := hS.size
      have hm2 : m ≤ 1099511627776 := by omega
      have hloA := blk_loA hA6
      have HS := Lib.hid hS
      clear hk hrd hS6 hS
      go_wp2_with (at_builtin; refine wpList_appendPair (W0 := w6) (sa := a') (n := m) (cap := c') (p := i) (q := k) rfl (.tmp 17) (.tmp 23) rfl rfl hA6 rfl hsz hm2 ?_; intro g c' w' hA' hB' hS' _)
      go_roundw
      case rel => exact ⟨i + 1, _, _, _, _, _, by omega, by omega, by go_num, rfl, hA', rows_snoc hok (okE_pair hlt (by omega) (by omega)), by omega, h6.app hS' hloA hR, by omega, HS.out.trans (Below.stay hB' _)⟩
      case measure => simp [intOf]; omega
    · obtain rfl : n = i := by omega
      obtain ⟨tb, htb⟩ : ∃ b, decide ((2 : Int) < n) = b := ⟨_, rfl⟩
      have HST := Lib.hid hst
      have HA := Lib.hid hA
      have HOK := Lib.hid hok
      clear hst hA hok
      have fin : ∀ (wq : World) (a2 : Option Addr) (m2 c2 : Nat) (rows2 : List (List Int)), ArrR wq w.heap.size a2 m2 c2 rows2 → (∀ r ∈ rows2, okE n r = true) → Stay w.heap.size [R] w wq →
          Calls Try.prog 83 #[.int .i64 n, .slice a2 m2 c2] wq fun e w' => ∃ (ga : Option Addr) (gn gc : Nat) (zs : List Int), e = .returned (.tuple #[.slice ga gn gc, .bool true]) ∧ Arr w' w.heap.size ga gn gc zs ∧ gn = n ∧ Bd12 zs ∧ Stay w.heap.size [R] w w' := by
        intro wq a2 m2 c2 rows2 hA2 hok2 hst2
        obtain ⟨hof, hgl, hgb⟩ := GraphOfR_draw hn1 (by omega) hok2
        refine (sGraphOf_any _ _ _ _ _ _ (by omega) hA2.rowsAt).mono ?_
        rintro e w6 ⟨ga, gn, gc, rfl, hA6, hb6⟩
        exact ⟨_, _, _, _, by rw [hof], hA6.mono hst2.size, hA6.len.trans hgl, hgb, hst2.then hb6 hst2.size⟩
      have FIN := Lib.hid fin
      clear fin
      cases tb with
      | false =>
        have hn2 : ¬ (2 : Int) < n := by simpa using htb
        clear htb
        go_wp2_with fail
        refine (FIN.out _ _ _ _ _ HA.out HOK.out HST.out).mono ?_
        rintro e w6 ⟨ga, gn, gc, zs, rfl, hA6, rfl, hbd, hst6⟩
        go_wp2
        go_ret
        exact ⟨_, _, _, _, rfl, hA6, hn1, hnm, hbd, hst6⟩
      | true =>
        have hn2 : (2 : Int) < n := by simpa using htb
        clear htb
        go_wp2_with fail
        refine (pick_any _ _ _ _ _ hrd (by omega) (by omega)).mono ?_
        rintro e w6 ⟨k, hk, rfl, h6, hS6⟩
        have hA6 := HA.out.stayR hS6 hR
        have hS := HST.out.next hS6 HST.out.size
        clear hk hrd hS6
        cases hk0 : ((k : Int) == 0) with
        | false =>
          have HA6 := Lib.hid hA6
          have HS := Lib.hid hS
          clear hA6 hS
          go_wp2_with fail
          refine (FIN.out _ _ _ _ _ HA6.out HOK.out HS.out).mono ?_
          rintro e w7 ⟨ga, gn, gc, zs, rfl, hA7, rfl, hbd, hst7⟩
          go_wp2
          go_ret
          exact ⟨_, _, _, _, rfl, hA7, hn1, hnm, hbd, hst7⟩
        | true =>
          have hsz := hS.size
          have hm2 : m ≤ 1099511627776 := by omega
          have HS := Lib.hid hS
          clear hS
          go_wp2_with (at_builtin; refine wpList_appendPair (W0 := w6) (sa := a') (n := m) (cap := c') (p := 0) (q := (n : Int) - 1) rfl (.tmp 32) (.tmp 36) rfl rfl hA6 rfl hsz hm2 ?_; intro g c' w' hA0 hB0 hS0 _; have HA7 := Lib.hid hA0; have HB7 := Lib.hid hB0; clear hA0 hB0 hS0)
          have hok2 := rows_snoc (r := [(0 : Int), (n : Int) - 1]) HOK.out (by rw [show (n : Int) - 1 = ((n - 1 : Nat) : Int) by omega]; exact okE_pair (i := 0) (k := n - 1) (by omega) (by omega) (by omega))
          have HS7 := Lib.hid (HS.out.trans (Below.stay HB7.out _))
          have HOK2 := Lib.hid hok2
          clear hok2 hA6
          go_wp2_with fail
          refine (FIN.out _ _ _ _ _ HA7.out HOK2.out HS7.out).mono ?_
          rintro e w7 ⟨ga, gn, gc, zs, rfl, hA7, rfl, hbd, hst7⟩
          go_wp2
          go_ret
          exact ⟨_, _, _, _, rfl, hA7, hn1, hnm, hbd, hst7⟩
theorem bd12_wf {zs : List Int} (h : Bd12 zs) : ∀ z ∈ zs, -9223372036854775808 ≤ z ∧ z ≤ 9223372036854775807 := by
  intro z hz
  obtain ⟨i, hi, rfl⟩ := List.getElem_of_mem hz
  have := h i
  rw [List.getElem?_eq_getElem hi] at this
  simp only [Option.getD_some] at this
  omega
set_option maxRecDepth 100000 in
theorem DrawTreeIn_any (a : Option Addr) (n cap : Nat) (w : World) (h : BytesAt w a n cap) : Calls Try.prog 37 #[.slice a n cap] w (DrawnT w) := by
  go_enter Try.func37, Try.ntmps37
  go_wp2_with fail
  refine (l6Open_any _ _ _ _ h).mono ?_
  rintro e w1 ⟨R, rfl, hR, hb1⟩
  have hlo := hR.lo
  go_wp2_with fail
  refine (l91Tree_any _ _ _ _ hR (by omega)).mono ?_
  rintro e w2 ⟨ga, gn, gc, zs, rfl, hA, hn1, hn, hbd, hS⟩
  go_wp2
  go_ret
  exact ⟨_, _, _, _, rfl, hA.mono hb1.size, hn1, hn, hbd, hb1.trans (hS.below hb1.size (by simp; omega))⟩
set_option maxRecDepth 100000 in
theorem DrawTreeLeaves_any (a : Option Addr) (n cap : Nat) (w : World) (h : BytesAt w a n cap) : Calls Try.prog 40 #[.slice a n cap] w (DrawnT w) := by
  go_enter Try.func40, Try.ntmps40
  go_wp2_with fail
  refine (l6Open_any _ _ _ _ h).mono ?_
  rintro e w1 ⟨R, rfl, hR, hb1⟩
  have hlo := hR.lo
  go_wp2_with fail
  refine (l91Tree_any _ _ _ _ hR (by omega)).mono ?_
  rintro e w2 ⟨ga, gn, gc, zs, rfl, hA, hn1, hn, hbd, hS⟩
  go_wp2
  go_ret
  exact ⟨_, _, _, _, rfl, hA.mono hb1.size, hn1, hn, hbd, hb1.trans (hS.below hb1.size (by simp; omega))⟩
end Go.Proofs.Ytojfafmfnblocaa
