/- The drawn graphs: l91Graph. -/
import Derived.Test.YtpllijjocccaaaaKind
import Derived.Test.YtpllijjocccaaaaPick
namespace Go.Proofs.Ytpllijjocccaaaa
open Go.RowKit Go.Shelf
attribute [local go_sem] Oper.semAt_some

theorem ArrR.stayR {w w' : World} {lo n cap R : Nat} {a : Option Addr} {rows : List (List Int)} (h : ArrR w lo a n cap rows) (hS : Stay w.heap.size [R] w w') (hR : R < lo) : ArrR w' lo a n cap rows := by
  obtain ⟨vs, h⟩ := h
  exact ⟨vs, h.stay' hS fun k hk hm => by have := h.ge k hk; simp at hm; omega⟩
theorem Arr.stayR {w w' : World} {lo n cap R : Nat} {a : Option Addr} {zs : List Int} (h : Arr w lo a n cap zs) (hS : Stay w.heap.size [R] w w') (hR : R < lo) : Arr w' lo a n cap zs :=
  h.stay' hS fun k hk hm => by have := h.ge k hk; simp at hm; omega
theorem blk_loA {w : World} {lo n cap : Nat} {a : Option Addr} {rows : List (List Int)} (h : ArrR w lo a n cap rows) : ∀ k ∈ blk a, lo ≤ k := by
  obtain ⟨vs, h⟩ := h; exact blk_loR h
theorem RdAt.app {w w' : World} {B R p lo : Nat} {sa : Option Addr} (h : RdAt w B R p) (hS : Stay w.heap.size (blk sa) w w') (hlo : ∀ k ∈ blk sa, lo ≤ k) (hR : R < lo) : RdAt w' B R p :=
  h.stay hS h.lt fun k hk => by have := hlo k hk; have := h.lo; exact ⟨by omega, by omega⟩
theorem Stay.next {w w1 w2 : World} {B : Nat} {ex : List Nat} (h : Stay B ex w w1) (k : Stay w1.heap.size ex w1 w2) (hB : B ≤ w1.heap.size) : Stay B ex w w2 := h.trans (k.mono hB)
theorem kTo_len (c n i : Nat) : (kTo c n i).length = n := by
  induction i with
  | zero => simp [kTo]
  | succ i ih =>
    rw [kTo_succ]
    have h : ∀ k o, (kRow c n i o k).length = o.length := by
      intro k o
      induction k with
      | zero => simp [kRow]
      | succ k ihk => rw [kRow_succ]; split <;> simp [joinV_len, ihk]
    rw [h, ih]
theorem kTo_bd (c n i : Nat) (hn : n ≤ 12) (hi : i ≤ n) : Bd12 (kTo c n i) := by
  induction i with
  | zero => exact Bd12_zero n
  | succ i ih =>
    rw [kTo_succ]
    have h : ∀ k, k ≤ i → ∀ o, Bd12 o → Bd12 (kRow c n i o k) := by
      intro k hk o ho
      induction k with
      | zero => simpa [kRow] using ho
      | succ k ihk =>
        rw [kRow_succ]
        split
        · exact joinV_bd (ihk (by omega)) (by omega) (by omega)
        · exact ihk (by omega)
    exact h i (Nat.le_refl _) _ (ih (by omega))
theorem putAll_bd {n : Nat} {es : List (List Int)} (hn : n ≤ 12) (h : ∀ r ∈ es, okE n r = true) : Bd12 (putAll n es) := by
  have H : ∀ (es : List (List Int)) (o : List Int), Bd12 o → (∀ r ∈ es, okE n r = true) → Bd12 (es.foldl putE o) := by
    intro es
    induction es with
    | nil => intro o ho _; exact ho
    | cons r es ih =>
      intro o ho hr
      obtain ⟨_, h1, h2, _⟩ := okE_two (hr r (by simp))
      exact ih _ (joinV_bd ho (by omega) (by omega)) fun r' hr' => hr r' (by simp [hr'])
  exact H es _ (Bd12_zero n) h
theorem GraphOfR_draw {n : Nat} {es : List (List Int)} (hn1 : 1 ≤ n) (hn : n ≤ 12) (h : ∀ r ∈ es, okE n r = true) : ofOk n es = true ∧ (GraphOfR n es).length = n ∧ Bd12 (GraphOfR n es) := by
  have h1 : ofOk n es = true := by
    simp only [ofOk, Bool.and_eq_true, decide_eq_true_eq, List.all_eq_true]
    exact ⟨⟨by omega, by omega⟩, h⟩
  refine ⟨h1, ?_, ?_⟩
  · rw [GraphOfR, if_pos h1, Int.toNat_natCast, putAll_len]
  · rw [GraphOfR, if_pos h1, Int.toNat_natCast]; exact putAll_bd hn h
theorem okE_pair {n i k : Nat} (hi : i < n) (hk : k < n) (hne : i ≠ k) : okE n [(i : Int), (k : Int)] = true := by
  simp [okE]; omega
theorem rows_snoc {n : Nat} {rows : List (List Int)} {r : List Int} (h : ∀ x ∈ rows, okE n x = true) (hr : okE n r = true) : ∀ x ∈ rows ++ [r], okE n x = true := by
  intro x hx
  rcases List.mem_append.1 hx with h1 | h1
  · exact h x h1
  · rw [List.mem_singleton.1 h1]; exact hr
theorem xor2_bd {zs : List Int} (h : Bd12 zs) : Bd12 (zs.set 0 (((zs[0]?.getD 0).toNat ^^^ 2 : Nat) : Int)) := fun i => by
  rw [List.getElem?_set]
  split
  · split
    · have h0 := h 0
      have h1 : (zs[0]?.getD 0).toNat ^^^ 2 < 2 ^ 12 := Nat.xor_lt_two_pow (by omega) (by omega)
      simp only [Option.getD_some]
      omega
    · simp
  · exact h i
/-- what l91Graph leaves -/
def DrawnG (B R p most : Nat) (w : World) (e : Ending) (w' : World) : Prop :=
  ∃ (a : Option Addr) (n c p' : Nat) (zs : List Int), e = .returned (.slice a n c) ∧ Arr w' w.heap.size a n c zs ∧ 1 ≤ n ∧ n ≤ most ∧ Bd12 zs ∧ RdAt w' B R p' ∧ p' ≤ p + 200 ∧ Stay w.heap.size [R] w w'
set_option maxRecDepth 100000 in
set_option maxHeartbeats 8000000 in
theorem l91Graph_any (B R p most : Nat) (w : World) (h : RdAt w B R p) (hp : p ≤ 500000) (hm1 : 1 ≤ most) (hm : most ≤ 12) :
    Calls Try.prog 52 #[.pointer (some ⟨R, 0, none⟩), .int .i64 most] w (DrawnG B R p most w) := by
  have hR := h.lt
  have hlo := h.lo
  go_enter Try.func52, Try.ntmps52
  go_wp2_with fail
  refine (pick_any _ _ _ _ _ h (by omega) (by omega)).mono ?_
  rintro e w1 ⟨x, hx, rfl, h1, hS1⟩
  have hx' := inPick_lt hx (by omega)
  obtain ⟨n, hn⟩ : ∃ n, x + 1 = n := ⟨_, rfl⟩
  have hn1 : 1 ≤ n := by omega
  have hnm : n ≤ most := by omega
  have hx1 : (1 : Int) + x = n := by omega
  clear hx h hn
  go_wp2_with fail
  refine (pick_any _ _ _ _ _ h1 (by omega) (by omega)).mono ?_
  rintro e w2 ⟨y, hy, rfl, h2, hS2⟩
  have hS2' := hS1.next hS2 hS1.size
  clear hS1 hS2 h1 hy
  rcases Bool.eq_false_or_eq_true ((y : Int) == 0) with hy0 | hy0
  case' inl =>
    go_wp2_with fail
    refine (pick_any _ _ _ _ _ h2 (by omega) (by omega)).mono ?_
    rintro e w3 ⟨z, hz, rfl, h3, hS3⟩
    have hz' := inPick_lt hz (by omega)
    go_wp2_with fail
    refine (sGraphKind_any _ _ _ (by omega) (by omega)).mono ?_
    rintro e w4 ⟨sa, sn, sc, rfl, S4, hb4⟩
    have hS4 := (hS2'.next hS3 hS2'.size).then hb4 (Nat.le_trans hS2'.size hS3.size)
    have h4 := h3.below hb4
    have hlo4 : w.heap.size ≤ w3.heap.size := Nat.le_trans hS2'.size hS3.size
    clear hS2' hS3 h2 h3 hb4 hz hy0
    have h2 := h4
    have hS2' := hS4
    clear h4 hS4
    rcases Bool.eq_false_or_eq_true (kindOk z n) with hk | hk
    case' inl =>
      obtain ⟨hkx, hky, hkn⟩ := kindOk_of hk
      have hlen : sn = n := by rw [S4.len, GraphKindR, hk, if_pos rfl, kTo_len]; rfl
      have hbd : Bd12 (GraphKindR z n) := by rw [GraphKindR, hk, if_pos rfl]; exact kTo_bd _ _ _ (by omega) (by omega)
      subst hlen
      clear hkx hky hkn
      go_wp2
      go_ret
      exact ⟨_, _, _, _, _, rfl, S4.mono hlo4, hn1, hnm, hbd, h2, by omega, hS2'⟩
    case' inr => clear S4 hlo4
  all_goals
    have HV := Lib.hid (ArrRV.empty _ w.heap.size hS2'.size)
    have h2' := h2.below ((Below.refl _ _).alloc (Nat.le_refl _) (.cells #[] 23))
    have hS2a := hS2'.alloc hS2'.size (.cells #[] 23)
    clear hS2' h2
    go_wp2_with fail
    refine (pick_any _ _ _ _ _ h2' (by omega) (by omega)).mono ?_
    rintro e w5 ⟨t, ht, rfl, h5, hS5⟩
    have hS := hS2a.next hS5 hS2a.size
    have hA : ArrR w5 w.heap.size _ 0 0 [] := ArrR.stayR ⟨_, HV.out⟩ hS5 hR
    clear HV hS2a hS5 h2' ht
    obtain ⟨tb, htb⟩ : ∃ b, ((t : Int) == 0) = b := ⟨_, rfl⟩
    have HA := Lib.hid hA
    have HS := Lib.hid hS
    have HR5 := Lib.hid h5
    clear hA hS h5
    go_wp2
    go_loopw [8, 10] (fun u q wr => ∃ (i : Nat) (a' : Option Addr) (m c' p' : Nat) (rows : List (List Int)), 1 ≤ i ∧ i ≤ n ∧ q = .int .i64 i ∧ u = .slice a' m c' ∧ ArrR wr w.heap.size a' m c' rows ∧ (∀ r ∈ rows, okE n r = true) ∧ m ≤ 12 * i ∧ RdAt wr B R p' ∧ p' ≤ p + 4 + 12 * i ∧ Stay w.heap.size [R] w wr) (fun _ q _ => 12 - (intOf q).toNat)
    case atStart => exact ⟨1, _, _, _, _, _, Nat.le_refl _, hn1, rfl, rfl, HA.out, by simp, by omega, HR5.out, by omega, HS.out⟩
    case round =>
      obtain ⟨i, a', m, c', p', rows, hi1, hi, rfl, rfl, hA, hok, hml, hrd, hpl, hst⟩ := hrel
      by_cases hlt : i < n
      · have hlt' : (i : Int) < n := by omega
        cases tb with
        | true =>
          have HST := Lib.hid hst
          have HA := Lib.hid hA
          clear hst hA
          go_wp2_with fail
          refine (pick_any _ _ _ _ _ hrd (by omega) (by omega)).mono ?_
          rintro e w6 ⟨k, hk, rfl, h6, hS6⟩
          have hk' := inPick_lt hk (by omega)
          have hA6 := HA.out.stayR hS6 hR
          have hS := HST.out.next hS6 HST.out.size
          have hsz := hS.size
          have hm2 : m ≤ 1099511627776 := by omega
          have hloA := blk_loA hA6
          have HS := Lib.hid hS
          clear hk hrd hS6 hS
          go_wp2_with (at_builtin; refine wpList_appendPair (W0 := w6) (sa := a') (n := m) (cap := c') (p := i) (q := k) rfl (.tmp 40) (.tmp 46) rfl rfl hA6 rfl hsz hm2 ?_; intro g c' w' hA' hB' hS' _)
          go_roundw
          case rel => exact ⟨i + 1, _, _, _, _, _, by omega, by omega, by go_num, rfl, hA', rows_snoc hok (okE_pair hlt (by omega) (by omega)), by omega, h6.app hS' hloA hR, by omega, HS.out.trans (Below.stay hB' _)⟩
          case measure => simp [intOf]; omega
        | false =>
          have HST := Lib.hid hst
          have HA := Lib.hid hA
          clear hst hA
          go_wp2
          go_loopw [8, 11] (fun u q wr2 => ∃ (k : Nat) (a2 : Option Addr) (m2 c2 p2 : Nat) (rows2 : List (List Int)), k ≤ i ∧ q = .int .i64 k ∧ u = .slice a2 m2 c2 ∧ ArrR wr2 w.heap.size a2 m2 c2 rows2 ∧ (∀ r ∈ rows2, okE n r = true) ∧ m2 ≤ 12 * i + k ∧ RdAt wr2 B R p2 ∧ p2 ≤ p + 4 + 12 * i + k ∧ Stay w.heap.size [R] w wr2) (fun _ q _ => 12 - (intOf q).toNat)
          case atStart => exact ⟨0, _, _, _, _, _, by omega, rfl, rfl, HA.out, hok, by omega, hrd, by omega, HST.out⟩
          case round =>
            obtain ⟨k, a2, m2, c2, p2, rows2, hk, rfl, rfl, hA, hok2, hml2, hrd2, hpl2, hst2⟩ := hrel
            by_cases hlk : k < i
            · have hlk' : (k : Int) < i := by omega
              have HST2 := Lib.hid hst2
              have HA2 := Lib.hid hA
              clear hst2 hA HA HST
              go_wp2_with fail
              refine (pick_any _ _ _ _ _ hrd2 (by omega) (by omega)).mono ?_
              rintro e w6 ⟨v, hv, rfl, h6, hS6⟩
              have hA6 := HA2.out.stayR hS6 hR
              have hS := HST2.out.next hS6 HST2.out.size
              have hsz := hS.size
              have hm2 : m2 ≤ 1099511627776 := by omega
              have hloA := blk_loA hA6
              have HS := Lib.hid hS
              clear hv hrd2 hS6 hS
              cases hv0 : ((v : Int) == 0) with
              | true =>
                go_wp2_with (at_builtin; refine wpList_appendPair (W0 := w6) (sa := a2) (n := m2) (cap := c2) (p := i) (q := k) rfl (.tmp 56) (.tmp 60) rfl rfl hA6 rfl hsz hm2 ?_; intro g c' w' hA' hB' hS' _)
                go_roundw
                case rel => exact ⟨k + 1, _, _, _, _, _, by omega, by go_num, rfl, hA', rows_snoc hok2 (okE_pair hlt (by omega) (by omega)), by omega, h6.app hS' hloA hR, by omega, HS.out.trans (Below.stay hB' _)⟩
                case measure => simp [intOf]; omega
              | false =>
                have HA3 := Lib.hid hA6
                clear hA6
                go_wp2
                go_roundw
                case rel => exact ⟨k + 1, _, _, _, _, _, by omega, by go_num, rfl, HA3.out, hok2, by omega, h6, by omega, HS.out⟩
                case measure => simp [intOf]; omega
            · obtain rfl : i = k := by omega
              have HST2 := Lib.hid hst2
              have HA2 := Lib.hid hA
              clear hst2 hA HA HST
              go_wp2
              go_roundw
              case rel => exact ⟨i + 1, _, _, _, _, _, by omega, by omega, by go_num, rfl, HA2.out, hok2, by omega, hrd2, by omega, HST2.out⟩
              case measure => simp [intOf]; omega
      · obtain rfl : n = i := by omega
        obtain ⟨hof, hgl, hgb⟩ := GraphOfR_draw hn1 (by omega) hok
        have HST := Lib.hid hst
        have HA := Lib.hid hA
        have HG := Lib.hid hgb
        have HL := Lib.hid hgl
        have hnI : -9223372036854775808 ≤ (n : Int) ∧ (n : Int) ≤ 9223372036854775807 := by omega
        clear hst hA hgb hgl hok
        go_wp2_with fail
        refine (sGraphOf_any _ _ _ _ _ _ hnI HA.out.rowsAt).mono ?_
        rintro e w6 ⟨ga, gn, gc, rfl, hA6, hb6⟩
        rw [hof]
        obtain rfl : gn = n := hA6.len.trans HL.out
        have h6 := hrd.below hb6
        have hA7 := hA6.mono HST.out.size
        have hS6 := HST.out.then hb6 HST.out.size
        clear hrd hb6 hA6 HA hof hnI
        go_wp2_with fail
        refine (pick_any _ _ _ _ _ h6 (by omega) (by omega)).mono ?_
        rintro e w7 ⟨v, hv, rfl, h7, hS7⟩
        have hA := hA7.stayR hS7 hR
        have hS := hS6.next hS7 hS6.size
        have HS := Lib.hid hS
        clear hA7 hS7 hS6 h6 hS HST hv
        cases hv0 : ((v : Int) == 0) with
        | false =>
          have HA := Lib.hid hA
          clear hA
          go_wp2
          go_ret
          exact ⟨_, _, _, _, _, rfl, HA.out, hn1, hnm, HG.out, h7, by omega, HS.out⟩
        | true =>
          obtain ⟨g, rfl⟩ : ∃ g, ga = some ⟨g, 0, none⟩ := by
            rcases hA.form with ⟨_, h0, _⟩ | ⟨g, _, h, _⟩
            · omega
            · exact ⟨g, h⟩
          have hgd := HG.out 0
          have hgl := (hA.lt _ rfl).1
          have hx := hA.cellAt 0 (by omega)
          rw [List.getD_eq_getElem?_getD] at hx
          have hfx := hA.frozenAt 0
          obtain ⟨z, hz⟩ : ∃ z : Nat, (GraphOfR gn rows)[0]?.getD 0 = (z : Int) := ⟨((GraphOfR gn rows)[0]?.getD 0).toNat, by omega⟩
          have hxb := xor2_bd HG.out
          rw [hz] at hx hgd hxb
          have hex : bits BinOp.xor IntKind.i64 (z : Int) 2 = ((z ^^^ 2 : Nat) : Int) := i64_xor_nat z 2 (by omega) (by omega)
          have h7' := h7.stay ((Stay.refl w7.heap.size [g] w7).setCell (p := ⟨g, 0, none⟩) (.inl (by simp)) (.int .i64 ((z ^^^ 2 : Nat) : Int))) h7.lt (by simp; show B ≤ g ∧ g ≠ R; simp at hgl; omega)
          have hA' := Lib.hid (hA.set 0 ((z ^^^ 2 : Nat) : Int))
          have hS' := HS.out.setCell (p := ⟨g, 0, none⟩) (.inr hgl) (.int .i64 ((z ^^^ 2 : Nat) : Int))
          have HS' := Lib.hid hS'
          have HX := Lib.hid hxb
          have H7 := Lib.hid h7'
          clear hA hS' hxb h7' hz HG HS h7
          go_wp2
          go_ret
          exact ⟨_, _, _, _, _, rfl, hA'.out, hn1, hnm, HX.out, H7.out, by omega, HS'.out⟩
end Go.Proofs.Ytpllijjocccaaaa
