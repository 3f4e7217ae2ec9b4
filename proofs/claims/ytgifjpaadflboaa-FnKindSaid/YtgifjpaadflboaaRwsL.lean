/- The laws' helpers on slices of slices. -/
import Derived.Test.YtgifjpaadflboaaRws
namespace Go.Proofs.Ytgifjpaadflboaa
open Go.RowKit Go.Shelf

theorem ArrRV.set {W W0 : World} {lo n cap g j : Nat} {rws : List (List Int)} {vs : List RowV} {u : RowV} {r : List Int} (h0 : ArrRV W0 lo (some ⟨g, 0, none⟩) n cap rws vs) (h : ArrRV W lo (some ⟨g, 0, none⟩) n cap rws vs)
    (hr : Arr W W0.heap.size u.1 u.2.1 u.2.2 r) (hj : j < n) (hlo : lo ≤ W0.heap.size) : ArrRV (W.setCell ⟨g, j, none⟩ u.val) lo (some ⟨g, 0, none⟩) n cap (rws.set j r) (vs.set j u) := by
  have hS : Stay W.heap.size [g] W (W.setCell ⟨g, j, none⟩ u.val) := (Stay.refl _ _ _).setCell (p := ⟨g, j, none⟩) (.inl (by simp)) _
  have hg0 := (h0.mainlt _ rfl).2
  have hl := h.len
  have hv := h.vlen
  have cases' : ∀ (i : Nat) (v : RowV), (vs.set j u)[i]? = some v → (i = j ∧ v = u) ∨ (i ≠ j ∧ vs[i]? = some v) := fun i v hi => by
    rw [List.getElem?_set] at hi
    by_cases e : j = i
    · subst e; rw [if_pos rfl, if_pos (by omega)] at hi; exact .inl ⟨rfl, by simpa using hi.symm⟩
    · rw [if_neg e] at hi; exact .inr ⟨Ne.symm e, hi⟩
  have hug : ∀ x, u.1 = some x → x.block ≠ g := fun x hx => by have h1 := (hr.lt x hx).1; simp only at hg0; omega
  refine ⟨by rw [List.map_set]; exact (h.own.stored j _).1, by rw [List.length_set]; exact hl, by rw [List.length_set]; exact hv, ?_, ?_, ?_⟩
  · intro i v hi
    rcases cases' i v hi with ⟨rfl, rfl⟩ | ⟨hne, hi'⟩
    · rw [List.getD_eq_getElem?_getD, List.getElem?_set, if_pos rfl, if_pos (by omega)]
      exact (hr.mono hlo).stay hS (fun x hx => by simpa using hug x hx)
    · rw [List.getD_eq_getElem?_getD, List.getElem?_set, if_neg (Ne.symm hne), ← List.getD_eq_getElem?_getD]
      exact (h.row i v hi').stay hS (fun x hx => by have := h.main i v x _ hi' hx rfl; simpa using this)
  · intro i v x y hi hx hy
    cases hy
    rcases cases' i v hi with ⟨rfl, rfl⟩ | ⟨hne, hi'⟩
    · exact hug x hx
    · exact h.main i v x _ hi' hx rfl
  · intro i k v1 v2 x y hik h1 h2 hx hy
    rcases cases' i v1 h1 with ⟨rfl, rfl⟩ | ⟨hne, h1'⟩ <;> rcases cases' k v2 h2 with ⟨rfl, rfl⟩ | ⟨hne2, h2'⟩
    · omega
    · have a1 := (h0.rowlt h2' y hy).2
      have a2 := (hr.lt x hx).1
      omega
    · have a1 := (h0.rowlt h1' x hx).2
      have a2 := (hr.lt y hy).1
      omega
    · exact h.apart i k v1 v2 x y hik h1' h2' hx hy
theorem set_agreeR {ys zs : List (List Int)} {k : Nat} (hk : k < zs.length) (hl : ys.length = zs.length) (h : ∀ j, j < k → ys[j]? = zs[j]?) : ∀ j, j < k + 1 → (ys.set k (zs.getD k []))[j]? = zs[j]? := by
  intro j hj
  rw [List.getElem?_set]
  by_cases e : k = j
  · subst e
    rw [if_pos rfl, if_pos (by omega), List.getD_eq_getElem?_getD, List.getElem?_eq_getElem hk]; rfl
  · rw [if_neg e]; exact h j (by omega)
theorem agree_allR {ys zs : List (List Int)} (hl : ys.length = zs.length) (h : ∀ j, j < zs.length → ys[j]? = zs[j]?) : ys = zs := by
  apply List.ext_getElem?
  intro j
  by_cases hj : j < zs.length
  · exact h j hj
  · rw [List.getElem?_eq_none (by omega), List.getElem?_eq_none (by omega)]

set_option maxRecDepth 100000 in
set_option maxHeartbeats 1000000 in
theorem toIntSS_any (a : Option Addr) (n cap : Nat) (zs : List (List Int)) (w : World) (hs : RowsAt w a n zs) (hn : n ≤ 1048576) (hrow : ∀ r ∈ zs, r.length ≤ 1048576) :
    Calls Try.prog 33 #[.slice a n cap] w fun e w' => ∃ a' c', e = .returned (.slice a' n c') ∧ ArrR w' w.heap.size a' n c' zs ∧ Below w.heap.size w w' := by
  obtain ⟨i0, hi, hz0, hz1, hz2⟩ := info_parts infoInts
  go_enter Try.func33, Try.ntmps33
  go_wp2_with (at_make; refine wpList_make_full _ rfl _ _ 32 rfl w.heap.size 22 i0 (.slice none 0 0) 1 under_rows hi hz0 hz1 .i64 .i64 n n n rfl rfl rfl rfl (by rw [hz2]; omega) (by unfold maxLen; omega) (Nat.le_refl _) ?_; intro w1 hown hgrow)
  have hw1 : Below w.heap.size w w1 := (Below.refl _ _).grown hgrow (Nat.le_refl _) (by simp)
  have hA0 : ArrRV w1 w.heap.size (some ⟨w.heap.size, 0, none⟩) n n (List.replicate n []) (List.replicate n (none, 0, 0)) := ⟨by
    have e : (madeCells (Value.cells (.slice none 0 0)) (n * 1)).toList = (List.replicate n ((none, 0, 0) : RowV)).map RowV.val := by
      rw [show (Value.cells (.slice none 0 0)) = #[.slice none 0 0] from rfl, toList_madeCells_one]; simp [RowV.val]
    rw [← e]; exact hown, by simp, by simp, fun j v hv => by
      have hv' : v = (none, 0, 0) := by rw [List.getElem?_replicate] at hv; split at hv <;> simp_all
      subst hv'
      have : (List.replicate n ([] : List Int)).getD j [] = [] := by rw [List.getD_eq_getElem?_getD, List.getElem?_replicate]; split <;> rfl
      rw [this]; exact ⟨World.ownsRow_nil _ _ _ _, rfl⟩, (fun j v x y hv hx _ => by
      have hv' : v = (none, 0, 0) := by rw [List.getElem?_replicate] at hv; split at hv <;> simp_all
      subst hv'; cases hx), (fun i j u v x y _ hu _ hx _ => by
      have hv' : u = (none, 0, 0) := by rw [List.getElem?_replicate] at hu; split at hu <;> simp_all
      subst hv'; cases hx)⟩
  clear hown hgrow
  go_loopw [4] (fun p wr => ∃ (k : Nat) (ys : List (List Int)) (vs : List RowV), k ≤ n ∧ p = .int .i64 k ∧ ArrRV wr w.heap.size (some ⟨w.heap.size, 0, none⟩) n n ys vs ∧ (∀ j, j < k → ys[j]? = zs[j]?) ∧ Below w.heap.size w wr) (fun p _ => n - (intOf p).toNat)
  case atStart => exact ⟨0, _, _, by omega, rfl, hA0, by omega, hw1⟩
  case round =>
    obtain ⟨k, ys, vs, hk, rfl, hA, hag, hB⟩ := hrel
    by_cases hlt : k < n
    · obtain ⟨b, off, rfl, hb, hc⟩ := (hs.below hB).at' (by omega)
      obtain ⟨aj, nj, cj, hcell, hsl⟩ := hc k hlt
      have hlt' : (k : Int) < n := by omega
      have hl1 := hs.len
      have hl2 := hA.len
      have hl3 := hA.vlen
      have hnj : nj ≤ 1048576 := by
        rw [hsl.len, List.getD_eq_getElem?_getD, List.getElem?_eq_getElem (by omega)]
        exact hrow _ (List.getElem_mem _)
      obtain ⟨v0, hv0⟩ : ∃ v, vs[k]? = some v := ⟨_, List.getElem?_eq_getElem (by omega)⟩
      have HG := Lib.hid (set_agreeR (ys := ys) (by omega) (by omega) hag)
      have HL := Lib.hid hl1
      have HS := Lib.hid hs
      have HA := Lib.hid hA
      have HB := Lib.hid hB
      have HV := Lib.hid hv0
      clear hc hag hl1 hl2 hl3 hs hA hB hv0 hA0 hw1
      go_wp2_with fail
      refine (toIntS_any aj nj cj _ _ hsl hnj).mono ?_
      rintro e w2 ⟨a2, c2, rfl, hA2, hb2⟩
      have hA3 := HA.out.below hb2
      have hc2 := hA3.cellAt HV.out
      have hf2 := hA3.frozenAt k
      have hB2 := bnext HB.out hb2
      have H2 := Lib.hid (HA.out.set (u := (a2, nj, c2)) hA3 hA2 hlt HB.out.size)
      have H3 := Lib.hid (hB2.setCell (p := ⟨w.heap.size, k, none⟩) (Nat.le_refl _) (.slice a2 nj c2))
      clear hA3 hA2 hb2 hB2
      go_wp2
      go_roundw
      case rel => exact ⟨k + 1, _, _, by omega, by go_num, H2.out, HG.out, H3.out⟩
      case measure => simp [intOf]; omega
    · obtain rfl : n = k := by omega
      have hl1 := hs.len
      have hl2 := hA.len
      have e := agree_allR (ys := ys) (by omega) (fun j hj => hag j (by omega))
      have H := Lib.hid e
      have HA := Lib.hid hA
      clear e hl1 hl2 hs hA0 hA hag
      go_wp2
      go_ret
      exact ⟨_, _, rfl, by rw [← H.out]; exact ⟨vs, HA.out⟩, hB⟩

theorem rows_ne {xs ys : List (List Int)} {k : Nat} (h : ¬ xs.getD k [] = ys.getD k []) : decide (xs = ys) = false := decide_eq_false fun e => h (by rw [e])
theorem rows_eq {xs ys : List (List Int)} {n : Nat} (h1 : n = xs.length) (h2 : n = ys.length) (h : ∀ j, j < n → xs.getD j [] = ys.getD j []) : decide (xs = ys) = true := by
  refine decide_eq_true (List.ext_getElem (by omega) fun j hj hj' => ?_)
  have h3 := h j (by omega)
  rw [List.getD_eq_getElem?_getD, List.getD_eq_getElem?_getD, List.getElem?_eq_getElem hj, List.getElem?_eq_getElem hj'] at h3
  simpa using h3
theorem eqIntS_is (v : Bool) (a b : Option Addr) (n m ca cb : Nat) (xs ys : List Int) (w : World) (hs : SlAt w a n xs) (ht : SlAt w b m ys) (hv : decide (xs = ys) = v) (q0 : Nat) :
    Calls Try.prog 18 #[.slice a n ca, .slice b m cb] (w.drewN q0) fun e w' => e = .returned (.bool v) ∧ ∃ q, w' = w.drewN q := by
  subst hv
  exact (eqIntS_any a b n m ca cb xs ys _ (hs.drewN q0) (ht.drewN q0)).mono fun _ _ ⟨h, q, hq⟩ => ⟨h, q0 + q, by rw [← hq, World.drewN_drewN]⟩
set_option maxRecDepth 100000 in
set_option maxHeartbeats 1000000 in
theorem eqIntSS_any (a b : Option Addr) (n m ca cb : Nat) (xs ys : List (List Int)) (w : World) (hs : RowsAt w a n xs) (ht : RowsAt w b m ys) :
    Calls Try.prog 34 #[.slice a n ca, .slice b m cb] w fun e w' => e = .returned (.bool (decide (xs = ys))) ∧ ∃ q, w.drewN q = w' := by
  by_cases hnm : n = m
  · subst hnm
    have HS := Lib.hid hs
    have HT := Lib.hid ht
    clear hs ht
    go_enter Try.func34, Try.ntmps34
    go_wp2
    go_loopw [5] (fun p wr => ∃ k : Nat, k ≤ n ∧ p = .int .i64 k ∧ (∀ j, j < k → Hid (xs.getD j [] = ys.getD j [])) ∧ ∃ q, w.drewN q = wr) (fun p _ => n - (intOf p).toNat)
    case atStart => exact ⟨0, by omega, rfl, fun j hj => absurd hj (Nat.not_lt_zero j), 0, rfl⟩
    case round =>
      obtain ⟨k, hk, rfl, hag, hq⟩ := hrel
      have HQ := Lib.hid hq
      have HG := Lib.hid hag
      have hdr : Below w.heap.size w wr := by obtain ⟨q, rfl⟩ := hq; exact bdrewN w q
      have hs := HS.out.below hdr
      have ht := HT.out.below hdr
      have hbd := hs.bd
      clear hag hq hdr
      by_cases hlt : k < n
      · obtain ⟨b1, o1, rfl, hb1, hc1⟩ := hs.at' (by omega)
        obtain ⟨b2, o2, rfl, hb2, hc2⟩ := ht.at' (by omega)
        obtain ⟨a3, n3, c3, hx, hsx⟩ := hc1 k hlt
        obtain ⟨a4, n4, c4, hy, hsy⟩ := hc2 k hlt
        have hlt' : (k : Int) < n := by omega
        clear hc1 hc2 hs ht
        cases hv : decide (xs.getD k [] = ys.getD k []) with
        | true =>
          have HV := Lib.hid hv
          clear hv
          go_wp2
          go_quiet ((go_at_call 18; exact eqIntS_is true _ _ _ _ _ _ _ _ _ hsx hsy HV.out _))
          go_wp2
          go_roundw
          case rel =>
            refine ⟨k + 1, by omega, by go_num, fun j hj => ?_, drews HQ.out _⟩
            rcases Nat.lt_succ_iff_lt_or_eq.1 hj with h | rfl
            · exact HG.out j h
            · exact Lib.hid (of_decide_eq_true HV.out)
          case measure => simp [intOf]; omega
        | false =>
          have HV := Lib.hid hv
          clear hv
          go_wp2
          go_quiet ((go_at_call 18; exact eqIntS_is false _ _ _ _ _ _ _ _ _ hsx hsy HV.out _))
          go_wp2
          go_ret
          exact ⟨by rw [rows_ne (of_decide_eq_false HV.out)]; rfl, drews HQ.out _⟩
      · obtain rfl : n = k := by omega
        clear hs ht
        go_wp2
        go_ret
        exact ⟨by rw [rows_eq HS.out.len HT.out.len (fun j hj => (HG.out j hj).out)]; rfl, HQ.out⟩
  · have hne : decide (xs = ys) = false := decide_eq_false fun e => hnm (by rw [hs.len, ht.len, e])
    have H := Lib.hid hne
    clear hne hs ht
    go_enter Try.func34, Try.ntmps34
    go_wp2
    go_ret
    exact ⟨by rw [H.out]; rfl, 0, rfl⟩
theorem eqIntSS_same (a b : Option Addr) (n m ca cb : Nat) (xs : List (List Int)) (w : World) (hs : RowsAt w a n xs) (ht : RowsAt w b m xs) :
    Calls Try.prog 34 #[.slice a n ca, .slice b m cb] w fun e w' => e = .returned (.bool true) ∧ Below w.heap.size w w' :=
  (eqIntSS_any a b n m ca cb xs xs w hs ht).mono fun _ _ ⟨h, q, hq⟩ => ⟨by rw [h]; simp, by subst hq; exact bdrewN _ _⟩

theorem szIntS_any (a : Option Addr) (n cap : Nat) (left : Int) (w : World) (hn : n ≤ 9223372036854775807) (hl0 : 0 ≤ left) (hl1 : left ≤ 1048576) :
    Calls Try.prog 65 #[.slice a n cap, .int .i64 left] w fun e w' => e = .returned (.int .i64 (if left < n then -1 else left - n)) ∧ w = w' := by
  by_cases h : left < n
  · have h' : left - n < 0 := by omega
    go_enter Try.func65, Try.ntmps65
    go_wp2
    go_ret
    exact ⟨rfl, rfl⟩
  · have h' : ¬ left - n < 0 := by omega
    go_enter Try.func65, Try.ntmps65
    go_wp2
    go_ret
    exact ⟨rfl, rfl⟩
def totLen (zs : List (List Int)) : Nat := (zs.map List.length).sum
theorem totLen_take {zs : List (List Int)} {k : Nat} (h : k < zs.length) : totLen (zs.take (k + 1)) = totLen (zs.take k) + (zs.getD k []).length := by
  unfold totLen
  rw [List.take_succ_eq_append_getElem h, List.map_append, List.sum_append, List.getD_eq_getElem?_getD, List.getElem?_eq_getElem h]; simp
set_option maxRecDepth 100000 in
set_option maxHeartbeats 1000000 in
theorem szIntSS_any (a : Option Addr) (n cap : Nat) (zs : List (List Int)) (left : Int) (w : World) (hs : RowsAt w a n zs) (hl0 : 0 ≤ left) (hl1 : left ≤ 1048576) :
    Calls Try.prog 32 #[.slice a n cap, .int .i64 left] w fun e w' => ∃ r : Int, e = .returned (.int .i64 r) ∧ (r = -1 ∨ (0 ≤ r ∧ r + totLen zs + n = left)) ∧ w = w' := by
  have hbd := hs.bd
  by_cases h : left < n
  · have h' : left - n < 0 := by omega
    clear hs
    go_enter Try.func32, Try.ntmps32
    go_wp2
    go_ret
    exact ⟨-1, rfl, .inl rfl, rfl⟩
  · have h' : ¬ left - n < 0 := by omega
    have HS := Lib.hid hs
    clear hs
    go_enter Try.func32, Try.ntmps32
    go_wp2
    go_loop [1, 5] (fun u p => ∃ (k : Nat) (r : Int), k ≤ n ∧ p = .int .i64 k ∧ u = .int .i64 r ∧ 0 ≤ r ∧ r ≤ 1048576 ∧ Hid (r + totLen (zs.take k) + n = left)) (fun _ p => n - (intOf p).toNat)
    case atStart => exact ⟨0, left - n, by omega, rfl, rfl, by omega, by omega, by show left - n + totLen (zs.take 0) + n = left; simp [totLen]⟩
    case round =>
      obtain ⟨k, r, hk, rfl, rfl, hr0, hr1, HR⟩ := hrel
      by_cases hlt : k < n
      · obtain ⟨b, off, rfl, hb, hc⟩ := HS.out.at' (by omega)
        obtain ⟨aj, nj, cj, hcell, hsl⟩ := hc k hlt
        have hlt' : (k : Int) < n := by omega
        have hnj := hsl.bd
        have HT := Lib.hid (totLen_take (zs := zs) (k := k) (by rw [← HS.out.len]; exact hlt))
        have HJ := Lib.hid hsl.len
        clear hc hsl
        by_cases hcmp : r < nj
        · go_wp2_with (go_at_call 65; refine (szIntS_any _ _ _ _ _ hnj hr0 hr1).mono ?_; rintro e w' ⟨rfl, rfl⟩; rw [if_pos hcmp])
          go_ret
          exact ⟨-1, rfl, .inl rfl, rfl⟩
        · have hneg : ¬ r - nj < 0 := by omega
          go_wp2_with (go_at_call 65; refine (szIntS_any _ _ _ _ _ hnj hr0 hr1).mono ?_; rintro e w' ⟨rfl, rfl⟩; rw [if_neg hcmp])
          go_round
          case rel =>
            refine ⟨k + 1, r - nj, by omega, by go_num, rfl, by omega, by omega, ?_⟩
            have h1 := HR.out
            have h2 := HT.out
            have h3 := HJ.out
            show r - nj + totLen (zs.take (k + 1)) + n = left
            omega
          case measure => simp [intOf]; omega
      · obtain rfl : n = k := by omega
        go_wp2
        go_ret
        refine ⟨r, rfl, .inr ⟨hr0, ?_⟩, rfl⟩
        have h1 := HR.out
        rw [List.take_of_length_le (by rw [← HS.out.len]; exact Nat.le_refl _)] at h1
        exact h1
end Go.Proofs.Ytgifjpaadflboaa
