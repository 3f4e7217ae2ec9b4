/- The laws' helpers on slices of slices. -/
import Derived.Test.YtipimkfmkdihpaaRws
namespace Go.Proofs.Ytipimkfmkdihpaa
open Go.RowKit Go.Shelf

theorem ArrRV.set {W W0 : World} {lo n cap g j : Nat} {rws : List (List Int)} {vs : List RowV} {u : RowV} {r : List Int} (h0 : ArrRV W0 lo (some ⟨g, 0, none⟩) n cap rws vs) (h : ArrRV W lo (some ⟨g, 0, none⟩) n cap rws vs)
    (hr : Arr W W0.heap.size u.1 u.2.1 u.2.2 r) (hj : j < n) (hlo : lo ≤ W0.heap.size) : ArrRV (W.setCell ⟨g, j, none⟩ u.val) lo (some ⟨g, 0, none⟩) n cap (rws.set j r) (vs.set j u) := by
  have hS : Stay W.heap.size [g] W (W.setCell ⟨g, j, none⟩ u.val) := (Stay.refl _ _ _).setCell (p := ⟨g, j, none⟩) (.inl (by simp)) _
  have hg0 := (h0.mainlt _ rfl).2
  have hl := h.len
  have hv := h.vlen
  have cases' : ∀ (i : Nat) (v : RowV), (vs.set j u)[i]? = some v → (i = j ∧ v = u) ∨ (i ≠ j ∧ vs[i]? = some v) := fun i v hi => by
    rw [List.getElem?_set] at hi
    by_cases e : j = i
    · subst e; rw [if_pos rfl, if_pos (by omega)] at hi; exact .inl ⟨rfl, by simpa using hi.symm⟩
    · rw [if_neg e] at hi; exact .inr ⟨Ne.symm e, hi⟩
  have hug : ∀ x, u.1 = some x → x.block ≠ g := fun x hx => by have h1 := (hr.lt x hx).1; simp only at hg0; omega
  refine ⟨by rw [List.map_set]; exact (h.own.stored j _).1, by rw [List.length_set]; exact hl, by rw [List.length_set]; exact hv, ?_, ?_, ?_⟩
  · intro i v hi
    rcases cases' i v hi with ⟨rfl, rfl⟩ | ⟨hne, hi'⟩
    · rw [List.getD_eq_getElem?_getD, List.getElem?_set, if_pos rfl, if_pos (by omega)]
      exact (hr.mono hlo).stay hS (fun x hx => by simpa using hug x hx)
    · rw [List.getD_eq_getElem?_getD, List.getElem?_set, if_neg (Ne.symm hne), ← List.getD_eq_getElem?_getD]
      exact (h.row i v hi').stay hS (fun x hx => by have := h.main i v x _ hi' hx rfl; simpa using this)
  · intro i v x y hi hx hy
    cases hy
    rcases cases' i v hi with ⟨rfl, rfl⟩ | ⟨hne, hi'⟩
    · exact hug x hx
    · exact h.main i v x _ hi' hx rfl
  · intro i k v1 v2 x y hik h1 h2 hx hy
    rcases cases' i v1 h1 with ⟨rfl, rfl⟩ | ⟨hne, h1'⟩ <;> rcases cases' k v2 h2 with ⟨rfl, rfl⟩ | ⟨hne2, h2'⟩
    · omega
    · have a1 := (h0.rowlt h2' y hy).2
      have a2 := (hr.lt x hx).1
      omega
    · have a1 := (h0.rowlt h1' x hx).2
      have a2 := (hr.lt y hy).1
      omega
    · exact h.apart i k v1 v2 x y hik h1' h2' hx hy
theorem set_agreeR {ys zs : List (List Int)} {k : Nat} (hk : k < zs.length) (hl : ys.length = zs.length) (h : ∀ j, j < k → ys[j]? = zs[j]?) : ∀ j, j < k + 1 → (ys.set k (zs.getD k []))[j]? = zs[j]? := by
  intro j hj
  rw [List.getElem?_set]
  by_cases e : k = j
  · subst e
    rw [if_pos rfl, if_pos (by omega), List.getD_eq_getElem?_getD, List.getElem?_eq_getElem hk]; rfl
  · rw [if_neg e]; exact h j (by omega)
theorem agree_allR {ys zs : List (List Int)} (hl : ys.length = zs.length) (h : ∀ j, j < zs.length → ys[j]? = zs[j]?) : ys = zs := by
  apply List.ext_getElem?
  intro j
  by_cases hj : j < zs.length
  · exact h j hj
  · rw [List.getElem?_eq_none (by omega), List.getElem?_eq_none (by omega)]

theorem rows_ne {xs ys : List (List Int)} {k : Nat} (h : ¬ xs.getD k [] = ys.getD k []) : decide (xs = ys) = false := decide_eq_false fun e => h (by rw [e])
theorem rows_eq {xs ys : List (List Int)} {n : Nat} (h1 : n = xs.length) (h2 : n = ys.length) (h : ∀ j, j < n → xs.getD j [] = ys.getD j []) : decide (xs = ys) = true := by
  refine decide_eq_true (List.ext_getElem (by omega) fun j hj hj' => ?_)
  have h3 := h j (by omega)
  rw [List.getD_eq_getElem?_getD, List.getD_eq_getElem?_getD, List.getElem?_eq_getElem hj, List.getElem?_eq_getElem hj'] at h3
  simpa using h3
theorem eqIntS_is (v : Bool) (a b : Option Addr) (n m ca cb : Nat) (xs ys : List Int) (w : World) (hs : SlAt w a n xs) (ht : SlAt w b m ys) (hv : decide (xs = ys) = v) (q0 : Nat) :
    Calls Try.prog 17 #[.slice a n ca, .slice b m cb] (w.drewN q0) fun e w' => e = .returned (.bool v) ∧ ∃ q, w' = w.drewN q := by
  subst hv
  exact (eqIntS_any a b n m ca cb xs ys _ (hs.drewN q0) (ht.drewN q0)).mono fun _ _ ⟨h, q, hq⟩ => ⟨h, q0 + q, by rw [← hq, World.drewN_drewN]⟩
set_option maxRecDepth 100000 in
set_option maxHeartbeats 1000000 in
theorem eqIntSS_any (a b : Option Addr) (n m ca cb : Nat) (xs ys : List (List Int)) (w : World) (hs : RowsAt w a n xs) (ht : RowsAt w b m ys) :
    Calls Try.prog 20 #[.slice a n ca, .slice b m cb] w fun e w' => e = .returned (.bool (decide (xs = ys))) ∧ ∃ q, w.drewN q = w' := by
  by_cases hnm : n = m
  · subst hnm
    have HS := Lib.hid hs
    have HT := Lib.hid ht
    clear hs ht
    go_enter Try.func20, Try.ntmps20
    go_wp2
    go_loopw [5] (fun p wr => ∃ k : Nat, k ≤ n ∧ p = .int .i64 k ∧ (∀ j, j < k → Hid (xs.getD j [] = ys.getD j [])) ∧ ∃ q, w.drewN q = wr) (fun p _ => n - (intOf p).toNat)
    case atStart => exact ⟨0, by omega, rfl, fun j hj => absurd hj (Nat.not_lt_zero j), 0, rfl⟩
    case round =>
      obtain ⟨k, hk, rfl, hag, hq⟩ := hrel
      have HQ := Lib.hid hq
      have HG := Lib.hid hag
      have hdr : Below w.heap.size w wr := by obtain ⟨q, rfl⟩ := hq; exact bdrewN w q
      have hs := HS.out.below hdr
      have ht := HT.out.below hdr
      have hbd := hs.bd
      clear hag hq hdr
      by_cases hlt : k < n
      · obtain ⟨b1, o1, rfl, hb1, hc1⟩ := hs.at' (by omega)
        obtain ⟨b2, o2, rfl, hb2, hc2⟩ := ht.at' (by omega)
        obtain ⟨a3, n3, c3, hx, hsx⟩ := hc1 k hlt
        obtain ⟨a4, n4, c4, hy, hsy⟩ := hc2 k hlt
        have hlt' : (k : Int) < n := by omega
        clear hc1 hc2 hs ht
        cases hv : decide (xs.getD k [] = ys.getD k []) with
        | true =>
          have HV := Lib.hid hv
          clear hv
          go_wp2
          go_quiet ((go_at_call 17; exact eqIntS_is true _ _ _ _ _ _ _ _ _ hsx hsy HV.out _))
          go_wp2
          go_roundw
          case rel =>
            refine ⟨k + 1, by omega, by go_num, fun j hj => ?_, drews HQ.out _⟩
            rcases Nat.lt_succ_iff_lt_or_eq.1 hj with h | rfl
            · exact HG.out j h
            · exact Lib.hid (of_decide_eq_true HV.out)
          case measure => simp [intOf]; omega
        | false =>
          have HV := Lib.hid hv
          clear hv
          go_wp2
          go_quiet ((go_at_call 17; exact eqIntS_is false _ _ _ _ _ _ _ _ _ hsx hsy HV.out _))
          go_wp2
          go_ret
          exact ⟨by rw [rows_ne (of_decide_eq_false HV.out)]; rfl, drews HQ.out _⟩
      · obtain rfl : n = k := by omega
        clear hs ht
        go_wp2
        go_ret
        exact ⟨by rw [rows_eq HS.out.len HT.out.len (fun j hj => (HG.out j hj).out)]; rfl, HQ.out⟩
  · have hne : decide (xs = ys) = false := decide_eq_false fun e => hnm (by rw [hs.len, ht.len, e])
    have H := Lib.hid hne
    clear hne hs ht
    go_enter Try.func20, Try.ntmps20
    go_wp2
    go_ret
    exact ⟨by rw [H.out]; rfl, 0, rfl⟩
theorem eqIntSS_same (a b : Option Addr) (n m ca cb : Nat) (xs : List (List Int)) (w : World) (hs : RowsAt w a n xs) (ht : RowsAt w b m xs) :
    Calls Try.prog 20 #[.slice a n ca, .slice b m cb] w fun e w' => e = .returned (.bool true) ∧ Below w.heap.size w w' :=
  (eqIntSS_any a b n m ca cb xs xs w hs ht).mono fun _ _ ⟨h, q, hq⟩ => ⟨by rw [h]; simp, by subst hq; exact bdrewN _ _⟩

def totLen (zs : List (List Int)) : Nat := (zs.map List.length).sum
theorem totLen_take {zs : List (List Int)} {k : Nat} (h : k < zs.length) : totLen (zs.take (k + 1)) = totLen (zs.take k) + (zs.getD k []).length := by
  unfold totLen
  rw [List.take_succ_eq_append_getElem h, List.map_append, List.sum_append, List.getD_eq_getElem?_getD, List.getElem?_eq_getElem h]; simp
end Go.Proofs.Ytipimkfmkdihpaa
