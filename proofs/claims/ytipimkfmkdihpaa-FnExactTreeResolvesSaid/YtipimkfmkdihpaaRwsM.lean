/- The laws' marks on slices of slices. -/
import Derived.Test.YtipimkfmkdihpaaRwsL
namespace Go.Proofs.Ytipimkfmkdihpaa
open Go.RowKit Go.Shelf

def rblk (vs : List RowV) : List Nat := vs.flatMap fun v => blk v.1
theorem mem_blk {a : Option Addr} {k : Nat} : k ∈ blk a ↔ ∃ x, a = some x ∧ x.block = k := by
  cases a with
  | none => simp [blk]
  | some y => simp [blk]; exact eq_comm
theorem mem_rblk {vs : List RowV} {k : Nat} : k ∈ rblk vs ↔ ∃ (j : Nat) (v : RowV) (x : Addr), vs[j]? = some v ∧ v.1 = some x ∧ x.block = k := by
  unfold rblk
  rw [List.mem_flatMap]
  constructor
  · rintro ⟨v, hv, hk⟩
    obtain ⟨x, hx, e⟩ := mem_blk.1 hk
    obtain ⟨j, hj⟩ := List.mem_iff_getElem?.1 hv
    exact ⟨j, v, x, hj, hx, e⟩
  · rintro ⟨j, v, x, hj, hx, e⟩
    exact ⟨v, List.mem_of_getElem? hj, mem_blk.2 ⟨x, hx, e⟩⟩
/-- the blocks of rows -/
def rbs (a : Option Addr) (vs : List RowV) : List Nat := blk a ++ rblk vs
theorem Arr.ge {w : World} {lo n cap : Nat} {a : Option Addr} {zs : List Int} (h : Arr w lo a n cap zs) : ∀ k ∈ blk a, lo ≤ k := blk_lo h
theorem Arr.lt' {w : World} {lo n cap : Nat} {a : Option Addr} {zs : List Int} (h : Arr w lo a n cap zs) : ∀ k ∈ blk a, k < w.heap.size := fun k hk => by
  obtain ⟨x, hx, rfl⟩ := mem_blk.1 hk; exact (h.lt x hx).2
theorem ArrRV.ge {w : World} {lo n cap : Nat} {a : Option Addr} {rws : List (List Int)} {vs : List RowV} (h : ArrRV w lo a n cap rws vs) : ∀ k ∈ rbs a vs, lo ≤ k := fun k hk => by
  rcases List.mem_append.1 hk with h1 | h1
  · obtain ⟨x, hx, rfl⟩ := mem_blk.1 h1; exact (h.mainlt x hx).1
  · obtain ⟨j, v, x, hj, hx, rfl⟩ := mem_rblk.1 h1; exact (h.rowlt hj x hx).1
theorem ArrRV.lt' {w : World} {lo n cap : Nat} {a : Option Addr} {rws : List (List Int)} {vs : List RowV} (h : ArrRV w lo a n cap rws vs) : ∀ k ∈ rbs a vs, k < w.heap.size := fun k hk => by
  rcases List.mem_append.1 hk with h1 | h1
  · obtain ⟨x, hx, rfl⟩ := mem_blk.1 h1; exact (h.mainlt x hx).2
  · obtain ⟨j, v, x, hj, hx, rfl⟩ := mem_rblk.1 h1; exact (h.rowlt hj x hx).2
theorem apartN {ks ex : List Nat} {s : Nat} (hN : ∀ k ∈ ks, s ≤ k) (hO : ∀ k ∈ ex, k < s) : ∀ k ∈ ks, k ∉ ex := fun k hk hm => by have h1 := hN k hk; have h2 := hO k hm; omega
theorem apartO {ks ex : List Nat} {s : Nat} (hO : ∀ k ∈ ks, k < s) (hN : ∀ k ∈ ex, s ≤ k) : ∀ k ∈ ks, k ∉ ex := fun k hk hm => by have h1 := hO k hk; have h2 := hN k hm; omega
theorem Arr.stay' {w w' : World} {lo n cap : Nat} {ex : List Nat} {a : Option Addr} {zs : List Int} (h : Arr w lo a n cap zs) (hb : Stay w.heap.size ex w w') (hx : ∀ k ∈ blk a, k ∉ ex) : Arr w' lo a n cap zs :=
  h.stay hb fun x hxx => hx _ (mem_blk.2 ⟨x, hxx, rfl⟩)
theorem ArrRV.stay' {w w' : World} {lo n cap : Nat} {ex : List Nat} {a : Option Addr} {rws : List (List Int)} {vs : List RowV} (h : ArrRV w lo a n cap rws vs) (hb : Stay w.heap.size ex w w') (hx : ∀ k ∈ rbs a vs, k ∉ ex) : ArrRV w' lo a n cap rws vs :=
  h.stay hb (fun y hy => hx _ (List.mem_append.2 (.inl (mem_blk.2 ⟨y, hy, rfl⟩)))) (fun j v x hj hv => hx _ (List.mem_append.2 (.inr (mem_rblk.2 ⟨j, v, x, hj, hv, rfl⟩))))
theorem ArrRV.setRow {w w' : World} {lo n cap j : Nat} {a : Option Addr} {rws : List (List Int)} {vs : List RowV} {v : RowV} {r : List Int} (h : ArrRV w lo a n cap rws vs) (hv : vs[j]? = some v) (hr : Arr w' lo v.1 v.2.1 v.2.2 r) (hS : Stay w.heap.size (blk v.1) w w') : ArrRV w' lo a n cap (rws.set j r) vs := by
  have hj : j < vs.length := (List.getElem?_eq_some_iff.1 hv).1
  have h1 := h.len
  have h2 := h.vlen
  refine ⟨⟨h.own.1, ?_⟩, by rw [List.length_set]; exact h1, h2, ?_, h.main, h.apart⟩
  · rcases h.own.2 with h3 | ⟨g, c, cur, hv', hg, hh, r'⟩
    · exact .inl h3
    · refine .inr ⟨g, c, cur, hv', hg, ?_, r'⟩
      simp only [Value.slice.injEq] at hv'
      obtain ⟨rfl, _, rfl⟩ := hv'
      refine (hS.block g (Array.getElem?_eq_some_iff.1 hh).1 fun hm => ?_).trans hh
      obtain ⟨x, hx, e⟩ := mem_blk.1 hm
      exact h.main j v x _ hv hx rfl e
  · intro i u hu
    by_cases e : i = j
    · subst e
      rw [hv] at hu; cases hu
      rw [List.getD_eq_getElem?_getD, List.getElem?_set, if_pos rfl, if_pos (by omega)]; exact hr
    · rw [List.getD_eq_getElem?_getD, List.getElem?_set, if_neg (Ne.symm e), ← List.getD_eq_getElem?_getD]
      refine (h.row i u hu).stay hS fun x hx hm => ?_
      obtain ⟨y, hy, e2⟩ := mem_blk.1 hm
      exact h.apart i j u v x y e hu hv hx hy e2.symm

def markTo (k : Int) (zs : List (List Int)) (j : Nat) : List (List Int) := (List.range zs.length).map fun i => if i < j then upFrom (k + totLen (zs.take i)) (zs.getD i []).length else zs.getD i []
def markR (k : Int) (zs : List (List Int)) : List (List Int) := markTo k zs zs.length
theorem markTo_len (k : Int) (zs : List (List Int)) (j : Nat) : (markTo k zs j).length = zs.length := by simp [markTo]
theorem markTo_zero (k : Int) (zs : List (List Int)) : markTo k zs 0 = zs := by
  refine List.ext_getElem (markTo_len _ _ _) fun i h1 h2 => ?_
  simp [markTo, h2]
theorem markTo_succ {k : Int} {zs : List (List Int)} {j : Nat} (hj : j < zs.length) : (markTo k zs j).set j (upFrom (k + totLen (zs.take j)) (zs.getD j []).length) = markTo k zs (j + 1) := by
  refine List.ext_getElem (by rw [List.length_set, markTo_len, markTo_len]) fun i h1 h2 => ?_
  rw [List.getElem_set]
  split
  · subst j; simp [markTo]
  · simp only [markTo, List.getElem_map, List.getElem_range]
    by_cases hi : i < j
    · rw [if_pos hi, if_pos (by omega)]
    · rw [if_neg hi, if_neg (by omega)]
theorem markTo_at {k : Int} {zs : List (List Int)} {i j : Nat} (hi : i < zs.length) : (markTo k zs j).getD i [] = if i < j then upFrom (k + totLen (zs.take i)) (zs.getD i []).length else zs.getD i [] := by
  rw [List.getD_eq_getElem?_getD]; simp [markTo, hi]
theorem totLen_le (zs : List (List Int)) (k : Nat) : totLen (zs.take k) ≤ totLen zs := by
  unfold totLen
  conv => rhs; rw [← List.take_append_drop k zs]
  rw [List.map_append, List.sum_append]; omega
theorem row_le_totLen {zs : List (List Int)} {r : List Int} (h : r ∈ zs) : r.length ≤ totLen zs := by
  unfold totLen
  induction zs with
  | nil => cases h
  | cons x xs ih =>
    rw [List.map_cons, List.sum_cons]
    rcases List.mem_cons.1 h with rfl | h
    · omega
    · have := ih h; omega
set_option maxRecDepth 100000 in
set_option maxHeartbeats 1000000 in
theorem markIntSS_any (lo : Nat) (a : Option Addr) (n cap : Nat) (zs : List (List Int)) (vs : List RowV) (k : Int) (w : World) (hA : ArrRV w lo a n cap zs vs) (hk0 : 0 ≤ k) (hk1 : k ≤ 4194304) (hn : n ≤ 4194304) (ht : totLen zs ≤ 4194304) :
    Calls Try.prog 22 #[.slice a n cap, .int .i64 k] w fun e w' => e = .returned (.int .i64 (k + totLen zs)) ∧ ArrRV w' lo a n cap (markR k zs) vs ∧ Stay w.heap.size (rbs a vs) w w' := by
  have hl := Lib.hid hA.len
  have hvl := Lib.hid hA.vlen
  have HA0 := Lib.hid hA
  clear hA
  go_enter Try.func22, Try.ntmps22
  go_wp2
  go_loopw [1, 5] (fun u p wr => ∃ (j : Nat) (t : Int), j ≤ n ∧ p = .int .i64 j ∧ u = .int .i64 t ∧ t = k + totLen (zs.take j) ∧ ArrRV wr lo a n cap (markTo k zs j) vs ∧ Stay w.heap.size (rbs a vs) w wr) (fun _ p _ => n - (intOf p).toNat)
  case atStart => exact ⟨0, _, by omega, rfl, rfl, by simp [totLen], by rw [markTo_zero]; exact HA0.out, Stay.refl _ _ _⟩
  case round =>
    obtain ⟨j, t, hj, rfl, rfl, ht2, hAr, hS⟩ := hrel
    by_cases hlt : j < n
    · rcases hAr.form with ⟨_, h0, _⟩ | ⟨g, _, rfl, _⟩
      · omega
      · have hlt' : (j : Int) < n := by omega
        obtain ⟨v, hv⟩ : ∃ v, vs[j]? = some v := ⟨_, List.getElem?_eq_getElem (by rw [← hvl.out]; exact hlt)⟩
        have hc2 := hAr.cellAt hv
        have hf2 := hAr.frozenAt j
        have hrow := hAr.row j v hv
        have hle := totLen_le zs j
        have hle2 := totLen_le zs (j + 1)
        have hst := totLen_take (zs := zs) (k := j) (by rw [← hl.out]; exact hlt)
        rw [markTo_at (by rw [← hl.out]; exact hlt), if_neg (by omega)] at hrow
        have hnj := hrow.len
        have htb : 0 ≤ t ∧ t ≤ 1099511627776 := by omega
        have HN : Hid (v.2.1 = (zs.getD j []).length) := hnj
        have HR := Lib.hid hrow
        have HA := Lib.hid hAr
        have HS := Lib.hid hS
        have HV := Lib.hid hv
        have hvn : v.2.1 ≤ 1099511627776 := by omega
        have HT := Lib.hid ht2
        have HU := Lib.hid hst
        obtain ⟨va, vn, vc⟩ := v
        simp only [RowV.val] at hc2
        simp only at hvn
        clear hle hle2 hst hnj hrow hAr hS hv ht2
        go_wp2_with fail
        refine (markIntS_any lo va vn vc _ t wr HR.out htb.1 htb.2 hvn).mono ?_
        rintro e w2 ⟨rfl, hA2, hS2⟩
        have HA2 := Lib.hid (HA.out.setRow (v := (va, vn, vc)) HV.out hA2 hS2)
        have HS2 : Hid (Stay w.heap.size (rbs (some ⟨g, 0, none⟩) vs) w w2) := HS.out.trans ((hS2.mono HS.out.size).weak fun k hk => by
          obtain ⟨x, hx, e⟩ := mem_blk.1 hk
          exact List.mem_append.2 (.inr (mem_rblk.2 ⟨j, (va, vn, vc), x, HV.out, hx, e⟩)))
        clear hA2 hS2
        go_wp2
        go_roundw
        case rel =>
          refine ⟨j + 1, t + vn, by omega, by go_num, rfl, ?_, ?_, HS2.out⟩
          · have h1 := HT.out
            have h2 := HU.out
            have h3 := HN.out
            omega
          · have h2 := HA2.out
            have h3 := HN.out
            rw [← markTo_succ (by rw [← hl.out]; exact hlt), ← HT.out, ← h3]; exact h2
        case measure => simp [intOf]; omega
    · obtain rfl : n = j := by omega
      have HA := Lib.hid hAr
      have HS := Lib.hid hS
      have HT := Lib.hid ht2
      clear hAr hS ht2
      go_wp2
      go_ret
      refine ⟨?_, by rw [markR, ← hl.out]; exact HA.out, HS.out⟩
      rw [HT.out, List.take_of_length_le (by rw [← hl.out]; exact Nat.le_refl _)]; rfl
set_option maxRecDepth 100000 in
set_option maxHeartbeats 1000000 in
theorem heldIntSS_any (a : Option Addr) (n cap : Nat) (zs : List (List Int)) (k : Int) (w : World) (hs : RowsAt w a n (markR k zs)) (hk0 : 0 ≤ k) (hk1 : k ≤ 4194304) (hn : n ≤ 4194304) (ht : totLen zs ≤ 4194304) :
    Calls Try.prog 23 #[.slice a n cap, .int .i64 k] w fun e w' => e = .returned (.int .i64 (k + totLen zs)) ∧ w = w' := by
  have hl : Hid (n = zs.length) := by have := hs.len; rw [markR, markTo_len] at this; exact this
  have HS := Lib.hid hs
  clear hs
  go_enter Try.func23, Try.ntmps23
  go_wp2
  go_loop [1, 5] (fun u p => ∃ (j : Nat) (t : Int), j ≤ n ∧ p = .int .i64 j ∧ u = .int .i64 t ∧ t = k + totLen (zs.take j)) (fun _ p => n - (intOf p).toNat)
  case atStart => exact ⟨0, _, by omega, rfl, rfl, by simp [totLen]⟩
  case round =>
    obtain ⟨j, t, hj, rfl, rfl, ht2⟩ := hrel
    by_cases hlt : j < n
    · obtain ⟨b, o, rfl, hb, hc⟩ := HS.out.at' (by omega)
      have hlt' : (j : Int) < n := by omega
      obtain ⟨aj, nj, cj, hx, hsl⟩ := hc j hlt
      have hle := totLen_le zs j
      have hle2 := totLen_le zs (j + 1)
      have hst := totLen_take (zs := zs) (k := j) (by rw [← hl.out]; exact hlt)
      rw [markR, markTo_at (by rw [← hl.out]; exact hlt), if_pos (by rw [← hl.out]; exact hlt), ← ht2] at hsl
      have hnj := hsl.len
      rw [upFrom_len] at hnj
      have htb : 0 ≤ t ∧ t ≤ 1099511627776 := by omega
      have hnb : nj ≤ 1099511627776 := by omega
      have htn : ¬ t + nj < 0 := by omega
      rw [← hnj] at hsl
      have HR := Lib.hid hsl
      have HT := Lib.hid ht2
      have HU := Lib.hid hst
      have HN := Lib.hid hnj
      clear hle hle2 hst hnj hsl hc ht2
      go_wp2_with fail
      refine (heldIntS_any aj nj cj t w HR.out htb.1 htb.2 hnb).mono ?_
      rintro e w' ⟨rfl, rfl⟩
      go_wp2
      go_round
      case rel =>
        refine ⟨j + 1, t + nj, by omega, by go_num, rfl, ?_⟩
        have h1 := HT.out
        have h2 := HU.out
        have h3 := HN.out
        omega
      case measure => simp [intOf]; omega
    · obtain rfl : n = j := by omega
      have HT := Lib.hid ht2
      clear ht2
      go_wp2
      go_ret
      refine ⟨?_, rfl⟩
      rw [HT.out, List.take_of_length_le (by rw [← hl.out]; exact Nat.le_refl _)]; rfl
end Go.Proofs.Ytipimkfmkdihpaa
