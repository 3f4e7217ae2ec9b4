/- impl.distances: by levels. -/
import Derived.Test.YtpllijjocccaaaaDistM
namespace Go.Proofs.Ytpllijjocccaaaa
open Go.RowKit Go.Shelf
attribute [local go_sem] Oper.semAt_some

theorem boxes1 (w : World) (v : Value) (t : TypeId) : Boxed (w.alloc (.cells #[v] t)) w.heap.size t v := Boxed.new w t v

theorem or_lt_of {S E : Nat} (h : ∀ x, E.testBit x = true → S.testBit x = false) (hE : E ≠ 0) : S < S ||| E := by
  refine Nat.lt_of_le_of_ne Nat.left_le_or fun e => hE ?_
  apply Nat.eq_of_testBit_eq
  intro i
  rw [Nat.zero_testBit]
  cases hb : E.testBit i with
  | false => rfl
  | true =>
    have h1 := h i hb
    have h2 : (S ||| E).testBit i = true := by rw [Nat.testBit_or, hb, Bool.or_true]
    rw [← e, h1] at h2; cases h2
theorem ext_at {xs ys : List Int} (hl : ys.length = xs.length) (h : ∀ j, j < xs.length → xs[j]?.getD 0 = ys[j]?.getD 0) : xs = ys := by
  refine List.ext_getElem hl.symm fun j hj hj' => ?_
  have h3 := h j hj
  rw [List.getElem?_eq_getElem hj, List.getElem?_eq_getElem hj'] at h3
  simpa using h3
theorem Arr.same {w w' : World} {lo n cap : Nat} {a : Option Addr} {zs : List Int} (h : Arr w lo a n cap zs) (hb : ∀ x, a = some x → w'.heap[x.block]? = w.heap[x.block]?) : Arr w' lo a n cap zs := by
  refine ⟨⟨h.own.1, ?_⟩, h.len⟩
  rcases h.own.2 with h1 | ⟨g, c, cur, hv, hg, hh, r⟩
  · exact .inl h1
  · refine .inr ⟨g, c, cur, hv, hg, ?_, r⟩
    simp only [Value.slice.injEq] at hv
    obtain ⟨rfl, _, rfl⟩ := hv
    exact (hb _ rfl).trans hh
set_option maxRecDepth 100000 in
set_option maxHeartbeats 4000000 in
theorem distances_any (b off n cap : Nat) (zs : List Int) (src : Int) (w : World) (hG : IsG n zs) (hb : b < w.heap.size)
    (hc : ∀ j, j < n → w.cell? ⟨b, off + j, none⟩ = some (.int .i64 (zs.getD j 0))) (hs0 : 0 ≤ src) (hs1 : src < n) :
    Calls Try.prog 93 #[.slice (some ⟨b, off, none⟩) n cap, .int .i64 src] w fun e w' => ∃ g c', e = .returned (.slice (some ⟨g, 0, none⟩) n c') ∧ Arr w' w.heap.size (some ⟨g, 0, none⟩) n c' (distsV zs src.toNat) ∧ Below w.heap.size w w' := by
  obtain ⟨s0, rfl⟩ := Int.eq_ofNat_of_zero_le hs0
  rw [Int.toNat_natCast]
  have hs2 : s0 < n := by omega
  have hn2 := hG.le
  have hn1 := hG.pos
  obtain ⟨i0, hi, hz0, hz1, hz2⟩ := info_parts infoInt
  refine calls_marks Try.func93 rfl ?_
  simp only [Try.ntmps93, List.size_toArray, List.length_cons, List.length_nil, Nat.reduceAdd, Nat.reduceSub, Array.replicate_succ, Array.replicate_zero, List.push_toArray, List.append_toArray, List.nil_append, List.cons_append]
  go_wp2_with (at_make; refine wpList_make_full _ rfl _ _ 23 rfl w.heap.size 3 i0 (.int .i64 0) 1 Try.underlying23 hi hz0 hz1 .i64 .i64 n n n rfl rfl rfl rfl (by rw [hz2]; omega) (by unfold maxLen; omega) (by simp) ?_; intro w1 hown hgrow)
  have hB1 : Below w.heap.size w w1 := ((Below.refl _ _).alloc (Nat.le_refl _) _).grown hgrow (by simp) (by simp)
  have hA1 : Arr w1 w.heap.size (some ⟨w.heap.size + 1, 0, none⟩) n n (List.replicate n 0) := ⟨by
    have e : (madeCells (Value.cells (.int .i64 0)) (n * 1)).toList = (List.replicate n (0 : Int)).map (Value.int .i64) := by
      rw [show (Value.cells (.int .i64 0)) = #[.int .i64 0] from rfl, toList_madeCells_one]; simp
    rw [← e]; simpa using hown, by simp⟩
  have hbA1 : Boxed w1 w.heap.size 57 (.slice (some ⟨b, off, none⟩) n cap) := (hgrow.block w.heap.size (by simp) (by simp)).trans (Boxed.new w _ _)
  have hsz1 : w.heap.size + 1 < w1.heap.size := (hA1.lt _ rfl).2
  clear hown hgrow
  obtain ⟨w2, hw2⟩ : ∃ w2, w1.alloc (.cells #[.slice (some ⟨w.heap.size + 1, 0, none⟩) n n] 23) = w2 := ⟨_, rfl⟩
  have hw2s : w2.heap.size = w1.heap.size + 1 := by rw [← hw2]; simp
  have hB2 : Below w.heap.size w w2 := by rw [← hw2]; exact hB1.alloc hB1.size _
  have hA2 : Arr w2 w.heap.size (some ⟨w.heap.size + 1, 0, none⟩) n n (List.replicate n 0) := by rw [← hw2]; exact hA1.alloc _
  have hbA2 : Boxed w2 w.heap.size 57 (.slice (some ⟨b, off, none⟩) n cap) := by rw [← hw2]; exact Boxed.alloc hbA1 _
  have hbO2 : Boxed w2 w1.heap.size 23 (.slice (some ⟨w.heap.size + 1, 0, none⟩) n n) := by rw [← hw2]; exact Boxed.new w1 _ _
  rw [hw2]
  obtain ⟨O, hO⟩ : ∃ O, w1.heap.size = O := ⟨_, rfl⟩
  rw [hO] at hsz1 hw2s hbO2 ⊢
  obtain ⟨A, hA⟩ : ∃ A, w.heap.size = A := ⟨_, rfl⟩
  rw [hA] at hsz1 hB2 hA2 hbA2 hbO2 hb ⊢
  have HAe := Lib.hid hA
  clear hA hA1 hB1 hbA1 hw2 hO
  have hc2 : ∀ j, j < n → w2.cell? ⟨b, off + j, none⟩ = some (.int .i64 (zs.getD j 0)) := fun j hj => (hB2.cell (p := ⟨b, off + j, none⟩) hb).trans (hc j hj)
  clear hc
  go_loopw [17] (fun p wr => ∃ (k : Nat) (ys : List Int), k ≤ n ∧ p = .int .i64 k ∧ Arr wr A (some ⟨A + 1, 0, none⟩) n n ys ∧ (∀ j, j < k → ys[j]?.getD 0 = 12) ∧ Stay w2.heap.size [A + 1] w2 wr) (fun p _ => 12 - (intOf p).toNat)
  case atStart => exact ⟨0, _, by omega, rfl, hA2, by omega, Stay.refl _ _ _⟩
  case round =>
    obtain ⟨k, ys, hk, rfl, hA, hag, hS⟩ := hrel
    by_cases hlt : k < n
    · have hlt' : (k : Int) < n := by omega
      have cO := (Boxed.stay hbO2 hS (by omega) (by simp; omega)).cell
      have cx := hA.cellAt k hlt
      have fx := hA.frozenAt k
      have HA := Lib.hid (hA.set k 12)
      have HS := Lib.hid (hS.setCell (p := ⟨A + 1, k, none⟩) (.inl (by simp)) (.int .i64 12))
      have HG : Hid (∀ j, j < k + 1 → (ys.set k 12)[j]?.getD 0 = 12) := by
        intro j hj
        have hl := hA.len
        rw [List.getElem?_set]
        by_cases e : k = j
        · subst e; rw [if_pos rfl, if_pos (by omega)]; rfl
        · rw [if_neg e]; exact hag j (by omega)
      clear hag hA hS hc2
      go_wp2
      go_roundw
      case rel => exact ⟨k + 1, _, by omega, by go_num, HA.out, HG.out, HS.out⟩
      case measure => simp [intOf]; omega
    · obtain rfl : n = k := by omega
      have hlt2 : (s0 : Int) < 64 := by omega
      have hp := npow_bd s0 (by omega)
      have hw1 : IntKind.i64.wrap (2 ^ s0) = 2 ^ s0 := IntWalk.i64_in _ (by omega)
      go_wp2
      go_quiet (fail)
      obtain ⟨wq, hwq⟩ : ∃ wq, wr.drewN nq = wq := ⟨_, rfl⟩
      rw [hwq]
      have hSq : Stay w2.heap.size [A + 1] w2 wq := by rw [← hwq]; exact hS.trans (Below.stay ((bdrewN wr nq).mono hS.size) _)
      have hAq : Arr wq A (some ⟨A + 1, 0, none⟩) n n ys := by rw [← hwq]; exact hA.below (bdrewN _ _)
      clear hwq hS hA
      go_wp2
      have hq1 := hSq.size
      have hS0 : Stay w2.heap.size [A + 1] w2 (wq.alloc (.cells #[.int .i64 0] 3)) := hSq.alloc hSq.size _
      have hA0 : Arr (wq.alloc (.cells #[.int .i64 0] 3)) A (some ⟨A + 1, 0, none⟩) n n ys := hAq.alloc _
      have hT0 : Boxed (wq.alloc (.cells #[.int .i64 0] 3)) wq.heap.size 3 (.int .i64 0) := Boxed.new wq _ _
      have hdy : ∀ x, x < n → ys[x]?.getD 0 = dAt zs s0 0 x := fun x hx => by rw [hag x hx]; exact (dAt_out (by omega)).symm
      have hE0 : Hid ((2 : Int) ^ s0 = ((levE zs s0 0 : Nat) : Int)) := by show (2 : Int) ^ s0 = (((2 ^ s0 : Nat)) : Int); simp
      rw [hE0.out]
      clear hag hw1 hp
      refine wp_loop (fun a W => ∃ (k S E T : Nat) (Ds : List Nat) (ys : List Int) (x10 x26 x27 x28 x29 x30 x31 x32 x33 x34 x46 x47 x48 x49 : Value),
          a = { tmps := #[.slice (some ⟨b, off, none⟩) n cap, .int .i64 s0, .pointer (some ⟨A, 0, none⟩), undef, .slice none 0 0, .pointer (some ⟨O, 0, none⟩), u6, .int .i64 S, .int .i64 E, .pointer (some ⟨T, 0, none⟩), x10, undef, .slice (some ⟨b, off, none⟩) n cap, .int .i64 n, .slice (some ⟨A + 1, 0, none⟩) n n, .slice (some ⟨A + 1, 0, none⟩) n n, .int .i64 n, .int .i64 n, .bool false, u19, u20, u21, u22, u23, .int .i64 s0, .int .i64 (levE zs s0 0 : Nat), x26, x27, x28, x29, x30, x31, x32, x33, x34, undef, undef, undef, undef, undef, undef, undef, undef, undef, undef, undef, x46, x47, x48, x49, undef], defers := marks Ds } ∧
          k ≤ 12 ∧ Hid (S = levS zs s0 k) ∧ Hid (E = levE zs s0 k) ∧ w2.heap.size ≤ T ∧ Boxed W T 3 (.int .i64 k) ∧ Arr W A (some ⟨A + 1, 0, none⟩) n n ys ∧ (∀ x, x < n → ys[x]?.getD 0 = dAt zs s0 k x) ∧ Stay w2.heap.size [A + 1] w2 W ∧ MarksOk w2.heap.size Ds W)
        (fun a _ => 4096 - (intOf (a.tmps.getD 7 undef)).toNat) ⟨0, 0, levE zs s0 0, wq.heap.size, [], ys, _, _, _, _, _, _, _, _, _, _, _, _, _, _, rfl, by omega, rfl, rfl, by omega, hT0, hA0, hdy, hS0, MarksOk.nil _ _⟩ ?_
      rintro a wr ⟨k, S, E, T, Ds, ys, x10, x26, x27, x28, x29, x30, x31, x32, x33, x34, x46, x47, x48, x49, rfl, hk, HS, HE, hT, hbT, hA, hdy, hSr, hM⟩
      have hSlt : S < 4096 := by rw [HS.out]; exact (lev_lt12 hG hs2 k).1
      have hElt : E < 4096 := by rw [HE.out]; exact (lev_lt12 hG hs2 k).2
      by_cases hE : E = 0
      · have hbz : ((E : Int) != 0) = false := by subst hE; rfl
        have cO := (Boxed.stay hbO2 hSr (by omega) (by simp; omega)).cell
        have hE0' : levE zs s0 k = 0 := by rw [← HE.out]; exact hE
        have hl := hA.len
        have e : ys = distsV zs s0 := ext_at (by rw [distsV_len, ← hG.len]; exact hl) fun x hx => by
          rw [distsV_at (by rw [← hG.len]; omega), hdy x (by omega), dist_of_stop hE0' hk]
        have H := Lib.hid e
        clear hc2 hl e hdy
        go_wp2
        have hsr := hSr.size
        refine leaves_marks (lo := w2.heap.size) Ds _ hsr hM ?_
        intro W' hTn
        refine ⟨_, results_tmp rfl _ _ _, _, _, rfl, ?_, ?_⟩
        · rw [← H.out, HAe.out]; exact Turned.arr hTn hA
        · rw [HAe.out]; exact hB2.trans ((hSr.below (by omega) (by simp)).trans (hTn.below.mono (by omega)))
      · have hbz : ((E : Int) != 0) = true := by simp; exact hE
        have eor : bits BinOp.or IntKind.i64 (S : Int) (E : Int) = ((S ||| E : Nat) : Int) := i64_or_nat _ _ (by omega) (by omega)
        have hkn : k < n := levE_ne hG hs2 (by rw [← HE.out]; exact hE)
        have hEn : E < 2 ^ n := by rw [HE.out]; exact (lev_lt hG hs2 k).2
        go_wp2_with (go_at_call 85; refine (nodes_any _ _).mono ?_; rintro e w' ⟨rfl, rfl⟩)
        have hsr := hSr.size
        obtain ⟨W1, hW1⟩ : ∃ W1, (wr.alloc (.cells #[.int .i64 0] 3)).alloc (.cells #[.int .i64 E] 3) = W1 := ⟨_, rfl⟩
        have hW1s : W1.heap.size = wr.heap.size + 2 := by rw [← hW1]; simp
        have hb12 := boxes2 wr (.int .i64 0) (.int .i64 E) 3 3
        rw [hW1] at hb12 ⊢
        have hS1 : Stay w2.heap.size [A + 1] w2 W1 := hSr.then hb12.2.2 hSr.size
        have hN1 : Boxed W1 wr.heap.size 3 (.int .i64 0) := by rw [← hW1]; exact Boxed.alloc (Boxed.new wr _ _) _
        have hA1 : Arr W1 A (some ⟨A + 1, 0, none⟩) n n ys := hA.below hb12.2.2
        have hT1 : Boxed W1 T 3 (.int .i64 k) := Boxed.stay hbT (Below.stay hb12.2.2 []) hbT.lt (by simp)
        have hTlt := hbT.lt
        have hM1 : MarksOk w2.heap.size Ds W1 := hM.below hb12.2.2
        have hM1old : ∀ X ∈ Ds, X ≠ wr.heap.size := fun X hX => by have := hM.lt X hX; omega
        clear hW1 hA hbT hSr hM
        refine wp_nodes2 rfl hElt (Bn := wr.heap.size + 1) (by omega) hb12.2.1 [A + 1, wr.heap.size] (by simp; omega)
          (fun pre W => (∃ ys', Arr W A (some ⟨A + 1, 0, none⟩) n n ys' ∧ ∀ x, x < n → ys'[x]?.getD 0 = if x ∈ pre then (k : Int) else dAt zs s0 k x) ∧ Boxed W wr.heap.size 3 (.int .i64 (nbrP zs pre : Nat)))
          (fun _ _ => False)
          (fun pre W W' h hk' => ⟨by obtain ⟨ys', h1, h2⟩ := h.1; exact ⟨ys', h1.same (by intro x hx; cases hx; exact hk' (A + 1) (by simp)), h2⟩, (hk' _ (by simp)).trans h.2⟩) (fun pre W W' h _ => h) ⟨⟨ys, hA1, by simpa using hdy⟩, hN1⟩ ?round ?done ?stop
        case round =>
          intro l x W K hx hK
          gi_wp2
          rintro l pre W hpre hSW ⟨⟨ys', hAW, hy⟩, hNW⟩
          have hxn : x < n := lt_of_mem_bitsOf hEn hx
          have hxi : (x : Int) < n := by omega
          have cA : W.cell? ⟨A, 0, none⟩ = some (.slice (some ⟨b, off, none⟩) n cap) := (Boxed.stay hbA2 (hS1.weak (ex' := [A + 1, wr.heap.size]) (by simp) |>.trans (hSW.mono (by omega))) (by omega) (by simp; omega)).cell
          have cO : W.cell? ⟨O, 0, none⟩ = some (.slice (some ⟨A + 1, 0, none⟩) n n) := (Boxed.stay hbO2 (hS1.weak (ex' := [A + 1, wr.heap.size]) (by simp) |>.trans (hSW.mono (by omega))) (by omega) (by simp; omega)).cell
          have cT : W.cell? ⟨T, 0, none⟩ = some (.int .i64 k) := (Boxed.stay hT1 hSW (by omega) (by simp; omega)).cell
          have cx := hAW.cellAt x hxn
          have fx := hAW.frozenAt x
          have hN0 := hNW.cell
          have hF0 := hNW.frozen
          gi_wp2
          obtain ⟨W2, hW2⟩ : ∃ W2, W.setCell ⟨A + 1, x, none⟩ (.int .i64 k) = W2 := ⟨_, rfl⟩
          rw [hW2]
          have hSet : Stay W.heap.size [A + 1, wr.heap.size] W W2 := by rw [← hW2]; exact (Stay.refl _ _ _).setCell (p := ⟨A + 1, x, none⟩) (.inl (by simp)) _
          have hSet1 : Stay W.heap.size [A + 1] W W2 := by rw [← hW2]; exact (Stay.refl _ _ _).setCell (p := ⟨A + 1, x, none⟩) (.inl (by simp)) _
          have hWs := hSW.size
          have hA3 : Arr W2 A (some ⟨A + 1, 0, none⟩) n n (ys'.set x k) := by rw [← hW2]; exact hAW.set x k
          have hN3 : Boxed W2 wr.heap.size 3 (.int .i64 (nbrP zs pre : Nat)) := Boxed.stay hNW hSet1 hNW.lt (by simp; omega)
          have dA : W2.cell? ⟨A, 0, none⟩ = some (.slice (some ⟨b, off, none⟩) n cap) := (hSet1.cell (by show A < _; omega) (by simp)).trans cA
          have dx : W2.cell? ⟨b, off + x, none⟩ = some (.int .i64 (zs.getD x 0)) := (hSet1.cell (by show b < _; omega) (by simp; omega)).trans ((hSW.cell (by show b < _; omega) (by simp; omega)).trans ((hS1.cell (by show b < _; omega) (by simp; omega)).trans (hc2 x hxn)))
          rw [List.getD_eq_getElem?_getD] at dx
          have dN := hN3.cell
          have dF := hN3.frozen
          have hmix : Try.prog.follows .mixedOrders = true := by kernel_rfl
          obtain ⟨q1, q2, q3⟩ := hG.ok x hxn
          have hnl : nbrP zs pre < 4096 := by have := nbr_lt hG (l := pre) (fun y hy => lt_of_mem_bitsOf hEn (hpre y hy)); have := pow12 hG.le; omega
          have eor2 : bits BinOp.or IntKind.i64 ((nbrP zs pre : Nat) : Int) (zs[x]?.getD 0) = ((nbrP zs (pre ++ [x]) : Nat) : Int) := by
            rw [i64_or _ _ (by omega) (by omega) q1 (by omega), nbrP_snoc]; rfl
          clear cA cO cT cx fx hN0 hF0 hW2 hc2 hdy
          have fin1 : Stay W.heap.size [A + 1, wr.heap.size] W ((W2.setCell ⟨wr.heap.size, 0, none⟩ (.int .i64 (nbrP zs (pre ++ [x]) : Nat))).drew) := (hSet.setCell (p := ⟨wr.heap.size, 0, none⟩) (.inl (by simp)) _).drew
          have fin2 : Arr ((W2.setCell ⟨wr.heap.size, 0, none⟩ (.int .i64 (nbrP zs (pre ++ [x]) : Nat))).drew) A (some ⟨A + 1, 0, none⟩) n n (ys'.set x k) :=
            (hA3.stay (ex := [wr.heap.size]) ((Stay.refl _ _ _).setCell (p := ⟨wr.heap.size, 0, none⟩) (.inl (by simp)) _) (by intro y hy; cases hy; simp; omega)).drew
          have fin3 : ∀ y, y < n → (ys'.set x k)[y]?.getD 0 = if y ∈ pre ++ [x] then (k : Int) else dAt zs s0 k y := by
            intro y hyn
            have hl := hAW.len
            rw [List.getElem?_set]
            by_cases e : x = y
            · subst e; rw [if_pos rfl, if_pos (by omega)]; simp
            · rw [if_neg e, hy y hyn]
              have e2 : (y ∈ pre ++ [x]) = (y ∈ pre) := by simp [Ne.symm e]
              simp only [e2]
          have fin4 : Boxed ((W2.setCell ⟨wr.heap.size, 0, none⟩ (.int .i64 (nbrP zs (pre ++ [x]) : Nat))).drew) wr.heap.size 3 (.int .i64 (nbrP zs (pre ++ [x]) : Nat)) := Boxed.set hN3
          have FIN : Hid (Stay W.heap.size [A + 1, wr.heap.size] W ((W2.setCell ⟨wr.heap.size, 0, none⟩ (.int .i64 (nbrP zs (pre ++ [x]) : Nat))).drew) ∧
              (∃ zs', Arr ((W2.setCell ⟨wr.heap.size, 0, none⟩ (.int .i64 (nbrP zs (pre ++ [x]) : Nat))).drew) A (some ⟨A + 1, 0, none⟩) n n zs' ∧ ∀ y, y < n → zs'[y]?.getD 0 = if y ∈ pre ++ [x] then (k : Int) else dAt zs s0 k y) ∧
              Boxed ((W2.setCell ⟨wr.heap.size, 0, none⟩ (.int .i64 (nbrP zs (pre ++ [x]) : Nat))).drew) wr.heap.size 3 (.int .i64 (nbrP zs (pre ++ [x]) : Nat))) := ⟨fin1, ⟨_, fin2, fin3⟩, fin4⟩
          clear fin1 fin2 fin3 fin4 hSet hSet1 hA3 hN3 hNW hAW hy hSW hpre hA1 hM1 hbO2 hbA2
          gi_region_with_o (fail)
          all_goals gi_wp2
          all_goals exact FIN.out
        case done =>
          rintro D W hD hSW ⟨⟨ys', hAW, hy⟩, hNW⟩ hk'
          have hWs := hSW.size
          have hM2 : MarksOk w2.heap.size (D :: Ds) W := (hM1.stay hSW (fun X hX => ⟨hM1.lt X hX, by have h1 := (hM1.all X hX).1; have h2 := hM1old X hX; simp; omega⟩)).push (B := W1.heap.size) hM1.lt hD (by omega) hk'
          have cN := hNW.cell
          have cT : W.cell? ⟨T, 0, none⟩ = some (.int .i64 k) := (Boxed.stay hT1 hSW (by omega) (by simp; omega)).cell
          have hnl : nbrP zs (bitsOf E) < 4096 := by have := nbr_lt hG (l := bitsOf E) (fun y hy => lt_of_mem_bitsOf hEn hy); have := pow12 hG.le; omega
          have hSE : S ||| E < 4096 := Nat.or_lt_two_pow (n := 12) hSlt hElt
          have eE : levE zs s0 (k + 1) = bdiff (nbrP zs (bitsOf E)) (S ||| E) := by rw [levE_succ, levS_succ, ← HS.out, ← HE.out]
          have ean : bits BinOp.andNot IntKind.i64 ((nbrP zs (bitsOf E) : Nat) : Int) ((S ||| E : Nat) : Int) = ((levE zs s0 (k + 1) : Nat) : Int) := by rw [i64_andNot_nat _ _ (by omega) (by omega), eE]
          have HE2 := Lib.hid eE
          clear hc2 hdy eE
          go_wp2
          have gT : Boxed (W.alloc (.cells #[.int .i64 ((k : Int) + 1)] 3)) W.heap.size 3 (.int .i64 ((k + 1 : Nat) : Int)) := by have := Boxed.new W 3 (.int .i64 ((k : Int) + 1)); exact_mod_cast this
          have gd : ∀ x, x < n → ys'[x]?.getD 0 = dAt zs s0 (k + 1) x := by
            intro x hx
            rw [hy x hx, dAt_step]
            have e : (x ∈ bitsOf E) ↔ ((levE zs s0 k).testBit x = true) := by rw [mem_bitsOf, HE.out]; exact ⟨fun h => h.2, fun h => ⟨by omega, h⟩⟩
            by_cases hm : x ∈ bitsOf E
            · rw [if_pos hm, if_pos (e.1 hm)]
            · rw [if_neg hm, if_neg (fun h => hm (e.2 h))]
          have gS : Stay w2.heap.size [A + 1] w2 (W.alloc (.cells #[.int .i64 ((k : Int) + 1)] 3)) := by
            refine Stay.alloc ?_ (by omega) _
            refine ⟨(hS1.trans (by exact ⟨hSW.os, hSW.tape, hSW.output, hSW.size, fun j hj hx => hSW.block j (by omega) (by simp at hx ⊢; omega)⟩)).os, ?_, ?_, ?_, ?_⟩
            · exact hSW.tape.trans hS1.tape
            · exact hSW.output.trans hS1.output
            · omega
            · exact fun j hj hx => (hSW.block j (by omega) (by simp at hx ⊢; omega)).trans (hS1.block j hj hx)
          refine ⟨⟨k + 1, S ||| E, levE zs s0 (k + 1), W.heap.size, D :: Ds, ys', _, _, _, _, _, _, _, _, _, _, _, _, _, _, rfl, by omega, ?_, rfl, by omega, gT, hAW.alloc _, gd, gS, hM2.below ((Below.refl _ _).alloc (Nat.le_refl _) _)⟩, ?_⟩
          · show S ||| E = levS zs s0 (k + 1)
            rw [levS_succ, ← HS.out, ← HE.out]
          · have h1 : S < S ||| E := or_lt_of (by rw [HS.out, HE.out]; intro x h; exact lev_disj h) hE
            simp [intOf]; omega
        case stop => exact fun _ _ _ _ _ _ h _ => h.elim
end Go.Proofs.Ytpllijjocccaaaa
