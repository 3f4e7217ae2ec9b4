/- Resolving codes: resolves of the program. -/
import Derived.Test.YtpllijjocccaaaaCodeM
namespace Go.Proofs.Ytpllijjocccaaaa
open Go.RowKit Go.Shelf
attribute [local go_sem] Oper.semAt_some

set_option maxRecDepth 100000 in
set_option maxHeartbeats 4000000 in
theorem resolves_any (B n : Nat) (zs : List Int) (c : Nat) (w : World) (hB : BookAt w B n zs) (hG : IsG n zs) (hc : c < 4096) (hc2 : c < 2 ^ n) :
    Calls Try.prog 95 #[.pointer (some ⟨B, 0, none⟩), .int .i64 c] w fun e w' => e = .returned (.bool (resB zs c)) ∧ Below w.heap.size w w' := by
  obtain ⟨a, cap, ab, cb, af, cf, hK, hS, hSb, hF⟩ := hB.fields
  have hn2 := hG.le
  have hK1 := hK.below ((Below.refl _ _).alloc (Nat.le_refl _) (.cells #[.pointer (some ⟨B, 0, none⟩)] 54))
  have c0 := hK1.cell0
  have hX0 := Boxed.new w 54 (.pointer (some ⟨B, 0, none⟩))
  have cX0 := hX0.cell
  have hl := Lib.hid hG.len
  have HK := Lib.hid hK
  have hB3 : Below w.heap.size w (w.alloc (.cells #[.pointer (some ⟨B, 0, none⟩)] 54)) := (Below.refl _ _).alloc (Nat.le_refl _) _
  have hKlt := hK.lt
  obtain ⟨fb, fo, rfl, hfb, hfc⟩ := hF.at' hG.pos
  have HFC := Lib.hid hfc
  clear hK hS hSb hF hB hK1 hfc
  refine calls_marks Try.func95 rfl ?_
  simp only [Try.ntmps95, List.size_toArray, List.length_cons, List.length_nil, Nat.reduceAdd, Nat.reduceSub, Array.replicate_succ, Array.replicate_zero, List.push_toArray, List.append_toArray, List.nil_append, List.cons_append]
  go_wp2
  obtain ⟨w3, hw3⟩ : ∃ w3, w.alloc (.cells #[.pointer (some ⟨B, 0, none⟩)] 54) = w3 := ⟨_, rfl⟩
  have hw3s : w3.heap.size = w.heap.size + 1 := by rw [← hw3]; simp
  rw [hw3] at hX0 hB3 ⊢
  clear hw3 c0 cX0
  have HK3 := Lib.hid (HK.out.below hB3)
  obtain ⟨X, hXe⟩ : ∃ X, w.heap.size = X := ⟨_, rfl⟩
  rw [hXe] at hX0 hB3 hKlt hw3s hfb
  simp only [hXe]
  have HXe := Lib.hid hXe
  clear hXe
  refine wp_loop (fun act W => ∃ (i : Nat) (Ds : List Nat) (x5 x6 x7 x15 x16 x17 x18 x19 x20 x21 x22 x48 x49 x50 x51 : Value),
      act = { tmps := #[.pointer (some ⟨B, 0, none⟩), .int .i64 c, .pointer (some ⟨X, 0, none⟩), undef, .bool false, x5, x6, x7, undef, .pointer (some ⟨B, 0, none⟩), .pointer (some ⟨B, 0, none⟩), .pointer (some ⟨B, 0, none⟩), .slice a n cap, .int .i64 n, .int .i64 i, x15, x16, x17, x18, x19, x20, x21, x22, undef, undef, undef, undef, undef, undef, undef, undef, undef, undef, undef, undef, undef, undef, undef, undef, undef, undef, undef, undef, undef, undef, undef, undef, undef, x48, x49, x50, x51], defers := marks Ds } ∧
      i ≤ n ∧ (∀ j, j < i → Hid (((List.range j).all fun k => sepB zs c j k) = true)) ∧ Stay w3.heap.size [] w3 W ∧ MarksOk w3.heap.size Ds W)
    (fun act _ => 12 - (intOf (act.tmps.getD 14 undef)).toNat) ⟨0, [], _, _, _, _, _, _, _, _, _, _, _, _, _, _, _, rfl, by omega, fun j hj => absurd hj (Nat.not_lt_zero j), Stay.refl _ _ _, MarksOk.nil _ _⟩ ?_
  rintro act wr ⟨i, Ds, x5, x6, x7, x15, x16, x17, x18, x19, x20, x21, x22, x48, x49, x50, x51, rfl, hi', hall, hSr, hM⟩
  have hsr := hSr.size
  have HALL := Lib.hid hall
  clear hall
  by_cases hlt : i < n
  · have hlti : (i : Int) < n := by omega
    go_wp2
    obtain ⟨w4, hw4⟩ : ∃ w4, wr.alloc (.cells #[.int .i64 i] 3) = w4 := ⟨_, rfl⟩
    have hw4s : w4.heap.size = wr.heap.size + 1 := by rw [← hw4]; simp
    have hI4 : Boxed w4 wr.heap.size 3 (.int .i64 i) := by rw [← hw4]; exact Boxed.new wr _ _
    have hb4 : Below wr.heap.size wr w4 := by rw [← hw4]; exact (Below.refl _ _).alloc (Nat.le_refl _) _
    have hS4 : Stay w3.heap.size [] w3 w4 := hSr.then hb4 hSr.size
    have hM4 : MarksOk w3.heap.size Ds w4 := hM.below hb4
    rw [hw4]
    clear hw4 hSr hM
    refine wp_loop (fun act W => ∃ (k : Nat) (Ds : List Nat) (x6 x7 x19 x20 x21 x22 x48 x49 x50 : Value),
        act = { tmps := #[.pointer (some ⟨B, 0, none⟩), .int .i64 c, .pointer (some ⟨X, 0, none⟩), undef, .bool false, .pointer (some ⟨wr.heap.size, 0, none⟩), x6, x7, undef, .pointer (some ⟨B, 0, none⟩), .pointer (some ⟨B, 0, none⟩), .pointer (some ⟨B, 0, none⟩), .slice a n cap, .int .i64 n, .int .i64 i, .bool true, .int .i64 i, .int .i64 i, .int .i64 k, x19, x20, x21, x22, undef, undef, undef, undef, undef, undef, undef, undef, undef, undef, undef, undef, undef, undef, undef, undef, undef, undef, undef, undef, undef, undef, undef, undef, undef, x48, x49, x50, x51], defers := marks Ds } ∧
        k ≤ i ∧ (∀ j, j < k → Hid (sepB zs c i j = true)) ∧ Stay w4.heap.size [] w4 W ∧ MarksOk w3.heap.size Ds W)
      (fun act _ => 12 - (intOf (act.tmps.getD 18 undef)).toNat) ⟨0, Ds, _, _, _, _, _, _, _, _, _, rfl, by omega, fun j hj => absurd hj (Nat.not_lt_zero j), Stay.refl _ _ _, hM4⟩ ?_
    clear hM4
    rintro act wk ⟨k, Ds, x6, x7, x19, x20, x21, x22, x48, x49, x50, rfl, hk', hsep, hSk, hM⟩
    have hsk := hSk.size
    have HSEP := Lib.hid hsep
    clear hsep
    by_cases hkl : k < i
    · have hkli : (k : Int) < i := by omega
      have hkn : k < n := by omega
      go_wp2_with (go_at_call 85; refine (nodes_any _ _).mono ?_; rintro e w' ⟨rfl, rfl⟩)
      obtain ⟨W1, hW1⟩ : ∃ W1, ((wk.alloc (.cells #[.int .i64 k] 3)).alloc (.cells #[.bool false] 4)).alloc (.cells #[.int .i64 c] 3) = W1 := ⟨_, rfl⟩
      have hW1s : W1.heap.size = wk.heap.size + 3 := by rw [← hW1]; simp
      have hbW : Below wk.heap.size wk W1 := by rw [← hW1]; exact (((Below.refl _ _).alloc (Nat.le_refl _) _).alloc (by simp) _).alloc (by simp; omega) _
      have hK1 : Boxed W1 wk.heap.size 3 (.int .i64 k) := by rw [← hW1]; exact Boxed.alloc (Boxed.alloc (Boxed.new wk _ _) _) _
      have hF1 : Boxed W1 (wk.heap.size + 1) 4 (.bool false) := by rw [← hW1]; have := Boxed.alloc (Boxed.new (wk.alloc (.cells #[.int .i64 k] 3)) 4 (.bool false)) (.cells #[.int .i64 c] 3); simpa using this
      have hN1 : W1.cell? ⟨wk.heap.size + 2, 0, none⟩ = some (.int .i64 c) := by rw [← hW1]; have := cell_new ((wk.alloc (.cells #[.int .i64 k] 3)).alloc (.cells #[.bool false] 4)) (.int .i64 c) 3; simpa using this
      have hS1 : Stay w4.heap.size [] w4 W1 := hSk.then hbW hSk.size
      have hM1 : MarksOk w3.heap.size Ds W1 := hM.below hbW
      have hS31 : Stay w3.heap.size [] w3 W1 := hS4.trans (hS1.mono hS4.size)
      try rw [hW1]
      try simp only [hW1]
      clear hW1 hSk hM
      refine wp_nodes2 rfl hc (Bn := wk.heap.size + 1 + 1) (by omega) hN1 [wk.heap.size + 1] (by simp; omega)
        (fun pre W => Boxed W (wk.heap.size + 1) 4 (.bool (pre.any fun x => !decide (distV zs x i = distV zs x k))))
        (fun _ _ => False)
        (fun pre W W' h hk' => (hk' _ (by simp)).trans h) (fun pre W W' h _ => h) hF1 ?round ?done ?stop
      case round =>
        intro l x W K hx hK
        gi_wp2
        rintro l pre W hpre hSW hFW
        have hxn : x < n := lt_of_mem_bitsOf hc2 hx
        have hxi : (x : Int) < n := by omega
        have tr : ∀ p : Addr, p.block < W1.heap.size → p.block ≠ wk.heap.size + 1 → W.cell? p = W1.cell? p := fun p h1 h2 => hSW.cell h1 (by simpa using h2)
        have tr3 : ∀ p : Addr, p.block < w3.heap.size → W.cell? p = w3.cell? p := fun p h1 => (tr p (by omega) (by omega)).trans (hS31.cell h1 (by simp))
        have cX := (tr3 ⟨X, 0, none⟩ (by show X < _; omega)).trans hX0.cell
        have cB := (tr3 ⟨B, 2, none⟩ (by show B < _; omega)).trans HK3.out.cell2
        have cI := (tr ⟨wr.heap.size, 0, none⟩ (by show wr.heap.size < _; omega) (by show wr.heap.size ≠ _; omega)).trans ((hS1.cell (p := ⟨wr.heap.size, 0, none⟩) (by show wr.heap.size < _; omega) (by simp)).trans hI4.cell)
        have cK := (tr ⟨wk.heap.size, 0, none⟩ (by show wk.heap.size < _; omega) (by show wk.heap.size ≠ _; omega)).trans hK1.cell
        have cF := hFW.cell
        have fF := hFW.frozen
        obtain ⟨aj, nj, cj, hcj, hsj⟩ := HFC.out x hxn
        rw [farV_at (by rw [← hl.out]; exact hxn)] at hsj
        have hnj : nj = n := by rw [hsj.len, distsV_len, ← hl.out]
        subst hnj
        obtain ⟨rb, ro, rfl, hrb, hrc⟩ := hsj.at' hG.pos
        rw [HXe.out] at hrb
        have hci := (tr3 ⟨rb, ro + i, none⟩ (by show rb < _; omega)).trans ((hB3.cell hrb).trans (hrc i hlt))
        rw [List.getD_eq_getElem?_getD, distsV_at (by rw [← hl.out]; exact hlt)] at hci
        have hck := (tr3 ⟨rb, ro + k, none⟩ (by show rb < _; omega)).trans ((hB3.cell hrb).trans (hrc k hkn))
        rw [List.getD_eq_getElem?_getD, distsV_at (by rw [← hl.out]; exact hkn)] at hck
        have hcx := (tr3 ⟨fb, fo + x, none⟩ (by show fb < _; omega)).trans ((hB3.cell hfb).trans hcj)
        have hkj : (k : Int) < nj := by omega
        have hij : (i : Int) < nj := by omega
        clear tr tr3 hrc hcj hsj
        cases hp : (pre.any fun x => !decide (distV zs x i = distV zs x k)) with
        | true =>
          have e : (pre ++ [x]).any (fun x => !decide (distV zs x i = distV zs x k)) = true := by rw [List.any_append, hp]; rfl
          rw [hp] at hFW cF
          have HFIN : Hid (Stay W.heap.size [wk.heap.size + 1] W ((W.setCell ⟨wk.heap.size + 1, 0, none⟩ (.bool true)).drew) ∧ Boxed ((W.setCell ⟨wk.heap.size + 1, 0, none⟩ (.bool true)).drew) (wk.heap.size + 1) 4 (.bool ((pre ++ [x]).any fun x => !decide (distV zs x i = distV zs x k)))) :=
            ⟨((Stay.refl _ _ _).setCell (p := ⟨wk.heap.size + 1, 0, none⟩) (.inl (by simp)) _).drew, by rw [e]; exact Boxed.set hFW⟩
          clear hp e hFW
          gi_wp2
          refine wpIn_still_tailS 24 (by kernel_rfl) (by kernel_rfl) (by kernel_rfl) ?_
          simp only [List.take_succ_cons, List.take_zero, List.drop_succ_cons, List.drop_zero]
          iterate 2 (refine StillS.want (by kernel_rfl) (fun K HKK => ?_); go_simp; refine HKK.out _ ?_; clear HKK K)
          iterate 21 (refine StillS.skip (by kernel_rfl) ?_; simp only [Act.put, List.setIfInBounds_toArray, List.set_cons_zero, List.set_cons_succ])
          (refine StillS.want (by kernel_rfl) (fun K HKK => ?_); go_simp; refine HKK.out _ ?_; clear HKK K)
          refine StillS.nil ?_
          gi_wp2
          exact HFIN.out
        | false =>
          rw [hp] at hFW cF
          have e : (pre ++ [x]).any (fun x => !decide (distV zs x i = distV zs x k)) = !decide (distV zs x i = distV zs x k) := by rw [List.any_append, hp]; simp
          have e2 : (distV zs x i != distV zs x k) = !decide (distV zs x i = distV zs x k) := by
            by_cases h : distV zs x i = distV zs x k
            · simp [h]
            · simp [h]
          obtain ⟨v, hv⟩ : ∃ v, (!decide (distV zs x i = distV zs x k)) = v := ⟨_, rfl⟩
          rw [hv] at e e2
          have HFIN : Hid (Stay W.heap.size [wk.heap.size + 1] W ((W.setCell ⟨wk.heap.size + 1, 0, none⟩ (.bool v)).drew) ∧ Boxed ((W.setCell ⟨wk.heap.size + 1, 0, none⟩ (.bool v)).drew) (wk.heap.size + 1) 4 (.bool ((pre ++ [x]).any fun x => !decide (distV zs x i = distV zs x k)))) :=
            ⟨((Stay.refl _ _ _).setCell (p := ⟨wk.heap.size + 1, 0, none⟩) (.inl (by simp)) _).drew, by rw [e]; exact Boxed.set hFW⟩
          clear hp e hFW hv
          obtain ⟨d1, hd1⟩ : ∃ d, distV zs x i = d := ⟨_, rfl⟩
          obtain ⟨d2, hd2⟩ : ∃ d, distV zs x k = d := ⟨_, rfl⟩
          rw [hd1] at hci e2
          rw [hd2] at hck e2
          clear hd1 hd2
          gi_wp2
          refine wpIn_still_tailS 24 (by kernel_rfl) (by kernel_rfl) (by kernel_rfl) ?_
          simp only [List.take_succ_cons, List.take_zero, List.drop_succ_cons, List.drop_zero]
          iterate 24 (refine StillS.want (by kernel_rfl) (fun K HKK => ?_); go_simp; refine HKK.out _ ?_; clear HKK K)
          refine StillS.nil ?_
          gi_wp2
          exact HFIN.out
      case done =>
        rintro D W hD hSW hFW hk'
        have hWs := hSW.size
        have hM2 : MarksOk w3.heap.size (D :: Ds) W := (hM1.stay hSW (fun X hX => ⟨hM1.lt X hX, by have h1 := hM1.all X hX; simp; intro h2; subst h2; have := hF1; unfold Boxed at this; rw [h1.2] at this; cases this⟩)).push (B := W1.heap.size) hM1.lt hD (by omega) hk'
        have cF := hFW.cell
        cases hv : sepB zs c i k with
        | true =>
          have hv' : ((bitsOf c).any fun x => !decide (distV zs x i = distV zs x k)) = true := hv
          rw [hv'] at cF
          have HV := Lib.hid hv
          have hSf : Stay w4.heap.size [] w4 W := ⟨hSW.os.trans hS1.os, hSW.tape.trans hS1.tape, hSW.output.trans hS1.output, by omega, fun j hj _ => (hSW.block j (by omega) (by simp; omega)).trans (hS1.block j hj (by simp))⟩
          clear hv hv' hFW
          go_wp2
          refine ⟨⟨k + 1, D :: Ds, _, _, _, _, _, _, _, _, _, rfl, by omega, ?_, hSf, hM2⟩, by simp [intOf]; omega⟩
          intro j hj
          rcases Nat.lt_succ_iff_lt_or_eq.1 hj with h | rfl
          · exact HSEP.out j h
          · exact HV
        | false =>
          have hv' : ((bitsOf c).any fun x => !decide (distV zs x i = distV zs x k)) = false := hv
          rw [hv'] at cF
          have hres : resB zs c = false := by
            unfold resB
            rw [List.all_eq_false]
            refine ⟨i, List.mem_range.2 (by rw [← hl.out]; exact hlt), ?_⟩
            simp only [Bool.not_eq_true]
            rw [List.all_eq_false]
            exact ⟨k, List.mem_range.2 hkl, by rw [hv]; simp⟩
          have HR := Lib.hid hres
          have hBf : Below X w W := hB3.trans (((hS31.trans (⟨hSW.os, hSW.tape, hSW.output, hSW.size, fun j hj _ => hSW.block j (by omega) (by simp; omega)⟩ : Stay w3.heap.size [] W1 W)).below (by omega) (by simp)))
          clear hv hv' hFW hres
          go_wp2
          refine leaves_marks (lo := w3.heap.size) (D :: Ds) _ (by omega) hM2 ?_
          intro W' hTn
          refine ⟨_, results_tmp rfl _ _ _, by rw [HR.out]; rfl, ?_⟩
          rw [HXe.out]
          exact hBf.trans (hTn.below.mono (by omega))
      case stop => exact fun _ _ _ _ _ _ h _ => h.elim
    · obtain rfl : k = i := by omega
      have hSf : Stay w3.heap.size [] w3 wk := hS4.trans (hSk.mono hS4.size)
      go_wp2
      refine ⟨⟨k + 1, Ds, _, _, _, _, _, _, _, _, _, _, _, _, _, _, _, rfl, by omega, ?_, hSf, hM⟩, by simp [intOf]; omega⟩
      intro j hj
      rcases Nat.lt_succ_iff_lt_or_eq.1 hj with h | rfl
      · exact HALL.out j h
      · show ((List.range j).all fun m => sepB zs c j m) = true
        rw [List.all_eq_true]
        exact fun m hm => (HSEP.out m (List.mem_range.1 hm)).out
  · obtain rfl : i = n := by omega
    have hres : resB zs c = true := by
      unfold resB
      rw [List.all_eq_true]
      exact fun j hj => (HALL.out j (by rw [hl.out]; exact List.mem_range.1 hj)).out
    have HR := Lib.hid hres
    clear hres
    go_wp2
    refine leaves_marks (lo := w3.heap.size) Ds _ hsr hM ?_
    intro W' hTn
    refine ⟨_, results_tmp rfl _ _ _, by rw [HR.out]; rfl, ?_⟩
    rw [HXe.out]
    exact hB3.trans ((hSr.below (lo := X) (by omega) (by simp)).trans (hTn.below.mono (by omega)))
end Go.Proofs.Ytpllijjocccaaaa
