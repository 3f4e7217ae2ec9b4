/- CodeThin of the program. -/
import Derived.Test.YtpllijjocccaaaaLeast
namespace Go.Proofs.Ytpllijjocccaaaa
open Go.RowKit Go.Shelf
attribute [local go_sem] Oper.semAt_some

set_option maxRecDepth 100000 in
set_option maxHeartbeats 2000000 in
theorem CodeThin_any (a : Option Addr) (n cap : Nat) (zs : List Int) (kd cd : Int) (w : World) (hs : SlAt w a n zs) :
    Calls Try.prog 46 #[.slice a n cap, .int .i64 kd, .int .i64 cd] w fun e w' => e = .returned (.tuple #[.int .i64 (CodeThinR zs kd cd : Nat), .bool (codeInB zs kd cd)]) ∧ Below w.heap.size w w' := by
  have hb0 : Below w.heap.size w ((w.alloc (.cells #[.int .i64 kd] 3)).alloc (.cells #[.int .i64 cd] 3)) := ((Below.refl _ _).alloc (Nat.le_refl _) _).alloc (by simp) _
  have hK0 : Boxed ((w.alloc (.cells #[.int .i64 kd] 3)).alloc (.cells #[.int .i64 cd] 3)) w.heap.size 3 (.int .i64 kd) := Boxed.alloc (Boxed.new w _ _) _
  have hC0 : Boxed ((w.alloc (.cells #[.int .i64 kd] 3)).alloc (.cells #[.int .i64 cd] 3)) (w.heap.size + 1) 3 (.int .i64 cd) := by have := Boxed.new (w.alloc (.cells #[.int .i64 kd] 3)) 3 (.int .i64 cd); simpa using this
  have hs0 := hs.below hb0
  cases hi : codeInB zs kd cd with
  | false =>
    have HR := Lib.hid (show CodeThinR zs kd cd = 0 by simp [CodeThinR, hi])
    have HI := Lib.hid hi
    clear hi hK0 hC0
    refine calls_marks Try.func46 rfl ?_
    simp only [Try.ntmps46, List.size_toArray, List.length_cons, List.length_nil, Nat.reduceAdd, Nat.reduceSub, Array.replicate_succ, Array.replicate_zero, List.push_toArray, List.append_toArray, List.nil_append, List.cons_append]
    go_wp2_with (go_at_call 22; refine (CodeIn_is false _ _ _ _ _ _ _ hs0 HI.out).mono ?_; rintro e w1 ⟨rfl, hb1⟩)
    refine leaves_marks (lo := w1.heap.size) [] _ (Nat.le_refl _) (MarksOk.nil _ _) ?_
    intro W' hTn
    exact ⟨_, results_tmp2 rfl _ _ _, by rw [HR.out]; rfl, bnext (bnext hb0 hb1) hTn.below⟩
  | true =>
    obtain ⟨hg, kind, c, rfl, rfl, hk3, hc, hc2, hiv⟩ := codeIn_of hi
    have hG := isG_of hg
    rw [← hs.len] at hG hc2
    have HR := Lib.hid (show CodeThinR zs kind c = thinTo zs kind c (bitsOf c) by unfold CodeThinR; rw [if_pos hi, Int.toNat_natCast, Int.toNat_natCast])
    have HI := Lib.hid hi
    have HG := Lib.hid hg
    have HC2 := Lib.hid hc2
    have hn2 := hG.le
    clear hi hg hiv hc2
    refine calls_marks Try.func46 rfl ?_
    simp only [Try.ntmps46, List.size_toArray, List.length_cons, List.length_nil, Nat.reduceAdd, Nat.reduceSub, Array.replicate_succ, Array.replicate_zero, List.push_toArray, List.append_toArray, List.nil_append, List.cons_append]
    go_wp2_with fail
    refine (CodeIn_is true _ _ _ _ _ _ _ hs0 HI.out).mono ?_
    rintro e w1 ⟨rfl, hb1⟩
    have hK1 := Boxed.below hK0 hb1
    have hC1 := Boxed.below hC0 hb1
    go_wp2_with fail
    refine (bookOf_own _ _ _ _ _ (hs0.below hb1) HG.out).mono ?_
    rintro e w2 ⟨B, rfl, _, hBk, hb2⟩
    have hK2 := Boxed.below hK1 hb2
    have hC2 := Boxed.below hC1 hb2
    have hB2 := bnext (bnext hb0 hb1) hb2
    have cC := (Boxed.alloc hC2 (.cells #[.pointer (some ⟨B, 0, none⟩)] 54)).cell
    have hBk2 := Lib.hid hBk
    have hC1lt := hC1.lt
    clear hK0 hC0 hK1 hBk
    go_wp2_with (go_at_call 85; refine (nodes_any _ _).mono ?_; rintro e w' ⟨rfl, rfl⟩)
    obtain ⟨W1, hW1⟩ : ∃ W1, (w2.alloc (.cells #[.pointer (some ⟨B, 0, none⟩)] 54)).alloc (.cells #[.int .i64 c] 3) = W1 := ⟨_, rfl⟩
    have hW1s : W1.heap.size = w2.heap.size + 2 := by rw [← hW1]; simp
    have hb12 := boxes2 w2 (.pointer (some ⟨B, 0, none⟩)) (.int .i64 c) 54 3
    have hP1 : Boxed W1 w2.heap.size 54 (.pointer (some ⟨B, 0, none⟩)) := by rw [← hW1]; exact Boxed.alloc (Boxed.new w2 _ _) _
    rw [hW1] at hb12 ⊢
    have hK3 := Boxed.below hK2 hb12.2.2
    have hC3 := Boxed.below hC2 hb12.2.2
    have hBk3 := hBk2.out.below hb12.2.2
    have hB3 := bnext hB2 hb12.2.2
    have hwlt : w.heap.size + 1 < w2.heap.size := hC2.lt
    have hw1lt : w.heap.size + 1 < w1.heap.size := (hC1).lt
    have hgb : ∀ x, a = some x → x.block < w.heap.size := fun x hx => by
      obtain ⟨b, off, e, hb, _⟩ := hs.at' hG.pos
      rw [hx] at e; cases e; exact hb
    clear hW1 hK2 hC2 cC
    obtain ⟨X, hXe⟩ : ∃ X, w.heap.size = X := ⟨_, rfl⟩
    rw [hXe] at hK3 hC3 hB3 hwlt hw1lt hgb
    clear hC1 hC1lt
    simp only [hXe]
    have HXe := Lib.hid hXe
    clear hXe
    refine wp_nodes2L rfl hc (Bn := w2.heap.size + 1) (by omega) hb12.2.1 [X + 1] (by simp; omega)
      (fun pre W => Boxed W (X + 1) 3 (.int .i64 (thinTo zs kind c pre : Nat)))
      (fun _ _ => False)
      (fun pre W W' h hk' => (hk' _ (by simp)).trans h) (fun pre W W' h _ => h) hC3 ?round ?done ?stop
    case round =>
      intro l x W K hx hK
      gi_wp2
      rintro l pre W hpre hlen hSW hCW
      have hxn : x < n := lt_of_mem_bitsOf HC2.out hx
      have tr : ∀ R, R < W1.heap.size → R ≠ X + 1 → W.heap[R]? = W1.heap[R]? := fun R h1 h2 => hSW.block R h1 (by simpa using h2)
      have hPW : Boxed W w2.heap.size 54 (.pointer (some ⟨B, 0, none⟩)) := (tr _ (by omega) (by omega)).trans hP1
      have hKW : Boxed W X 3 (.int .i64 kind) := (tr _ (by omega) (by omega)).trans hK3
      have cP := hPW.cell
      have cK := hKW.cell
      have cC := hCW.cell
      have fC := hCW.frozen
      have hlt2 := thinTo_lt (zs := zs) (kind := kind) HC2.out pre
      have h12 := pow12 hn2
      have hlt4 := thinTo_lt (zs := zs) (kind := kind) (k := 12) (by omega : c < 2 ^ 12) pre
      obtain ⟨t, ht⟩ : ∃ t, thinTo zs kind c pre = t := ⟨_, rfl⟩
      have HSN := Lib.hid (show thinTo zs kind c (pre ++ [x]) = thinStep zs kind t x by rw [thinTo_snoc, ht])
      rw [ht] at cC hlt2 hlt4 hCW
      have hp := npow_bd x (by omega)
      have hw1 : IntKind.i64.wrap (2 ^ x) = 2 ^ x := IntWalk.i64_in _ (by omega)
      have ean : bits BinOp.andNot IntKind.i64 (t : Int) (2 ^ x) = ((bdiff t (2 ^ x) : Nat) : Int) := by
        rw [← pow_int x]; exact i64_andNot_nat _ _ (by omega) (by have := pow_int x; omega)
      have hbl : bdiff t (2 ^ x) < 2 ^ n := bdiff_lt hlt2
      have hbl4 : bdiff t (2 ^ x) < 4096 := bdiff_lt (k := 12) hlt4
      have HBW : Hid (BookAt W.drew B n zs) := by
        have hst : Stay W1.heap.size [X + 1] W1 W.drew := hSW.drew
        exact (hBk3.stay hst (by simp; omega) (by intro k hk y hy; simp at hk; have := hgb y hy; omega)).at'
      obtain ⟨v, hv⟩ : ∃ v, isB zs kind (bdiff t (2 ^ x)) = v := ⟨_, rfl⟩
      have HV := Lib.hid hv
      have HCW := Lib.hid hCW
      clear hv ht hPW hKW hCW tr hBk3
      cases v with
      | false =>
        have HN : Hid (thinTo zs kind c (pre ++ [x]) = t) := by show _ = _; rw [HSN.out, thinStep, HV.out]; rfl
        gi_wp2
        refine wpIn_still_tailS 6 (by kernel_rfl) (by kernel_rfl) (by kernel_rfl) ?_
        simp only [List.take_succ_cons, List.take_zero, List.drop_succ_cons, List.drop_zero]
        iterate 6 (refine StillS.want (by kernel_rfl) (fun K HKK => ?_); go_simp; refine HKK.out _ ?_; clear HKK K)
        refine StillS.nil ?_
        gi_wp2_with (refine ⟨trivial, ?_⟩; gi_at_call 59; refine (CallsIn.inRound l (callsIn_wide.2 (is_is false B n zs _ _ kind (bdiff t (2 ^ x)) _ HBW.out hG rfl rfl hk3 hbl4 hbl HV.out))).mono ?_; rintro e w5 ⟨rfl, hb5⟩)
        have hbw : Below W.heap.size W w5 := (Below.refl _ _).drew.trans hb5
        have hfin : Stay W.heap.size [X + 1] W w5 ∧ Boxed w5 (X + 1) 3 (.int .i64 (thinTo zs kind c (pre ++ [x]) : Nat)) := ⟨Below.stay hbw _, by rw [HN.out]; exact Boxed.below HCW.out hbw⟩
        exact hfin
      | true =>
        have HN : Hid (thinTo zs kind c (pre ++ [x]) = bdiff t (2 ^ x)) := by show _ = _; rw [HSN.out, thinStep, HV.out]; rfl
        gi_wp2
        refine wpIn_still_tailS 6 (by kernel_rfl) (by kernel_rfl) (by kernel_rfl) ?_
        simp only [List.take_succ_cons, List.take_zero, List.drop_succ_cons, List.drop_zero]
        iterate 6 (refine StillS.want (by kernel_rfl) (fun K HKK => ?_); go_simp; refine HKK.out _ ?_; clear HKK K)
        refine StillS.nil ?_
        gi_wp2_with (refine ⟨trivial, ?_⟩; gi_at_call 59; refine (CallsIn.inRound l (callsIn_wide.2 (is_is true B n zs _ _ kind (bdiff t (2 ^ x)) _ HBW.out hG rfl rfl hk3 hbl4 hbl HV.out))).mono ?_; rintro e w5 ⟨rfl, hb5⟩)
        have hbw : Below W.heap.size W w5 := (Below.refl _ _).drew.trans hb5
        have hC5 := Boxed.below HCW.out hbw
        have cC5 := hC5.cell
        have fC5 := hC5.frozen
        have HFIN : Hid (Stay W.heap.size [X + 1] W ((w5.setCell ⟨X + 1, 0, none⟩ (.int .i64 (bdiff t (2 ^ x) : Nat))).drew) ∧ Boxed ((w5.setCell ⟨X + 1, 0, none⟩ (.int .i64 (bdiff t (2 ^ x) : Nat))).drew) (X + 1) 3 (.int .i64 (thinTo zs kind c (pre ++ [x]) : Nat))) :=
          ⟨((Below.stay hbw _).setCell (p := ⟨X + 1, 0, none⟩) (.inl (by simp)) _).drew, by rw [HN.out]; exact Boxed.set hC5⟩
        clear hb5 hbw hC5 cP cK cC fC
        gi_wp2
        refine wpIn_still_tailS 4 (by kernel_rfl) (by kernel_rfl) (by kernel_rfl) ?_
        simp only [List.take_succ_cons, List.take_zero, List.drop_succ_cons, List.drop_zero]
        iterate 4 (refine StillS.want (by kernel_rfl) (fun K HKK => ?_); go_simp; refine HKK.out _ ?_; clear HKK K)
        refine StillS.nil ?_
        gi_wp2
        exact HFIN.out
    case done =>
      rintro D W hD hSW hCW hk'
      have hWs := hSW.size
      have hM2 : MarksOk W1.heap.size [D] W := (MarksOk.nil _ _).push (B := W1.heap.size) (by simp) hD hD hk'
      have hBf : Below X w W := hB3.trans (hSW.below (by omega) (by simp))
      have cC := hCW.cell
      have HCW := Lib.hid hCW
      clear hCW
      go_wp2
      refine leaves_marks (lo := W1.heap.size) [D] _ (by omega) hM2 ?_
      intro W' hTn
      refine ⟨_, results_tmp2 rfl _ _ _, by rw [HR.out]; rfl, ?_⟩
      rw [HXe.out]
      exact hBf.trans (hTn.below.mono (by omega))
    case stop => exact fun _ _ _ _ _ _ h _ => h.elim
end Go.Proofs.Ytpllijjocccaaaa
