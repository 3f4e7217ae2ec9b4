/- GraphMoved of the program. -/
import Derived.Test.YtpllijjocccaaaaSMoved
import Derived.Test.YtpllijjocccaaaaStillIn
namespace Go.Proofs.Ytpllijjocccaaaa
open Go.RowKit Go.Shelf
attribute [local go_sem] Oper.semAt_some

set_option maxRecDepth 100000 in
theorem has_is (v : Bool) (s k : Nat) (i : Int) (w : World) (hs : s < 4096) (hi : i = (k : Int)) (hk : k < 12) (hv : s.testBit k = v) :
    Calls Try.prog 84 #[.int .i64 s, .int .i64 i] w fun e w' => e = .returned (.bool v) ∧ w = w' := by
  subst hi hv
  exact (has_any s k (by omega) (by omega) (by omega) (by omega) w).mono fun _ _ ⟨h, e⟩ => ⟨by rw [h, Int.toNat_natCast, Int.toNat_natCast], e⟩
set_option maxRecDepth 100000 in
set_option maxHeartbeats 4000000 in
theorem GraphMoved_t (b off n cap cap2 : Nat) (pa : Option Addr) (zs ps : List Int) (w : World) (hs : SlAt w (some ⟨b, off, none⟩) n zs) (ht : SlAt w pa n ps) (hg : graphB zs = true) :
    Calls Try.prog 41 #[.slice (some ⟨b, off, none⟩) n cap, .slice pa n cap2] w fun e w' => ∃ a' n' c', e = .returned (.tuple #[.slice a' n' c', .bool (movOk zs ps)]) ∧ Arr w' w.heap.size a' n' c' (GraphMovedR zs ps) ∧ Below w.heap.size w w' := by
  have hG := isG_of hg
  rw [← hs.len] at hG
  have hn2 := hG.le
  have hl := Lib.hid hs.len
  have hl2 := Lib.hid ht.len
  have HG := Lib.hid hg
  have HS := Lib.hid hs
  obtain ⟨b2, o2, rfl, hb2, hc2⟩ := ht.at' hG.pos
  have HC2 := Lib.hid hc2
  have HT := Lib.hid ht
  obtain ⟨i0, hi, hz0, hz1, hz2⟩ := info_parts infoInt
  have hB0 : Below w.heap.size w (w.alloc (.cells #[.slice (some ⟨b2, o2, none⟩) n cap2] 23)) := (Below.refl _ _).alloc (Nat.le_refl _) _
  have HS0 := Lib.hid (hs.below hB0)
  have hx0 := Boxed.new w 23 (.slice (some ⟨b2, o2, none⟩) n cap2)
  clear hg hs ht hc2
  refine calls_marks Try.func41 rfl ?_
  simp only [Try.ntmps41, List.size_toArray, List.length_cons, List.length_nil, Nat.reduceAdd, Nat.reduceSub, Array.replicate_succ, Array.replicate_zero, List.push_toArray, List.append_toArray, List.nil_append, List.cons_append]
  go_wp2_with fail
  refine (GraphIn_is true _ _ _ _ _ HS0.out HG.out).mono ?_
  rintro e w1 ⟨rfl, hb1⟩
  have hB1 := bnext hB0 hb1
  have hX1 : Boxed w1 w.heap.size 23 (.slice (some ⟨b2, o2, none⟩) n cap2) := Boxed.stay hx0 (Below.stay hb1 []) hx0.lt (by simp)
  have cX := hX1.cell
  have HX1 := Lib.hid hX1
  have HB1 := Lib.hid hB1
  clear hx0 hB0 HS0 hX1
  go_wp2
  go_loop [6, 25] (fun u p => ∃ (k s : Nat), k ≤ n ∧ p = .int .i64 k ∧ u = .int .i64 s ∧ Hid (s = seenTo ps k) ∧ (∀ j, j < k → Hid (movAt n ps j = true))) (fun _ p => 12 - (intOf p).toNat)
  case atStart => exact ⟨0, 0, by omega, rfl, rfl, rfl, fun j hj => absurd hj (Nat.not_lt_zero j)⟩
  case round =>
    obtain ⟨k, s, hk, rfl, rfl, HQ, hag⟩ := hrel
    have HA := Lib.hid hag
    clear hag
    by_cases hlt : k < n
    · have hlt' : (k : Int) < n := by omega
      have hx := (HB1.out.cell (p := ⟨b2, o2 + k, none⟩) hb2).trans (HC2.out k hlt)
      rw [List.getD_eq_getElem?_getD] at hx
      obtain ⟨x, hxx⟩ : ∃ x, ps[k]?.getD (0 : Int) = x := ⟨_, rfl⟩
      rw [hxx] at hx
      have HX := Lib.hid hxx
      have hsl : s < 4096 := by rw [HQ.out]; exact seenTo_lt hn2 k fun j hj => (HA.out j hj).out
      have HNO : movAt n ps k = false → Hid (movOk zs ps = false) := fun h => movOk_no (k := k) (by rw [← hl.out]; exact hlt) (by rw [← hl.out]; exact h)
      clear hxx
      cases h0 : (decide (0 ≤ x) && decide (x < n)) with
      | false =>
        have HN := HNO (by rw [movAt, HX.out, h0]; rfl)
        have H0 := Lib.hid h0
        clear HNO h0
        go_wp2_with fail
        refine (isNode_is false _ _ _ _ _ (by omega) H0.out).mono ?_
        rintro e w' ⟨rfl, rfl⟩
        go_wp2
        refine leaves_marks (lo := w1.heap.size) [] _ (Nat.le_refl _) (MarksOk.nil _ _) ?_
        intro W' hTn
        exact ⟨_, results_tmp2 rfl _ _ _, _, _, _, by rw [HN.out]; rfl, by rw [GraphMovedR_no HN.out]; exact ⟨World.ownsRow_nil _ _ _ _, rfl⟩, bnext HB1.out hTn.below⟩
      | true =>
        have hx0 : 0 ≤ x ∧ x < n := by simpa using h0
        obtain ⟨j, rfl⟩ := Int.eq_ofNat_of_zero_le hx0.1
        have H0 := Lib.hid h0
        have hj : j < n := by omega
        have HP : Hid (pAt ps k = j) := by show pAt ps k = j; rw [pAt, HX.out, Int.toNat_natCast]
        cases h1 : s.testBit j with
        | true =>
          have HN := HNO (by rw [movAt, HX.out, h0, HP.out, ← HQ.out, h1]; rfl)
          have HB := Lib.hid h1
          clear HNO h0 h1 hx0
          go_wp2_with fail
          refine (isNode_is true _ _ _ _ _ (by omega) H0.out).mono ?_
          rintro e w' ⟨rfl, rfl⟩
          go_wp2_with fail
          refine (has_is true s j _ _ hsl rfl (by omega) HB.out).mono ?_
          rintro e w' ⟨rfl, rfl⟩
          go_wp2
          refine leaves_marks (lo := w1.heap.size) [] _ (Nat.le_refl _) (MarksOk.nil _ _) ?_
          intro W' hTn
          exact ⟨_, results_tmp2 rfl _ _ _, _, _, _, by rw [HN.out]; rfl, by rw [GraphMovedR_no HN.out]; exact ⟨World.ownsRow_nil _ _ _ _, rfl⟩, bnext HB1.out hTn.below⟩
        | false =>
          have HB := Lib.hid h1
          have HM : Hid (movAt n ps k = true) := by show movAt n ps k = true; rw [movAt, HX.out, h0, HP.out, ← HQ.out, h1]; rfl
          have hpj := npow_bd j (by omega)
          have hw1 : IntKind.i64.wrap (2 ^ j) = 2 ^ j := IntWalk.i64_in _ (by omega)
          have e1 : bits BinOp.or IntKind.i64 (s : Int) (2 ^ j) = ((s ||| 2 ^ j : Nat) : Int) := by
            rw [← pow_int j]; exact i64_or_nat _ _ (by omega) (by have := pow_int j; omega)
          clear HNO h0 h1 hx0
          go_wp2_with fail
          refine (isNode_is true _ _ _ _ _ (by omega) H0.out).mono ?_
          rintro e w' ⟨rfl, rfl⟩
          go_wp2_with fail
          refine (has_is false s j _ _ hsl rfl (by omega) HB.out).mono ?_
          rintro e w' ⟨rfl, rfl⟩
          go_wp2
          go_round
          case rel =>
            refine ⟨k + 1, s ||| 2 ^ j, by omega, by go_num, rfl, ?_, fun t ht => ?_⟩
            · show s ||| 2 ^ j = seenTo ps (k + 1)
              rw [seenTo_succ, HP.out, ← HQ.out]
            · rcases Nat.lt_succ_iff_lt_or_eq.1 ht with h | rfl
              · exact HA.out t h
              · exact HM
          case measure => simp [intOf]; omega
    · obtain rfl : n = k := by omega
      have hOK := movOk_yes (zs := zs) (ps := ps) HG.out (by rw [← hl2.out, hl.out]) (fun j hj => by rw [← hl.out] at hj ⊢; exact (HA.out j hj).out)
      have HOK := Lib.hid hOK
      have hP : ∀ j, j < n → ∃ v, ps[j]?.getD (0 : Int) = (v : Nat) ∧ pAt ps j = v ∧ v < n := fun j hj => by
        obtain ⟨q1, _, q3, _⟩ := movAt_of (HA.out j hj).out
        exact ⟨pAt ps j, by unfold pAt; omega, rfl, q3⟩
      have HP := Lib.hid hP
      clear hOK hP HA
      go_wp2_with (at_make; refine wpList_make_full _ rfl _ _ 23 rfl w1.heap.size 3 i0 (.int .i64 0) 1 under_ints hi hz0 hz1 .i64 .i64 n n n rfl rfl rfl rfl (by rw [hz2]; omega) (by unfold maxLen; omega) (Nat.le_refl _) ?_; intro w2 hown hgrow)
      have hw2 : Below w1.heap.size w1 w2 := (Below.refl _ _).grown hgrow (Nat.le_refl _) (by simp)
      have hA0 : Arr w2 w1.heap.size (some ⟨w1.heap.size, 0, none⟩) n n (List.replicate n 0) := ⟨by
        have e : (madeCells (Value.cells (.int .i64 0)) (n * 1)).toList = (List.replicate n (0 : Int)).map (Value.int .i64) := by
          rw [show (Value.cells (.int .i64 0)) = #[.int .i64 0] from rfl, toList_madeCells_one]; simp
        rw [← e]; exact hown, by simp⟩
      clear hown hgrow
      have hsz2 : w1.heap.size < w2.heap.size := (hA0.lt _ rfl).2
      obtain ⟨w3, hw3⟩ : ∃ w3, w2.alloc (.cells #[.slice (some ⟨w1.heap.size, 0, none⟩) n n] 23) = w3 := ⟨_, rfl⟩
      have hw3s : w3.heap.size = w2.heap.size + 1 := by rw [← hw3]; simp
      have hB3 : Below w1.heap.size w1 w3 := by rw [← hw3]; exact hw2.alloc hw2.size _
      have hA3 : Arr w3 w1.heap.size (some ⟨w1.heap.size, 0, none⟩) n n (List.replicate n 0) := by rw [← hw3]; exact hA0.alloc _
      have hO3 : Boxed w3 w2.heap.size 23 (.slice (some ⟨w1.heap.size, 0, none⟩) n n) := by rw [← hw3]; exact Boxed.new w2 _ _
      have hX3 : Boxed w3 w.heap.size 23 (.slice (some ⟨b2, o2, none⟩) n cap2) := Boxed.stay HX1.out (Below.stay hB3 []) HX1.out.lt (by simp)
      have hxlt := HX1.out.lt
      have hB03 := Lib.hid (HB1.out.trans (hB3.mono HB1.out.size))
      have hblt : b < w.heap.size := by
        obtain ⟨_, _, he, h, _⟩ := HS.out.at' hG.pos
        cases he; exact h
      have HCg : Hid (∀ j, j < n → w3.cell? ⟨b, off + j, none⟩ = some (.int .i64 (zs.getD j 0))) := by
        obtain ⟨_, _, he, _, hc⟩ := (HS.out.below hB03.out).at' hG.pos
        cases he; exact hc
      have HCp : Hid (∀ j, j < n → w3.cell? ⟨b2, o2 + j, none⟩ = some (.int .i64 (ps.getD j 0))) := fun j hj => (hB03.out.cell (p := ⟨b2, o2 + j, none⟩) hb2).trans (HC2.out j hj)
      rw [hw3]
      clear hA0 hw2 hw3 cX
      obtain ⟨A, hAe⟩ : ∃ A, w1.heap.size = A := ⟨_, rfl⟩
      obtain ⟨X, hXe⟩ : ∃ X, w.heap.size = X := ⟨_, rfl⟩
      obtain ⟨O, hOe⟩ : ∃ O, w2.heap.size = O := ⟨_, rfl⟩
      rw [hAe] at hA3 hO3 hB3 hsz2
      rw [hXe] at hX3 hxlt hb2 hblt hB03
      rw [hOe] at hO3 hw3s hsz2
      simp only [hAe, hXe, hOe]
      have HAe := Lib.hid hAe
      have HXe := Lib.hid hXe
      rw [hAe] at hxlt
      clear hAe hXe hOe
      refine wp_loop (fun a W => ∃ (i : Nat) (Ds : List Nat) (x10 x11 x49 x50 x51 x52 x53 x54 x70 : Value),
          a = { tmps := #[.slice (some ⟨b, off, none⟩) n cap, .slice (some ⟨b2, o2, none⟩) n cap2, undef, .pointer (some ⟨X, 0, none⟩), u4, u5, .int .i64 s, undef, u8, .pointer (some ⟨O, 0, none⟩), x10, x11, undef,
            .slice (some ⟨b, off, none⟩) n cap, .bool true, .bool false, .bool false, .slice (some ⟨b2, o2, none⟩) n cap2, .int .i64 n, .slice (some ⟨b, off, none⟩) n cap, .int .i64 n, .bool false, .bool false, .slice (some ⟨b2, o2, none⟩) n cap2, .int .i64 n, .int .i64 n, .bool false, u27, u28, u29, u30, u31, u32, u33, u34, u35, u36, u37, u38, u39, u40, u41, u42,
            .slice (some ⟨b, off, none⟩) n cap, .int .i64 n, .slice (some ⟨A, 0, none⟩) n n, .slice (some ⟨b, off, none⟩) n cap, .int .i64 n, .int .i64 i, x49, x50, x51, x52, x53, x54, undef, undef, undef, undef, undef, undef, undef, undef, undef, undef, undef, undef, undef, undef, undef, x70, undef], defers := marks Ds } ∧
          i ≤ n ∧ Arr W A (some ⟨A, 0, none⟩) n n (mvTo zs ps i) ∧ Bd12 (mvTo zs ps i) ∧ Stay w3.heap.size [A] w3 W ∧ MarksOk w3.heap.size Ds W)
        (fun a _ => 12 - (intOf (a.tmps.getD 48 undef)).toNat) ⟨0, [], _, _, _, _, _, _, _, _, _, rfl, by omega, by rw [show mvTo zs ps 0 = List.replicate n 0 by rw [mvTo, ← hl.out]; rfl]; exact hA3, by rw [show mvTo zs ps 0 = List.replicate n 0 by rw [mvTo, ← hl.out]; rfl]; exact Bd12_zero n, Stay.refl _ _ _, MarksOk.nil _ _⟩ ?_
      rintro a wr ⟨i, Ds, x10, x11, x49, x50, x51, x52, x53, x54, x70, rfl, hi', hA, hbd, hSr, hM⟩
      have hsr := hSr.size
      by_cases hlt : i < n
      · have hlti : (i : Int) < n := by omega
        obtain ⟨q1, q2, q3⟩ := hG.ok i hlt
        obtain ⟨z, hz⟩ : ∃ z : Nat, zs[i]?.getD (0 : Int) = z := ⟨(zs[i]?.getD 0).toNat, by omega⟩
        rw [hz] at q1 q2 q3
        have hzlt : z < 4096 := by omega
        have hzn : z < 2 ^ n := by have e := pow_int n; omega
        have cg := (hSr.cell (p := ⟨b, off + i, none⟩) (by show b < _; omega) (by simp; omega)).trans (HCg.out i hlt)
        rw [List.getD_eq_getElem?_getD, hz] at cg
        have HZ : Hid (mvTo zs ps (i + 1) = mvRow ps i (mvTo zs ps i) (bitsOf z)) := by
          show mvTo zs ps (i + 1) = _
          rw [mvTo_succ, hz, Int.toNat_natCast]
        clear hz
        go_wp2_with (go_at_call 85; refine (nodes_any _ _).mono ?_; rintro e w' ⟨rfl, rfl⟩)
        obtain ⟨W1, hW1⟩ : ∃ W1, (wr.alloc (.cells #[.int .i64 i] 3)).alloc (.cells #[.int .i64 z] 3) = W1 := ⟨_, rfl⟩
        have hW1s : W1.heap.size = wr.heap.size + 2 := by rw [← hW1]; simp
        have hb12 := boxes2 wr (.int .i64 i) (.int .i64 z) 3 3
        rw [hW1] at hb12 ⊢
        have hS1 : Stay w3.heap.size [A] w3 W1 := hSr.then hb12.2.2 hSr.size
        have hA1 : Arr W1 A (some ⟨A, 0, none⟩) n n (mvTo zs ps i) := hA.below hb12.2.2
        have hM1 : MarksOk w3.heap.size Ds W1 := hM.below hb12.2.2
        clear hW1 hA hSr hM
        obtain ⟨pi, hpi1, hpi2, hpi3⟩ := HP.out i hlt
        refine wp_nodes2 rfl hzlt (Bn := wr.heap.size + 1) (by omega) hb12.2.1 [A] (by simp; omega)
          (fun pre W => Arr W A (some ⟨A, 0, none⟩) n n (mvRow ps i (mvTo zs ps i) pre) ∧ ∀ y ∈ pre, y < n)
          (fun _ _ => False)
          (fun pre W W' h hk' => ⟨h.1.same (by intro x hx; cases hx; exact hk' A (by simp)), h.2⟩) (fun pre W W' h _ => h) ⟨hA1, by simp⟩ ?round ?done ?stop
        case round =>
          intro l x W K hx hK
          gi_wp2
          rintro l pre W hpre hSW ⟨hAW, hpn⟩
          have hxn : x < n := lt_of_mem_bitsOf hzn hx
          have hxi : (x : Int) < n := by omega
          obtain ⟨pk, hpk1, hpk2, hpk3⟩ := HP.out x hxn
          have cX : W.cell? ⟨X, 0, none⟩ = some (.slice (some ⟨b2, o2, none⟩) n cap2) := (Boxed.stay hX3 (hS1.trans (hSW.mono (by omega))) (by omega) (by simp; omega)).cell
          have cO : W.cell? ⟨O, 0, none⟩ = some (.slice (some ⟨A, 0, none⟩) n n) := (Boxed.stay hO3 (hS1.trans (hSW.mono (by omega))) (by omega) (by simp; omega)).cell
          have cI : W.cell? ⟨wr.heap.size, 0, none⟩ = some (.int .i64 i) := (hSW.cell (p := ⟨wr.heap.size, 0, none⟩) (by show wr.heap.size < _; omega) (by simp; omega)).trans hb12.1
          have cpi : W.cell? ⟨b2, o2 + i, none⟩ = some (.int .i64 pi) := by
            have h := (hSW.cell (p := ⟨b2, o2 + i, none⟩) (by show b2 < _; omega) (by simp; omega)).trans ((hS1.cell (p := ⟨b2, o2 + i, none⟩) (by show b2 < _; omega) (by simp; omega)).trans (HCp.out i hlt))
            rw [List.getD_eq_getElem?_getD, hpi1] at h; exact h
          have cpk : W.cell? ⟨b2, o2 + x, none⟩ = some (.int .i64 pk) := by
            have h := (hSW.cell (p := ⟨b2, o2 + x, none⟩) (by show b2 < _; omega) (by simp; omega)).trans ((hS1.cell (p := ⟨b2, o2 + x, none⟩) (by show b2 < _; omega) (by simp; omega)).trans (HCp.out x hxn))
            rw [List.getD_eq_getElem?_getD, hpk1] at h; exact h
          have hbr : Bd12 (mvRow ps i (mvTo zs ps i) pre) := mvRow_bd hbd fun k hk => by
            obtain ⟨v, _, h2, h3⟩ := HP.out k (hpn k hk); omega
          have cA := hAW.cellAt pi hpi3
          have fA := hAW.frozenAt pi
          rw [List.getD_eq_getElem?_getD] at cA
          have hmix : Try.prog.follows .mixedOrders = true := by kernel_rfl
          have hp2 := npow_bd pk (by omega)
          have hw2 : IntKind.i64.wrap (2 ^ pk) = 2 ^ pk := IntWalk.i64_in _ (by omega)
          have eor : bits BinOp.or IntKind.i64 ((mvRow ps i (mvTo zs ps i) pre)[pi]?.getD 0) (2 ^ pk) = orB ((mvRow ps i (mvTo zs ps i) pre)[pi]?.getD 0) pk := orB_bits (hbr pi).1 (hbr pi).2 (by omega)
          have FIN : Hid (Stay W.heap.size [A] W ((W.setCell ⟨A, pi, none⟩ (.int .i64 (orB ((mvRow ps i (mvTo zs ps i) pre)[pi]?.getD 0) pk))).drew) ∧
              Arr ((W.setCell ⟨A, pi, none⟩ (.int .i64 (orB ((mvRow ps i (mvTo zs ps i) pre)[pi]?.getD 0) pk))).drew) A (some ⟨A, 0, none⟩) n n (mvRow ps i (mvTo zs ps i) (pre ++ [x])) ∧ ∀ y ∈ pre ++ [x], y < n) := by
            refine ⟨((Stay.refl _ _ _).setCell (p := ⟨A, pi, none⟩) (.inl (by simp)) _).drew, ?_, ?_⟩
            · have h := (hAW.set pi (orB ((mvRow ps i (mvTo zs ps i) pre)[pi]?.getD 0) pk)).drew
              rw [mvRow_snoc, hpi2, hpk2]; exact h
            · intro y hy
              rcases List.mem_append.1 hy with hy | hy
              · exact hpn y hy
              · simp only [List.mem_singleton] at hy; omega
          obtain ⟨v0, hv0⟩ : ∃ v0, (mvRow ps i (mvTo zs ps i) pre)[pi]?.getD 0 = v0 := ⟨_, rfl⟩
          rw [hv0] at FIN cA eor
          clear hv0 hAW hpn hbr hSW hpre hA1 hM1 hpi1 hpi2 hpk1 hpk2 hb12
          gi_wp2
          refine wpIn_still_tail 13 (by kernel_rfl) (by kernel_rfl) (by kernel_rfl) ?_
          simp only [List.take_succ_cons, List.take_zero, List.drop_succ_cons, List.drop_zero]
          repeat still_step
          refine wpStill_nil ?_
          gi_wp2
          exact FIN.out
        case done =>
          rintro D W hD hSW ⟨hAW, _⟩ hk'
          have hWs := hSW.size
          have hM2 : MarksOk w3.heap.size (D :: Ds) W := (hM1.stay hSW (fun X hX => ⟨hM1.lt X hX, by have h1 := (hM1.all X hX).1; simp; omega⟩)).push (B := W1.heap.size) hM1.lt hD (by omega) hk'
          have hS2 := hS1.trans (hSW.mono (by omega))
          have hA2 : Arr W A (some ⟨A, 0, none⟩) n n (mvTo zs ps (i + 1)) := by rw [HZ.out]; exact hAW
          have hbd2 : Bd12 (mvTo zs ps (i + 1)) := by
            rw [HZ.out]
            exact mvRow_bd hbd fun k hk => by
              obtain ⟨v, _, h2, h3⟩ := HP.out k (lt_of_mem_bitsOf hzn hk); omega
          have HA2 := Lib.hid hA2
          have HBD := Lib.hid hbd2
          clear hAW hA2 hbd2 hbd hA1 hM1
          go_wp2
          exact ⟨⟨i + 1, D :: Ds, _, _, _, _, _, _, _, _, _, rfl, by omega, HA2.out, HBD.out, hS2, hM2⟩, by simp [intOf]; omega⟩
        case stop => exact fun _ _ _ _ _ _ h _ => h.elim
      · obtain rfl : i = n := by omega
        have cO : wr.cell? ⟨O, 0, none⟩ = some (.slice (some ⟨A, 0, none⟩) i i) := (Boxed.stay hO3 hSr (by omega) (by simp; omega)).cell
        have HF : Hid (mvTo zs ps i = GraphMovedR zs ps) := by
          show mvTo zs ps i = GraphMovedR zs ps
          rw [GraphMovedR, HOK.out, ← hl.out]; rfl
        have HOK2 := HOK
        go_wp2
        refine leaves_marks (lo := w3.heap.size) Ds _ hsr hM ?_
        intro W' hTn
        refine ⟨_, results_tmp2 rfl _ _ _, _, _, _, by rw [HOK2.out]; rfl, ?_, ?_⟩
        · rw [← HF.out]; exact (Turned.arr hTn hA).mono (by rw [← HAe.out]; exact HB1.out.size)
        · have hB03' := hB03.out
          rw [← HXe.out] at hB03'
          exact hB03'.trans ((hSr.below (lo := w.heap.size) (by have := hB03'.size; omega) (by simp; have := HB1.out.size; have := HAe.out; omega)).trans (hTn.below.mono (by have := hB03'.size; omega)))

/-- GraphMoved for whatever arguments -/
theorem GraphMoved_any (a : Option Addr) (n cap : Nat) (zs : List Int) (pa : Option Addr) (m cap2 : Nat) (ps : List Int) (w : World) (hs : SlAt w a n zs) (ht : SlAt w pa m ps) :
    Calls Try.prog 41 #[.slice a n cap, .slice pa m cap2] w fun e w' => ∃ a' n' c', e = .returned (.tuple #[.slice a' n' c', .bool (movOk zs ps)]) ∧ Arr w' w.heap.size a' n' c' (GraphMovedR zs ps) ∧ Below w.heap.size w w' := by
  cases hg : graphB zs with
  | false =>
    have hno := movOk_graph (ps := ps) hg
    have HR := Lib.hid (GraphMovedR_no hno)
    have HF := Lib.hid hno
    have HG := Lib.hid hg
    clear hg hno
    refine calls_marks Try.func41 rfl ?_
    simp only [Try.ntmps41, List.size_toArray, List.length_cons, List.length_nil, Nat.reduceAdd, Nat.reduceSub, Array.replicate_succ, Array.replicate_zero, List.push_toArray, List.append_toArray, List.nil_append, List.cons_append]
    have HS0 := Lib.hid (hs.below ((Below.refl w.heap.size w).alloc (Nat.le_refl _) (.cells #[.slice pa m cap2] 23)))
    go_wp2_with fail
    refine (GraphIn_is false _ _ _ _ _ HS0.out HG.out).mono ?_
    rintro e w1 ⟨rfl, hb1⟩
    have hB1 := bnext ((Below.refl w.heap.size w).alloc (Nat.le_refl _) _) hb1
    go_wp2
    refine leaves_marks (lo := w1.heap.size) [] _ (Nat.le_refl _) (MarksOk.nil _ _) ?_
    intro W' hTn
    exact ⟨_, results_tmp2 rfl _ _ _, _, _, _, by rw [HF.out]; rfl, by rw [HR.out]; exact ⟨World.ownsRow_nil _ _ _ _, rfl⟩, bnext hB1 hTn.below⟩
  | true =>
    have hG := isG_of hg
    rw [← hs.len] at hG
    by_cases hmn : m = n
    · subst hmn
      obtain ⟨b, off, rfl, _, _⟩ := hs.at' hG.pos
      exact GraphMoved_t b off m cap cap2 pa zs ps w hs ht hg
    · have hno := movOk_len (zs := zs) (ps := ps) (by rw [← hs.len, ← ht.len]; exact hmn)
      have HR := Lib.hid (GraphMovedR_no hno)
      have HF := Lib.hid hno
      have HG := Lib.hid hg
      clear hg hno
      refine calls_marks Try.func41 rfl ?_
      simp only [Try.ntmps41, List.size_toArray, List.length_cons, List.length_nil, Nat.reduceAdd, Nat.reduceSub, Array.replicate_succ, Array.replicate_zero, List.push_toArray, List.append_toArray, List.nil_append, List.cons_append]
      have HS0 := Lib.hid (hs.below ((Below.refl w.heap.size w).alloc (Nat.le_refl _) (.cells #[.slice pa m cap2] 23)))
      go_wp2_with fail
      refine (GraphIn_is true _ _ _ _ _ HS0.out HG.out).mono ?_
      rintro e w1 ⟨rfl, hb1⟩
      have hB1 := bnext ((Below.refl w.heap.size w).alloc (Nat.le_refl _) _) hb1
      have hx0 := Boxed.new w 23 (.slice pa m cap2)
      have hX1 : Boxed w1 w.heap.size 23 (.slice pa m cap2) := Boxed.stay hx0 (Below.stay hb1 []) hx0.lt (by simp)
      have cX := hX1.cell
      have hne : ((m : Int) != n) = true := by simp; omega
      clear hx0 hX1
      go_wp2
      refine leaves_marks (lo := w1.heap.size) [] _ (Nat.le_refl _) (MarksOk.nil _ _) ?_
      intro W' hTn
      exact ⟨_, results_tmp2 rfl _ _ _, _, _, _, by rw [HF.out]; rfl, by rw [HR.out]; exact ⟨World.ownsRow_nil _ _ _ _, rfl⟩, bnext hB1 hTn.below⟩
end Go.Proofs.Ytpllijjocccaaaa
