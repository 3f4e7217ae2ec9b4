/- spec.GraphIn answers graphB, as impl.GraphIn does. -/
import Derived.Test.YtpllijjocccaaaaNodes
import Derived.Deep.QuietTactic
import Derived.BigQuiet
import Derived.Test.YtpllijjocccaaaaSl
namespace Go.Proofs.Ytpllijjocccaaaa
open Go.RowKit Go.Shelf
attribute [local go_sem] Oper.semAt_some
set_option maxRecDepth 100000 in
theorem in_any (n lo hi : Int) (w : World) : Calls Try.prog 91 #[.int .i64 n, .int .i64 lo, .int .i64 hi] w fun e w' => e = .returned (.bool (decide (lo ≤ n) && decide (n ≤ hi))) ∧ w = w' := by
  go_enter Try.func91, Try.ntmps91
  go_wp2
  · have h : lo ≤ n := by assumption
    go_ret
    simp [h]
  · have h : n < lo := by assumption
    have h' : ¬ lo ≤ n := by omega
    go_ret
    simp [h']
set_option maxRecDepth 100000 in
set_option maxHeartbeats 1000000 in
theorem isSet_any (s n : Int) (hn : 0 ≤ n) (hn2 : n < 62) (w : World) : Calls Try.prog 68 #[.int .i64 s, .int .i64 n] w fun e w' => e = .returned (.bool (decide (0 ≤ s) && decide (s < 2 ^ n.toNat))) ∧ w = w' := by
  have hp := pow_bd n hn2
  by_cases h0 : 0 ≤ s
  · have e : decide (s ≤ 2 ^ n.toNat - 1) = decide (s < 2 ^ n.toNat) := decide_eq_decide.2 (by omega)
    have H := Lib.hid e
    clear e
    go_enter Try.func68, Try.ntmps68
    go_wp2
    go_ret
    have H' := H.out
    simp [h0, H']
  · go_enter Try.func68, Try.ntmps68
    go_wp2
    go_ret
    simp; omega

def okAt (zs : List Int) (i : Nat) : Bool := (decide (0 ≤ zs.getD i 0) && decide (zs.getD i 0 < 2 ^ zs.length)) && !(zs.getD i 0).toNat.testBit i
def symAt (zs : List Int) (i : Nat) : Bool := (bitsOf (zs.getD i 0).toNat).all fun k => (zs.getD k 0).toNat.testBit i
def graphB (zs : List Int) : Bool := (decide (1 ≤ zs.length) && decide (zs.length ≤ 12)) && ((List.range zs.length).all (okAt zs) && (List.range zs.length).all (symAt zs))
theorem graphB_len {zs : List Int} (h : ¬ (1 ≤ zs.length ∧ zs.length ≤ 12)) : graphB zs = false := by
  unfold graphB; simp only [Bool.and_eq_false_iff, decide_eq_false_iff_not]; omega
theorem graphB_ok {zs : List Int} {i : Nat} (hi : i < zs.length) (h : okAt zs i = false) : graphB zs = false := by
  cases hg : graphB zs with
  | false => rfl
  | true =>
    simp only [graphB, Bool.and_eq_true, List.all_eq_true, List.mem_range] at hg
    rw [hg.2.1 i hi] at h; cases h
theorem graphB_sym {zs : List Int} {i : Nat} (hi : i < zs.length) (h : symAt zs i = false) : graphB zs = false := by
  cases hg : graphB zs with
  | false => rfl
  | true =>
    simp only [graphB, Bool.and_eq_true, List.all_eq_true, List.mem_range] at hg
    rw [hg.2.2 i hi] at h; cases h
theorem graphB_yes {zs : List Int} (h1 : 1 ≤ zs.length) (h2 : zs.length ≤ 12) (h3 : ∀ i, i < zs.length → okAt zs i = true) (h4 : ∀ i, i < zs.length → symAt zs i = true) : graphB zs = true := by
  simp only [graphB, Bool.and_eq_true, List.all_eq_true, List.mem_range, decide_eq_true_eq]
  exact ⟨⟨h1, h2⟩, h3, h4⟩
theorem okAt_bd {zs : List Int} {n i : Nat} (hz : n = zs.length) (hn2 : n ≤ 12) (h : okAt zs i = true) : 0 ≤ zs[i]?.getD 0 ∧ zs[i]?.getD 0 < 4096 ∧ zs[i]?.getD 0 < 2 ^ n := by
  subst hz
  simp only [okAt, List.getD_eq_getElem?_getD, Bool.and_eq_true, decide_eq_true_eq] at h
  have e : (2 : Int) ^ zs.length ≤ 2 ^ 12 := by exact_mod_cast Nat.pow_le_pow_right (by omega) hn2
  have : (2 : Int) ^ 12 = 4096 := by decide
  omega
theorem okAt_yes {zs : List Int} {n k : Nat} (hz : n = zs.length) (h1 : 0 ≤ zs[k]?.getD 0 ∧ zs[k]?.getD 0 < 2 ^ n) (h2 : (zs[k]?.getD 0).toNat.testBit k = false) : okAt zs k = true := by
  subst hz; simp [okAt, List.getD_eq_getElem?_getD, h1, h2]
theorem okAt_no1 {zs : List Int} {n k : Nat} (hz : n = zs.length) (h1 : ¬ (0 ≤ zs[k]?.getD 0 ∧ zs[k]?.getD 0 < 2 ^ n)) : okAt zs k = false := by
  subst hz; rw [okAt, List.getD_eq_getElem?_getD]; simp only [Bool.and_eq_false_iff, decide_eq_false_iff_not]; left; omega
theorem okAt_no2 {zs : List Int} {k : Nat} (h2 : (zs[k]?.getD 0).toNat.testBit k = true) : okAt zs k = false := by
  simp [okAt, List.getD_eq_getElem?_getD, h2]

theorem boxes2 (w : World) (v1 v2 : Value) (t1 t2 : TypeId) : ((w.alloc (.cells #[v1] t1)).alloc (.cells #[v2] t2)).cell? ⟨w.heap.size, 0, none⟩ = some v1 ∧ ((w.alloc (.cells #[v1] t1)).alloc (.cells #[v2] t2)).cell? ⟨w.heap.size + 1, 0, none⟩ = some v2 ∧
    Below w.heap.size w ((w.alloc (.cells #[v1] t1)).alloc (.cells #[v2] t2)) :=
  ⟨by rw [World.cell?_alloc_past _ _ _ (by simp), World.cell?_alloc_at _ _ _ _ rfl]; rfl, by rw [World.cell?_alloc_at _ _ _ _ (by simp)]; rfl, ((Below.refl _ _).alloc (Nat.le_refl _) _).alloc (by simp) _⟩
set_option maxRecDepth 100000 in
set_option maxHeartbeats 2000000 in
theorem GraphIn_t (b off n cap : Nat) (zs : List Int) (w : World) (hz : Hid (n = zs.length)) (hn1 : 1 ≤ n) (hn2 : n ≤ 12) (hb : b < w.heap.size)
    (hc : ∀ j, j < n → w.cell? ⟨b, off + j, none⟩ = some (.int .i64 (zs.getD j 0))) :
    Calls Try.prog 54 #[.slice (some ⟨b, off, none⟩) n cap] w fun e w' => e = .returned (.bool (graphB zs)) ∧ Below w.heap.size w w' := by
  have d1 : decide ((1 : Int) ≤ n) = true := by simp; omega
  have d2 : decide ((n : Int) ≤ 12) = true := by simp; omega
  have hp := npow_bd n (by omega)
  refine calls_marks Try.func54 rfl ?_
  simp only [Try.ntmps54, List.size_toArray, List.length_cons, List.length_nil, Nat.reduceAdd, Nat.reduceSub, Array.replicate_succ, Array.replicate_zero, List.push_toArray, List.append_toArray, List.nil_append, List.cons_append]
  go_wp2_with (go_at_call 91; refine (in_any _ _ _ _).mono ?_; rintro e w' ⟨rfl, rfl⟩)
  go_loop [14] (fun p => ∃ k : Nat, k ≤ n ∧ p = .int .i64 k ∧ ∀ i, i < k → Hid (okAt zs i = true)) (fun p => 12 - (intOf p).toNat)
  case atStart => exact ⟨0, by omega, rfl, by omega⟩
  case round =>
    obtain ⟨k, hk, rfl, hall⟩ := hrel
    have hcx : k < n → w.cell? ⟨b, off + k, none⟩ = some (.int .i64 (zs.getD k 0)) := fun h => hc k h
    go_wp2_with (first | (go_at_call 68; refine (isSet_any _ _ (by omega) (by omega) _).mono ?_; rintro e w' ⟨rfl, rfl⟩) | (go_at_call 84; refine (has_any _ _ (by omega) (by omega) (by omega) (by omega) _).mono ?_; rintro e w' ⟨rfl, rfl⟩))
    · have h1 : k < n := by assumption
      have h2 : (zs[k]?.getD 0).toNat.testBit k = true := by assumption
      refine leaves_marks (lo := w.heap.size) [] _ (by simp; omega) (MarksOk.nil _ _) ?_
      intro W' hT
      have hcc := hT.cell (boxes2 w _ _ _ _).2.1
      refine ⟨_, by simp [results, Try.f54, go_sem, hcc]; rfl, ?_, (boxes2 w _ _ _ _).2.2.trans hT.below⟩
      rw [graphB_ok (by rw [← hz.out]; exact h1) (okAt_no2 h2)]
    · have h1 : k < n := by assumption
      have h2 : (zs[k]?.getD 0).toNat.testBit k = false := by assumption
      have h3 : 0 ≤ zs[k]?.getD 0 ∧ zs[k]?.getD 0 < 2 ^ n := by assumption
      go_round
      case rel =>
        refine ⟨k + 1, by omega, by go_num, fun i hi => ?_⟩
        rcases Nat.lt_succ_iff_lt_or_eq.1 hi with h | rfl
        · exact hall i h
        · exact okAt_yes hz.out h3 h2
      case measure => simp [intOf]; omega
    · have h1 : k < n := by assumption
      have h3 : ¬ (0 ≤ zs[k]?.getD 0 ∧ zs[k]?.getD 0 < 2 ^ n) := by assumption
      refine leaves_marks (lo := w.heap.size) [] _ (by simp; omega) (MarksOk.nil _ _) ?_
      intro W' hT
      have hcc := hT.cell (boxes2 w _ _ _ _).2.1
      refine ⟨_, by simp [results, Try.f54, go_sem, hcc]; rfl, ?_, (boxes2 w _ _ _ _).2.2.trans hT.below⟩
      rw [graphB_ok (by rw [← hz.out]; exact h1) (okAt_no1 hz.out h3)]
    · have h1 : ¬ k < n := by assumption
      obtain rfl : k = n := by omega
      clear h1 hcx hk d1 d2
      obtain ⟨w2, hw2⟩ : ∃ w2, (w.alloc (.cells #[.slice (some ⟨b, off, none⟩) k cap] 23)).alloc (.cells #[.bool false] 4) = w2 := ⟨_, rfl⟩
      have hw2s : w2.heap.size = w.heap.size + 2 := by rw [← hw2]; simp
      have hA : w2.cell? ⟨w.heap.size, 0, none⟩ = some (.slice (some ⟨b, off, none⟩) k cap) := by rw [← hw2]; exact (boxes2 w _ _ _ _).1
      have hR : Boxed w2 (w.heap.size + 1) 4 (.bool false) := by rw [← hw2]; have := Boxed.new (w.alloc (.cells #[.slice (some ⟨b, off, none⟩) k cap] 23)) 4 (.bool false); simpa using this
      have hBl : Below w.heap.size w w2 := by rw [← hw2]; exact (boxes2 w _ _ _ _).2.2
      rw [hw2]
      clear hw2
      refine wp_loop (fun a W => ∃ (i : Nat) (Ds : List Nat) (x5 x6 x33 x34 x35 x36 x37 x38 x47 : Value),
          a = { tmps := #[.slice (some ⟨b, off, none⟩) k cap, .pointer (some ⟨w.heap.size, 0, none⟩), .pointer (some ⟨w.heap.size + 1, 0, none⟩), u3, u4, x5, x6, undef, .slice (some ⟨b, off, none⟩) k cap, .int .i64 k, .bool true, .bool false, .slice (some ⟨b, off, none⟩) k cap, .int .i64 k, .int .i64 k, .bool false, u16, u17, u18, u19, u20, u21, u22, u23, u24, u25, u26, u27, u28, u29, .slice (some ⟨b, off, none⟩) k cap, .int .i64 k, .int .i64 i, x33, x34, x35, x36, x37, x38, undef, undef, undef, undef, undef, undef, undef, undef, x47], defers := marks Ds } ∧
          i ≤ k ∧ (∀ j, j < i → symAt zs j = true) ∧ Stay w2.heap.size [w.heap.size + 1] w2 W ∧ Boxed W (w.heap.size + 1) 4 (.bool false) ∧ MarksOk w2.heap.size Ds W)
        (fun a _ => 12 - (intOf (a.tmps.getD 32 undef)).toNat) ⟨0, [], _, _, _, _, _, _, _, _, _, rfl, by omega, by omega, Stay.refl _ _ _, hR, MarksOk.nil _ _⟩ ?_
      rintro a wr ⟨i, Ds, x5, x6, x33, x34, x35, x36, x37, x38, x47, rfl, hi, hsym, hS, hRr, hM⟩
      have hAr := (hS.cell (p := ⟨w.heap.size, 0, none⟩) (by show w.heap.size < _; omega) (by simp)).trans hA
      have hRc := hRr.cell
      have hRf := hRr.frozen
      have hcw : ∀ j, j < k → wr.cell? ⟨b, off + j, none⟩ = some (.int .i64 (zs.getD j 0)) := fun j hj => (hS.cell (p := ⟨b, off + j, none⟩) (by show b < _; omega) (by simp; omega)).trans ((hBl.cell (p := ⟨b, off + j, none⟩) hb).trans (hc j hj))
      have hwr := hS.size
      clear hc
      go_wp2_with (go_at_call 85; refine (nodes_any _ _).mono ?_; rintro e w' ⟨rfl, rfl⟩)
      · have hik : i < k := by assumption
        have hmix : Try.prog.follows .mixedOrders = true := by kernel_rfl
        obtain ⟨hb1, hb2, hb3⟩ := okAt_bd hz.out hn2 (hall i hik)
        obtain ⟨s, hs⟩ : ∃ s : Nat, zs[i]?.getD 0 = s := ⟨_, (Int.toNat_of_nonneg hb1).symm⟩
        have hs4 : s < 4096 := by omega
        have hsn : s < 2 ^ k := by have : (s : Int) < ((2 ^ k : Nat) : Int) := by rw [← hs]; simpa using hb3
                                   omega
        have hsg : zs[i]?.getD 0 = (s : Int) := hs
        have hsym' : symAt zs i = (bitsOf s).all fun x => (zs.getD x 0).toNat.testBit i := by unfold symAt; rw [List.getD_eq_getElem?_getD, hs]; rfl
        rw [hsg]
        clear hs hb1 hb2 hb3 hsg
        obtain ⟨W1, hW1⟩ : ∃ W1, (wr.alloc (.cells #[.int .i64 i] 3)).alloc (.cells #[.int .i64 s] 3) = W1 := ⟨_, rfl⟩
        have hW1s : W1.heap.size = wr.heap.size + 2 := by rw [← hW1]; simp
        have hb12 := boxes2 wr (.int .i64 i) (.int .i64 s) 3 3
        rw [hW1] at hb12 ⊢
        have hS1 : Stay w2.heap.size [w.heap.size + 1] w2 W1 := hS.then hb12.2.2 hS.size
        have hR1 : Boxed W1 (w.heap.size + 1) 4 (.bool false) := Boxed.stay hRr (Below.stay hb12.2.2 []) hRr.lt (by simp)
        have hM1 : MarksOk w2.heap.size Ds W1 := hM.below hb12.2.2
        have hcell1 : ∀ a : Addr, a.block < wr.heap.size → W1.cell? a = wr.cell? a := fun a ha => hb12.2.2.cell ha
        clear hW1
        refine wp_nodes2 rfl hs4 (Bn := wr.heap.size + 1) (by omega) hb12.2.1 [w.heap.size + 1] (by simp; omega)
          (fun pre W => Boxed W (w.heap.size + 1) 4 (.bool false) ∧ ∀ y ∈ pre, (zs.getD y 0).toNat.testBit i = true)
          (fun pre W => Boxed W (w.heap.size + 1) 4 (.bool false) ∧ symAt zs i = false)
          (fun pre W W' h hk => ⟨(hk _ (by simp)).trans h.1, h.2⟩) (fun pre W W' h hk => ⟨(hk _ (by simp)).trans h.1, h.2⟩) ⟨hR1, by simp⟩ ?round ?done ?stop
        case round =>
          intro l x W K hx hK
          gi_wp2
          rintro l pre W hpre hSW ⟨hRW, hprev⟩
          have hxk : x < k := lt_of_mem_bitsOf hsn hx
          have hxi : (x : Int) < k := by omega
          have c1 : W.cell? ⟨w.heap.size, 0, none⟩ = some (.slice (some ⟨b, off, none⟩) k cap) := (hSW.cell (by show w.heap.size < _; omega) (by simp)).trans ((hcell1 _ (by show w.heap.size < _; omega)).trans hAr)
          have c2 : W.cell? ⟨wr.heap.size, 0, none⟩ = some (.int .i64 i) := (hSW.cell (by show wr.heap.size < _; omega) (by simp; omega)).trans hb12.1
          have c3 : W.cell? ⟨b, off + x, none⟩ = some (.int .i64 (zs.getD x 0)) := (hSW.cell (by show b < _; omega) (by simp; omega)).trans ((hcell1 _ (by show b < _; omega)).trans (hcw x hxk))
          obtain ⟨q1, q2, q3⟩ := okAt_bd hz.out hn2 (hall x hxk)
          have c4 := hRW.cell
          have c5 := hRW.frozen
          gi_wp2
          gi_region_with_o (first | (refine ⟨trivial, ?_⟩; gi_at_call 84; refine (CallsIn.inRound l (callsIn_wide.2 (has_any _ _ (by omega) (by omega) (by omega) (by omega) _))).mono ?_; rintro e w' ⟨rfl, rfl⟩))
          all_goals gi_wp2
          all_goals first
            | (have hbit : (!(zs[x]?.getD 0).toNat.testBit i) = true := by assumption
               refine ⟨((Stay.refl _ _ _).setCell (p := ⟨w.heap.size + 1, 0, none⟩) (.inl (by simp)) _).drew, Boxed.set hRW, ?_⟩
               rw [hsym', List.all_eq_false]
               exact ⟨x, hx, by rw [List.getD_eq_getElem?_getD]; simpa using hbit⟩)
            | (have hbit : (!(zs[x]?.getD 0).toNat.testBit i) = false := by assumption
               refine ⟨(Stay.refl _ _ _).drew, hRW, ?_⟩
               intro y hy
               rcases List.mem_append.1 hy with hy | hy
               · exact hprev y hy
               · simp only [List.mem_singleton] at hy
                 subst hy
                 rw [List.getD_eq_getElem?_getD]; simpa using hbit)
        case done =>
          rintro D W hD hSW ⟨hRW, hyes⟩ hk
          have hM2 : MarksOk w2.heap.size (D :: Ds) W := (hM1.stay (hSW) (fun X hX => ⟨hM1.lt X hX, by have := (hM1.all X hX).1; simp; omega⟩)).push (B := W1.heap.size) hM1.lt hD (by omega) hk
          have hS2 := hS1.trans (hSW.mono (by omega))
          have hsy : symAt zs i = true := by rw [hsym', List.all_eq_true]; exact hyes
          have HS := Lib.hid hsy
          clear hsy hsym' hyes
          go_wp2
          refine ⟨⟨i + 1, D :: Ds, _, _, _, _, _, _, _, _, _, rfl, by omega, ?_, hS2, hRW, hM2⟩, by simp [intOf]; omega⟩
          intro j hj
          rcases Nat.lt_succ_iff_lt_or_eq.1 hj with h | rfl
          · exact hsym j h
          · exact HS.out
        case stop =>
          rintro D pre W hD hpre hSW ⟨hRW, hno⟩ hk
          have hM2 : MarksOk w2.heap.size (D :: Ds) W := (hM1.stay (hSW) (fun X hX => ⟨hM1.lt X hX, by have := (hM1.all X hX).1; simp; omega⟩)).push (B := W1.heap.size) hM1.lt hD (by omega) hk
          have hS2 := hS1.trans (hSW.mono (by omega))
          go_wp2
          have hW := hS2.size
          refine leaves_marks (lo := w2.heap.size) (D :: Ds) _ hW hM2 ?_
          intro W' hT
          have hcc := hT.cell hRW.cell
          refine ⟨_, by simp [results, Try.f54, go_sem, hcc]; rfl, ?_, hBl.trans ((hS2.below (by omega) (by simp)).trans (hT.below.mono (by omega)))⟩
          rw [graphB_sym (by rw [← hz.out]; exact hik) hno]
      · have hik : ¬ i < k := by assumption
        obtain rfl : i = k := by omega
        refine leaves_marks (lo := w2.heap.size) Ds _ (by simpa using hS.size) (hM.others (KeepsOthers.setCell _ _ _)) ?_
        intro W' hT
        have hcc := hT.cell (Boxed.set hRr).cell
        refine ⟨_, by simp [results, Try.f54, go_sem, hcc]; rfl, ?_, hBl.trans (((hS.below (by omega) (by simp)).setCell (p := ⟨w.heap.size + 1, 0, none⟩) (by simp) _).trans (hT.below.mono (by omega)))⟩
        have hz' := hz.out
        rw [graphB_yes (by omega) (by omega) (fun j hj => hall j (by omega)) (fun j hj => hsym j (by omega))]
end Go.Proofs.Ytpllijjocccaaaa
namespace Go.Proofs.Ytpllijjocccaaaa
open Go.RowKit Go.Shelf

theorem quiet_mine {f : FuncId} {args : Array Value} {w : World} {n : Nat} {v : Value}
    (h : Calls Try.prog f args (w.drewN n) fun e w' => e = .returned v ∧ w.drewN n = w') : Calls Try.prog f args (w.drewN n) fun e w'' => e = .returned v ∧ ∃ m, w'' = w.drewN m :=
  h.mono fun _ _ ⟨he, hm⟩ => ⟨he, n, hm.symm⟩

theorem drews {w wr : World} (h : ∃ q, w.drewN q = wr) (m : Nat) : ∃ q, w.drewN q = wr.drewN m := by
  obtain ⟨q, rfl⟩ := h; exact ⟨q + m, (World.drewN_drewN _ _ _).symm⟩
set_option maxRecDepth 100000 in
theorem sin_yes (n lo hi : Int) (h1 : lo ≤ n) (h2 : n ≤ hi) (w : World) : Calls Try.prog 86 #[.int .i64 n, .int .i64 lo, .int .i64 hi] w fun e w' => e = .returned (.bool true) ∧ w = w' := by
  go_enter Try.func86, Try.ntmps86
  go_wp2
  go_ret
  exact ⟨rfl, rfl⟩
set_option maxRecDepth 100000 in
theorem sin_no (n lo hi : Int) (h : ¬ (lo ≤ n ∧ n ≤ hi)) (w : World) : Calls Try.prog 86 #[.int .i64 n, .int .i64 lo, .int .i64 hi] w fun e w' => e = .returned (.bool false) ∧ w = w' := by
  by_cases h1 : lo ≤ n
  · have h2 : ¬ n ≤ hi := fun h' => h ⟨h1, h'⟩
    clear h
    go_enter Try.func86, Try.ntmps86
    go_wp2
    go_ret
    exact ⟨rfl, rfl⟩
  · clear h
    go_enter Try.func86, Try.ntmps86
    go_wp2
    go_ret
    exact ⟨rfl, rfl⟩
/-- spec.l1Bit -/
def bitI (s : Int) (i : Nat) : Int := if s.toNat.testBit i then 1 else 0
theorem bitI_yes {s : Int} {i : Nat} (h : s.toNat.testBit i = true) : bitI s i = 1 := by simp [bitI, h]
theorem bitI_no {s : Int} {i : Nat} (h : s.toNat.testBit i = false) : bitI s i = 0 := by simp [bitI, h]
theorem bitI_bd (s : Int) (i : Nat) : 0 ≤ bitI s i ∧ bitI s i ≤ 1 := by unfold bitI; split <;> omega
theorem bitI_inj {s t : Int} {i j : Nat} : bitI s i = bitI t j ↔ s.toNat.testBit i = t.toNat.testBit j := by
  unfold bitI; cases s.toNat.testBit i <;> cases t.toNat.testBit j <;> simp
theorem l1Bit_any (s n : Int) (hs : 0 ≤ s) (hs2 : s ≤ 9223372036854775807) (hn : 0 ≤ n) (hn2 : n < 64) (w : World) : Calls Try.prog 87 #[.int .i64 s, .int .i64 n] w fun e w' => e = .returned (.int .i64 (bitI s n.toNat)) ∧ w = w' := by
  have h1 : bits BinOp.and IntKind.i64 (s / 2 ^ n.toNat) 1 = bitI s n.toNat := bit_val s n hs (by omega)
  go_enter Try.func87, Try.ntmps87
  go_wp2
  go_ret
  simp

theorem graphB_pair {zs : List Int} {i k : Nat} (hi : i < zs.length) (hk : k < zs.length) (h : ¬ bitI (zs[i]?.getD 0) k = bitI (zs[k]?.getD 0) i) : graphB zs = false := by
  cases hg : graphB zs with
  | false => rfl
  | true =>
    refine absurd (bitI_inj.2 ?_) h
    simp only [graphB, Bool.and_eq_true, List.all_eq_true, List.mem_range, decide_eq_true_eq] at hg
    have sym : ∀ i k, i < zs.length → k < zs.length → (zs[i]?.getD 0).toNat.testBit k = true → (zs[k]?.getD 0).toNat.testBit i = true := by
      intro i k hi hk hb
      have := hg.2.2 i hi
      simp only [symAt, List.all_eq_true, List.getD_eq_getElem?_getD] at this
      exact this k (mem_bitsOf.2 ⟨by omega, hb⟩)
    cases h1 : (zs[i]?.getD 0).toNat.testBit k <;> cases h2 : (zs[k]?.getD 0).toNat.testBit i
    · rfl
    · rw [sym k i hk hi h2] at h1; cases h1
    · rw [sym i k hi hk h1] at h2; cases h2
    · rfl
theorem graphB_pairs {zs : List Int} (h1 : 1 ≤ zs.length) (h2 : zs.length ≤ 12) (h3 : ∀ i, i < zs.length → okAt zs i = true)
    (h4 : ∀ i, i < zs.length → ∀ k, k < zs.length → bitI (zs[i]?.getD 0) k = bitI (zs[k]?.getD 0) i) : graphB zs = true := by
  refine graphB_yes h1 h2 h3 fun i hi => ?_
  simp only [symAt, List.all_eq_true, List.getD_eq_getElem?_getD]
  intro x hx
  have hb := okAt_bd rfl h2 (h3 i hi)
  have hxn : x < zs.length := by
    refine lt_of_mem_bitsOf (s := (zs[i]?.getD 0).toNat) ?_ hx
    have e : ((2 ^ zs.length : Nat) : Int) = (2 : Int) ^ zs.length := by simp
    omega
  rw [← bitI_inj.1 (h4 i hi x hxn)]
  exact (mem_bitsOf.1 hx).2

set_option maxRecDepth 100000 in
set_option maxHeartbeats 2000000 in
theorem sGraphIn_any (a : Option Addr) (n cap : Nat) (zs : List Int) (w : World) (hs : SlAt w a n zs) :
    Calls Try.prog 60 #[.slice a n cap] w fun e w' => e = .returned (.bool (graphB zs)) ∧ ∃ q, w.drewN q = w' := by
  have hbd := hs.bd
  by_cases hn : 1 ≤ n ∧ n ≤ 12
  · obtain ⟨hn1, hn2⟩ := hn
    obtain ⟨b, off, rfl, hb, hc⟩ := hs.at' (by omega)
    have hz := Lib.hid hs.len
    have hp := npow_bd n (by omega)
    have hw1 : IntKind.i64.wrap (2 ^ n) = 2 ^ n := IntWalk.i64_in _ (by omega)
    have hw2 : IntKind.i64.wrap (2 ^ n - 1) = 2 ^ n - 1 := IntWalk.i64_in _ (by omega)
    clear hs
    go_enter Try.func60, Try.ntmps60
    go_wp2_with (go_at_call 86; refine (sin_yes _ _ _ (by omega) (by omega) _).mono ?_; rintro e w' ⟨rfl, rfl⟩)
    go_loopw [4] (fun p wr => ∃ k : Nat, k ≤ n ∧ p = .int .i64 k ∧ (∀ i, i < k → Hid (okAt zs i = true)) ∧ ∃ q, w.drewN q = wr) (fun p _ => 12 - (intOf p).toNat)
    case atStart => exact ⟨0, by omega, rfl, by omega, 0, rfl⟩
    case round =>
      obtain ⟨k, hk, rfl, hall, hq⟩ := hrel
      have HQ := Lib.hid hq
      by_cases hlt : k < n
      · have hx : wr.cell? ⟨b, off + k, none⟩ = some (.int .i64 (zs.getD k 0)) := by obtain ⟨q, rfl⟩ := hq; exact hc k hlt
        clear hq
        have hlt' : (k : Int) < n := by omega
        rw [List.getD_eq_getElem?_getD] at hx
        by_cases h1 : 0 ≤ zs[k]?.getD 0 ∧ zs[k]?.getD 0 < 2 ^ n
        · obtain ⟨h1a, h1b⟩ := h1
          cases h2 : (zs[k]?.getD 0).toNat.testBit k with
          | true =>
            have e0 := bitI_yes h2
            have HG := Lib.hid (graphB_ok (by rw [← hz.out]; exact hlt) (okAt_no2 h2))
            clear hc hall h2
            go_wp2
            go_quiet (first | (go_at_call 86; exact quiet_mine (sin_yes _ _ _ (by omega) (by omega) _)) | (go_at_call 87; exact quiet_mine (l1Bit_any _ _ (by omega) (by omega) (by omega) (by omega) _)))
            go_wp2
            go_ret
            exact ⟨by rw [HG.out]; rfl, drews HQ.out _⟩
          | false =>
            have e0 := bitI_no h2
            have HG := Lib.hid (okAt_yes hz.out ⟨h1a, h1b⟩ h2)
            have HA := Lib.hid hall
            clear hc hall h2
            go_wp2
            go_quiet (first | (go_at_call 86; exact quiet_mine (sin_yes _ _ _ (by omega) (by omega) _)) | (go_at_call 87; exact quiet_mine (l1Bit_any _ _ (by omega) (by omega) (by omega) (by omega) _)))
            go_wp2
            go_roundw
            case rel =>
              refine ⟨k + 1, by omega, by go_num, fun i hi => ?_, drews HQ.out _⟩
              rcases Nat.lt_succ_iff_lt_or_eq.1 hi with h | rfl
              · exact HA.out i h
              · exact HG.out
            case measure => simp [intOf]; omega
        · have HG := Lib.hid (graphB_ok (by rw [← hz.out]; exact hlt) (okAt_no1 hz.out h1))
          have h1' : ¬ (0 ≤ zs[k]?.getD 0 ∧ zs[k]?.getD 0 ≤ 2 ^ n - 1) := by omega
          have H1 := Lib.hid h1'
          clear hc hall h1 h1'
          go_wp2
          go_quiet ((go_at_call 86; exact quiet_mine (sin_no _ _ _ H1.out _)))
          go_wp2
          go_ret
          exact ⟨by rw [HG.out]; rfl, drews HQ.out _⟩
      · obtain rfl : k = n := by omega
        have HA := Lib.hid hall
        clear hall hlt hq
        go_wp2
        go_loopw [5] (fun p wr => ∃ i : Nat, i ≤ k ∧ p = .int .i64 i ∧ (∀ i', i' < i → ∀ k', k' < k → Hid (bitI (zs[i']?.getD 0) k' = bitI (zs[k']?.getD 0) i')) ∧ ∃ q, w.drewN q = wr) (fun p _ => 12 - (intOf p).toNat)
        case atStart => exact ⟨0, by omega, rfl, by omega, HQ.out⟩
        case round =>
          obtain ⟨i, hi, rfl, hP, hq⟩ := hrel
          have HP := Lib.hid hP
          have HQ2 := Lib.hid hq
          clear hP hq HQ
          by_cases hik : i < k
          · have hik' : (i : Int) < k := by omega
            go_wp2
            obtain ⟨wo, rfl⟩ : ∃ wo : World, wo = wr := ⟨_, rfl⟩
            go_loopw [6] (fun p wr => ∃ j : Nat, j ≤ k ∧ p = .int .i64 j ∧ (∀ k', k' < j → Hid (bitI (zs[i]?.getD 0) k' = bitI (zs[k']?.getD 0) i)) ∧ ∃ q, w.drewN q = wr) (fun p _ => 12 - (intOf p).toNat)
            case atStart => exact ⟨0, by omega, rfl, by omega, HQ2.out⟩
            case round =>
              obtain ⟨j, hj, rfl, hJ, hq⟩ := hrel
              have HJ := Lib.hid hJ
              have HQ3 := Lib.hid hq
              by_cases hjk : j < k
              · have hjk' : (j : Int) < k := by omega
                have hxi : wr.cell? ⟨b, off + i, none⟩ = some (.int .i64 (zs.getD i 0)) := by obtain ⟨q, rfl⟩ := hq; exact hc i hik
                have hxj : wr.cell? ⟨b, off + j, none⟩ = some (.int .i64 (zs.getD j 0)) := by obtain ⟨q, rfl⟩ := hq; exact hc j hjk
                rw [List.getD_eq_getElem?_getD] at hxi hxj
                obtain ⟨q1, q2, _⟩ := okAt_bd hz.out hn2 (HA.out i hik)
                obtain ⟨q3, q4, _⟩ := okAt_bd hz.out hn2 (HA.out j hjk)
                clear hq hJ hc hw1 hw2
                go_wp2
                go_quiet ((go_at_call 87; exact quiet_mine (l1Bit_any _ _ (by omega) (by omega) (by omega) (by omega) _)))
                go_wp2
                · have hne : (bitI (zs[i]?.getD 0) j != bitI (zs[j]?.getD 0) i) = true := by assumption
                  have hne' : ¬ bitI (zs[i]?.getD 0) j = bitI (zs[j]?.getD 0) i := by simpa using hne
                  have hz' := hz.out
                  go_ret
                  exact ⟨by rw [graphB_pair (by omega) (by omega) hne']; rfl, drews HQ3.out _⟩
                · have hne : (bitI (zs[i]?.getD 0) j != bitI (zs[j]?.getD 0) i) = false := by assumption
                  have hne' : bitI (zs[i]?.getD 0) j = bitI (zs[j]?.getD 0) i := by simpa using hne
                  go_roundw
                  case rel =>
                    refine ⟨j + 1, by omega, by go_num, fun k' hk' => ?_, drews HQ3.out _⟩
                    rcases Nat.lt_succ_iff_lt_or_eq.1 hk' with h | rfl
                    · exact HJ.out k' h
                    · exact hne'
                  case measure => simp [intOf]; omega
              · obtain rfl : j = k := by omega
                clear hJ hq
                go_wp2
                go_roundw
                case rel =>
                  refine ⟨i + 1, by omega, by go_num, fun i' hi' k' hk' => ?_, HQ3.out⟩
                  rcases Nat.lt_succ_iff_lt_or_eq.1 hi' with h | rfl
                  · exact HP.out i' h k' hk'
                  · exact HJ.out k' hk'
                case measure => simp [intOf]; omega
          · obtain rfl : i = k := by omega
            go_wp2
            go_ret
            have hz' := hz.out
            exact ⟨by rw [graphB_pairs (by omega) (by omega) (fun j hj => HA.out j (by omega)) (fun j hj k' hk' => HP.out j (by omega) k' (by omega))]; rfl, HQ2.out⟩
  · have HG := Lib.hid (graphB_len (zs := zs) (by rw [← hs.len]; exact hn))
    have hn' : ¬ ((1 : Int) ≤ n ∧ (n : Int) ≤ 12) := by omega
    have HN := Lib.hid hn'
    clear hn hn' hs
    go_enter Try.func60, Try.ntmps60
    go_wp2_with (go_at_call 86; refine (sin_no _ _ _ HN.out _).mono ?_; rintro e w' ⟨rfl, rfl⟩)
    go_ret
    exact ⟨by rw [HG.out]; rfl, 0, rfl⟩

set_option maxRecDepth 100000 in
set_option maxHeartbeats 2000000 in
theorem GraphIn_is (v : Bool) (a : Option Addr) (n cap : Nat) (zs : List Int) (w : World) (hs : SlAt w a n zs) (hg : graphB zs = v) :
    Calls Try.prog 54 #[.slice a n cap] w fun e w' => e = .returned (.bool v) ∧ Below w.heap.size w w' := by
  subst hg
  by_cases hn : 1 ≤ n ∧ n ≤ 12
  · obtain ⟨b, off, rfl, hb, hc⟩ := hs.at' (by omega)
    exact GraphIn_t b off n cap zs w hs.len hn.1 hn.2 hb hc
  · have HG := Lib.hid (graphB_len (zs := zs) (by rw [← hs.len]; exact hn))
    have hbd := hs.bd
    have d1 : (decide ((1 : Int) ≤ n) && decide ((n : Int) ≤ 12)) = false := by simp; omega
    clear hs
    refine calls_marks Try.func54 rfl ?_
    simp only [Try.ntmps54, List.size_toArray, List.length_cons, List.length_nil, Nat.reduceAdd, Nat.reduceSub, Array.replicate_succ, Array.replicate_zero, List.push_toArray, List.append_toArray, List.nil_append, List.cons_append]
    go_wp2_with (go_at_call 91; refine (in_any _ _ _ _).mono ?_; rintro e w' ⟨rfl, rfl⟩; rw [d1])
    refine leaves_marks (lo := w.heap.size) [] _ (by simp; omega) (MarksOk.nil _ _) ?_
    intro W' hT
    have hcc := hT.cell (boxes2 w _ _ _ _).2.1
    refine ⟨_, by simp [results, Try.f54, go_sem, hcc]; rfl, ?_, (boxes2 w _ _ _ _).2.2.trans hT.below⟩
    rw [HG.out]
theorem sGraphIn_is (v : Bool) (a : Option Addr) (n cap : Nat) (zs : List Int) (w : World) (hs : SlAt w a n zs) (hg : graphB zs = v) :
    Calls Try.prog 60 #[.slice a n cap] w fun e w' => e = .returned (.bool v) ∧ Below w.heap.size w w' :=
  (sGraphIn_any a n cap zs w hs).mono fun _ _ ⟨h, q, hq⟩ => ⟨by rw [h, hg], by subst hq; exact ⟨rfl, rfl, rfl, Nat.le_refl _, fun _ _ => rfl⟩⟩
end Go.Proofs.Ytpllijjocccaaaa
