/- Forks and resolving numbers of trees: the program. -/
import Derived.Test.YtipimkfmkdihpaaSForks
import Derived.Test.YtipimkfmkdihpaaNodes3
import Derived.Test.YtipimkfmkdihpaaDist
namespace Go.Proofs.Ytipimkfmkdihpaa
open Go.RowKit Go.Shelf
attribute [local go_sem] Oper.semAt_some

theorem bitsOf_pow : ∀ y : Nat, y < 12 → bitsOf (2 ^ y) = [y] := by decide +kernel
theorem boxBelow {W W' : World} {R : Nat} {t : TypeId} {v : Value} (h : Boxed W R t v) (hb : Below W.heap.size W W') : Boxed W' R t v := Boxed.stay h (Below.stay hb []) h.lt (by simp)
/-- what 'at' holds behind some nodes -/
def lastN (x : Nat) (pre : List Nat) : Nat := pre.getLastD x
theorem lastN_snoc (x y : Nat) (pre : List Nat) : lastN x (pre ++ [y]) = y := by simp [lastN, List.getLastD_concat]
set_option maxRecDepth 100000 in
set_option maxHeartbeats 4000000 in
theorem fork_any (b off n cap : Nat) (zs : List Int) (lf : Int) (leaf : Nat) (w : World) (hs : SlAt w (some ⟨b, off, none⟩) n zs) (hG : IsG n zs) (hlf : lf = (leaf : Int)) (hl : leaf < n) (h1 : degN zs leaf = 1) :
    Calls Try.prog 93 #[.slice (some ⟨b, off, none⟩) n cap, .int .i64 lf] w fun e w' => e = .returned (.int .i64 (forkV zs leaf)) ∧ Below w.heap.size w w' := by
  subst hlf
  have hn12 := hG.le
  have hbd := hs.bd
  have hbl := hs.lt1 hG.pos
  have HF0 := Lib.hid (FI.start hG hl h1)
  have HG := Lib.hid hG
  have HB1 : Hid (Below w.heap.size w (w.alloc (.cells #[.int .i64 (leaf : Int)] 3))) := (Below.refl _ _).alloc (Nat.le_refl _) _
  have HS1 : Hid (SlAt (w.alloc (.cells #[.int .i64 (leaf : Int)] 3)) (some ⟨b, off, none⟩) n zs) := hs.below HB1.out
  have hT0 := Boxed.new w 3 (.int .i64 (leaf : Int))
  clear hG hs
  refine calls_marks Try.func93 rfl ?_
  simp only [Try.ntmps93, List.size_toArray, List.length_cons, List.length_nil, Nat.reduceAdd, Nat.reduceSub, Array.replicate_succ, Array.replicate_zero, List.push_toArray, List.append_toArray, List.nil_append, List.cons_append]
  go_wp2
  obtain ⟨w1, hw1⟩ : ∃ w1, w.alloc (.cells #[.int .i64 (leaf : Int)] 3) = w1 := ⟨_, rfl⟩
  have hw1s : w1.heap.size = w.heap.size + 1 := by rw [← hw1]; simp
  rw [hw1] at hT0 HB1 HS1 ⊢
  obtain ⟨T, hT⟩ : ∃ T, w.heap.size = T := ⟨_, rfl⟩
  rw [hT] at hT0 HB1 hw1s hbl ⊢
  have HTe := Lib.hid hT
  clear hT hw1
  refine wp_loop (fun a W => ∃ (i S x : Nat) (Ds : List Nat) (x7 x10 x11 x12 x13 x14 x15 x16 x17 x18 x19 x20 x21 x22 x23 x24 x25 x26 x27 : Value),
      a = { tmps := #[.slice (some ⟨b, off, none⟩) n cap, .int .i64 leaf, undef, undef, .int .i64 0, .int .i64 S, .pointer (some ⟨T, 0, none⟩), x7, undef, .int .i64 leaf, x10, x11, x12, x13, x14, x15, x16, x17, x18, x19, x20, x21, x22, x23, x24, x25, x26, x27, undef, undef, undef], defers := marks Ds } ∧
      i ≤ 11 ∧ Hid (FI n zs i S x) ∧ Hid (forkGo zs (13 - i) S x = forkV zs leaf) ∧ Boxed W T 3 (.int .i64 x) ∧ Stay w1.heap.size [T] w1 W ∧ MarksOk w1.heap.size Ds W)
    (fun a _ => 12 - card (intOf (a.tmps.getD 5 undef)).toNat) ⟨0, 0, leaf, [], _, _, _, _, _, _, _, _, _, _, _, _, _, _, _, _, _, _, _, rfl, by omega, HF0, rfl, hT0, Stay.refl _ _ _, MarksOk.nil _ _⟩ ?_
  rintro a wr ⟨i, S, x, Ds, x7, x10, x11, x12, x13, x14, x15, x16, x17, x18, x19, x20, x21, x22, x23, x24, x25, x26, x27, rfl, hi, HF, HV, hbT, hSr, hM⟩
  have hxn := HF.out.atn
  have hx' : (x : Int) < n := by omega
  have hSn := HF.out.sn
  have h4096 : 2 ^ n ≤ 4096 := pow12 hn12
  have hs2 : SlAt wr (some ⟨b, off, none⟩) n zs := HS1.out.stay hSr (by intro y hy z hz; simp at hy; cases hz; show b ≠ y; omega)
  have HS2 := Lib.hid hs2
  have cT := hbT.cell
  have hsr := hSr.size
  obtain ⟨m, hm⟩ : ∃ m, degN zs x = m := ⟨_, rfl⟩
  have HM := Lib.hid hm
  have hmn : m ≤ n := by rw [← hm]; exact card_le (gN_lt HG.out hxn).1 hn12
  have hfu : ∃ f, 13 - i = f + 1 := ⟨12 - i, by omega⟩
  obtain ⟨f, hf⟩ := hfu
  by_cases h3 : 3 ≤ m
  · have HR : Hid (forkV zs leaf = x) := by
      show _ = _
      rw [← HV.out, hf]; exact forkGo_fork (by rw [hm]; exact h3)
    have h3' : ¬ (m : Int) < 3 := by omega
    clear hm hf hs2
    go_wp2_with (go_at_call 83; refine (deg_any _ _ _ _ _ x m _ HS2.out HG.out rfl hxn HM.out).mono ?_; rintro e w5 ⟨rfl, rfl⟩)
    refine leaves_marks (lo := w1.heap.size) Ds _ hsr hM ?_
    intro W' hTn
    refine ⟨_, results_tmp rfl _ _ _, by rw [HR.out]; rfl, ?_⟩
    rw [HTe.out]
    exact HB1.out.trans ((hSr.below (by omega) (by simp)).trans (hTn.below.mono (by omega)))
  · have h3' : (m : Int) < 3 := by omega
    have HD : Hid (degN zs x < 3) := by show _ < _; omega
    have hcell := hs2.at1 hxn
    obtain ⟨g1, g2, g3⟩ := gN_lt HG.out hxn
    rw [g3] at hcell
    obtain ⟨p2, hp, hp2, hp3, hp4, hpw⟩ := pow_name (i := x) (by omega)
    have hS4 : S < 4096 := by omega
    have e1 : bits BinOp.or IntKind.i64 (S : Int) (p2 : Int) = ((S ||| p2 : Nat) : Int) := i64_or_nat _ _ (by omega) (by omega)
    have hor : S ||| p2 < 4096 := by rw [← hp]; exact Nat.or_lt_two_pow (n := 12) (by omega) (Nat.pow_lt_pow_right (by omega) (by omega))
    have hnx : nextN zs S x = bdiff (gN zs x) (S ||| p2) := by rw [← hp]; rfl
    have e2 := andNot_nat (show gN zs x ≤ 4096 by omega) (show S ||| p2 ≤ 4096 by omega) hnx.symm
    have hnlt := next_lt HG.out (seen := S) hxn
    obtain ⟨nx, hnx2⟩ : ∃ nx, nextN zs S x = nx := ⟨_, rfl⟩
    have HNX := Lib.hid hnx2
    rw [hnx2] at e2 hnlt
    obtain ⟨gx, hgx⟩ : ∃ gx, gN zs x = gx := ⟨_, rfl⟩
    rw [hgx] at e2 hcell g2
    obtain ⟨S2, hS2⟩ : ∃ S2, S ||| p2 = S2 := ⟨_, rfl⟩
    have HS2e : Hid (S ||| 2 ^ x = S2) := by show _ = _; rw [hp, hS2]
    rw [hS2] at e1 e2 hor
    clear hm hs2 hnx hnx2 hgx hS2 hp g1 g3
    by_cases h0 : nx = 0
    · have HR : Hid (forkV zs leaf = -1) := by
        show _ = _
        rw [← HV.out, hf]; exact forkGo_none HD.out (by rw [HNX.out]; exact h0)
      subst h0
      clear hf
      go_wp2_with (go_at_call 83; refine (deg_any _ _ _ _ _ x m _ HS2.out HG.out rfl hxn HM.out).mono ?_; rintro e w5 ⟨rfl, rfl⟩)
      refine leaves_marks (lo := w1.heap.size) Ds _ hsr hM ?_
      intro W' hTn
      refine ⟨_, results_tmp rfl _ _ _, by rw [HR.out]; rfl, ?_⟩
      rw [HTe.out]
      exact HB1.out.trans ((hSr.below (by omega) (by simp)).trans (hTn.below.mono (by omega)))
    · have hb0 : ((nx : Int) == 0) = false := by simp; exact h0
      obtain ⟨y, hyn, hy2, hyp⟩ : ∃ y, y < n ∧ nx = 2 ^ y ∧ Hid (adjB zs x y = true ∧ S.testBit y = false ∧ y ≠ x) := by
        rcases HF.out.one HG.out HD.out with h5 | ⟨y, h5, h6, h7⟩
        · rw [HNX.out] at h5; exact absurd h5 h0
        · exact ⟨y, h5, by rw [← HNX.out, h6], h7⟩
      have HF2 : Hid (FI n zs (i + 1) S2 y) := by
        show FI _ _ _ _ _
        rw [← HS2e.out]; exact HF.out.step HG.out HD.out hyn hyp.out.1 hyp.out.2.1 hyp.out.2.2
      have HV2 : Hid (forkGo zs (13 - (i + 1)) S2 y = forkV zs leaf) := by
        show _ = _
        rw [← HV.out, hf, forkGo_step HD.out (by rw [HNX.out, hy2]), HS2e.out, show 13 - (i + 1) = f by omega]
      have HYB : Hid (bitsOf nx = [y]) := by show _ = _; rw [hy2]; exact bitsOf_pow y (by omega)
      have hle := HF2.out.le HG.out
      have hc1 := HF.out.cnt
      have hc2 := HF2.out.cnt
      have hnx4 : nx < 4096 := by omega
      have HC1 := Lib.hid hc1
      have HC2 := Lib.hid hc2
      clear hf hy2 hc1 hc2 h0
      go_wp2_with (first | (go_at_call 83; refine (deg_any _ _ _ _ _ x m _ HS2.out HG.out rfl hxn HM.out).mono ?_; rintro e w5 ⟨rfl, rfl⟩) | (go_at_call 67; refine (nodes_any _ _).mono ?_; rintro e w' ⟨rfl, rfl⟩))
      obtain ⟨W1, hW1⟩ : ∃ W1, wr.alloc (.cells #[.int .i64 nx] 3) = W1 := ⟨_, rfl⟩
      have hW1s : W1.heap.size = wr.heap.size + 1 := by rw [← hW1]; simp
      have hN1 : W1.cell? ⟨wr.heap.size, 0, none⟩ = some (.int .i64 nx) := by rw [← hW1]; exact cell_new wr (.int .i64 nx) 3
      have hb12 : Below wr.heap.size wr W1 := by rw [← hW1]; exact (Below.refl _ _).alloc (Nat.le_refl _) _
      rw [hW1]
      have hTlt := hbT.lt
      have hT1 : Boxed W1 T 3 (.int .i64 x) := Boxed.stay hbT (Below.stay hb12 []) hbT.lt (by simp)
      have hS1 : Stay w1.heap.size [T] w1 W1 := hSr.then hb12 hSr.size
      have hM1 : MarksOk w1.heap.size Ds W1 := hM.below hb12
      clear hW1 hbT hSr hM cT hcell
      refine wp_nodes2 rfl hnx4 (Bn := wr.heap.size) (by omega) hN1 [T] (by simp; omega)
        (fun pre W => Boxed W T 3 (.int .i64 (lastN x pre : Nat)))
        (fun _ _ => False)
        (fun pre W W' h hk' => (hk' _ (by simp)).trans h) (fun pre W W' h _ => h) hT1 ?round ?done ?stop
      case round =>
        intro l y' W K hx hK
        gi_wp2
        rintro l pre W hpre hSW hTW
        have cT := hTW.cell
        have fT := hTW.frozen
        have HTW := Lib.hid hTW
        clear hTW
        gi_wp2
        have hfin : Stay W.heap.size [T] W (W.setCell ⟨T, 0, none⟩ (.int .i64 (y' : Int))) ∧ Boxed (W.setCell ⟨T, 0, none⟩ (.int .i64 (y' : Int))) T 3 (.int .i64 (lastN x (pre ++ [y']) : Nat)) :=
          ⟨(Stay.refl _ _ _).setCell (p := ⟨T, 0, none⟩) (.inl (by simp)) _, by rw [lastN_snoc]; exact Boxed.set HTW.out⟩
        exact hfin
      case done =>
        rintro D W hD hSW hTW hk'
        have hWs := hSW.size
        rw [HYB.out] at hTW
        have hTW2 : Boxed W T 3 (.int .i64 y) := hTW
        have hM2 : MarksOk w1.heap.size (D :: Ds) W := (hM1.stay hSW (fun X hX => ⟨hM1.lt X hX, by have h1 := (hM1.all X hX).1; simp; omega⟩)).push (B := W1.heap.size) hM1.lt hD (by omega) hk'
        have gS : Stay w1.heap.size [T] w1 W := hS1.trans (hSW.mono hS1.size)
        go_wp2
        refine ⟨⟨i + 1, S2, y, D :: Ds, _, _, _, _, _, _, _, _, _, _, _, _, _, _, _, _, _, _, _, rfl, by omega, HF2, HV2, hTW2, gS, hM2⟩, ?_⟩
        have h1 := HC1.out
        have h2 := HC2.out
        simp [intOf]; omega
      case stop => exact fun _ _ _ _ _ _ h _ => h.elim
set_option maxRecDepth 100000 in
set_option maxHeartbeats 4000000 in
theorem forks_any (b off n cap : Nat) (zs : List Int) (w : World) (hs : SlAt w (some ⟨b, off, none⟩) n zs) (hG : IsG n zs) :
    Calls Try.prog 66 #[.slice (some ⟨b, off, none⟩) n cap] w fun e w' => e = .returned (.int .i64 (forksTo zs (bitsOf (leafTo zs n)) : Nat)) ∧ Below w.heap.size w w' := by
  have hn12 := hG.le
  have hbd := hs.bd
  have hbl := hs.lt1 hG.pos
  have hl4 := leaf_4096 (zs := zs) hn12
  have HG := Lib.hid hG
  have hb0 : Below w.heap.size w ((w.alloc (.cells #[.slice (some ⟨b, off, none⟩) n cap] 45)).alloc (.cells #[.int .i64 0] 3)) := ((Below.refl _ _).alloc (Nat.le_refl _) _).alloc (by simp) _
  have hP0 : Boxed ((w.alloc (.cells #[.slice (some ⟨b, off, none⟩) n cap] 45)).alloc (.cells #[.int .i64 0] 3)) w.heap.size 45 (.slice (some ⟨b, off, none⟩) n cap) := Boxed.alloc (Boxed.new w _ _) _
  have hC0 : Boxed ((w.alloc (.cells #[.slice (some ⟨b, off, none⟩) n cap] 45)).alloc (.cells #[.int .i64 0] 3)) (w.heap.size + 1) 3 (.int .i64 0) := by have := Boxed.new (w.alloc (.cells #[.slice (some ⟨b, off, none⟩) n cap] 45)) 3 (.int .i64 0); simpa using this
  have hs0 := Lib.hid (hs.below hb0)
  have cP0 := hP0.cell
  obtain ⟨lv, hlv⟩ : ∃ lv, leafTo zs n = lv := ⟨_, rfl⟩
  have HLV := Lib.hid hlv
  rw [hlv] at hl4 ⊢
  clear hlv hG
  refine calls_marks Try.func66 rfl ?_
  simp only [Try.ntmps66, List.size_toArray, List.length_cons, List.length_nil, Nat.reduceAdd, Nat.reduceSub, Array.replicate_succ, Array.replicate_zero, List.push_toArray, List.append_toArray, List.nil_append, List.cons_append]
  go_wp2_with fail
  refine (leaves_any _ _ _ _ _ hs0.out HG.out).mono ?_
  rintro e w1 ⟨rfl, hb1⟩
  rw [HLV.out]
  have hP1 := boxBelow hP0 hb1
  have hC1 := boxBelow hC0 hb1
  have hs1 := hs0.out.below hb1
  have hB1 := bnext hb0 hb1
  clear hP0 hC0 cP0 hb0 hb1
  go_wp2_with (go_at_call 67; refine (nodes_any _ _).mono ?_; rintro e w' ⟨rfl, rfl⟩)
  obtain ⟨W1, hW1⟩ : ∃ W1, w1.alloc (.cells #[.int .i64 lv] 3) = W1 := ⟨_, rfl⟩
  have hW1s : W1.heap.size = w1.heap.size + 1 := by rw [← hW1]; simp
  have hN1 : W1.cell? ⟨w1.heap.size, 0, none⟩ = some (.int .i64 lv) := by rw [← hW1]; exact cell_new w1 (.int .i64 lv) 3
  have hb12 : Below w1.heap.size w1 W1 := by rw [← hW1]; exact (Below.refl _ _).alloc (Nat.le_refl _) _
  rw [hW1]
  have hP2 := boxBelow hP1 hb12
  have hC2 := boxBelow hC1 hb12
  have hs2 := hs1.below hb12
  have hB2 := bnext hB1 hb12
  have hCl := hC1.lt
  clear hW1 hP1 hC1 hs1 hB1
  obtain ⟨X, hXe⟩ : ∃ X, w.heap.size = X := ⟨_, rfl⟩
  rw [hXe] at hP2 hC2 hB2 hCl hbl
  simp only [hXe]
  have HXe := Lib.hid hXe
  clear hXe
  refine wp_nodes2 rfl hl4 (Bn := w1.heap.size) (by omega) hN1 [X + 1] (by simp; omega)
    (fun pre W => Boxed W (X + 1) 3 (.int .i64 (forksTo zs pre : Nat)))
    (fun _ _ => False)
    (fun pre W W' h hk' => (hk' _ (by simp)).trans h) (fun pre W W' h _ => h) hC2 ?round ?done ?stop
  case round =>
    intro l x W K hx hK
    gi_wp2
    rintro l pre W hpre hSW hCW
    have hxl : x < n ∧ degN zs x = 1 := by
      have := leaf_mem (zs := zs) (k := n) (x := x) (by rw [HLV.out]; exact hx)
      exact this
    have hxn : (x : Int) < n := by omega
    have tr : ∀ R, R < W1.heap.size → R ≠ X + 1 → W.heap[R]? = W1.heap[R]? := fun R h1 h2 => hSW.block R h1 (by simpa using h2)
    have hPW : Boxed W X 45 (.slice (some ⟨b, off, none⟩) n cap) := (tr _ (by omega) (by omega)).trans hP2
    have hsW : SlAt W (some ⟨b, off, none⟩) n zs := hs2.stay hSW (by intro y hy z hz; simp at hy; cases hz; show b ≠ y; omega)
    have cP := hPW.cell
    have hpl : ∀ y ∈ pre, y < n ∧ degN zs y = 1 := fun y hy => leaf_mem (zs := zs) (k := n) (by rw [HLV.out]; exact hpre y hy)
    have hst := forksTo_lt HG.out pre hpl
    have h12 := pow12 hn12
    have HSN := Lib.hid (forksTo_snoc zs pre x)
    obtain ⟨s, hse⟩ : ∃ s, forksTo zs pre = s := ⟨_, rfl⟩
    obtain ⟨v1, v2⟩ := forkV_bd HG.out hxl.1 hxl.2
    have HST : Hid (forksTo zs (pre ++ [x]) = if 0 ≤ forkV zs x then s ||| 2 ^ (forkV zs x).toNat else s) := by show _ = _; rw [HSN.out, hse]; rfl
    rw [hse] at hst hCW
    obtain ⟨v, hv⟩ : ∃ v, forkV zs x = v := ⟨_, rfl⟩
    have HVE := Lib.hid hv
    rw [hv] at v1 v2
    have HSW := Lib.hid hsW
    have HX := Lib.hid hxl
    have HCW := Lib.hid hCW
    clear hse hv hPW hCW hsW hxl tr hpl hpre
    by_cases h0 : 0 ≤ v
    · obtain ⟨vn, rfl⟩ : ∃ vn : Nat, v = vn := ⟨v.toNat, by omega⟩
      have hvn : vn < n := by omega
      obtain ⟨p2, hp, hp2, hp3, hp4, hpw⟩ := pow_name (i := vn) (by omega)
      have e1 : bits BinOp.or IntKind.i64 (s : Int) (p2 : Int) = ((s ||| p2 : Nat) : Int) := i64_or_nat _ _ (by omega) (by omega)
      have HN : Hid (forksTo zs (pre ++ [x]) = s ||| p2) := by show _ = _; rw [HST.out, HVE.out, if_pos h0, Int.toNat_natCast, hp]
      clear hp
      gi_wp2_with (refine ⟨trivial, ?_⟩; gi_at_call 93; refine (CallsIn.inRound l (callsIn_wide.2 (fork_any b off n cap zs _ x W HSW.out HG.out rfl HX.out.1 HX.out.2))).mono ?_; rintro e w5 ⟨rfl, hb5⟩; rw [HVE.out])
      have hC5 := boxBelow HCW.out hb5
      have cC5 := hC5.cell
      have fC5 := hC5.frozen
      have HFIN : Hid (Stay W.heap.size [X + 1] W ((w5.setCell ⟨X + 1, 0, none⟩ (.int .i64 (s ||| p2 : Nat))).drew) ∧ Boxed ((w5.setCell ⟨X + 1, 0, none⟩ (.int .i64 (s ||| p2 : Nat))).drew) (X + 1) 3 (.int .i64 (forksTo zs (pre ++ [x]) : Nat))) :=
        ⟨((Below.stay hb5 _).setCell (p := ⟨X + 1, 0, none⟩) (.inl (by simp)) _).drew, by rw [HN.out]; exact Boxed.set hC5⟩
      clear hb5 hC5 cP
      gi_wp2
      refine wpIn_still_tailS 4 (by kernel_rfl) (by kernel_rfl) (by kernel_rfl) ?_
      simp only [List.take_succ_cons, List.take_zero, List.drop_succ_cons, List.drop_zero]
      iterate 4 (refine StillS.want (by kernel_rfl) (fun K HKK => ?_); go_simp; refine HKK.out _ ?_; clear HKK K)
      refine StillS.nil ?_
      gi_wp2
      exact HFIN.out
    · have HN : Hid (forksTo zs (pre ++ [x]) = s) := by show _ = _; rw [HST.out, HVE.out, if_neg h0]
      have h0' : v < 0 := by omega
      gi_wp2_with (refine ⟨trivial, ?_⟩; gi_at_call 93; refine (CallsIn.inRound l (callsIn_wide.2 (fork_any b off n cap zs _ x W HSW.out HG.out rfl HX.out.1 HX.out.2))).mono ?_; rintro e w5 ⟨rfl, hb5⟩; rw [HVE.out])
      have hfin : Stay W.heap.size [X + 1] W w5 ∧ Boxed w5 (X + 1) 3 (.int .i64 (forksTo zs (pre ++ [x]) : Nat)) := ⟨Below.stay hb5 _, by rw [HN.out]; exact boxBelow HCW.out hb5⟩
      exact hfin
  case done =>
    rintro D W hD hSW hCW hk'
    have hWs := hSW.size
    have hM2 : MarksOk W1.heap.size [D] W := (MarksOk.nil _ _).push (B := W1.heap.size) (by simp) hD hD hk'
    have hBf : Below X w W := hB2.trans (hSW.below (by omega) (by simp))
    have cC := hCW.cell
    clear hCW
    go_wp2
    refine leaves_marks (lo := W1.heap.size) [D] _ (by omega) hM2 ?_
    intro W' hTn
    refine ⟨_, results_tmp rfl _ _ _, rfl, ?_⟩
    rw [HXe.out]
    exact hBf.trans (hTn.below.mono (by omega))
  case stop => exact fun _ _ _ _ _ _ h _ => h.elim
theorem forksR_bits {zs : List Int} {n : Nat} (hG : IsG n zs) (h : treeB zs = true) : TreeForksR zs = forksTo zs (bitsOf (leafTo zs n)) := by
  rw [TreeForksR, if_pos h, forksV, hG.len]
theorem forks_is (f : Nat) (b off n cap : Nat) (zs : List Int) (w : World) (hs : SlAt w (some ⟨b, off, none⟩) n zs) (hG : IsG n zs) (hf : forksTo zs (bitsOf (leafTo zs n)) = f) :
    Calls Try.prog 66 #[.slice (some ⟨b, off, none⟩) n cap] w fun e w' => e = .returned (.int .i64 f) ∧ Below w.heap.size w w' := by subst hf; exact forks_any b off n cap zs w hs hG
theorem leaves_is (f : Nat) (a : Option Addr) (n cap : Nat) (zs : List Int) (w : World) (hs : SlAt w a n zs) (hG : IsG n zs) (hf : leafTo zs n = f) :
    Calls Try.prog 53 #[.slice a n cap] w fun e w' => e = .returned (.int .i64 f) ∧ Below w.heap.size w w' := by subst hf; exact leaves_any a n cap zs w hs hG
set_option maxRecDepth 100000 in
set_option maxHeartbeats 2000000 in
theorem TreeForks_any (a : Option Addr) (n cap : Nat) (zs : List Int) (w : World) (hs : SlAt w a n zs) (hz : ∀ z ∈ zs, -9223372036854775808 ≤ z ∧ z ≤ 9223372036854775807) :
    Calls Try.prog 31 #[.slice a n cap] w fun e w' => e = .returned (.tuple #[.int .i64 (TreeForksR zs : Nat), .bool (treeB zs)]) ∧ Below w.heap.size w w' := by
  have HS := Lib.hid hs
  have HZ := Lib.hid hz
  clear hz
  cases ht : treeB zs with
  | false =>
    have HT := Lib.hid ht
    have HR := Lib.hid (forksR_no ht)
    clear ht hs
    go_enter Try.func31, Try.ntmps31
    go_wp2_with fail
    refine (TreeIn_is false _ _ _ _ _ HS.out HZ.out HT.out).mono ?_
    rintro e w5 ⟨rfl, hb5⟩
    go_wp2
    go_ret2
    exact ⟨by rw [HR.out]; rfl, hb5⟩
  | true =>
    have hG := isG_of (tree_graph ht)
    rw [← HS.out.len] at hG
    obtain ⟨b, off, rfl⟩ := hs.addr hG.pos
    have HG := Lib.hid hG
    have HT := Lib.hid ht
    obtain ⟨f, hf⟩ : ∃ f, TreeForksR zs = f := ⟨_, rfl⟩
    have HR := Lib.hid hf
    have HF : Hid (forksTo zs (bitsOf (leafTo zs n)) = f) := by show _ = _; rw [← forksR_bits hG ht, hf]
    rw [hf]
    clear ht hG hs hf
    go_enter Try.func31, Try.ntmps31
    go_wp2_with fail
    refine (TreeIn_is true _ _ _ _ _ HS.out HZ.out HT.out).mono ?_
    rintro e w5 ⟨rfl, hb5⟩
    have HS5 := Lib.hid (HS.out.below hb5)
    go_wp2_with fail
    refine (forks_is f _ _ _ _ _ _ HS5.out HG.out HF.out).mono ?_
    rintro e w6 ⟨rfl, hb6⟩
    have B6 := bnext hb5 hb6
    go_wp2
    go_ret2
    exact ⟨rfl, B6⟩
theorem isize_of (s : Nat) (v : Int) (w : World) (h : s < 4096 ∧ (card s : Int) = v) : Calls Try.prog 44 #[.int .i64 s] w fun e w' => e = .returned (.int .i64 v) ∧ w = w' := by
  obtain ⟨hs, rfl⟩ := h; exact size_any s w hs
set_option maxRecDepth 100000 in
set_option maxHeartbeats 2000000 in
theorem TreeResolves_any (a : Option Addr) (n cap : Nat) (zs : List Int) (w : World) (hs : SlAt w a n zs) (hz : ∀ z ∈ zs, -9223372036854775808 ≤ z ∧ z ≤ 9223372036854775807) :
    Calls Try.prog 35 #[.slice a n cap] w fun e w' => e = .returned (.tuple #[.int .i64 (TreeResolvesR zs), .bool (treeB zs)]) ∧ Below w.heap.size w w' := by
  have HS := Lib.hid hs
  have HZ := Lib.hid hz
  have hbd := hs.bd
  have hln := Lib.hid hs.len
  clear hz
  cases ht : treeB zs with
  | false =>
    have HR : Hid (TreeResolvesR zs = 0) := by show _ = _; rw [TreeResolvesR, ht]; rfl
    have HT := Lib.hid ht
    clear ht hs
    go_enter Try.func35, Try.ntmps35
    go_wp2_with fail
    refine (TreeIn_is false _ _ _ _ _ HS.out HZ.out HT.out).mono ?_
    rintro e w5 ⟨rfl, hb5⟩
    go_wp2
    go_ret2
    exact ⟨by rw [HR.out]; rfl, hb5⟩
  | true =>
    have hG := isG_of (tree_graph ht)
    rw [← HS.out.len] at hG
    obtain ⟨b, off, rfl⟩ := hs.addr hG.pos
    have HG := Lib.hid hG
    have HT := Lib.hid ht
    obtain ⟨f, hf⟩ : ∃ f, TreeForksR zs = f := ⟨_, rfl⟩
    obtain ⟨l, hl⟩ : ∃ l, TreeLeavesR zs = l := ⟨_, rfl⟩
    have hl4 : l < 4096 := by rw [← hl]; exact leavesR_lt
    have hf4 : f < 4096 := by rw [← hf]; exact forksR_lt
    have HF : Hid (forksTo zs (bitsOf (leafTo zs n)) = f) := by show _ = _; rw [← forksR_bits hG ht, hf]
    have HL : Hid (leafTo zs n = l) := by show _ = _; rw [← leavesR_yes hG ht, hl]
    have HR : Hid (TreeResolvesR zs = if n = 1 then 0 else if f = 0 then 1 else (card l : Int) - card f) := by show _ = _; rw [TreeResolvesR, ht, hl, hf, hln.out]; rfl
    clear ht hG hs hf hl
    go_enter Try.func35, Try.ntmps35
    go_wp2_with fail
    refine (TreeIn_is true _ _ _ _ _ HS.out HZ.out HT.out).mono ?_
    rintro e w5 ⟨rfl, hb5⟩
    have HS5 := Lib.hid (HS.out.below hb5)
    by_cases hn1 : n = 1
    · have hn1' : ((n : Int) == 1) = true := by simp; omega
      have HR2 : Hid (TreeResolvesR zs = 0) := by show _ = _; rw [HR.out, if_pos hn1]
      clear hn1
      go_wp2
      go_ret2
      exact ⟨by rw [HR2.out]; rfl, hb5⟩
    · have hn1' : ((n : Int) == 1) = false := by simp; omega
      go_wp2_with fail
      refine (forks_is f _ _ _ _ _ _ HS5.out HG.out HF.out).mono ?_
      rintro e w6 ⟨rfl, hb6⟩
      have HS6 := Lib.hid (HS5.out.below hb6)
      have B6 := bnext hb5 hb6
      clear hb5 hb6
      by_cases hf0 : f = 0
      · have HR2 : Hid (TreeResolvesR zs = 1) := by show _ = _; rw [HR.out, if_neg hn1, if_pos hf0]
        subst hf0
        go_wp2
        go_ret2
        exact ⟨by rw [HR2.out]; rfl, B6⟩
      · have hf0' : ((f : Int) == 0) = false := by simp; omega
        have HR2 : Hid (TreeResolvesR zs = (card l : Int) - card f) := by show _ = _; rw [HR.out, if_neg hn1, if_neg hf0]
        have c1 := card_12 hl4
        have c2 := card_12 hf4
        obtain ⟨cl, hcl⟩ : ∃ cl, card l = cl := ⟨_, rfl⟩
        obtain ⟨cf, hcf⟩ : ∃ cf, card f = cf := ⟨_, rfl⟩
        have HA : Hid (l < 4096 ∧ (card l : Int) = cl) := ⟨hl4, by rw [hcl]⟩
        have HB : Hid (f < 4096 ∧ (card f : Int) = cf) := ⟨hf4, by rw [hcf]⟩
        rw [hcl, hcf] at HR2
        rw [hcl] at c1
        rw [hcf] at c2
        clear hcl hcf hn1 hf0
        go_wp2_with fail
        refine (leaves_is l _ _ _ _ _ HS6.out HG.out HL.out).mono ?_
        rintro e w7 ⟨rfl, hb7⟩
        have HS7 := Lib.hid (HS6.out.below hb7)
        have B7 := bnext B6 hb7
        go_wp2_with fail
        refine (isize_of l _ _ HA.out).mono ?_
        rintro e w8 ⟨rfl, rfl⟩
        go_wp2_with fail
        refine (forks_is f _ _ _ _ _ _ HS7.out HG.out HF.out).mono ?_
        rintro e w9 ⟨rfl, hb9⟩
        have B9 := bnext B7 hb9
        go_wp2_with fail
        refine (isize_of f _ _ HB.out).mono ?_
        rintro e w10 ⟨rfl, rfl⟩
        go_wp2
        go_ret2
        exact ⟨by rw [HR2.out]; rfl, B9⟩
end Go.Proofs.Ytipimkfmkdihpaa
