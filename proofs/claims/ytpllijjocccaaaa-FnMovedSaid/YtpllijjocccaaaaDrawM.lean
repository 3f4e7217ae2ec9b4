/- A drawn graph and new names. -/
import Derived.Test.YtpllijjocccaaaaDrawG
import Derived.Test.YtpllijjocccaaaaLawKit
namespace Go.Proofs.Ytpllijjocccaaaa
open Go.RowKit Go.Shelf
attribute [local go_sem] Oper.semAt_some

/-- 'append(s, t...)' onto a slice of the call's own, of whatever slice that can be read -/
theorem step_appendN {ops : Array Oper} {o : Oper} {a : Act} {K : Act → World → Prop} {Q : Exit → Act → World → Prop} {E : Prop} {W : World} {lo n cap m mc xb xo : Nat} {sa : Option Addr} {zs ys : List Int} (T : TypeId) (hT : Try.prog.underlying T = some (.slice 3)) (hgd : o.guard = none)
    (s x : Operand) (ho : o.op = .call { callee := .builtin .append, args := #[s, x], argTypes := #[T, T] })
    (hs : a.eval s = .slice sa n cap) (hA : Arr W lo sa n cap zs) (hx : a.eval x = .slice (some ⟨xb, xo, none⟩) m mc) (hl : ys.length = m) (hY : ∀ j, j < m → W.cell? ⟨xb, xo + j, none⟩ = some (.int .i64 (ys[j]?.getD 0))) (hlo : lo ≤ W.heap.size) (hn : n + m ≤ 1099511627776)
    (h : ∀ sa' c' w', Arr w' lo sa' (n + m) c' (zs ++ ys) → Stay W.heap.size (blk sa) W w' → K (a.put o.dst (.slice sa' (n + m) c')) w') :
    if Region.wanted o (yielded ops a.tmps) = true then Oper.wp Try.prog o a W K Q else E := by
  rw [if_pos (by simp [Region.wanted, hgd])]
  obtain ⟨i0, hi, hz0, hz1, hz2⟩ := info_parts infoInt
  refine wp_append_own W s x T ho lo 3 i0 (.int .i64 0) 1 8 hT hi hz0 hz1 hz2 rfl (by decide) _ _ _ hs hA.own ⟨xb, xo, none⟩ m mc (ys.map (Value.int .i64)) hx (by rw [List.length_map, hl]; omega) ?_ ?_ (by unfold maxLen; omega) (by omega) hlo ?_
  · intro j v hj
    rw [List.getElem?_map, Option.map_eq_some_iff] at hj
    obtain ⟨z, hz, rfl⟩ := hj
    have hjm : j < m := by rw [← hl]; exact (List.getElem?_eq_some_iff.1 hz).1
    have := hY j hjm
    rw [hz] at this
    rw [addr_add]; exact this
  · intro v hv
    obtain ⟨z, _, rfl⟩ := List.mem_map.1 hv; rfl
  · intro v' w' hown hgrow _
    have hst : Stay W.heap.size (blk sa) W w' := by
      refine (Stay.refl _ _ _).grown hgrow (Nat.le_refl _) fun k hk => .inl ?_
      cases sa with
      | none => simp [Value.ownBlock] at hk
      | some y => simp [Value.ownBlock] at hk; simp [blk, hk]
    have hlen : n + m = (zs ++ ys).length := by rw [List.length_append, hA.len, hl]
    rcases hown.2 with ⟨rfl, h0⟩ | ⟨g, c, cur, rfl, r⟩
    · have e : n + m = 0 := by simpa using h0
      have := h none 0 w' ⟨by rw [e]; simpa [e] using hown, hlen⟩ hst
      rw [e] at this; exact this
    · exact h (some ⟨g, 0, none⟩) c w' ⟨by simpa using hown, hlen⟩ hst
theorem lit_empty (W : World) (lo : Nat) (h : lo ≤ W.heap.size) : Arr (W.alloc (.cells #[] 3)) lo (some ⟨W.heap.size, 0, none⟩) 0 0 [] := ⟨World.ownsRow_lit W #[] 0 h (by omega) rfl, rfl⟩
/-- a drawn graph and a list of as many numbers -/
def DrawnGP (w : World) (e : Ending) (w' : World) : Prop :=
  ∃ (a : Option Addr) (n cap : Nat) (b : Option Addr) (m cb : Nat) (ps zs : List Int), e = .returned (.tuple #[.slice a n cap, .slice b m cb]) ∧ Arr w' w.heap.size a n cap zs ∧ SlAt w' b m ps ∧ 1 ≤ n ∧ n ≤ 7 ∧ Bd12 zs ∧ Below w.heap.size w w'
set_option maxRecDepth 100000 in
set_option maxHeartbeats 8000000 in
theorem DrawGraphMoved_any (a : Option Addr) (n cap : Nat) (w : World) (h : BytesAt w a n cap) : Calls Try.prog 40 #[.slice a n cap] w (DrawnGP w) := by
  go_enter Try.func40, Try.ntmps40
  go_wp2_with fail
  refine (l6Open_any _ _ _ _ h).mono ?_
  rintro e w1 ⟨R, rfl, hR, hb1⟩
  go_wp2_with fail
  refine (l91Graph_any _ _ _ 7 _ hR (by omega) (by omega) (by omega)).mono ?_
  rintro e w2 ⟨ga, gn, gc, p0, zs, rfl, hA, hn1, hn, hbd, hR2, hp0, hS⟩
  have hlo := hR.lo
  have HB2 := Lib.hid (hb1.trans (hS.below hb1.size (by simp; omega)))
  have HA2 := Lib.hid (hA.mono hb1.size)
  have hge : ∀ k ∈ blk ga, k ≠ R := fun k hk => by have := hA.ge k hk; have := hR.lt; omega
  have hRl : R < w2.heap.size := hR2.lt
  have HGE := Lib.hid hge
  have HGA : Hid (∀ k ∈ blk ga, k < w2.heap.size) := fun k hk => by
    cases ga with
    | none => simp [blk] at hk
    | some y => simp [blk] at hk; subst hk; exact (hA.lt y rfl).2
  have HR2 := Lib.hid (hR2.below ((Below.refl _ _).alloc (Nat.le_refl _) (.cells #[] 3)))
  have HP := Lib.hid (lit_empty w2 w2.heap.size (Nat.le_refl _))
  have HAg := Lib.hid (HA2.out.alloc (.cells #[] 3))
  have HBg := Lib.hid (HB2.out.alloc HB2.out.size (.cells #[] 3))
  clear hA hS hR hge hR2 hb1
  go_wp2
  go_loopw [6, 7] (fun u p wr => ∃ (i pg cp p' : Nat) (ps : List Int), i ≤ gn ∧ p = .int .i64 i ∧ u = .slice (some ⟨pg, 0, none⟩) i cp ∧ Arr wr w2.heap.size (some ⟨pg, 0, none⟩) i cp ps ∧ RdAt wr w.heap.size R p' ∧ p' ≤ 300 + i ∧ Arr wr w.heap.size ga gn gc zs ∧ Below w.heap.size w wr) (fun _ p _ => 12 - (intOf p).toNat)
  case atStart => exact ⟨0, _, 0, _, _, by omega, rfl, rfl, HP.out, HR2.out, by omega, HAg.out, HBg.out⟩
  case round =>
    obtain ⟨i, pg, cp, p', ps, hi, rfl, rfl, hP, hrd, hp, hA, hB⟩ := hrel
    by_cases hlt : i < gn
    · have hlt' : (i : Int) < gn := by omega
      have HPP := Lib.hid hP
      have HA := Lib.hid hA
      have HB := Lib.hid hB
      clear hP hA hB
      go_wp2_with fail
      refine (pick_any _ _ _ _ _ hrd (by omega) (by omega)).mono ?_
      rintro e w4 ⟨k, hk, rfl, h4, hS4⟩
      have hki := inPick_lt hk (by omega)
      have hP4 := HPP.out.stayR hS4 hRl
      have hA4 := HA.out.stay' hS4 (fun k hk hm => HGE.out k hk (by simpa using hm))
      have hB4 := HB.out.trans (hS4.below HB.out.size (by simp; omega))
      have hBd : Below w4.heap.size w4 w4.drew := (Below.refl _ _).drew
      have hP5 := hP4.below hBd
      have HP5 := Lib.hid hP5
      have hpl := hP5.len
      have hpgl := (hP5.lt _ rfl).2
      have HR5 := Lib.hid (h4.below hBd)
      have HA5 := Lib.hid (hA4.below hBd)
      have HB5 := Lib.hid (bnext hB4 hBd)
      have hki' : (k : Int) ≤ i := by omega
      have hcpi : (i : Int) ≤ cp := by
        rcases hP5.form with ⟨h0, _, _⟩ | ⟨_, _, _, _, _, h1, _⟩
        · cases h0
        · omega
      have hcpl : (k : Int) ≤ cp := by omega
      -- the source can be read in each world that grows from here
      have src : ∀ W, Below w4.drew.heap.size w4.drew W → (∀ j, j < k → W.cell? ⟨pg, 0 + j, none⟩ = some (.int .i64 ((ps.take k)[j]?.getD 0))) ∧ (∀ j, j < i - k → W.cell? ⟨pg, k + j, none⟩ = some (.int .i64 ((ps.drop k)[j]?.getD 0))) := by
        intro W hW
        have hs := (HP5.out.sl).below hW
        have hc := fun j hj => hs.at1 (j := j) hj
        refine ⟨fun j hj => ?_, fun j hj => ?_⟩
        · have := hc j (by omega)
          rw [List.getElem?_take_of_lt hj]; simpa using this
        · have := hc (k + j) (by omega)
          rw [List.getElem?_drop]; simpa using this
      have SRC := Lib.hid src
      have HLT : Hid ((ps.take k).length = k) := by show _ = _; rw [List.length_take, ← hpl]; omega
      have HLD : Hid ((ps.drop k).length = i - k) := by show _ = _; rw [List.length_drop, ← hpl]
      have bA : Hid (Below w4.drew.heap.size w4.drew (w4.drew.alloc (.cells #[] 3))) := (Below.refl _ _).alloc (Nat.le_refl _) _
      have bB : Hid (Below w4.drew.heap.size w4.drew ((w4.drew.alloc (.cells #[] 3)).alloc (.cells #[.int .i64 i] 3))) := bA.out.alloc (by simp) _
      have bC : Hid (Below w4.drew.heap.size w4.drew ((w4.drew.alloc (.cells #[.int .i64 i] 3)).alloc (.cells #[] 3))) := ((Below.refl _ _).alloc (Nat.le_refl _) _).alloc (by simp) _
      have eA : Hid (Arr (w4.drew.alloc (.cells #[] 3)) w4.drew.heap.size (some ⟨w4.drew.heap.size, 0, none⟩) 0 0 []) := lit_empty _ _ (Nat.le_refl _)
      have eB : Hid (Arr ((w4.drew.alloc (.cells #[] 3)).alloc (.cells #[.int .i64 i] 3)) w4.drew.heap.size (some ⟨w4.drew.heap.size, 0, none⟩) 0 0 []) := eA.out.alloc _
      have eC : Hid (Arr ((w4.drew.alloc (.cells #[.int .i64 i] 3)).alloc (.cells #[] 3)) w4.drew.heap.size (some ⟨w4.drew.heap.size + 1, 0, none⟩) 0 0 []) := by
        have := lit_empty (w4.drew.alloc (.cells #[.int .i64 i] 3)) w4.drew.heap.size (by simp)
        show Arr _ _ _ _ _ _
        simpa using this
      have cB : Hid (((w4.drew.alloc (.cells #[] 3)).alloc (.cells #[.int .i64 i] 3)).cell? ⟨w4.drew.heap.size + 1, 0, none⟩ = some (.int .i64 i)) := by
        have := cell_new (w4.drew.alloc (.cells #[] 3)) (.int .i64 i) 3
        show _ = _
        rw [← this]; congr 2; simp
      have cC : Hid (((w4.drew.alloc (.cells #[.int .i64 i] 3)).alloc (.cells #[] 3)).cell? ⟨w4.drew.heap.size, 0, none⟩ = some (.int .i64 i)) :=
        (((Below.refl (w4.drew.alloc (.cells #[.int .i64 i] 3)).heap.size _).alloc (Nat.le_refl _) (.cells #[] 3)).cell (p := ⟨w4.drew.heap.size, 0, none⟩) (by simp)).trans (cell_new w4.drew (.int .i64 i) 3)
      have hw2 : w2.heap.size ≤ w4.drew.heap.size := by have := HP5.out.lt _ rfl; omega
      clear hP4 hA4 hB4 hBd hP5 src hk hrd hS4 h4 hpl
      rcases (show cp = k ∨ ¬ cp = k by omega) with hck | hck
      · have hik : i = k := by omega
        subst hck hik
        go_wp2
        go_region_law (first
          | (refine step_appendN (lo := w4.drew.heap.size) (zs := []) (ys := ps.take i) 23 under_ints rfl (.tmp 25) (.tmp 28) rfl rfl (by first | exact eA.out | exact eB.out | exact eC.out) rfl HLT.out (by first | exact (SRC.out _ bA.out).1 | exact (SRC.out _ bB.out).1 | exact (SRC.out _ bC.out).1) (by first | exact bA.out.size | exact bB.out.size | exact bC.out.size) (by omega) ?_; intro sa1 c1 v1 hA1 hS1; have hB1 : Below w4.drew.heap.size w4.drew v1 := (by first | exact sbelow bA.out hS1 (blk_lo eA.out) bA.out.size | exact sbelow bB.out hS1 (blk_lo eB.out) bB.out.size | exact sbelow bC.out hS1 (blk_lo eC.out) bC.out.size); (first | (have CI : Hid (v1.cell? ⟨w4.drew.heap.size + 1, 0, none⟩ = some (.int .i64 i)) := (hS1.cell (p := ⟨w4.drew.heap.size + 1, 0, none⟩) (by simp) (by simp [blk])).trans cB.out) | (have CI : Hid (v1.cell? ⟨w4.drew.heap.size, 0, none⟩ = some (.int .i64 i)) := (hS1.cell (p := ⟨w4.drew.heap.size, 0, none⟩) (by simp; omega) (by simp [blk])).trans cC.out) | skip); rw [Nat.zero_add, List.nil_append] at hA1; have HA1 := Lib.hid hA1; have HB1 := Lib.hid hB1; clear hA1 hB1 hS1)
          | (refine step_append1 (lo := w4.drew.heap.size) (u := (i : Int)) 23 under_ints rfl (.tmp 29) (.tmp 31) rfl rfl HA1.out rfl CI.out HB1.out.size (by omega) ?_; intro g2 c2 v2 hA2 hS2; have hB2 : Below w4.drew.heap.size w4.drew v2 := sbelow HB1.out hS2 (blk_lo HA1.out) HB1.out.size; have HA2 := Lib.hid hA2; have HB2 := Lib.hid hB2; clear hA2 hB2 hS2)
          | (refine step_append1 (lo := w4.drew.heap.size) (u := (i : Int)) 23 under_ints rfl (.tmp 29) (.tmp 31) rfl rfl (HA1.out.alloc _) rfl (cell_new _ _ _) (HB1.out.alloc HB1.out.size _).size (by omega) ?_; intro g2 c2 v2 hA2 hS2; have hB2 : Below w4.drew.heap.size w4.drew v2 := sbelow (HB1.out.alloc HB1.out.size _) hS2 (blk_lo HA1.out) (HB1.out.alloc HB1.out.size _).size; have HA2 := Lib.hid hA2; have HB2 := Lib.hid hB2; clear hA2 hB2 hS2)
          | (refine step_appendN (lo := w4.drew.heap.size) (ys := ps.drop i) (m := 0) 23 under_ints rfl (.tmp 32) (.tmp 35) rfl rfl HA2.out rfl (by rw [HLD.out]; omega) (by intro j hj; omega) HB2.out.size (by omega) ?_; intro sa3 c3 v3 hA3 hS3; have hB3 : Below w4.drew.heap.size w4.drew v3 := sbelow HB2.out hS3 (blk_lo HA2.out) HB2.out.size; have HA3 := Lib.hid hA3; have HB3 := Lib.hid hB3; clear hA3 hB3 hS3))
        all_goals (
          obtain ⟨g3, rfl⟩ : ∃ g3, sa3 = some ⟨g3, 0, none⟩ := by
            rcases HA3.out.form with ⟨_, h0, _⟩ | ⟨g, _, h, _⟩
            · omega
            · exact ⟨g, h⟩
          have HFIN : Hid (Arr v3 w2.heap.size (some ⟨g3, 0, none⟩) (i + 1) c3 _ ∧ RdAt v3 w.heap.size R _ ∧ Arr v3 w.heap.size ga gn gc zs ∧ Below w.heap.size w v3) := ⟨by have h := HA3.out.mono hw2; first | exact h | (rw [show i + 1 + 0 = i + 1 by omega] at h; exact h) | (rw [show k + 1 + (i - k) = i + 1 by omega] at h; exact h), HR5.out.below HB3.out, HA5.out.below HB3.out, bnext HB5.out HB3.out⟩
          go_wp2
          go_roundw
          case rel => exact ⟨i + 1, g3, c3, _, _, by omega, by go_num, (by first | rfl | (simp; done) | (simp; omega)), HFIN.out.1, HFIN.out.2.1, by omega, HFIN.out.2.2.1, HFIN.out.2.2.2⟩
          case measure => first | (simp [intOf]; done) | (simp [intOf]; omega))
      · skip
        go_wp2
        go_region_law (first
          | (refine step_appendN (lo := w4.drew.heap.size) (zs := []) (ys := ps.take k) 23 under_ints rfl (.tmp 25) (.tmp 28) rfl rfl (by first | exact eA.out | exact eB.out | exact eC.out) rfl HLT.out (by first | exact (SRC.out _ bA.out).1 | exact (SRC.out _ bB.out).1 | exact (SRC.out _ bC.out).1) (by first | exact bA.out.size | exact bB.out.size | exact bC.out.size) (by omega) ?_; intro sa1 c1 v1 hA1 hS1; have hB1 : Below w4.drew.heap.size w4.drew v1 := (by first | exact sbelow bA.out hS1 (blk_lo eA.out) bA.out.size | exact sbelow bB.out hS1 (blk_lo eB.out) bB.out.size | exact sbelow bC.out hS1 (blk_lo eC.out) bC.out.size); (first | (have CI : Hid (v1.cell? ⟨w4.drew.heap.size + 1, 0, none⟩ = some (.int .i64 i)) := (hS1.cell (p := ⟨w4.drew.heap.size + 1, 0, none⟩) (by simp) (by simp [blk])).trans cB.out) | (have CI : Hid (v1.cell? ⟨w4.drew.heap.size, 0, none⟩ = some (.int .i64 i)) := (hS1.cell (p := ⟨w4.drew.heap.size, 0, none⟩) (by simp; omega) (by simp [blk])).trans cC.out) | skip); rw [Nat.zero_add, List.nil_append] at hA1; have HA1 := Lib.hid hA1; have HB1 := Lib.hid hB1; clear hA1 hB1 hS1)
          | (refine step_append1 (lo := w4.drew.heap.size) (u := (i : Int)) 23 under_ints rfl (.tmp 29) (.tmp 31) rfl rfl HA1.out rfl CI.out HB1.out.size (by omega) ?_; intro g2 c2 v2 hA2 hS2; have hB2 : Below w4.drew.heap.size w4.drew v2 := sbelow HB1.out hS2 (blk_lo HA1.out) HB1.out.size; have HA2 := Lib.hid hA2; have HB2 := Lib.hid hB2; clear hA2 hB2 hS2)
          | (refine step_append1 (lo := w4.drew.heap.size) (u := (i : Int)) 23 under_ints rfl (.tmp 29) (.tmp 31) rfl rfl (HA1.out.alloc _) rfl (cell_new _ _ _) (HB1.out.alloc HB1.out.size _).size (by omega) ?_; intro g2 c2 v2 hA2 hS2; have hB2 : Below w4.drew.heap.size w4.drew v2 := sbelow (HB1.out.alloc HB1.out.size _) hS2 (blk_lo HA1.out) (HB1.out.alloc HB1.out.size _).size; have HA2 := Lib.hid hA2; have HB2 := Lib.hid hB2; clear hA2 hB2 hS2)
          | (refine step_appendN (lo := w4.drew.heap.size) (ys := ps.drop k) (m := i - k) 23 under_ints rfl (.tmp 32) (.tmp 35) rfl rfl HA2.out rfl HLD.out (SRC.out _ HB2.out).2 HB2.out.size (by omega) ?_; intro sa3 c3 v3 hA3 hS3; have hB3 : Below w4.drew.heap.size w4.drew v3 := sbelow HB2.out hS3 (blk_lo HA2.out) HB2.out.size; have HA3 := Lib.hid hA3; have HB3 := Lib.hid hB3; clear hA3 hB3 hS3))
        all_goals (
          obtain ⟨g3, rfl⟩ : ∃ g3, sa3 = some ⟨g3, 0, none⟩ := by
            rcases HA3.out.form with ⟨_, h0, _⟩ | ⟨g, _, h, _⟩
            · omega
            · exact ⟨g, h⟩
          have HFIN : Hid (Arr v3 w2.heap.size (some ⟨g3, 0, none⟩) (i + 1) c3 _ ∧ RdAt v3 w.heap.size R _ ∧ Arr v3 w.heap.size ga gn gc zs ∧ Below w.heap.size w v3) := ⟨by have h := HA3.out.mono hw2; first | exact h | (rw [show i + 1 + 0 = i + 1 by omega] at h; exact h) | (rw [show k + 1 + (i - k) = i + 1 by omega] at h; exact h), HR5.out.below HB3.out, HA5.out.below HB3.out, bnext HB5.out HB3.out⟩
          go_wp2
          go_roundw
          case rel => exact ⟨i + 1, g3, c3, _, _, by omega, by go_num, (by first | rfl | (simp; done) | (simp; omega)), HFIN.out.1, HFIN.out.2.1, by omega, HFIN.out.2.2.1, HFIN.out.2.2.2⟩
          case measure => first | (simp [intOf]; done) | (simp [intOf]; omega))
    · obtain rfl : gn = i := by omega
      have HPP := Lib.hid hP
      have HA := Lib.hid hA
      have HB := Lib.hid hB
      clear hP hA hB
      go_wp2_with fail
      refine (pick_any _ _ _ _ _ hrd (by omega) (by omega)).mono ?_
      rintro e w5 ⟨y, hy, rfl, h5, hS5⟩
      have hP5 := HPP.out.stayR hS5 hRl
      have hA5 := HA.out.stay' hS5 (fun k hk hm => HGE.out k hk (by simpa using hm))
      have hB5 := HB.out.trans (hS5.below HB.out.size (by simp; omega))
      have hpg := hP5.lt _ rfl
      clear hy hrd hS5
      cases hy0 : ((y : Int) == 0) with
      | false =>
        have HP5 := Lib.hid hP5
        have HA5 := Lib.hid hA5
        have HB5 := Lib.hid hB5
        clear hP5 hA5 hB5
        go_wp2
        go_ret2
        exact ⟨_, _, _, _, _, _, _, _, rfl, HA5.out, HP5.out.sl, hn1, hn, hbd, HB5.out⟩
      | true =>
        have hx := hP5.cellAt 0 (by omega)
        rw [List.getD_eq_getElem?_getD] at hx
        have hfx := hP5.frozenAt 0
        have hn0 : (0 : Int) < gn := by omega
        have HP5 := Lib.hid (hP5.set 0 (gn : Int))
        have HA5 : Hid (Arr (w5.setCell ⟨pg, 0, none⟩ (.int .i64 (gn : Int))) w.heap.size ga gn gc zs) := hA5.stay' ((Stay.refl _ [pg] _).setCell (p := ⟨pg, 0, none⟩) (.inl (by simp)) _) (fun k hk hm => by
          have h1 := HGA.out k hk
          have h2 : k = pg := by simpa using hm
          have h3 := hpg.1
          simp at h3; omega)
        have HB5 : Hid (Below w.heap.size w (w5.setCell ⟨pg, 0, none⟩ (.int .i64 (gn : Int)))) := hB5.setCell (p := ⟨pg, 0, none⟩) (by have h3 := hpg.1; have h4 := HB2.out.size; simp at h3; show w.heap.size ≤ pg; omega) _
        clear hP5 hA5 hB5 hpg
        go_wp2
        go_ret2
        exact ⟨_, _, _, _, _, _, _, _, rfl, HA5.out, HP5.out.sl, hn1, hn, hbd, HB5.out⟩
end Go.Proofs.Ytpllijjocccaaaa
