/- unlike: a set of nodes has unlike marks. -/
import Derived.Maps.OwnIn
import Derived.Test.YtpllijjocccaaaaCodeM
namespace Go.Proofs.Ytpllijjocccaaaa
open Go.RowKit Go.Shelf Go.Maps
attribute [local go_sem] Oper.semAt_some

theorem keyInt : Keyed Try.prog 3 := int_keyed Try.underlying3
theorem zeroBool (w : World) : (zeroValue 4).run Try.prog w = .ok (.bool false) w := by kernel_rfl
/-- the map that 'seen' is when these keys have been stored -/
def seenD (l : List Int) : DataW Unit := l.foldl (fun D u => D.put (.int .i64 u) (.lit (.bool true))) (.map [])
theorem seenD_snoc (l : List Int) (u : Int) : seenD (l ++ [u]) = (seenD l).put (.int .i64 u) (.lit (.bool true)) := by simp [seenD, List.foldl_append]
theorem seenD_map : ∀ l, IsMap (seenD l) := by
  intro l
  unfold seenD
  have : ∀ (l : List Int) (D : DataW Unit), IsMap D → IsMap (l.foldl (fun D u => D.put (.int .i64 u) (.lit (.bool true))) D) := by
    intro l
    induction l with
    | nil => exact fun _ h => h
    | cons u l ih => exact fun D h => ih _ (h.put _ _)
  exact this l _ isMap_empty
theorem seenD_at (u : Int) : ∀ (l : List Int), (seenD l).atKey (.int .i64 u) (.lit (.bool false)) = .lit (.bool (decide (u ∈ l))) := by
  intro l
  have h : ∀ m : List Int, (seenD m.reverse).atKey (.int .i64 u) (.lit (.bool false)) = .lit (.bool (decide (u ∈ m.reverse))) := by
    intro m
    induction m with
    | nil => simp [seenD, DataW.atKey]
    | cons v m ih =>
      rw [List.reverse_cons, seenD_snoc]
      by_cases e : v = u
      · subst e
        rw [atKey_put_same (seenD_map _) (by simp [WideAt.IsKeyLit])]; simp
      · rw [atKey_put_other (by intro h; cases h; exact e rfl), ih]
        congr 2
        simp [Ne.symm e]
  have := h l.reverse
  simpa using this
theorem plainElem_bool_inv {v : Value} {z : DataW Unit × List MemPlace} (h : plainElem Try.prog 4 v = some z) : ∃ x, v = .bool x ∧ z = (.lit (.bool x), []) := by
  unfold plainElem at h
  rw [Try.underlying4] at h
  cases v <;> simp at h
  exact ⟨_, rfl, h.symm⟩
theorem wp_lookup_bool {o : Oper} {a : Act} {K : Act → World → Prop} {Q : Exit → Act → World → Prop} {W : World} {b n : Nat} {l : List Int} {u : Int} (x : Bool) (hx : decide (u ∈ l) = x) (hwf : (Lit.int .i64 u).wf = true)
    (m k : Operand) (hop : o.op = Op.lookup 91 m k false) (hm : a.eval m = .map (some b)) (hk : a.eval k = .int .i64 u) (hown : W.ownsMap Try.prog 3 (plainElem Try.prog 4) b n (seenD l))
    (h : K (a.put o.dst (.bool x)) W) : o.wp Try.prog a W K Q := by
  obtain ⟨v, ps, hrun, hv⟩ := hown.lookup keyInt Try.underlying91 (zeroBool W) (plainElem_bool Try.underlying4 false) (keyOf_int_mk Try.underlying3 hwf)
  obtain ⟨y, rfl, he⟩ := plainElem_bool_inv hv
  rw [seenD_at, hx] at he
  simp only [Prod.mk.injEq, DataW.lit.injEq, Lit.bool.injEq] at he
  obtain ⟨rfl, _⟩ := he
  unfold Oper.wp
  simp [execOp, hop, hm, hk, hrun, Result.andThen]
  exact h
theorem ownsMap_at {W W' : World} {P : Program} {k : TypeId} {R : Value → Option (DataW Unit × List MemPlace)} {b n : Nat} {D : DataW Unit} (h : W.ownsMap P k R b n D) (hb : W'.heap[b]? = W.heap[b]?) : W'.ownsMap P k R b n D := by
  obtain ⟨es, clock, hb0, F, hs, hD⟩ := h
  exact ⟨es, clock, hb.trans hb0, F, hs, hD⟩
def uniqOn (ms : List Int) (s : Nat) : Bool := decide ((bitsOf s).map (fun x => ms[x]?.getD 0)).Nodup
def Wf64 (ms : List Int) : Prop := ∀ x, x < 12 → (Lit.int .i64 (ms[x]?.getD 0)).wf = true
theorem wf64_of {ms : List Int} (h : ∀ x, x < 12 → 0 ≤ ms[x]?.getD 0 ∧ ms[x]?.getD 0 < 4096) : Wf64 ms := fun x hx => by
  have := h x hx
  exact WalkArith.wf_i64 (by omega)
theorem nodup_prefix {l m : List Int} (h : l <+: m) (hm : m.Nodup) : l.Nodup := by
  obtain ⟨t, rfl⟩ := h
  exact (List.nodup_append.1 hm).1
theorem nodup_snoc {l : List Int} {u : Int} : (l ++ [u]).Nodup ↔ l.Nodup ∧ u ∉ l := by
  rw [List.nodup_append]
  constructor
  · rintro ⟨h1, _, h3⟩
    exact ⟨h1, fun hm => h3 u hm u (by simp) rfl⟩
  · rintro ⟨h1, h2⟩
    exact ⟨h1, by simp, fun a ha b hb => by simp at hb; subst hb; exact fun e => h2 (e ▸ ha)⟩
set_option maxRecDepth 100000 in
set_option maxHeartbeats 4000000 in
theorem unlike_any (a : Option Addr) (n cap : Nat) (ms : List Int) (s : Nat) (w : World) (hs : SlAt w a n ms) (hn : 1 ≤ n) (hn2 : n ≤ 12) (hwf : Wf64 ms) (hs1 : s < 4096) (hs2 : s < 2 ^ n) :
    Calls Try.prog 97 #[.slice a n cap, .int .i64 s] w fun e w' => e = .returned (.bool (uniqOn ms s)) ∧ Below w.heap.size w w' := by
  obtain ⟨b, off, rfl, hb, hc⟩ := hs.at' (by omega)
  have HC := Lib.hid hc
  have HWF := Lib.hid hwf
  clear hs hc hwf
  have hmm := @run_makeMap Try.prog
  refine calls_marks Try.func97 rfl ?_
  simp only [Try.ntmps97, List.size_toArray, List.length_cons, List.length_nil, Nat.reduceAdd, Nat.reduceSub, Array.replicate_succ, Array.replicate_zero, List.push_toArray, List.append_toArray, List.nil_append, List.cons_append]
  go_wp2_with (go_at_call 85; refine (nodes_any _ _).mono ?_; rintro e w' ⟨rfl, rfl⟩)
  obtain ⟨W1, hW1⟩ : ∃ W1, (((((w.alloc (.cells #[.slice (some ⟨b, off, none⟩) n cap] 23)).alloc (.cells #[.bool false] 4)).alloc (Obj.map #[] 0)).alloc (.cells #[.map (some (w.heap.size + 1 + 1))] 91)).alloc (.cells #[.int .i64 s] 3)) = W1 := ⟨_, rfl⟩
  have hW1s : W1.heap.size = w.heap.size + 5 := by rw [← hW1]; simp
  have hB1 : Below w.heap.size w W1 := by rw [← hW1]; exact (((((Below.refl _ _).alloc (Nat.le_refl _) _).alloc (by simp) _).alloc (by simp; omega) _).alloc (by simp; omega) _).alloc (by simp; omega) _
  have hX1 : Boxed W1 w.heap.size 23 (.slice (some ⟨b, off, none⟩) n cap) := by rw [← hW1]; exact Boxed.alloc (Boxed.alloc (Boxed.alloc (Boxed.alloc (Boxed.new w _ _) _) _) _) _
  have hR1 : Boxed W1 (w.heap.size + 1) 4 (.bool false) := by rw [← hW1]; have := Boxed.alloc (Boxed.alloc (Boxed.alloc (Boxed.new (w.alloc (.cells #[.slice (some ⟨b, off, none⟩) n cap] 23)) 4 (.bool false)) (Obj.map #[] 0)) (.cells #[.map (some (w.heap.size + 1 + 1))] 91)) (.cells #[.int .i64 s] 3); simpa using this
  have hM1 : W1.ownsMap Try.prog 3 (plainElem Try.prog 4) (w.heap.size + 2) 0 (seenD []) := by
    rw [← hW1, show seenD [] = (.map [] : DataW Unit) from rfl]
    have := ((World.ownsMap_made (H := Unit) ((w.alloc (.cells #[.slice (some ⟨b, off, none⟩) n cap] 23)).alloc (.cells #[.bool false] 4)) Try.prog 3 (plainElem Try.prog 4)).alloc (.cells #[.map (some (w.heap.size + 1 + 1))] 91)).alloc (.cells #[.int .i64 s] 3)
    simpa using this
  have hV1 : Boxed W1 (w.heap.size + 3) 91 (.map (some (w.heap.size + 2))) := by
    rw [← hW1]
    have := Boxed.alloc (Boxed.new (((w.alloc (.cells #[.slice (some ⟨b, off, none⟩) n cap] 23)).alloc (.cells #[.bool false] 4)).alloc (Obj.map #[] 0)) 91 (.map (some (w.heap.size + 1 + 1)))) (.cells #[.int .i64 s] 3)
    simpa using this
  have hN1 : W1.cell? ⟨w.heap.size + 4, 0, none⟩ = some (.int .i64 s) := by
    rw [← hW1]
    have := cell_new ((((w.alloc (.cells #[.slice (some ⟨b, off, none⟩) n cap] 23)).alloc (.cells #[.bool false] 4)).alloc (Obj.map #[] 0)).alloc (.cells #[.map (some (w.heap.size + 1 + 1))] 91)) (.int .i64 s) 3
    simpa using this
  try rw [hW1]
  try simp only [hW1]
  clear hW1 hmm
  obtain ⟨X, hXe⟩ : ∃ X, w.heap.size = X := ⟨_, rfl⟩
  rw [hXe] at hW1s hB1 hX1 hR1 hM1 hV1 hN1 hb
  simp only [hXe]
  have HXe := Lib.hid hXe
  clear hXe
  refine wp_nodes2L rfl hs1 (Bn := X + 1 + 1 + 1 + 1) (by omega) hN1 [X + 1, X + 2] (by simp; omega)
    (fun pre W => Boxed W (X + 1) 4 (.bool false) ∧ W.ownsMap Try.prog 3 (plainElem Try.prog 4) (X + 2) pre.length (seenD (pre.map fun x => ms[x]?.getD 0)) ∧ (pre.map fun x => ms[x]?.getD 0).Nodup)
    (fun pre W => Boxed W (X + 1) 4 (.bool false) ∧ ¬ (pre.map fun x => ms[x]?.getD 0).Nodup)
    (fun pre W W' h hk' => ⟨(hk' _ (by simp)).trans h.1, ownsMap_at h.2.1 (hk' _ (by simp)), h.2.2⟩) (fun pre W W' h hk' => ⟨(hk' _ (by simp)).trans h.1, h.2⟩) ⟨hR1, hM1, by simp⟩ ?round ?done ?stop
  case round =>
    intro l x W K hx hK
    gi_wp2
    rintro l pre W hpre hlen hSW ⟨hRW, hMW, hnd⟩
    have hxn : x < n := lt_of_mem_bitsOf hs2 hx
    have hxi : (x : Int) < n := by omega
    have tr : ∀ p : Addr, p.block < W1.heap.size → p.block ≠ X + 1 → p.block ≠ X + 2 → W.cell? p = W1.cell? p := fun p h1 h2 h3 => hSW.cell h1 (by simp; exact ⟨h2, h3⟩)
    have cX := (tr ⟨X, 0, none⟩ (by show X < _; omega) (by show X ≠ _; omega) (by show X ≠ _; omega)).trans hX1.cell
    have cV := (tr ⟨X + 3, 0, none⟩ (by show X + 3 < _; omega) (by show X + 3 ≠ _; omega) (by show X + 3 ≠ _; omega)).trans hV1.cell
    have cx := (tr ⟨b, off + x, none⟩ (by show b < _; omega) (by show b ≠ _; omega) (by show b ≠ _; omega)).trans ((hB1.cell (p := ⟨b, off + x, none⟩) hb).trans (HC.out x hxn))
    rw [List.getD_eq_getElem?_getD] at cx
    have hwx := HWF.out x (by omega)
    obtain ⟨u, hu⟩ : ∃ u, ms[x]?.getD (0 : Int) = u := ⟨_, rfl⟩
    rw [hu] at cx hwx
    have hsn : (pre ++ [x]).map (fun x => ms[x]?.getD 0) = pre.map (fun x => ms[x]?.getD 0) ++ [u] := by rw [List.map_append]; simp [hu]
    have HSN := Lib.hid hsn
    have HND := Lib.hid hnd
    have HR := Lib.hid hRW
    have HMW := Lib.hid hMW
    have HWX := Lib.hid hwx
    clear tr hu hsn hnd hRW hMW hwx
    gi_wp2
    refine wpIn_still_tailS 5 (by kernel_rfl) (by kernel_rfl) (by kernel_rfl) ?_
    simp only [List.take_succ_cons, List.take_zero, List.drop_succ_cons, List.drop_zero]
    iterate 5 (refine StillS.want (by kernel_rfl) (fun K HKK => ?_); go_simp; refine HKK.out _ ?_; clear HKK K)
    refine StillS.nil ?_
    cases hv : decide (u ∈ pre.map fun x => ms[x]?.getD 0) with
    | true =>
      have HV := Lib.hid hv
      clear hv
      refine wpListIn_op rfl (by simp) ?_
      intro K hK
      refine wp_lookup_bool true HV.out HWX.out (.tmp 11) (.tmp 15) rfl rfl rfl HMW.out.drew ?_
      refine hK _ _ ?_
      clear hK
      have cR := HR.out.cell
      have fR := HR.out.frozen
      have HFIN : Hid (Stay W.heap.size [X + 1, X + 2] W ((W.setCell ⟨X + 1, 0, none⟩ (.bool false)).drew) ∧ Boxed ((W.setCell ⟨X + 1, 0, none⟩ (.bool false)).drew) (X + 1) 4 (.bool false) ∧ ¬ ((pre ++ [x]).map fun x => ms[x]?.getD 0).Nodup) := by
        refine ⟨((Stay.refl _ _ _).setCell (p := ⟨X + 1, 0, none⟩) (.inl (by simp)) _).drew, Boxed.set HR.out, ?_⟩
        rw [HSN.out, nodup_snoc]
        exact fun h => h.2 (of_decide_eq_true HV.out)
      gi_wp2
      exact HFIN.out
    | false =>
      have HV := Lib.hid hv
      clear hv
      refine wpListIn_op rfl (by simp) ?_
      intro K hK
      refine wp_lookup_bool false HV.out HWX.out (.tmp 11) (.tmp 15) rfl rfl rfl HMW.out.drew ?_
      refine hK _ _ ?_
      clear hK
      gi_wp2
      refine wpIn_still_tailS 5 (by kernel_rfl) (by kernel_rfl) (by kernel_rfl) ?_
      simp only [List.take_succ_cons, List.take_zero, List.drop_succ_cons, List.drop_zero]
      iterate 5 (refine StillS.want (by kernel_rfl) (fun K HKK => ?_); go_simp; refine HKK.out _ ?_; clear HKK K)
      refine StillS.nil ?_
      refine wpListIn_mapUpdate_own _ rfl (.tmp 17) (.tmp 21) (.const (.bool true)) 91 rfl 3 4 keyInt Try.underlying91 _ (X + 2) _ _ rfl HMW.out.drew.drew (by unfold maxLen; omega) _ _ (.int .i64 u) rfl rfl (keyOf_int_mk Try.underlying3 HWX.out) (.lit (.bool true)) [] (plainElem_bool Try.underlying4 true) ?_
      intro w5 hM5 hg5
      have hS5 : Stay W.heap.size [X + 1, X + 2] W w5 := ((Stay.refl W.heap.size [X + 1, X + 2] W).drew.drew).grown hg5 (Nat.le_refl _) (fun k hk => by cases hk; exact .inl (by simp))
      have HFIN : Hid (Stay W.heap.size [X + 1, X + 2] W w5 ∧ Boxed w5 (X + 1) 4 (.bool false) ∧ w5.ownsMap Try.prog 3 (plainElem Try.prog 4) (X + 2) (pre ++ [x]).length (seenD ((pre ++ [x]).map fun x => ms[x]?.getD 0)) ∧ ((pre ++ [x]).map fun x => ms[x]?.getD 0).Nodup) := by
        refine ⟨hS5, (hg5.block (X + 1) HR.out.lt (by simp)).trans HR.out, ?_, ?_⟩
        · rw [HSN.out, seenD_snoc, List.length_append]; exact hM5
        · rw [HSN.out, nodup_snoc]; exact ⟨HND.out, of_decide_eq_false HV.out⟩
      clear hM5 hg5 hS5
      gi_wp2
      exact HFIN.out
  case done =>
    rintro D W hD hSW ⟨hRW, hMW, hnd⟩ hk'
    have hWs := hSW.size
    have hM2 : MarksOk W1.heap.size [D] W := (MarksOk.nil _ _).push (B := W1.heap.size) (by simp) hD hD hk'
    have HU := Lib.hid (show uniqOn ms s = true from decide_eq_true hnd)
    have hBf : Below X w W := hB1.trans (hSW.below (by omega) (by simp))
    have cR := hRW.cell
    have fR := hRW.frozen
    clear hMW hnd
    go_wp2
    refine leaves_marks (lo := W1.heap.size) [D] _ (by simp; omega) (hM2.others (KeepsOthers.setCell _ _ _)) ?_
    intro W' hTn
    have hcc := hTn.cell (Boxed.set (u := .bool true) hRW).cell
    refine ⟨_, by simp [results, Try.f97, go_sem, hcc]; rfl, by rw [HU.out], ?_⟩
    rw [HXe.out]
    exact (hBf.setCell (p := ⟨X + 1, 0, none⟩) (by simp) _).trans (hTn.below.mono (by omega))
  case stop =>
    rintro D pre W hD hpre hSW ⟨hRW, hnd⟩ hk'
    have hWs := hSW.size
    have hM2 : MarksOk W1.heap.size [D] W := (MarksOk.nil _ _).push (B := W1.heap.size) (by simp) hD hD hk'
    have HU := Lib.hid (show uniqOn ms s = false from decide_eq_false fun h => hnd (nodup_prefix (hpre.map _) h))
    have hBf : Below X w W := hB1.trans (hSW.below (by omega) (by simp))
    clear hnd
    go_wp2
    refine leaves_marks (lo := W1.heap.size) [D] _ (by omega) hM2 ?_
    intro W' hTn
    have hcc := hTn.cell hRW.cell
    refine ⟨_, by simp [results, Try.f97, go_sem, hcc]; rfl, by rw [HU.out], ?_⟩
    rw [HXe.out]
    exact hBf.trans (hTn.below.mono (by omega))
end Go.Proofs.Ytpllijjocccaaaa
