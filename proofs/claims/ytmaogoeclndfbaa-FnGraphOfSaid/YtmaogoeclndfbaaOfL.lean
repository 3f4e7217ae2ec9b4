/- Edges in any order make the graph; drawn edges. -/
import Derived.Test.YtmaogoeclndfbaaGL1
import Derived.Test.YtmaogoeclndfbaaDrawG
namespace Go.Proofs.Ytmaogoeclndfbaa
open Go.RowKit Go.Shelf
attribute [local go_sem] Oper.semAt_some

/-- 'append(rows, []int{p, q})' in a region that draws its order -/
theorem step_appendPair {ops : Array Oper} {o : Oper} {a : Act} {K : Act → World → Prop} {Q : Exit → Act → World → Prop} {E : Prop} {W0 : World} {lo n cap : Nat} {sa : Option Addr} {rows : List (List Int)} {p q : Int} (hgd : o.guard = none)
    (s x : Operand) (ho : o.op = .call { callee := .builtin .append, args := #[s, x], argTypes := #[23, 23] })
    (hs : a.eval s = .slice sa n cap) (hA : ArrR W0 lo sa n cap rows) (hx : a.eval x = .slice (some ⟨W0.heap.size + 1, 0, none⟩) 1 1) (hlo : lo ≤ W0.heap.size) (hn : n ≤ 1099511627776)
    (h : ∀ g c' w', ArrR w' lo (some ⟨g, 0, none⟩) (n + 1) c' (rows ++ [[p, q]]) → Below lo W0 w' → K (a.put o.dst (.slice (some ⟨g, 0, none⟩) (n + 1) c')) w') :
    if Region.wanted o (yielded ops a.tmps) = true then Oper.wp Try.prog o a ((W0.alloc (.cells #[.int .i64 p, .int .i64 q] 3)).alloc (.cells #[.slice (some ⟨W0.heap.size, 0, none⟩) 2 2] 26)) K Q else E := by
  obtain ⟨vs, hV⟩ := hA
  have h1 : Arr (W0.alloc (.cells #[.int .i64 p, .int .i64 q] 3)) W0.heap.size (some ⟨W0.heap.size, 0, none⟩) 2 2 [p, q] := ⟨World.ownsRow_lit W0 #[.int .i64 p, .int .i64 q] 2 (Nat.le_refl _) (by unfold maxLen; omega) rfl, rfl⟩
  have hB : Below lo W0 ((W0.alloc (.cells #[.int .i64 p, .int .i64 q] 3)).alloc (.cells #[.slice (some ⟨W0.heap.size, 0, none⟩) 2 2] 26)) := ((Below.refl _ _).alloc hlo _).alloc (by simp; omega) _
  have hB' : Below W0.heap.size W0 ((W0.alloc (.cells #[.int .i64 p, .int .i64 q] 3)).alloc (.cells #[.slice (some ⟨W0.heap.size, 0, none⟩) 2 2] 26)) := ((Below.refl _ _).alloc (Nat.le_refl _) _).alloc (by simp) _
  have hc : ((W0.alloc (.cells #[.int .i64 p, .int .i64 q] 3)).alloc (.cells #[.slice (some ⟨W0.heap.size, 0, none⟩) 2 2] 26)).cell? ⟨W0.heap.size + 1, 0, none⟩ = some (.slice (some ⟨W0.heap.size, 0, none⟩) 2 2) := by
    have := cell_new (W0.alloc (.cells #[.int .i64 p, .int .i64 q] 3)) (.slice (some ⟨W0.heap.size, 0, none⟩) 2 2) 26
    rw [← this]; congr 2; simp
  exact step_append1R (W0 := W0) (u := (some ⟨W0.heap.size, 0, none⟩, 2, 2)) (r := [p, q]) hgd s x ho hs hV (hV.below hB') (h1.alloc _) hx hc hlo (by simp; omega) hn fun g c' w' k1 k2 _ => h g c' w' ⟨_, k1⟩ (sbelow hB k2 (blk_loR hV) (by simp; omega))
/-- 'append(rows, []int{p})' -/
theorem wpList_appendOne {ops : Array Oper} {rest : List Oper} {o : Oper} {a : Act} {Q : Exit → Act → World → Prop} {W0 : World} {lo n cap : Nat} {sa : Option Addr} {rows : List (List Int)} {p : Int} (hgd : o.guard = none)
    (s x : Operand) (ho : o.op = .call { callee := .builtin .append, args := #[s, x], argTypes := #[23, 23] })
    (hs : a.eval s = .slice sa n cap) (hA : ArrR W0 lo sa n cap rows) (hx : a.eval x = .slice (some ⟨W0.heap.size + 1, 0, none⟩) 1 1) (hlo : lo ≤ W0.heap.size) (hn : n ≤ 1099511627776)
    (h : ∀ g c' w', ArrR w' lo (some ⟨g, 0, none⟩) (n + 1) c' (rows ++ [[p]]) → Below lo W0 w' → wpList Try.prog ops Q rest (a.put o.dst (.slice (some ⟨g, 0, none⟩) (n + 1) c')) w') :
    wpList Try.prog ops Q (o :: rest) a ((W0.alloc (.cells #[.int .i64 p] 3)).alloc (.cells #[.slice (some ⟨W0.heap.size, 0, none⟩) 1 1] 26)) := by
  obtain ⟨vs, hV⟩ := hA
  have h1 : Arr (W0.alloc (.cells #[.int .i64 p] 3)) W0.heap.size (some ⟨W0.heap.size, 0, none⟩) 1 1 [p] := ⟨World.ownsRow_lit W0 #[.int .i64 p] 1 (Nat.le_refl _) (by unfold maxLen; omega) rfl, rfl⟩
  have hB : Below lo W0 ((W0.alloc (.cells #[.int .i64 p] 3)).alloc (.cells #[.slice (some ⟨W0.heap.size, 0, none⟩) 1 1] 26)) := ((Below.refl _ _).alloc hlo _).alloc (by simp; omega) _
  have hB' : Below W0.heap.size W0 ((W0.alloc (.cells #[.int .i64 p] 3)).alloc (.cells #[.slice (some ⟨W0.heap.size, 0, none⟩) 1 1] 26)) := ((Below.refl _ _).alloc (Nat.le_refl _) _).alloc (by simp) _
  have hc : ((W0.alloc (.cells #[.int .i64 p] 3)).alloc (.cells #[.slice (some ⟨W0.heap.size, 0, none⟩) 1 1] 26)).cell? ⟨W0.heap.size + 1, 0, none⟩ = some (.slice (some ⟨W0.heap.size, 0, none⟩) 1 1) := by
    have := cell_new (W0.alloc (.cells #[.int .i64 p] 3)) (.slice (some ⟨W0.heap.size, 0, none⟩) 1 1) 26
    rw [← this]; congr 2; simp
  exact wpList_append1R (W0 := W0) (u := (some ⟨W0.heap.size, 0, none⟩, 1, 1)) (r := [p]) hgd s x ho hs hV (hV.below hB') (h1.alloc _) hx hc hlo (by simp; omega) hn fun g c' w' k1 k2 _ => h g c' w' ⟨_, k1⟩ (sbelow hB k2 (blk_loR hV) (by simp; omega))

/-! ### The law's mathematics -/
def swapR (r : List Int) : List Int := [r[1]?.getD 0, r[0]?.getD 0]
/-- the edges from the end down to place j, each turned -/
def backTo (es : List (List Int)) (j : Nat) : List (List Int) := (es.drop j).reverse.map swapR
theorem backTo_len (es : List (List Int)) : backTo es es.length = [] := by simp [backTo]
theorem backTo_step {es : List (List Int)} {j : Nat} (h : j < es.length) : backTo es j = backTo es (j + 1) ++ [swapR (es.getD j [])] := by
  unfold backTo
  rw [List.drop_eq_getElem_cons h, List.reverse_cons, List.map_append, List.getD_eq_getElem?_getD, List.getElem?_eq_getElem h]; rfl
theorem backTo_size (es : List (List Int)) (j : Nat) : (backTo es j).length ≤ es.length := by simp [backTo]
theorem swap_ok {n : Int} {r : List Int} (h : okE n r = true) : okE n (swapR r) = true := by
  obtain ⟨_, h1, h2, h3⟩ := okE_two h
  have e0 : (swapR r)[0]?.getD 0 = r[1]?.getD 0 := rfl
  have e1 : (swapR r)[1]?.getD 0 = r[0]?.getD 0 := rfl
  have e2 : (swapR r).length = 2 := rfl
  simp only [okE, e0, e1, e2, Bool.and_eq_true, Bool.not_eq_true', decide_eq_true_eq, decide_eq_false_iff_not]
  exact ⟨⟨⟨trivial, h2⟩, h1⟩, fun e => h3 e.symm⟩
theorem swap_edge (i j : Nat) (r : List Int) : edgeB i j (swapR r) = edgeB i j r := by
  have e0 : (swapR r)[0]?.getD 0 = r[1]?.getD 0 := rfl
  have e1 : (swapR r)[1]?.getD 0 = r[0]?.getD 0 := rfl
  unfold edgeB
  rw [e0, e1, Bool.or_comm]
  congr 1 <;> exact Bool.and_comm _ _
theorem ofOk_rows {n : Int} {es : List (List Int)} (h : ofOk n es = true) : (1 ≤ n ∧ n ≤ 12) ∧ ∀ r ∈ es, okE n r = true := by
  simpa [ofOk] using h
/-- edges in any order make the graph -/
theorem of_back {n : Int} {es : List (List Int)} (h : ofOk n es = true) : ofOk n (backTo es 0) = true ∧ GraphOfR n (backTo es 0) = GraphOfR n es := by
  obtain ⟨hn, hr⟩ := ofOk_rows h
  have hb : ∀ r ∈ backTo es 0, okE n r = true := by
    intro r hr2
    simp only [backTo, List.drop_zero, List.mem_map, List.mem_reverse] at hr2
    obtain ⟨x, hx, rfl⟩ := hr2
    exact swap_ok (hr x hx)
  have h2 : ofOk n (backTo es 0) = true := by
    simp only [ofOk, Bool.and_eq_true, decide_eq_true_eq, List.all_eq_true]
    exact ⟨hn, hb⟩
  refine ⟨h2, ?_⟩
  rw [GraphOfR, GraphOfR, if_pos h, if_pos h2]
  obtain ⟨m, rfl⟩ : ∃ m : Nat, n = m := ⟨n.toNat, by omega⟩
  rw [Int.toNat_natCast]
  have d1 := putAll_bd12 (n := m) (by omega) hb
  have d2 := putAll_bd12 (n := m) (by omega) hr
  refine list_ext (by rw [putAll_len, putAll_len]) (fun i _ => (d1 i).1) (fun i _ => (d2 i).1) fun i j _ => ?_
  rw [putAll_bit hb, putAll_bit hr, Bool.eq_iff_iff, List.any_eq_true, List.any_eq_true]
  constructor
  · rintro ⟨r, hr2, he⟩
    simp only [backTo, List.drop_zero, List.mem_map, List.mem_reverse] at hr2
    obtain ⟨x, hx, rfl⟩ := hr2
    rw [swap_edge] at he
    exact ⟨x, hx, he⟩
  · rintro ⟨x, hx, he⟩
    exact ⟨swapR x, by simp only [backTo, List.drop_zero, List.mem_map, List.mem_reverse]; exact ⟨x, hx, rfl⟩, by rw [swap_edge]; exact he⟩
/-- what edges make is a graph -/
theorem of_graph {n : Int} {es : List (List Int)} (h : ofOk n es = true) : graphB (GraphOfR n es) = true := by
  obtain ⟨hn, hr⟩ := ofOk_rows h
  rw [GraphOfR, if_pos h]
  obtain ⟨m, rfl⟩ : ∃ m : Nat, n = m := ⟨n.toNat, by omega⟩
  rw [Int.toNat_natCast]
  have d2 := putAll_bd12 (n := m) (by omega) hr
  have hbit : ∀ i j, (gN (putAll m es) i).testBit j = true → i < m ∧ j < m ∧ i ≠ j ∧ (gN (putAll m es) j).testBit i = true := by
    intro i j hb
    rw [putAll_bit hr, List.any_eq_true] at hb
    obtain ⟨r, hr2, he⟩ := hb
    obtain ⟨_, h1, h2, h3⟩ := okE_two (hr r hr2)
    have hsy : edgeB j i r = true := by
      unfold edgeB at he ⊢
      rw [Bool.or_comm]
      simp only [Bool.or_eq_true, Bool.and_eq_true, decide_eq_true_eq] at he ⊢
      rcases he with ⟨a, b⟩ | ⟨a, b⟩
      · exact .inl ⟨a, b⟩
      · exact .inr ⟨a, b⟩
    refine ⟨?_, ?_, ?_, by rw [putAll_bit hr, List.any_eq_true]; exact ⟨r, hr2, hsy⟩⟩
    all_goals
      simp only [edgeB, Bool.or_eq_true, Bool.and_eq_true, decide_eq_true_eq] at he
      omega
  refine graphB_isG (n := m) ⟨(putAll_len m es).symm, by omega, by omega, fun i _ => ?_, fun i _ => ?_, fun i k _ _ => ?_⟩
  · have h1 := d2 i
    have h2 : gN (putAll m es) i < 2 ^ m := by
      refine Nat.lt_pow_two_of_testBit _ fun b hb => ?_
      cases hbb : (gN (putAll m es) i).testBit b with
      | false => rfl
      | true => have := (hbit i b hbb).2.1; omega
    have e := pow_int m
    unfold gN at h2
    omega
  · cases hb : (gN (putAll m es) i).testBit i with
    | false => exact hb
    | true => exact absurd rfl (hbit i i hb).2.2.1
  · show (gN (putAll m es) i).testBit k = (gN (putAll m es) k).testBit i
    rw [Bool.eq_iff_iff]
    exact ⟨fun h => (hbit i k h).2.2.2, fun h => (hbit k i h).2.2.2⟩

/-! ### The draw -/
def DrawnNE (w : World) (e : Ending) (w' : World) : Prop :=
  ∃ (x : Nat) (a : Option Addr) (m c : Nat) (rows : List (List Int)), e = .returned (.tuple #[.int .i64 x, .slice a m c]) ∧ 1 ≤ x ∧ x ≤ 20 ∧ ArrR w' w.heap.size a m c rows ∧ m ≤ 9 ∧ Below w.heap.size w w'
set_option maxRecDepth 100000 in
set_option maxHeartbeats 4000000 in
theorem DrawGraphOf_any (a : Option Addr) (n cap : Nat) (w : World) (h : BytesAt w a n cap) : Calls Try.prog 4 #[.slice a n cap] w (DrawnNE w) := by
  go_enter Try.func4, Try.ntmps4
  go_wp2_with fail
  refine (l6Open_any _ _ _ _ h).mono ?_
  rintro e w1 ⟨R, rfl, hR, hb1⟩
  have hlo := hR.lo
  have hRl := hR.lt
  go_wp2_with fail
  refine (pick_any _ _ _ _ _ hR (by omega) (by omega)).mono ?_
  rintro e w2 ⟨x, hx, rfl, hR2, hS2⟩
  have hx' := inPick_lt hx (by omega)
  clear hR hx
  go_wp2_with fail
  refine (pick_any _ _ _ _ _ hR2 (by omega) (by omega)).mono ?_
  rintro e w3 ⟨y, hy, rfl, hR3, hS3⟩
  have hy' := inPick_lt hy (by omega)
  have hS3' := hS2.next hS3 hS2.size
  clear hR2 hy hS2 hS3
  obtain ⟨t, ht, ht1⟩ : ∃ t : Nat, Int.tdiv (y : Int) 19 = t ∧ t ≤ 1 := ⟨y / 19, by exact tdiv_nat y 19, by omega⟩
  obtain ⟨q, hq⟩ : ∃ q : Nat, 1 + x + t * 12 = q := ⟨_, rfl⟩
  have hq1 : 1 ≤ q := by omega
  have hq2 : q ≤ 20 := by omega
  have hqi : (1 : Int) + (x : Int) + (t : Int) * 12 = q := by omega
  clear hq
  have HV := Lib.hid (ArrRV.empty w3 w1.heap.size hS3'.size)
  have HR3 := Lib.hid (hR3.below ((Below.refl _ _).alloc (Nat.le_refl _) (.cells #[] 26)))
  have HS3 := Lib.hid (hS3'.alloc hS3'.size (.cells #[] 26))
  clear hR3 hS3'
  go_wp2_with fail
  refine (pick_any _ _ _ _ _ HR3.out (by omega) (by omega)).mono ?_
  rintro e w4 ⟨k, hk, rfl, hR4, hS4⟩
  have hk' := inPick_lt hk (by omega)
  have HS4 := Lib.hid (HS3.out.next hS4 HS3.out.size)
  have HA4 : Hid (ArrR w4 w1.heap.size _ 0 0 []) := ArrR.stayR ⟨_, HV.out⟩ hS4 hRl
  have HR4 := Lib.hid hR4
  clear hk hS4 hR4 ht
  go_wp2
  go_loopw [6, 8] (fun u p wr => ∃ (i : Nat) (a' : Option Addr) (m c' p' : Nat) (rows : List (List Int)), i ≤ k ∧ p = .int .i64 i ∧ u = .slice a' m c' ∧ ArrR wr w1.heap.size a' m c' rows ∧ m ≤ i ∧ RdAt wr w.heap.size R p' ∧ p' ≤ 10 + 10 * i ∧ Stay w1.heap.size [R] w1 wr) (fun _ p _ => 12 - (intOf p).toNat)
  case atStart => exact ⟨0, _, 0, 0, _, _, by omega, rfl, rfl, HA4.out, by omega, HR4.out, by omega, HS4.out⟩
  case round =>
    obtain ⟨i, a', m, c', p', rows, hi, rfl, rfl, hA, hm, hrd, hp, hst⟩ := hrel
    by_cases hlt : i < k
    · have hlt' : (i : Int) < k := by omega
      have HST := Lib.hid hst
      have HA := Lib.hid hA
      clear hst hA
      go_wp2_with fail
      refine (pick_any _ _ _ _ _ hrd (by omega) (by omega)).mono ?_
      rintro e w5 ⟨x5, hx5, rfl, h5, hS5⟩
      have hA5 := HA.out.stayR hS5 hRl
      have hST5 := HST.out.next hS5 HST.out.size
      clear hx5 hrd hS5
      go_wp2_with fail
      refine (pick_any _ _ _ _ _ h5 (by omega) (by omega)).mono ?_
      rintro e w6 ⟨x6, hx6, rfl, h6, hS6⟩
      have hA6 := hA5.stayR hS6 hRl
      have hST6 := hST5.next hS6 hST5.size
      clear hx6 h5 hS6 hA5 hST5
      have fin : ∀ (wq : World) (pq : Nat), ArrR wq w1.heap.size a' m c' rows → RdAt wq w.heap.size R pq → Stay w1.heap.size [R] w1 wq → Hid (w1.heap.size ≤ wq.heap.size ∧ (∀ k ∈ blk a', w1.heap.size ≤ k)) := fun wq pq h1 _ h3 => ⟨h3.size, blk_loA h1⟩
      have FIN := Lib.hid fin
      clear fin
      obtain ⟨d, hd⟩ : ∃ d, ((x5 : Int) != (x6 : Int)) = d := ⟨_, rfl⟩
      cases d with
      | true =>
        have F := (FIN.out _ _ hA6 h6 hST6).out
        have hsz := F.1
        have hloA := F.2
        have HS6 := Lib.hid hST6
        clear hST6 F
        go_wp2_with (at_builtin; refine wpList_appendPair (W0 := w6) (sa := a') (n := m) (cap := c') (p := x5) (q := x6) rfl (.tmp 43) (.tmp 47) rfl rfl hA6 rfl hsz (by omega) ?_; intro g c2 w' hA' hB' hS' _)
        go_roundw
        case rel => exact ⟨i + 1, _, _, _, _, _, by omega, by go_num, rfl, hA', by omega, h6.app hS' hloA hRl, by omega, HS6.out.trans (Below.stay hB' _)⟩
        case measure => simp [intOf]; omega
      | false =>
        go_wp2_with fail
        refine (pick_any _ _ _ _ _ h6 (by omega) (by omega)).mono ?_
        rintro e w7 ⟨x7, hx7, rfl, h7, hS7⟩
        have hA7 := hA6.stayR hS7 hRl
        have hST7 := hST6.next hS7 hST6.size
        clear hx7 h6 hS7 hA6 hST6
        cases h0 : ((x7 : Int) == 0) with
        | true =>
          have F := (FIN.out _ _ hA7 h7 hST7).out
          have hsz := F.1
          have hloA := F.2
          have HS7 := Lib.hid hST7
          clear hST7 F
          go_wp2_with (at_builtin; refine wpList_appendPair (W0 := w7) (sa := a') (n := m) (cap := c') (p := x5) (q := x6) rfl (.tmp 43) (.tmp 47) rfl rfl hA7 rfl hsz (by omega) ?_; intro g c2 w' hA' hB' hS' _)
          go_roundw
          case rel => exact ⟨i + 1, _, _, _, _, _, by omega, by go_num, rfl, hA', by omega, h7.app hS' hloA hRl, by omega, HS7.out.trans (Below.stay hB' _)⟩
          case measure => simp [intOf]; omega
        | false =>
          have HA7 := Lib.hid hA7
          have HS7 := Lib.hid hST7
          clear hA7 hST7
          go_wp2
          go_roundw
          case rel => exact ⟨i + 1, _, _, _, _, _, by omega, by go_num, rfl, HA7.out, by omega, h7, by omega, HS7.out⟩
          case measure => simp [intOf]; omega
    · obtain rfl : k = i := by omega
      have HST := Lib.hid hst
      have HA := Lib.hid hA
      clear hst hA
      go_wp2_with fail
      refine (pick_any _ _ _ _ _ hrd (by omega) (by omega)).mono ?_
      rintro e w5 ⟨x5, hx5, rfl, h5, hS5⟩
      have hA5 := HA.out.stayR hS5 hRl
      have hST5 := HST.out.next hS5 HST.out.size
      have HB5 : Hid (Below w.heap.size w w5) := hb1.trans (hST5.below hb1.size (by simp; omega))
      clear hx5 hrd hS5
      cases h0 : ((x5 : Int) == 0) with
      | false =>
        have HA5 := Lib.hid hA5
        clear hA5 hST5
        go_wp2
        go_ret2
        exact ⟨q, _, _, _, _, rfl, hq1, hq2, (by obtain ⟨vs, hv⟩ := HA5.out; exact ⟨vs, hv.mono hb1.size⟩), by omega, HB5.out⟩
      | true =>
        have hsz := hST5.size
        clear hST5
        go_wp2_with (at_builtin; refine wpList_appendOne (W0 := w5) (sa := a') (n := m) (cap := c') (p := 0) rfl (.tmp 52) (.tmp 54) rfl rfl hA5 rfl hsz (by omega) ?_; intro g c2 w' hA0 hB0; have HA' := Lib.hid hA0; have HB' := Lib.hid hB0; clear hA0 hB0)
        go_ret2
        exact ⟨q, _, _, _, _, rfl, hq1, hq2, (by obtain ⟨vs, hv⟩ := HA'.out; exact ⟨vs, hv.mono hb1.size⟩), by omega, HB5.out.trans (HB'.out.mono hb1.size)⟩
end Go.Proofs.Ytmaogoeclndfbaa
