/- Distances to a code, tables of distances: the reference. -/
import Derived.Test.YtpllijjocccaaaaSMarks
import Derived.Test.YtpllijjocccaaaaStillIn
import Derived.Test.YtpllijjocccaaaaNodes3
import Derived.Test.YtpllijjocccaaaaWk
namespace Go.Proofs.Ytpllijjocccaaaa
open Go.RowKit Go.Shelf
attribute [local go_sem] Oper.semAt_some

theorem ArrRV.grow {W W' : World} {lo n cap G j m g c' : Nat} {rws : List (List Int)} {vs : List RowV} {v : RowV} {r' : List Int} (h : ArrRV W lo (some ⟨G, 0, none⟩) n cap rws vs) (hv : vs[j]? = some v)
    (hr : Arr W' lo (some ⟨g, 0, none⟩) m c' r') (hS : Stay W.heap.size (blk v.1) W W') (hg : ∀ k, k < W.heap.size → k ∉ blk v.1 → k ∉ blk (some (⟨g, 0, none⟩ : Addr))) :
    ArrRV (W'.setCell ⟨G, j, none⟩ (.slice (some ⟨g, 0, none⟩) m c')) lo (some ⟨G, 0, none⟩) n cap (rws.set j r') (vs.set j (some ⟨g, 0, none⟩, m, c')) := by
  have hSc : Stay W'.heap.size [G] W' (W'.setCell ⟨G, j, none⟩ (.slice (some ⟨g, 0, none⟩) m c')) := (Stay.refl _ _ _).setCell (p := ⟨G, j, none⟩) (.inl (by simp)) _
  have hGl := (h.mainlt _ rfl).2
  have hGv : G ∉ blk v.1 := fun hm => by
    obtain ⟨x, hx, he⟩ := mem_blk.1 hm
    exact h.main j v x _ hv hx rfl he
  have hGg : G ≠ g := fun e => hg G hGl hGv (by simp [blk, e])
  have hj : j < n := by have := (List.getElem?_eq_some_iff.1 hv).1; have := h.vlen; omega
  have hl := h.len
  have hvl := h.vlen
  have hown : W'.ownsRow lo 23 1 (.slice (some ⟨G, 0, none⟩) n cap) n (vs.map RowV.val) := by
    refine ⟨h.own.1, ?_⟩
    rcases h.own.2 with h1 | ⟨g0, c, cur, hv0, hg0, hh, r⟩
    · exact .inl h1
    · refine .inr ⟨g0, c, cur, hv0, hg0, ?_, r⟩
      simp only [Value.slice.injEq] at hv0
      obtain ⟨e1, _, e2⟩ := hv0
      cases e1
      exact (hS.block G hGl hGv).trans hh
  have cases' : ∀ (i : Nat) (u : RowV), (vs.set j (some ⟨g, 0, none⟩, m, c'))[i]? = some u → (i = j ∧ u = (some ⟨g, 0, none⟩, m, c')) ∨ (i ≠ j ∧ vs[i]? = some u) := fun i u hi => by
    rw [List.getElem?_set] at hi
    by_cases e : j = i
    · subst e; rw [if_pos rfl, if_pos (by omega)] at hi; exact .inl ⟨rfl, by simpa using hi.symm⟩
    · rw [if_neg e] at hi; exact .inr ⟨Ne.symm e, hi⟩
  have hother : ∀ (i : Nat) (u : RowV) (x : Addr), i ≠ j → vs[i]? = some u → u.1 = some x → x.block ∉ blk v.1 ∧ x.block ≠ g := fun i u x hne hi hx => by
    have h1 : x.block ∉ blk v.1 := fun hm => by
      obtain ⟨y, hy, he⟩ := mem_blk.1 hm
      exact h.apart i j u v x y hne hi hv hx hy he.symm
    exact ⟨h1, fun e => hg x.block (h.rowlt hi x hx).2 h1 (by simp [blk, e])⟩
  refine ⟨by rw [List.map_set]; exact (hown.stored j _).1, by rw [List.length_set]; exact hl, by rw [List.length_set]; exact hvl, ?_, ?_, ?_⟩
  · intro i u hi
    rcases cases' i u hi with ⟨rfl, rfl⟩ | ⟨hne, hi'⟩
    · rw [List.getD_eq_getElem?_getD, List.getElem?_set, if_pos rfl, if_pos (by omega)]
      exact hr.stay hSc (fun x hx => by cases hx; simp; omega)
    · rw [List.getD_eq_getElem?_getD, List.getElem?_set, if_neg (Ne.symm hne), ← List.getD_eq_getElem?_getD]
      exact ((h.row i u hi').stay hS (fun x hx => (hother i u x hne hi' hx).1)).stay hSc (fun x hx => by have := h.main i u x _ hi' hx rfl; simpa using this)
  · intro i u x y hi hx hy
    cases hy
    rcases cases' i u hi with ⟨rfl, rfl⟩ | ⟨hne, hi'⟩
    · cases hx; simp only; omega
    · exact h.main i u x _ hi' hx rfl
  · intro i k v1 v2 x y hik h1 h2 hx hy
    rcases cases' i v1 h1 with ⟨rfl, rfl⟩ | ⟨hne, h1'⟩ <;> rcases cases' k v2 h2 with ⟨rfl, rfl⟩ | ⟨hne2, h2'⟩
    · omega
    · cases hx; exact fun e => (hother k v2 y hne2 h2' hy).2 e.symm
    · cases hy; exact (hother i v1 x hne h1' hx).2
    · exact h.apart i k v1 v2 x y hik h1' h2' hx hy

theorem Arr.isCells {w : World} {lo n cap : Nat} {a : Option Addr} {zs : List Int} (h : Arr w lo a n cap zs) : ∀ k ∈ blk a, ∃ o, w.heap[k]? = some o ∧ o.isCells = true := fun k hk => by
  rcases h.form with ⟨rfl, _⟩ | ⟨g, cur, rfl, _, hg, _⟩
  · simp [blk] at hk
  · simp [blk] at hk; subst hk; exact ⟨_, hg, rfl⟩
theorem vec_step {W W5 w5 : World} {lo B1 n cap A i m g vn vc c' : Nat} {va : Option Addr} {rws : List (List Int)} {vs : List RowV} {r' : List Int} (hA : ArrRV W lo (some ⟨A, 0, none⟩) n cap rws vs) (hv : vs[i]? = some (va, vn, vc)) (hin : i < n)
    (hb : Below W.heap.size W W5) (hr5 : Arr w5 lo (some ⟨g, 0, none⟩) m c' r') (hS : Stay W5.heap.size (blk va) W5 w5) (hN : ∀ k, k < W5.heap.size → k ∉ blk va → k ∉ blk (some (⟨g, 0, none⟩ : Addr)))
    (hrow : ∀ (v : RowV) (x : Addr), vs[i]? = some v → v.1 = some x → B1 ≤ x.block) (hno : ∀ (j : Nat) (v : RowV), i < j → vs[j]? = some v → v.1 = none) (hB1 : B1 ≤ W.heap.size) :
    (∃ exs, Stay W.heap.size exs W (w5.setCell ⟨A, i, none⟩ (.slice (some ⟨g, 0, none⟩) m c')) ∧ ∀ k ∈ exs, k ∈ [A] ∨ (B1 ≤ k ∧ ∃ o, W.heap[k]? = some o ∧ o.isCells = true)) ∧
    ∃ vs', ArrRV (w5.setCell ⟨A, i, none⟩ (.slice (some ⟨g, 0, none⟩) m c')) lo (some ⟨A, 0, none⟩) n cap (rws.set i r') vs' ∧ (∀ (v : RowV) (x : Addr), vs'[i]? = some v → v.1 = some x → B1 ≤ x.block) ∧ (∀ (j : Nat) (v : RowV), i < j → vs'[j]? = some v → v.1 = none) := by
  have hl := hA.vlen
  refine ⟨⟨A :: blk va, ?_, ?_⟩, _, (hA.below hb).grow hv hr5 hS hN, ?_, ?_⟩
  · have h1 : Stay W.heap.size (A :: blk va) W w5 := (Below.stay hb (A :: blk va)).trans ((hS.weak (by intro k hk; exact List.mem_cons_of_mem _ hk)).mono hb.size)
    exact h1.setCell (p := ⟨A, i, none⟩) (.inl (by simp)) _
  · intro k hk
    rcases List.mem_cons.1 hk with rfl | hk
    · exact .inl (by simp)
    · obtain ⟨x, hx, rfl⟩ := mem_blk.1 hk
      exact .inr ⟨hrow _ x hv hx, (hA.row i _ hv).isCells _ hk⟩
  · intro v x hv' hx
    rw [List.getElem?_set, if_pos rfl, if_pos (by omega)] at hv'
    obtain rfl := Option.some.inj hv'
    obtain rfl := Option.some.inj hx
    refine Nat.le_of_not_lt fun hlt => ?_
    have hs := hb.size
    have h1 : g ∉ blk va := fun hm => by
      obtain ⟨y, hy, he⟩ := mem_blk.1 hm
      have := hrow _ y hv hy
      simp only at hlt; omega
    exact hN g (by simp only at hlt; omega) h1 (by simp [blk])
  · intro j v hj hv'
    rw [List.getElem?_set, if_neg (by omega)] at hv'
    exact hno j v hj hv'
def vecV (zs : List Int) (c i : Nat) : List Int := (bitsOf c).map fun x => distV zs x i
def vecsV (zs : List Int) (c : Nat) : List (List Int) := (List.range zs.length).map (vecV zs c)
/-- the rows when rows 0 to i-1 are done and row i has the nodes of pre -/
def vecTo (zs : List Int) (c i : Nat) (pre : List Nat) : List (List Int) := (List.range zs.length).map fun j => if j < i then vecV zs c j else if j = i then pre.map fun x => distV zs x i else []
theorem vecTo_len (zs : List Int) (c i : Nat) (pre : List Nat) : (vecTo zs c i pre).length = zs.length := by simp [vecTo]
theorem vecTo_zero (zs : List Int) (c : Nat) : vecTo zs c 0 [] = List.replicate zs.length [] := by
  unfold vecTo; apply List.ext_getElem (by simp); intro j h1 h2; simp
theorem vecTo_set {zs : List Int} {c i : Nat} {pre : List Nat} (_hi : i < zs.length) (x : Nat) : (vecTo zs c i pre).set i (pre.map (fun x => distV zs x i) ++ [distV zs x i]) = vecTo zs c i (pre ++ [x]) := by
  apply List.ext_getElem (by simp [vecTo]); intro j h1 h2
  rw [List.getElem_set]
  by_cases e : i = j
  · subst e; simp [vecTo]
  · rw [if_neg e]; simp only [vecTo, List.getElem_map, List.getElem_range]; rw [if_neg (Ne.symm e), if_neg (Ne.symm e)]
theorem vecTo_at {zs : List Int} {c i : Nat} {pre : List Nat} (hi : i < zs.length) : (vecTo zs c i pre).getD i [] = pre.map fun x => distV zs x i := by
  rw [List.getD_eq_getElem?_getD, List.getElem?_eq_getElem (by rw [vecTo_len]; exact hi)]; simp [vecTo]
theorem vecTo_next (zs : List Int) (c i : Nat) : vecTo zs c i (bitsOf c) = vecTo zs c (i + 1) [] := by
  unfold vecTo
  apply List.ext_getElem (by simp); intro j h1 h2
  simp only [List.getElem_map, List.getElem_range]
  by_cases h : j < i
  · rw [if_pos h, if_pos (by omega)]
  · rw [if_neg h]
    by_cases e : j = i
    · subst e; rw [if_pos rfl, if_pos (by omega)]; rfl
    · rw [if_neg e, if_neg (by omega)]; split <;> rfl
theorem vecTo_all (zs : List Int) (c : Nat) : vecTo zs c zs.length [] = vecsV zs c := by
  unfold vecTo vecsV
  apply List.ext_getElem (by simp); intro j h1 h2
  simp only [List.getElem_map, List.getElem_range]
  rw [if_pos (by simpa using h2)]
theorem farV_at {zs : List Int} {x : Nat} (hx : x < zs.length) : (farV zs).getD x [] = distsV zs x := by
  rw [List.getD_eq_getElem?_getD, List.getElem?_eq_getElem (by rw [farV_len]; exact hx)]; simp [farV]
set_option maxRecDepth 100000 in
set_option maxHeartbeats 4000000 in
theorem vectors_any (B n : Nat) (zs : List Int) (c : Nat) (w : World) (hB : BookAt w B n zs) (hG : IsG n zs) (hc : c < 4096) (hc2 : c < 2 ^ n) :
    Calls Try.prog 71 #[.pointer (some ⟨B, 0, none⟩), .int .i64 c] w fun e w' => ∃ a' c', e = .returned (.slice a' n c') ∧ ArrR w' w.heap.size a' n c' (vecsV zs c) ∧ Below w.heap.size w w' := by
  obtain ⟨a, cap, ab, cb, af, cf, hK, hS, hSb, hF⟩ := hB.fields
  have hn2 := hG.le
  have hK1 := hK.below ((Below.refl _ _).alloc (Nat.le_refl _) (.cells #[.pointer (some ⟨B, 0, none⟩)] 54))
  have c0 := hK1.cell0
  have hX0 := Boxed.new w 54 (.pointer (some ⟨B, 0, none⟩))
  have cX0 := hX0.cell
  have hl := Lib.hid hG.len
  obtain ⟨i0, hi, hz0, hz1, hz2⟩ := info_parts infoInts
  have HK := Lib.hid hK
  have HF := Lib.hid hF
  clear hK hS hSb hF hB hK1
  refine calls_marks Try.func71 rfl ?_
  simp only [Try.ntmps71, List.size_toArray, List.length_cons, List.length_nil, Nat.reduceAdd, Nat.reduceSub, Array.replicate_succ, Array.replicate_zero, List.push_toArray, List.append_toArray, List.nil_append, List.cons_append]
  go_wp2_with (at_make; refine wpList_make_full _ rfl _ _ 37 rfl w.heap.size 23 i0 (.slice none 0 0) 1 under_rows hi hz0 hz1 .i64 .i64 n n n rfl rfl rfl rfl (by rw [hz2]; omega) (by unfold maxLen; omega) (by simp) ?_; intro w1 hown hgrow)
  obtain ⟨A, hAe⟩ : ∃ A, w.heap.size + 1 = A := ⟨_, rfl⟩
  have hB1 : Below w.heap.size w w1 := ((Below.refl _ _).alloc (Nat.le_refl _) _).grown hgrow (by simp) (by simp)
  have hA1 : ArrRV w1 w.heap.size (some ⟨w.heap.size + 1, 0, none⟩) n n (List.replicate n []) (List.replicate n (none, 0, 0)) := ⟨by
    have e : (madeCells (Value.cells (.slice none 0 0)) (n * 1)).toList = (List.replicate n ((none, 0, 0) : RowV)).map RowV.val := by
      rw [show (Value.cells (.slice none 0 0)) = #[.slice none 0 0] from rfl, toList_madeCells_one]; simp [RowV.val]
    rw [← e]; simpa using hown, by simp, by simp, fun j v hv => by
      have hv' : v = (none, 0, 0) := by rw [List.getElem?_replicate] at hv; split at hv <;> simp_all
      subst hv'
      have : (List.replicate n ([] : List Int)).getD j [] = [] := by rw [List.getD_eq_getElem?_getD, List.getElem?_replicate]; split <;> rfl
      rw [this]; exact ⟨World.ownsRow_nil _ _ _ _, rfl⟩, (fun j v x y hv hx _ => by
      have hv' : v = (none, 0, 0) := by rw [List.getElem?_replicate] at hv; split at hv <;> simp_all
      subst hv'; cases hx), (fun i j u v x y _ hu _ hx _ => by
      have hv' : u = (none, 0, 0) := by rw [List.getElem?_replicate] at hu; split at hu <;> simp_all
      subst hv'; cases hx)⟩
  have hX1 : Boxed w1 w.heap.size 54 (.pointer (some ⟨B, 0, none⟩)) := (hgrow.block w.heap.size (by simp) (by simp)).trans hX0
  have hsz1 : w.heap.size + 1 < w1.heap.size := (hA1.mainlt _ rfl).2
  clear hown hgrow c0 cX0 hX0
  obtain ⟨w3, hw3⟩ : ∃ w3, w1.alloc (.cells #[.slice (some ⟨w.heap.size + 1, 0, none⟩) n n] 37) = w3 := ⟨_, rfl⟩
  have hw3s : w3.heap.size = w1.heap.size + 1 := by rw [← hw3]; simp
  have hB3 : Below w.heap.size w w3 := by rw [← hw3]; exact hB1.alloc hB1.size _
  have hA3 : ArrRV w3 w.heap.size (some ⟨w.heap.size + 1, 0, none⟩) n n (List.replicate n []) (List.replicate n (none, 0, 0)) := by rw [← hw3]; exact hA1.below ((Below.refl _ _).alloc (Nat.le_refl _) _)
  have hX3 : Boxed w3 w.heap.size 54 (.pointer (some ⟨B, 0, none⟩)) := by rw [← hw3]; exact Boxed.alloc hX1 _
  have hO3 : Boxed w3 w1.heap.size 37 (.slice (some ⟨w.heap.size + 1, 0, none⟩) n n) := by rw [← hw3]; exact Boxed.new w1 _ _
  rw [hw3]
  clear hA1 hB1 hX1 hw3
  have HK3 := Lib.hid (HK.out.below hB3)
  have hKlt := HK.out.lt
  obtain ⟨fb, fo, rfl, hfb, hfc⟩ := HF.out.at' hG.pos
  have HFC := Lib.hid hfc
  clear hfc HF
  obtain ⟨X, hXe⟩ : ∃ X, w.heap.size = X := ⟨_, rfl⟩
  obtain ⟨O, hOe⟩ : ∃ O, w1.heap.size = O := ⟨_, rfl⟩
  rw [hAe] at hA3 hO3 hsz1
  rw [hXe] at hA3 hX3 hB3 hKlt hfb
  rw [hOe] at hO3 hw3s hsz1
  have hXA : X + 1 = A := by rw [← hXe]; exact hAe
  simp only [hAe, hOe]
  simp only [hXe]
  have HXe := Lib.hid hXe
  clear hAe hXe hOe
  refine wp_loop (fun act W => ∃ (i : Nat) (Ds : List Nat) (vs : List RowV) (x6 x17 x18 x19 x20 x41 : Value),
      act = { tmps := #[.pointer (some ⟨B, 0, none⟩), .int .i64 c, .pointer (some ⟨X, 0, none⟩), undef, .slice none 0 0, .pointer (some ⟨O, 0, none⟩), x6, undef, .pointer (some ⟨B, 0, none⟩), .pointer (some ⟨B, 0, none⟩), .pointer (some ⟨B, 0, none⟩), .slice a n cap, .int .i64 n, .slice (some ⟨A, 0, none⟩) n n, .slice (some ⟨A, 0, none⟩) n n, .int .i64 n, .int .i64 i, x17, x18, x19, x20, undef, undef, undef, undef, undef, undef, undef, undef, undef, undef, undef, undef, undef, undef, undef, undef, undef, undef, undef, undef, x41, undef], defers := marks Ds } ∧
      i ≤ n ∧ ArrRV W X (some ⟨A, 0, none⟩) n n (vecTo zs c i []) vs ∧ (∀ (j : Nat) (v : RowV), i ≤ j → vs[j]? = some v → v.1 = none) ∧ Stay w3.heap.size [A] w3 W ∧ MarksOk w3.heap.size Ds W)
    (fun act _ => 12 - (intOf (act.tmps.getD 16 undef)).toNat) ⟨0, [], _, _, _, _, _, _, _, rfl, by omega, by rw [vecTo_zero, ← hl.out]; exact hA3, by
      intro j v _ hv
      have hv' : v = (none, 0, 0) := by rw [List.getElem?_replicate] at hv; split at hv <;> simp_all
      rw [hv'], Stay.refl _ _ _, MarksOk.nil _ _⟩ ?_
  rintro a' wr ⟨i, Ds, vs, x6, x17, x18, x19, x20, x41, rfl, hi', hA, hnone, hSr, hM⟩
  have hsr := hSr.size
  by_cases hlt : i < n
  · have hlti : (i : Int) < n := by omega
    go_wp2_with (go_at_call 85; refine (nodes_any _ _).mono ?_; rintro e w' ⟨rfl, rfl⟩)
    obtain ⟨W1, hW1⟩ : ∃ W1, (wr.alloc (.cells #[.int .i64 i] 3)).alloc (.cells #[.int .i64 c] 3) = W1 := ⟨_, rfl⟩
    have hW1s : W1.heap.size = wr.heap.size + 2 := by rw [← hW1]; simp
    have hb12 := boxes2 wr (.int .i64 i) (.int .i64 c) 3 3
    rw [hW1] at hb12 ⊢
    have hS1 : Stay w3.heap.size [A] w3 W1 := hSr.then hb12.2.2 hSr.size
    have hA1 := hA.below hb12.2.2
    have hM1 : MarksOk w3.heap.size Ds W1 := hM.below hb12.2.2
    have hI1 : Boxed W1 wr.heap.size 3 (.int .i64 i) := by rw [← hW1]; exact Boxed.alloc (Boxed.new wr _ _) _
    clear hW1 hA hSr hM
    refine wp_nodes3 rfl hc (Bn := wr.heap.size + 1) (by omega) hb12.2.1 [A] (by simp; omega)
      (fun pre W => ∃ vs, ArrRV W X (some ⟨A, 0, none⟩) n n (vecTo zs c i pre) vs ∧ (∀ (v : RowV) (x : Addr), vs[i]? = some v → v.1 = some x → W1.heap.size ≤ x.block) ∧ (∀ (j : Nat) (v : RowV), i < j → vs[j]? = some v → v.1 = none))
      (fun _ _ => False)
      (fun pre W W' h hk' => by obtain ⟨vs, h1, h2, h3⟩ := h; exact ⟨vs, hk'.arrRV h1, h2, h3⟩) (fun pre W W' h _ => h)
      ⟨vs, hA1, (fun v x hv hx => by rw [hnone i v (Nat.le_refl _) hv] at hx; cases hx), (fun j v hj hv => hnone j v (Nat.le_of_lt hj) hv)⟩ ?round ?done ?stop
    case round =>
      intro l x W K hx hK
      gi_wp2
      rintro l pre W hpre hlen hSW ⟨vs, hAW, hrow, hno⟩
      have hxn : x < n := lt_of_mem_bitsOf hc2 hx
      have hxi : (x : Int) < n := by omega
      have hvl := hAW.vlen
      obtain ⟨v, hv⟩ : ∃ v, vs[i]? = some v := ⟨_, List.getElem?_eq_getElem (by omega)⟩
      have hS3W : Stay w3.heap.size [A] w3 W := hS1.trans (hSW.mono (by omega))
      have cX := (Boxed.stay hX3 hS3W (by omega) (by simp; omega)).cell
      have cO := (Boxed.stay hO3 hS3W (by omega) (by simp; omega)).cell
      have cI := (Boxed.stay hI1 hSW (by omega) (by simp; omega)).cell
      have hBk := HK3.out.stay hS3W (by omega) (by simp; omega)
      have cK := hBk.cell2
      have cV := hAW.cellAt hv
      have fV := hAW.frozenAt i
      have tr : ∀ p : Addr, p.block < X → W.cell? p = w.cell? p := fun p hp => (hS3W.cell (by omega) (by simp; omega)).trans (hB3.cell hp)
      obtain ⟨aj, nj, cj, hcj, hsj⟩ := HFC.out x hxn
      rw [farV_at (by rw [← hl.out]; exact hxn)] at hsj
      have hnj : nj = n := by rw [hsj.len, distsV_len, ← hl.out]
      subst hnj
      obtain ⟨rb, ro, rfl, hrb, hrc⟩ := hsj.at' hG.pos
      rw [HXe.out] at hrb
      have hci := (tr ⟨rb, ro + i, none⟩ hrb).trans (hrc i hlt)
      rw [List.getD_eq_getElem?_getD, distsV_at (by rw [← hl.out]; exact hlt)] at hci
      have hcx := (tr ⟨fb, fo + x, none⟩ hfb).trans hcj
      have HROW := Lib.hid (hAW.row i v hv)
      have HAW := Lib.hid hAW
      have HVV := Lib.hid hv
      have HT := Lib.hid (vecTo_set (zs := zs) (c := c) (i := i) (pre := pre) (by rw [← hl.out]; exact hlt) x)
      have HTA := Lib.hid (vecTo_at (zs := zs) (c := c) (i := i) (pre := pre) (by rw [← hl.out]; exact hlt))
      have hsw := hS3W.size
      obtain ⟨va, vn, vc⟩ := v
      simp only [RowV.val] at cV
      clear tr hrc hcj hsj hv hAW hBk hS3W hvl
      gi_wp2
      have hb5 : Below W.heap.size W (W.alloc (.cells #[.int .i64 (distV zs x i)] 3)).drew := ((Below.refl _ _).alloc (Nat.le_refl _) _).drew
      have hAva : A ∉ blk va := fun hm => by
        obtain ⟨y, hy, he⟩ := mem_blk.1 hm
        exact HAW.out.main i _ y _ HVV.out hy rfl he
      have hva : ∀ k ∈ blk va, W1.heap.size ≤ k := fun k hk => by
        obtain ⟨y, hy, rfl⟩ := mem_blk.1 hk
        exact hrow _ y HVV.out hy
      have HSW : Hid (∀ W' : World, Stay W.heap.size (A :: blk va) W W' → (fun W' : World => W'.cell? ⟨O, 0, none⟩ = some (.slice (some ⟨A, 0, none⟩) nj nj) ∧ W'.cell? ⟨wr.heap.size, 0, none⟩ = some (.int .i64 i) ∧ W'.cell? ⟨X, 0, none⟩ = some (.pointer (some ⟨B, 0, none⟩)) ∧ W'.cell? ⟨B, 2, none⟩ = some (.slice (some ⟨fb, fo, none⟩) nj cf) ∧
        W'.cell? ⟨fb, fo + x, none⟩ = some (.slice (some ⟨rb, ro, none⟩) nj cj) ∧ W'.cell? ⟨rb, ro + i, none⟩ = some (.int .i64 (distV zs x i))) W') := by
        intro W' hst
        have hsz := hSW.size
        have tr : ∀ p : Addr, p.block < W1.heap.size → p.block ≠ A → W'.cell? p = W.cell? p := fun p h1 h2 => hst.cell (by omega) (by
          intro hm
          rcases List.mem_cons.1 hm with h | h
          · exact h2 h
          · have := hva _ h; omega)
        refine ⟨(tr ⟨O, 0, none⟩ (by show O < _; omega) (by show O ≠ A; omega)).trans cO, (tr ⟨wr.heap.size, 0, none⟩ (by show wr.heap.size < _; omega) (by show wr.heap.size ≠ A; omega)).trans cI, (tr ⟨X, 0, none⟩ (by show X < _; omega) (by show X ≠ A; omega)).trans cX,
          (tr ⟨B, 2, none⟩ (by show B < _; omega) (by show B ≠ A; omega)).trans cK, (tr ⟨fb, fo + x, none⟩ (by show fb < _; omega) (by show fb ≠ A; omega)).trans hcx, (tr ⟨rb, ro + i, none⟩ (by show rb < _; omega) (by show rb ≠ A; omega)).trans hci⟩
      have HS0 : Hid (Stay W.heap.size (A :: blk va) W W.drew) := (Stay.refl _ _ _).drew
      have HS5 : Hid (Stay W.heap.size (A :: blk va) W (W.alloc (.cells #[.int .i64 (distV zs x i)] 3)).drew) := Below.stay hb5 _
      have HAW5 := Lib.hid (HAW.out.below hb5)
      have hR5 : Arr (W.alloc (.cells #[.int .i64 (distV zs x i)] 3)).drew X va vn vc (pre.map fun x => distV zs x i) := by rw [← HTA.out]; exact HROW.out.below hb5
      have hvn : vn ≤ 12 := by rw [hR5.len]; simp; omega
      have HR5 := Lib.hid hR5
      have hAl : A < (W.alloc (.cells #[.int .i64 (distV zs x i)] 3)).drew.heap.size := (HAW5.out.mainlt _ rfl).2
      have cA5 := HAW5.out.cellAt HVV.out
      simp only [RowV.val] at cA5
      have fA5 := HAW5.out.frozenAt i
      have HVS := Lib.hid (fun g c' w5 hA5 hS5 hN5 => vec_step (W5 := (W.alloc (.cells #[.int .i64 (distV zs x i)] 3)).drew) (w5 := w5) (g := g) (c' := c') (m := vn + 1) (r' := pre.map (fun x => distV zs x i) ++ [distV zs x i]) (B1 := W1.heap.size) HAW.out HVV.out hlt hb5 hA5 hS5 hN5 hrow hno hSW.size)
      have HB5 := Lib.hid hb5
      clear hR5 hb5 hrow hno fV cX cO cI cK hcx hci hva
      refine wpIn_of_any (by kernel_rfl) (by kernel_rfl) (wpAny_of_held (S := fun W' : World => W'.cell? ⟨O, 0, none⟩ = some (.slice (some ⟨A, 0, none⟩) nj nj) ∧ W'.cell? ⟨wr.heap.size, 0, none⟩ = some (.int .i64 i) ∧ W'.cell? ⟨X, 0, none⟩ = some (.pointer (some ⟨B, 0, none⟩)) ∧ W'.cell? ⟨B, 2, none⟩ = some (.slice (some ⟨fb, fo, none⟩) nj cf) ∧
        W'.cell? ⟨fb, fo + x, none⟩ = some (.slice (some ⟨rb, ro, none⟩) nj cj) ∧ W'.cell? ⟨rb, ro + i, none⟩ = some (.int .i64 (distV zs x i))) _ _ _ _ ?_)
      simp only [List.size_toArray, List.length_cons, List.length_nil, Nat.reduceAdd, Array.replicate_succ, Array.replicate_zero, List.push_toArray, List.nil_append, List.cons_append]
      (refine held_take 0 22 (v := ?v0) rfl (by kernel_rfl) (by kernel_rfl) (by kernel_rfl) (by kernel_rfl) (fun _ _ _ h => h) (HSW.out _ HS0.out) ?hw0 ?hy0 ?_; (case hw0 => rfl); (case hy0 => (intro w' hSw; (try dsimp only at hSw); go_simp; (try with_reducible rfl))); simp only [List.setIfInBounds_toArray, List.set_cons_zero, List.set_cons_succ])
      (refine held_take 1 23 (v := ?v1) rfl (by kernel_rfl) (by kernel_rfl) (by kernel_rfl) (by kernel_rfl) (fun _ _ _ h => h) (HSW.out _ HS0.out) ?hw1 ?hy1 ?_; (case hw1 => rfl); (case hy1 => (intro w' hSw; (try dsimp only at hSw); go_simp; (try with_reducible rfl))); simp only [List.setIfInBounds_toArray, List.set_cons_zero, List.set_cons_succ])
      (refine held_take 2 24 (v := ?v2) rfl (by kernel_rfl) (by kernel_rfl) (by kernel_rfl) (by kernel_rfl) (fun _ _ _ h => h) (HSW.out _ HS0.out) ?hw2 ?hy2 ?_; (case hw2 => rfl); (case hy2 => (intro w' hSw; (try dsimp only at hSw); go_simp; (try with_reducible rfl))); simp only [List.setIfInBounds_toArray, List.set_cons_zero, List.set_cons_succ])
      (refine held_take 3 25 (v := ?v3) rfl (by kernel_rfl) (by kernel_rfl) (by kernel_rfl) (by kernel_rfl) (fun _ _ _ h => h) (HSW.out _ HS0.out) ?hw3 ?hy3 ?_; (case hw3 => rfl); (case hy3 => (intro w' hSw; (try dsimp only at hSw); go_simp; (try with_reducible rfl))); simp only [List.setIfInBounds_toArray, List.set_cons_zero, List.set_cons_succ])
      (refine held_take 4 26 (v := ?v4) rfl (by kernel_rfl) (by kernel_rfl) (by kernel_rfl) (by kernel_rfl) (fun _ _ _ h => h) (HSW.out _ HS0.out) ?hw4 ?hy4 ?_; (case hw4 => rfl); (case hy4 => (intro w' hSw; (try dsimp only at hSw); go_simp; (try with_reducible rfl))); simp only [List.setIfInBounds_toArray, List.set_cons_zero, List.set_cons_succ])
      (refine held_take 6 28 (v := ?v6) rfl (by kernel_rfl) (by kernel_rfl) (by kernel_rfl) (by kernel_rfl) (fun _ _ _ h => h) (HSW.out _ HS0.out) ?hw6 ?hy6 ?_; (case hw6 => rfl); (case hy6 => (intro w' hSw; (try dsimp only at hSw); go_simp; (try with_reducible rfl))); simp only [List.setIfInBounds_toArray, List.set_cons_zero, List.set_cons_succ])
      (refine held_take 7 29 (v := ?v7) rfl (by kernel_rfl) (by kernel_rfl) (by kernel_rfl) (by kernel_rfl) (fun _ _ _ h => h) (HSW.out _ HS0.out) ?hw7 ?hy7 ?_; (case hw7 => rfl); (case hy7 => (intro w' hSw; (try dsimp only at hSw); go_simp; (try with_reducible rfl))); simp only [List.setIfInBounds_toArray, List.set_cons_zero, List.set_cons_succ])
      (refine held_take 8 30 (v := ?v8) rfl (by kernel_rfl) (by kernel_rfl) (by kernel_rfl) (by kernel_rfl) (fun _ _ _ h => h) (HSW.out _ HS0.out) ?hw8 ?hy8 ?_; (case hw8 => rfl); (case hy8 => (intro w' hSw; (try dsimp only at hSw); go_simp; (try with_reducible rfl))); simp only [List.setIfInBounds_toArray, List.set_cons_zero, List.set_cons_succ])
      (refine held_take 9 31 (v := ?v9) rfl (by kernel_rfl) (by kernel_rfl) (by kernel_rfl) (by kernel_rfl) (fun _ _ _ h => h) (HSW.out _ HS0.out) ?hw9 ?hy9 ?_; (case hw9 => rfl); (case hy9 => (intro w' hSw; (try dsimp only at hSw); go_simp; (try with_reducible rfl))); simp only [List.setIfInBounds_toArray, List.set_cons_zero, List.set_cons_succ])
      (refine held_take 10 32 (v := ?v10) rfl (by kernel_rfl) (by kernel_rfl) (by kernel_rfl) (by kernel_rfl) (fun _ _ _ h => h) (HSW.out _ HS0.out) ?hw10 ?hy10 ?_; (case hw10 => rfl); (case hy10 => (intro w' hSw; (try dsimp only at hSw); go_simp; (try with_reducible rfl))); simp only [List.setIfInBounds_toArray, List.set_cons_zero, List.set_cons_succ])
      (refine held_take 11 33 (v := ?v11) rfl (by kernel_rfl) (by kernel_rfl) (by kernel_rfl) (by kernel_rfl) (fun _ _ _ h => h) (HSW.out _ HS0.out) ?hw11 ?hy11 ?_; (case hw11 => rfl); (case hy11 => (intro w' hSw; (try dsimp only at hSw); go_simp; (try with_reducible rfl))); simp only [List.setIfInBounds_toArray, List.set_cons_zero, List.set_cons_succ])
      (refine held_take 12 34 (v := ?v12) rfl (by kernel_rfl) (by kernel_rfl) (by kernel_rfl) (by kernel_rfl) (fun _ _ _ h => h) (HSW.out _ HS0.out) ?hw12 ?hy12 ?_; (case hw12 => rfl); (case hy12 => (intro w' hSw; (try dsimp only at hSw); go_simp; (try with_reducible rfl))); simp only [List.setIfInBounds_toArray, List.set_cons_zero, List.set_cons_succ])
      (refine held_take 13 35 (v := ?v13) rfl (by kernel_rfl) (by kernel_rfl) (by kernel_rfl) (by kernel_rfl) (fun _ _ _ h => h) (HSW.out _ HS0.out) ?hw13 ?hy13 ?_; (case hw13 => rfl); (case hy13 => (intro w' hSw; (try dsimp only at hSw); go_simp; (try with_reducible rfl))); simp only [List.setIfInBounds_toArray, List.set_cons_zero, List.set_cons_succ])
      (refine held_take 14 36 (v := ?v14) rfl (by kernel_rfl) (by kernel_rfl) (by kernel_rfl) (by kernel_rfl) (fun _ _ _ h => h) (HSW.out _ HS0.out) ?hw14 ?hy14 ?_; (case hw14 => rfl); (case hy14 => (intro w' hSw; (try dsimp only at hSw); go_simp; (try with_reducible rfl))); simp only [List.setIfInBounds_toArray, List.set_cons_zero, List.set_cons_succ])
      (refine held_take 15 37 (v := ?v15) rfl (by kernel_rfl) (by kernel_rfl) (by kernel_rfl) (by kernel_rfl) (fun _ _ _ h => h) (HSW.out _ HS0.out) ?hw15 ?hy15 ?_; (case hw15 => rfl); (case hy15 => (intro w' hSw; (try dsimp only at hSw); go_simp; (try with_reducible rfl))); simp only [List.setIfInBounds_toArray, List.set_cons_zero, List.set_cons_succ])
      refine wpAnyH_ready (rs := [5, 16]) (by kernel_rfl) (by simp) (AllReadyH.cons rfl (fun K hK => ?_) (AllReadyH.cons rfl (fun K hK => ?_) AllReadyH.nil))
      · go_simp
        refine hK.out _ _ (HSW.out _ HS0.out) (fun _ => ?_)
        clear hK K
        refine wpAnyH_ready (rs := [16]) (by kernel_rfl) (by simp) (AllReadyH.cons rfl (fun K hK => ?_) AllReadyH.nil)
        go_simp
        refine hK.out _ _ (HSW.out _ HS5.out) (fun _ => ?_)
        clear hK K
        refine wpAnyH_ready (rs := [17]) (by kernel_rfl) (by simp) (AllReadyH.cons rfl (fun K hK => ?_) AllReadyH.nil)
        rw [if_pos (by rfl)]
        refine wp_append1L (W := (W.alloc (.cells #[.int .i64 (distV zs x i)] 3)).drew) (g0 := W.heap.size) (u := distV zs x i) 23 under_ints (.tmp 27) (.tmp 38) rfl rfl HR5.out rfl (cell_new_drew _ _ _) (by simp; omega) (show vn ≤ 1099511627776 by omega) ?_
        intro g c' w5 hA5 hS5 hN5
        have cw := (hS5.cell (p := ⟨A, i, none⟩) hAl hAva).trans cA5
        have fw := (hS5.frozen (p := ⟨A, i, none⟩) hAl hAva).trans fA5
        have HST : Hid (Stay W.heap.size (A :: blk va) W w5) := HS5.out.trans ((hS5.weak (by intro k hk; exact List.mem_cons_of_mem _ hk)).mono HB5.out.size)
        have HST2 := Lib.hid (HST.out.setCell (p := ⟨A, i, none⟩) (.inl (by simp)) (.slice (some ⟨g, 0, none⟩) (vn + 1) c'))
        have HFIN := Lib.hid (HVS.out g c' w5 hA5 hS5 hN5)
        clear hA5 hS5 hN5
        go_simp
        refine hK.out _ _ (HSW.out _ HST.out) (fun _ => ?_)
        clear hK K
        refine wpAnyH_ready (rs := [18]) (by kernel_rfl) (by simp) (AllReadyH.cons rfl (fun K hK => ?_) AllReadyH.nil)
        go_simp
        refine hK.out _ _ (HSW.out _ HST.out) (fun _ => ?_)
        clear hK K
        refine wpAnyH_ready (rs := [19]) (by kernel_rfl) (by simp) (AllReadyH.cons rfl (fun K hK => ?_) AllReadyH.nil)
        go_simp
        refine hK.out _ _ (HSW.out _ HST2.out) (fun _ => ?_)
        clear hK K
        refine wpAnyH_done (by kernel_rfl) ?_ _
        have hfin := HFIN.out
        rw [HT.out] at hfin
        exact hfin
      · go_simp
        refine hK.out _ _ (HSW.out _ HS5.out) (fun _ => ?_)
        clear hK K
        have cV5 := cA5
        refine wpAnyH_ready (rs := [5]) (by kernel_rfl) (by simp) (AllReadyH.cons rfl (fun K hK => ?_) AllReadyH.nil)
        go_simp
        refine hK.out _ _ (HSW.out _ HS5.out) (fun _ => ?_)
        clear hK K
        refine wpAnyH_ready (rs := [17]) (by kernel_rfl) (by simp) (AllReadyH.cons rfl (fun K hK => ?_) AllReadyH.nil)
        rw [if_pos (by rfl)]
        refine wp_append1L (W := (W.alloc (.cells #[.int .i64 (distV zs x i)] 3)).drew) (g0 := W.heap.size) (u := distV zs x i) 23 under_ints (.tmp 27) (.tmp 38) rfl rfl HR5.out rfl (cell_new_drew _ _ _) (by simp; omega) (show vn ≤ 1099511627776 by omega) ?_
        intro g c' w5 hA5 hS5 hN5
        have cw := (hS5.cell (p := ⟨A, i, none⟩) hAl hAva).trans cA5
        have fw := (hS5.frozen (p := ⟨A, i, none⟩) hAl hAva).trans fA5
        have HST : Hid (Stay W.heap.size (A :: blk va) W w5) := HS5.out.trans ((hS5.weak (by intro k hk; exact List.mem_cons_of_mem _ hk)).mono HB5.out.size)
        have HST2 := Lib.hid (HST.out.setCell (p := ⟨A, i, none⟩) (.inl (by simp)) (.slice (some ⟨g, 0, none⟩) (vn + 1) c'))
        have HFIN := Lib.hid (HVS.out g c' w5 hA5 hS5 hN5)
        clear hA5 hS5 hN5
        go_simp
        refine hK.out _ _ (HSW.out _ HST.out) (fun _ => ?_)
        clear hK K
        refine wpAnyH_ready (rs := [18]) (by kernel_rfl) (by simp) (AllReadyH.cons rfl (fun K hK => ?_) AllReadyH.nil)
        go_simp
        refine hK.out _ _ (HSW.out _ HST.out) (fun _ => ?_)
        clear hK K
        refine wpAnyH_ready (rs := [19]) (by kernel_rfl) (by simp) (AllReadyH.cons rfl (fun K hK => ?_) AllReadyH.nil)
        go_simp
        refine hK.out _ _ (HSW.out _ HST2.out) (fun _ => ?_)
        clear hK K
        refine wpAnyH_done (by kernel_rfl) ?_ _
        have hfin := HFIN.out
        rw [HT.out] at hfin
        exact hfin
    case done =>
      rintro D W hD hSW ⟨vs', hAW, hrow, hno⟩ hk'
      have hWs := hSW.size
      have hM2 : MarksOk w3.heap.size (D :: Ds) W := (hM1.stay hSW (fun X hX => ⟨hM1.lt X hX, by have h1 := (hM1.all X hX).1; simp; omega⟩)).push (B := W1.heap.size) hM1.lt hD (by omega) hk'
      have hS2 := hS1.trans (hSW.mono (by omega))
      rw [vecTo_next] at hAW
      have HA2 := Lib.hid hAW
      have HN2 := Lib.hid hno
      clear hAW hrow hno hA1 hM1 hnone
      go_wp2
      exact ⟨⟨i + 1, D :: Ds, vs', _, _, _, _, _, _, rfl, by omega, HA2.out, fun j v hj hv => HN2.out j v (by omega) hv, hS2, hM2⟩, by simp [intOf]; omega⟩
    case stop => exact fun _ _ _ _ _ _ h _ => h.elim
  · obtain rfl : i = n := by omega
    have cO := (Boxed.stay hO3 hSr (by omega) (by simp; omega)).cell
    go_wp2
    refine leaves_marks (lo := w3.heap.size) Ds _ hsr hM ?_
    intro W' hTn
    refine ⟨_, results_tmp rfl _ _ _, _, _, rfl, ?_, ?_⟩
    · have e : vecTo zs c i [] = vecsV zs c := by rw [hl.out]; exact vecTo_all zs c
      rw [← e, HXe.out]
      exact ⟨vs, hTn.kept.arrRV hA⟩
    · rw [HXe.out]
      have h3 := hB3.size
      exact hB3.trans ((hSr.below (lo := X) (by omega) (by simp; omega)).trans (hTn.below.mono (by omega)))
theorem vecsV_len (zs : List Int) (c : Nat) : (vecsV zs c).length = zs.length := by simp [vecsV]
theorem vecV_len (zs : List Int) (c i : Nat) : (vecV zs c i).length ≤ 12 := by
  unfold vecV; rw [List.length_map]; unfold bitsOf; exact Nat.le_trans (List.length_filter_le _ _) (by simp)
def CodeVectorsR (zs : List Int) (c : Int) : List (List Int) := if fitsB zs c then vecsV zs c.toNat else []
theorem CodeVectors_small {zs : List Int} {c : Int} : (CodeVectorsR zs c).length ≤ 4096 ∧ totLen (CodeVectorsR zs c) ≤ 4096 := by
  unfold CodeVectorsR
  split
  · rename_i h
    have hb := graphB_bd (fits_bd h).1
    rw [vecsV_len]
    refine ⟨by omega, ?_⟩
    have hall : ∀ (l : List (List Int)), (∀ r ∈ l, r.length ≤ 12) → totLen l ≤ 12 * l.length := by
      intro l
      induction l with
      | nil => intro _; simp [totLen]
      | cons r l ih =>
        intro h
        have h1 := ih fun x hx => h x (List.mem_cons_of_mem _ hx)
        have h2 := h r List.mem_cons_self
        simp only [totLen, List.map_cons, List.sum_cons, List.length_cons] at h1 ⊢
        omega
    have h3 := hall (vecsV zs c.toNat) (fun r hr => by
      obtain ⟨i, _, rfl⟩ := List.mem_map.1 hr
      exact vecV_len _ _ _)
    rw [vecsV_len] at h3; omega
  · simp [totLen]
set_option maxRecDepth 100000 in
set_option maxHeartbeats 1000000 in
theorem CodeVectors_any (a : Option Addr) (n cap : Nat) (zs : List Int) (c : Int) (w : World) (hs : SlAt w a n zs) (hc : -9223372036854775808 ≤ c ∧ c ≤ 9223372036854775807) :
    Calls Try.prog 26 #[.slice a n cap, .int .i64 c] w fun e w' => ∃ a' n' c', e = .returned (.tuple #[.slice a' n' c', .bool (fitsB zs c)]) ∧ ArrR w' w.heap.size a' n' c' (CodeVectorsR zs c) ∧ Below w.heap.size w w' := by
  cases hf : fitsB zs c with
  | false =>
    have HR := Lib.hid (show CodeVectorsR zs c = [] by simp [CodeVectorsR, hf])
    have HF := Lib.hid hf
    clear hf
    go_enter Try.func26, Try.ntmps26
    go_wp2_with (go_at_call 76; refine (codeFits_any _ _ _ _ _ _ hs).mono ?_; rintro e w1 ⟨rfl, hb1⟩; rw [HF.out])
    go_ret2
    exact ⟨_, _, _, rfl, by rw [HR.out]; exact ⟨[], ArrRV.nil _ _⟩, hb1⟩
  | true =>
    obtain ⟨hg, s, rfl, hs2, hs3⟩ := fits_bd hf
    have hG := isG_of hg
    rw [← hs.len] at hG hs2
    have HR := Lib.hid (show CodeVectorsR zs s = vecsV zs s by simp [CodeVectorsR, hf])
    have HF := Lib.hid hf
    have HG := Lib.hid hg
    have HS2 := Lib.hid hs2
    clear hf hg hs2
    go_enter Try.func26, Try.ntmps26
    go_wp2_with (go_at_call 76; refine (codeFits_any _ _ _ _ _ _ hs).mono ?_; rintro e w1 ⟨rfl, hb1⟩; rw [HF.out])
    refine (bookOf_any _ _ _ _ _ (hs.below hb1) HG.out).mono ?_
    rintro e w2 ⟨B, rfl, _, hBk, hb2⟩
    go_wp2_with fail
    refine (vectors_any B n zs s w2 hBk hG hs3 HS2.out).mono ?_
    rintro e w3 ⟨a3, c3, rfl, hA3, hb3⟩
    go_wp2
    go_ret2
    have hb12 := bnext hb1 hb2
    exact ⟨_, _, _, rfl, by rw [HR.out]; exact hA3.mono hb12.size, bnext hb12 hb3⟩
end Go.Proofs.Ytpllijjocccaaaa
namespace Go.Proofs.Ytpllijjocccaaaa
open Go.RowKit Go.Shelf

theorem sbit_v (v s : Int) (k : Nat) (i : Int) (w : World) (hs : 0 ≤ s) (hs2 : s < 4096) (hi : i = (k : Int)) (hk : k < 12) (hv : bitI s k = v) :
    Calls Try.prog 87 #[.int .i64 s, .int .i64 i] w fun e w' => e = .returned (.int .i64 v) ∧ w = w' := by
  subst hi hv
  exact (l1Bit_any s k hs (by omega) (by omega) (by omega) w).mono fun _ _ ⟨h, e⟩ => ⟨by rw [h, Int.toNat_natCast], e⟩
theorem sbitN (b : Bool) (s k : Nat) (i : Int) (w : World) (hs2 : s < 4096) (hi : i = (k : Int)) (hk : k < 12) (hb : s.testBit k = b) :
    Calls Try.prog 87 #[.int .i64 s, .int .i64 i] w fun e w' => e = .returned (.int .i64 (if b then 1 else 0)) ∧ w = w' :=
  sbit_v _ s k i w (by omega) (by omega) hi hk (by rw [bitI, Int.toNat_natCast, hb])
theorem ArrRV.empty' {w : World} {lo : Nat} (h : lo ≤ w.heap.size) : ArrRV (w.alloc (.cells #[] 23)) lo (some ⟨w.heap.size, 0, none⟩) 0 0 [] [] := ArrRV.empty w lo h
/-- the table of all distances, row by row -/
theorem tabV_take {zs : List Int} {k : Nat} (hk : k < zs.length) : (farV zs).take k ++ [distsV zs k] = (farV zs).take (k + 1) := farV_take hk
set_option maxRecDepth 100000 in
set_option maxHeartbeats 1000000 in
theorem l2Table_any (a : Option Addr) (n cap : Nat) (zs : List Int) (w : World) (hs : SlAt w a n zs) (hG : IsG n zs) :
    Calls Try.prog 62 #[.slice a n cap] w fun e w' => ∃ a' c', e = .returned (.slice a' n c') ∧ ArrR w' w.heap.size a' n c' (farV zs) ∧ Below w.heap.size w w' := by
  have hn2 := hG.le
  have hl := Lib.hid hG.len
  obtain ⟨b, off, rfl, hb, hc⟩ := hs.at' hG.pos
  have HC := Lib.hid hc
  have HS := Lib.hid hs
  clear hs hc
  go_enter Try.func62, Try.ntmps62
  go_wp2
  go_loopw [3, 4] (fun u p wr => ∃ (k : Nat) (a' : Option Addr) (c' : Nat) (vs : List RowV), k ≤ n ∧ p = .int .i64 k ∧ u = .slice a' k c' ∧ ArrRV wr w.heap.size a' k c' ((farV zs).take k) vs ∧ Below w.heap.size w wr) (fun _ p _ => 12 - (intOf p).toNat)
  case atStart => exact ⟨0, _, _, _, by omega, rfl, rfl, ArrRV.empty' (Nat.le_refl _), (Below.refl _ _).alloc (Nat.le_refl _) _⟩
  case round =>
    obtain ⟨k, a', c', vs, hk, rfl, rfl, hA, hB⟩ := hrel
    by_cases hlt : k < n
    · have hlt' : (k : Int) < n := by omega
      have hbl : b < wr.heap.size := Nat.lt_of_lt_of_le hb hB.size
      have HCr : Hid (∀ j, j < n → wr.cell? ⟨b, off + j, none⟩ = some (.int .i64 (zs.getD j 0))) := fun j hj => (hB.cell (p := ⟨b, off + j, none⟩) hb).trans (HC.out j hj)
      have HT := Lib.hid (tabV_take (zs := zs) (k := k) (by rw [← hl.out]; exact hlt))
      have HA := Lib.hid hA
      have HB := Lib.hid hB
      clear hA hB
      go_wp2_with fail
      refine (sl1Distances_any b off n cap zs k _ hG hbl HCr.out (by omega) (by omega)).mono ?_
      rintro e w2 ⟨a2, c2, rfl, hA2, hb2⟩
      rw [Int.toNat_natCast] at hA2
      have hA3 := HA.out.below hb2
      have hsz := HB.out.size
      have hs2 := hb2.size
      go_wp2_with (at_builtin; refine wpList_append1R (W := w2.alloc (.cells #[.slice (some ⟨a2, 0, none⟩) n c2] 23)) (W0 := wr) (g0 := w2.heap.size) (u := (some ⟨a2, 0, none⟩, n, c2)) (r := distsV zs k) rfl (.tmp 12) (.tmp 16) rfl rfl HA.out (hA3.below ((Below.refl _ _).alloc (Nat.le_refl _) _)) (hA2.alloc _) rfl (cell_new _ _ _) hsz (by simp; omega) (by omega) ?_; intro g c3 w3 hA4 hS4 _)
      rw [HT.out] at hA4
      have hB4 : Below w.heap.size w w3 := sbelow ((bnext HB.out hb2).alloc (Nat.le_trans hsz hs2) _) hS4 (blk_loR HA.out) (by simp; omega)
      clear hA3 hA2 hS4 hb2
      go_wp2
      go_roundw
      case rel => exact ⟨k + 1, _, _, _, by omega, by go_num, rfl, hA4, hB4⟩
      case measure => simp [intOf]; omega
    · obtain rfl : k = n := by omega
      go_wp2
      go_ret
      exact ⟨_, _, rfl, by rw [show farV zs = (farV zs).take k from (List.take_of_length_le (by rw [farV_len, ← hl.out]; exact Nat.le_refl _)).symm]; exact ⟨_, hA⟩, hB⟩

/-- the row of node i over the nodes of the code below k -/
def rowTo (zs : List Int) (c i k : Nat) : List Int := (bitsTo c k).map fun x => distV zs i x
theorem rowTo_succ (zs : List Int) (c i k : Nat) : rowTo zs c i (k + 1) = rowTo zs c i k ++ if c.testBit k then [distV zs i k] else [] := by
  unfold rowTo; rw [bitsTo_succ, List.map_append]; congr 1; split <;> rfl
theorem rowTo_len (zs : List Int) (c i k : Nat) : (rowTo zs c i k).length ≤ k := by unfold rowTo; rw [List.length_map]; exact bitsTo_len c k
theorem rowTo_all {zs : List Int} {c i n : Nat} (hG : IsG n zs) (hi : i < n) (hc : c < 2 ^ n) : rowTo zs c i n = vecV zs c i := by
  unfold rowTo vecV
  rw [bitsTo_all hG.le (Nat.div_eq_of_lt hc)]
  exact List.map_congr_left fun x hx => dist_symm hG hi (lt_of_mem_bitsOf hc hx)
theorem vecsV_take {zs : List Int} {c k : Nat} (hk : k < zs.length) : (vecsV zs c).take k ++ [vecV zs c k] = (vecsV zs c).take (k + 1) := by
  unfold vecsV
  rw [← List.map_take, ← List.map_take, List.take_range, List.take_range, Nat.min_eq_left (Nat.le_of_lt hk), Nat.min_eq_left hk, List.range_succ, List.map_append]; rfl
set_option maxRecDepth 100000 in
set_option maxHeartbeats 4000000 in
theorem l2Vectors_any (a : Option Addr) (n cap : Nat) (zs : List Int) (c : Nat) (w : World) (hs : SlAt w a n zs) (hG : IsG n zs) (hc : c < 4096) (hc2 : c < 2 ^ n) :
    Calls Try.prog 74 #[.slice a n cap, .int .i64 c] w fun e w' => ∃ a' c', e = .returned (.slice a' n c') ∧ ArrR w' w.heap.size a' n c' (vecsV zs c) ∧ Below w.heap.size w w' := by
  have hn2 := hG.le
  have hl := Lib.hid hG.len
  obtain ⟨b, off, rfl, hb, hc'⟩ := hs.at' hG.pos
  have HC := Lib.hid hc'
  have HS := Lib.hid hs
  have HC2 := Lib.hid hc2
  clear hs hc' hc2
  go_enter Try.func74, Try.ntmps74
  go_wp2
  go_loopw [5, 6] (fun u p wr => ∃ (k : Nat) (a' : Option Addr) (c' : Nat) (vs : List RowV), k ≤ n ∧ p = .int .i64 k ∧ u = .slice a' k c' ∧ ArrRV wr w.heap.size a' k c' ((vecsV zs c).take k) vs ∧ Below w.heap.size w wr) (fun _ p _ => 12 - (intOf p).toNat)
  case atStart => exact ⟨0, _, _, _, by omega, rfl, rfl, ArrRV.empty' (Nat.le_refl _), (Below.refl _ _).alloc (Nat.le_refl _) _⟩
  case round =>
    obtain ⟨i, a', c', vs, hk, rfl, rfl, hA, hB⟩ := hrel
    by_cases hlt : i < n
    · have hlt' : (i : Int) < n := by omega
      have hbl : b < wr.heap.size := Nat.lt_of_lt_of_le hb hB.size
      have HCr : Hid (∀ j, j < n → wr.cell? ⟨b, off + j, none⟩ = some (.int .i64 (zs.getD j 0))) := fun j hj => (hB.cell (p := ⟨b, off + j, none⟩) hb).trans (HC.out j hj)
      have HT := Lib.hid (vecsV_take (zs := zs) (c := c) (k := i) (by rw [← hl.out]; exact hlt))
      have HR := Lib.hid (rowTo_all hG hlt HC2.out)
      have HA := Lib.hid hA
      have HB := Lib.hid hB
      clear hA hB
      go_wp2_with fail
      refine (sl1Distances_any b off n cap zs i _ hG hbl HCr.out (by omega) (by omega)).mono ?_
      rintro e w2 ⟨a2, c2, rfl, hA2, hb2⟩
      rw [Int.toNat_natCast] at hA2
      go_wp2
      have h02 : Arr (w2.alloc (.cells #[] 3)) w2.heap.size (some ⟨w2.heap.size, 0, none⟩) 0 0 [] := Arr.empty' (Nat.le_refl _)
      have hD := Lib.hid (hA2.below ((Below.refl _ _).alloc (Nat.le_refl _) (.cells #[] 3)))
      have hBw := Lib.hid (hb2.trans (((Below.refl w2.heap.size w2).alloc (Nat.le_refl _) (.cells #[] 3)).mono hb2.size))
      have hlt2 : a2 < w2.heap.size := (hA2.lt _ rfl).2
      have hsz2 := hb2.size
      clear hb2
      go_loopw [8, 9] (fun u p W => ∃ (k m : Nat) (ar : Option Addr) (cr : Nat), k ≤ n ∧ p = .int .i64 k ∧ u = .slice ar m cr ∧ Arr W w2.heap.size ar m cr (rowTo zs c i k) ∧ Below w2.heap.size (w2.alloc (.cells #[] 3)) W) (fun _ p _ => 12 - (intOf p).toNat)
      case atStart => exact ⟨0, 0, _, _, by omega, rfl, rfl, by rw [show rowTo zs c i 0 = [] from rfl]; exact h02, Below.refl _ _⟩
      case round =>
        obtain ⟨k, m, ar, cr, hkn, rfl, rfl, hAr, hBr⟩ := hrel
        by_cases hkl : k < n
        · have hkl' : (k : Int) < n := by omega
          have hm : m ≤ 12 := by rw [hAr.len]; have := rowTo_len zs c i k; omega
          have cd := (hBr.cell (p := ⟨a2, k, none⟩) hlt2).trans (hD.out.cellAt k hkl)
          rw [List.getD_eq_getElem?_getD, distsV_at (by rw [← hl.out]; exact hkl)] at cd
          have HRS := Lib.hid (rowTo_succ zs c i k)
          have hszr := hBr.size
          have HAr := Lib.hid hAr
          have HBr := Lib.hid hBr
          clear hAr hBr
          cases hbit : c.testBit k with
          | true =>
            have HBit := Lib.hid hbit
            clear hbit
            go_wp2_with (first
              | (go_at_call 87; refine (sbitN true c k _ _ hc rfl (by omega) HBit.out).mono ?_; rintro e w' ⟨rfl, rfl⟩)
              | (at_builtin; refine wpList_append1 (W := wr.alloc (.cells #[.int .i64 (distV zs i k)] 3)) (g0 := wr.heap.size) (u := distV zs i k) 23 under_ints rfl (.tmp 31) (.tmp 36) rfl rfl (HAr.out.alloc _) rfl (cell_new _ _ _) (by simp at hszr ⊢; omega) (by omega) ?_; intro g c3 w3 hA3 hS3))
            have hA4 : Arr w3 w2.heap.size (some ⟨g, 0, none⟩) (m + 1) c3 (rowTo zs c i (k + 1)) := by rw [HRS.out, HBit.out]; exact hA3
            have hB4 : Below w2.heap.size (w2.alloc (.cells #[] 3)) w3 := sbelow (HBr.out.alloc (by simp at hszr; omega) _) hS3 (blk_lo HAr.out) (by simp at hszr ⊢; omega)
            clear hA3 hS3
            go_wp2
            go_roundw
            case rel => exact ⟨k + 1, _, _, _, by omega, by go_num, rfl, hA4, hB4⟩
            case measure => simp [intOf]; omega
          | false =>
            have HBit := Lib.hid hbit
            clear hbit
            have hA4 : Hid (Arr wr w2.heap.size ar m cr (rowTo zs c i (k + 1))) := by
              show Arr wr w2.heap.size ar m cr (rowTo zs c i (k + 1))
              rw [HRS.out, HBit.out]; simpa using HAr.out
            go_wp2_with (go_at_call 87; refine (sbitN false c k _ _ hc rfl (by omega) HBit.out).mono ?_; rintro e w' ⟨rfl, rfl⟩)
            go_roundw
            case rel => exact ⟨k + 1, _, _, _, by omega, by go_num, rfl, hA4.out, HBr.out⟩
            case measure => simp [intOf]; omega
        · obtain rfl : n = k := by omega
          rw [HR.out] at hAr
          have hB5 := hBw.out.trans (hBr.mono hsz2)
          have hA5 := HA.out.below hB5
          have hszr := hBr.size
          have hAr2 := hAr.mono hsz2
          have HB5 := Lib.hid hB5
          clear hAr hBr hB5
          go_wp2_with (at_builtin; refine wpList_append1R (W := wr.alloc (.cells #[.slice ar m cr] 23)) (W0 := _) (g0 := wr.heap.size) (u := (ar, m, cr)) (r := vecV zs c i) rfl (.tmp 38) (.tmp 40) rfl rfl HA.out (hA5.below ((Below.refl _ _).alloc (Nat.le_refl _) _)) (hAr2.alloc _) rfl (cell_new _ _ _) HB.out.size (by have := HB.out.size; have := HB5.out.size; simp; omega) (by omega) ?_; intro g c3 w3 hA6 hS6 _)
          rw [HT.out] at hA6
          have hB6 : Below w.heap.size w w3 := sbelow ((bnext HB.out HB5.out).alloc (Nat.le_trans HB.out.size HB5.out.size) _) hS6 (blk_loR HA.out) (by have := HB.out.size; have := HB5.out.size; simp; omega)
          clear hA5 hAr2 hS6
          go_wp2
          go_roundw
          case rel => exact ⟨i + 1, _, _, _, by omega, by go_num, rfl, hA6, hB6⟩
          case measure => simp [intOf]; omega
    · obtain rfl : i = n := by omega
      go_wp2
      go_ret
      exact ⟨_, _, rfl, by rw [show vecsV zs c = (vecsV zs c).take i from (List.take_of_length_le (by rw [vecsV_len, ← hl.out]; exact Nat.le_refl _)).symm]; exact ⟨_, hA⟩, hB⟩

set_option maxRecDepth 100000 in
set_option maxHeartbeats 1000000 in
theorem sCodeVectors_any (a : Option Addr) (n cap : Nat) (zs : List Int) (c : Int) (w : World) (hs : SlAt w a n zs) (hc : -9223372036854775808 ≤ c ∧ c ≤ 9223372036854775807) :
    Calls Try.prog 44 #[.slice a n cap, .int .i64 c] w fun e w' => ∃ a' n' c', e = .returned (.tuple #[.slice a' n' c', .bool (fitsB zs c)]) ∧ ArrR w' w.heap.size a' n' c' (CodeVectorsR zs c) ∧ Below w.heap.size w w' := by
  cases hg : graphB zs with
  | false =>
    have hf : fitsB zs c = false := by simp [fitsB, hg]
    have HR := Lib.hid (show CodeVectorsR zs c = [] by simp [CodeVectorsR, hf])
    have HF := Lib.hid hf
    have HG := Lib.hid hg
    clear hf hg
    go_enter Try.func44, Try.ntmps44
    go_wp2_with (go_at_call 60; refine (sGraphIn_is false _ _ _ _ _ hs HG.out).mono ?_; rintro e w1 ⟨rfl, hb1⟩)
    go_ret2
    exact ⟨_, _, _, by rw [HF.out]; rfl, by rw [HR.out]; exact ⟨_, ArrRV.empty' hb1.size⟩, hb1.alloc hb1.size _⟩
  | true =>
    have hn := (graphB_bd hg).2
    rw [← hs.len] at hn
    have hG := isG_of hg
    rw [← hs.len] at hG
    cases hv : (decide (0 ≤ c) && decide (c < 2 ^ n)) with
    | false =>
      have hf : fitsB zs c = false := by rw [fitsB, hg, ← hs.len, hv]; rfl
      have HR := Lib.hid (show CodeVectorsR zs c = [] by simp [CodeVectorsR, hf])
      have HF := Lib.hid hf
      have HG := Lib.hid hg
      have HV := Lib.hid hv
      clear hf hg hv
      go_enter Try.func44, Try.ntmps44
      go_wp2_with fail
      refine (sGraphIn_is true _ _ _ _ _ hs HG.out).mono ?_
      rintro e w1 ⟨rfl, hb1⟩
      go_wp2_with fail
      refine (l2Set_is false _ _ _ _ _ hn HV.out).mono ?_
      rintro e w' ⟨rfl, rfl⟩
      go_wp2
      go_ret2
      exact ⟨_, _, _, by rw [HF.out]; rfl, by rw [HR.out]; exact ⟨_, ArrRV.empty' hb1.size⟩, hb1.alloc hb1.size _⟩
    | true =>
      have hf : fitsB zs c = true := by rw [fitsB, hg, ← hs.len, hv]; rfl
      obtain ⟨_, s, rfl, hs2, hs3⟩ := fits_bd hf
      rw [← hs.len] at hs2
      have HS2 := Lib.hid hs2
      have HR := Lib.hid (show CodeVectorsR zs s = vecsV zs s by simp [CodeVectorsR, hf])
      have HF := Lib.hid hf
      have HG := Lib.hid hg
      have HV := Lib.hid hv
      clear hf hg hv hs2
      go_enter Try.func44, Try.ntmps44
      go_wp2_with fail
      refine (sGraphIn_is true _ _ _ _ _ hs HG.out).mono ?_
      rintro e w1 ⟨rfl, hb1⟩
      go_wp2_with fail
      refine (l2Set_is true _ _ _ _ _ hn HV.out).mono ?_
      rintro e w' ⟨rfl, rfl⟩
      go_wp2_with fail
      refine (l2Vectors_any _ _ _ _ s _ (hs.below hb1) hG hs3 HS2.out).mono ?_
      rintro e w3 ⟨a3, c3, rfl, hA3, hb3⟩
      go_wp2
      go_ret2
      exact ⟨_, _, _, by rw [HF.out]; rfl, by rw [HR.out]; exact hA3.mono hb1.size, bnext hb1 hb3⟩
end Go.Proofs.Ytpllijjocccaaaa
