/- A graph's book. -/
import Derived.Test.YtpllijjocccaaaaPair
namespace Go.Proofs.Ytpllijjocccaaaa
open Go.RowKit Go.Shelf

/-- block B holds a book's three fields -/
def Bk (W : World) (B : Nat) (v0 v1 v2 : Value) : Prop := W.heap[B]? = some (.cells #[v0, v1, v2] 59 (0, 0))
section
variable {W W' : World} {B : Nat} {v0 v1 v2 : Value}
theorem Bk.lt (h : Bk W B v0 v1 v2) : B < W.heap.size := (Array.getElem?_eq_some_iff.1 h).1
theorem Bk.cell0 (h : Bk W B v0 v1 v2) : W.cell? ⟨B, 0, none⟩ = some v0 := by simp [World.cell?, show W.heap[B]? = _ from h]
theorem Bk.cell1 (h : Bk W B v0 v1 v2) : W.cell? ⟨B, 1, none⟩ = some v1 := by simp [World.cell?, show W.heap[B]? = _ from h]
theorem Bk.cell2 (h : Bk W B v0 v1 v2) : W.cell? ⟨B, 2, none⟩ = some v2 := by simp [World.cell?, show W.heap[B]? = _ from h]
theorem Bk.frozen (h : Bk W B v0 v1 v2) (j : Nat) : W.frozen? ⟨B, j, none⟩ = false := by simp [World.frozen?, show W.heap[B]? = _ from h]
theorem Bk.stay {n : Nat} {ex : List Nat} (h : Bk W B v0 v1 v2) (hs : Stay n ex W W') (hB : B < n) (hx : B ∉ ex) : Bk W' B v0 v1 v2 := (hs.block B hB hx).trans h
theorem Bk.below (h : Bk W B v0 v1 v2) (hb : Below W.heap.size W W') : Bk W' B v0 v1 v2 := h.stay (Below.stay hb []) h.lt (List.not_mem_nil)
theorem Bk.set2 (h : Bk W B v0 v1 v2) (u : Value) : Bk (W.setCell ⟨B, 2, none⟩ u) B v0 v1 u := by
  unfold Bk at h ⊢
  simp [World.setCell, Array.getElem?_modify, h]
theorem Bk.new (W : World) (v0 v1 v2 : Value) : Bk (W.alloc (.cells #[v0, v1, v2] 59)) W.heap.size v0 v1 v2 := World.alloc_heap_new W _
end
def farV (zs : List Int) : List (List Int) := (List.range zs.length).map fun i => distsV zs i
theorem farV_take {zs : List Int} {k : Nat} (hk : k < zs.length) : (farV zs).take k ++ [distsV zs k] = (farV zs).take (k + 1) := by
  unfold farV
  rw [← List.map_take, ← List.map_take, List.take_range, List.take_range, Nat.min_eq_left (Nat.le_of_lt hk), Nat.min_eq_left hk, List.range_succ, List.map_append]; rfl
theorem farV_len (zs : List Int) : (farV zs).length = zs.length := by simp [farV]
/-- the pointer '⟨B, 0⟩' leads to the book of the graph zs -/
structure BookAt (w : World) (B : Nat) (n : Nat) (zs : List Int) : Prop where
  fields : ∃ a cap ab cb af cf, Bk w B (.slice a n cap) (.slice ab n cb) (.slice af n cf) ∧ SlAt w a n zs ∧ SlAt w ab n (ballsV zs) ∧ RowsAt w af n (farV zs)
theorem BookAt.below {w w' : World} {B n : Nat} {zs : List Int} (h : BookAt w B n zs) (hb : Below w.heap.size w w') : BookAt w' B n zs := by
  obtain ⟨a, cap, ab, cb, af, cf, h1, h2, h3, h4⟩ := h.fields
  exact ⟨a, cap, ab, cb, af, cf, h1.below hb, h2.below hb, h3.below hb, h4.below hb⟩

/-- .. and where it lies: the graph's own slice is a, the rest in blocks from lo on -/
structure BookOwn (w : World) (lo B : Nat) (a : Option Addr) (n : Nat) (zs : List Int) : Prop where
  low : lo ≤ B
  fields : ∃ cap ab cb af cf, Bk w B (.slice a n cap) (.slice ab n cb) (.slice af n cf) ∧ SlAt w a n zs ∧ Arr w lo ab n cb (ballsV zs) ∧ ArrR w lo af n cf (farV zs)
theorem BookOwn.at' {w : World} {lo B n : Nat} {a : Option Addr} {zs : List Int} (h : BookOwn w lo B a n zs) : BookAt w B n zs := by
  obtain ⟨cap, ab, cb, af, cf, h1, h2, h3, h4⟩ := h.fields
  exact ⟨a, cap, ab, cb, af, cf, h1, h2, h3.sl, h4.rowsAt⟩
theorem BookOwn.stay {w w' : World} {lo B n : Nat} {a : Option Addr} {zs : List Int} {ex : List Nat} (h : BookOwn w lo B a n zs) (hs : Stay w.heap.size ex w w') (hx : ∀ k ∈ ex, k < lo) (ha : ∀ k ∈ ex, ∀ x, a = some x → x.block ≠ k) : BookOwn w' lo B a n zs := by
  refine ⟨h.low, ?_⟩
  obtain ⟨cap, ab, cb, af, cf, h1, h2, h3, ⟨vs, h4⟩⟩ := h.fields
  refine ⟨cap, ab, cb, af, cf, h1.stay hs h1.lt (fun hm => by have := hx B hm; have := h.low; omega), h2.stay hs ha, ?_, ⟨vs, ?_⟩⟩
  · exact h3.stay hs (fun x hxx hm => by have h5 := (h3.lt x hxx).1; have h6 := hx _ hm; omega)
  · exact h4.stay hs (fun y hy hm => by have h5 := (h4.mainlt y hy).1; have h6 := hx _ hm; omega) (fun j v x hv hxx hm => by have h5 := (h4.rowlt hv x hxx).1; have h6 := hx _ hm; omega)
theorem BookOwn.below {w w' : World} {lo B n : Nat} {a : Option Addr} {zs : List Int} (h : BookOwn w lo B a n zs) (hb : Below w.heap.size w w') : BookOwn w' lo B a n zs := h.stay (Below.stay hb []) (by simp) (by simp)

theorem book_step {w w1 wr w2 w3 : World} {n cb k g3 c3 : Nat} {ab af : Option Addr} {zs : List Int} {v0 v1 v2 : Value} {rows : List (List Int)} {vs : List RowV} (h1 : w.heap.size ≤ w1.heap.size) (hAb0 : Arr w1 w.heap.size ab n cb (ballsV zs)) (hA : Arr wr w.heap.size ab n cb (ballsV zs))
    (hB : Below w.heap.size w wr) (haf : ∀ k ∈ blk af, w1.heap.size + 1 ≤ k) (hb2 : Below wr.drew.heap.size wr.drew w2) (o : Obj) (hS3 : Stay (w2.alloc o).heap.size (blk af) (w2.alloc o) w3) (hA3 : ArrRV w3 (w1.heap.size + 1) (some ⟨g3, 0, none⟩) (k + 1) c3 rows vs)
    (hK3 : Bk w3 w1.heap.size v0 v1 v2) (u : Value) :
    Bk (w3.setCell ⟨w1.heap.size, 2, none⟩ u) w1.heap.size v0 v1 u ∧ Arr (w3.setCell ⟨w1.heap.size, 2, none⟩ u) w.heap.size ab n cb (ballsV zs) ∧ ArrRV (w3.setCell ⟨w1.heap.size, 2, none⟩ u) (w1.heap.size + 1) (some ⟨g3, 0, none⟩) (k + 1) c3 rows vs ∧ Below w.heap.size w (w3.setCell ⟨w1.heap.size, 2, none⟩ u) := by
  have hS : Stay w3.heap.size [w1.heap.size] w3 (w3.setCell ⟨w1.heap.size, 2, none⟩ u) := (Stay.refl _ _ _).setCell (p := ⟨w1.heap.size, 2, none⟩) (.inl (by simp)) _
  have hb3 : Below wr.heap.size wr (w2.alloc o) := ((Below.refl _ _).drew.trans hb2).alloc hb2.size o
  have hsz := hB.size
  have hs3 := hb3.size
  have hA2 : Arr w3 w.heap.size ab n cb (ballsV zs) := (hA.below hb3).stay' hS3 fun j hj hm => by have h2 := hAb0.lt' j hj; have h3 := haf j hm; omega
  refine ⟨hK3.set2 u, hA2.stay' hS fun j hj hm => ?_, hA3.stay' hS fun j hj hm => ?_, ?_⟩
  · have h2 := hAb0.lt' j hj
    simp at hm; omega
  · have h2 := hA3.ge j hj
    simp at hm; omega
  · have hB2 : Below w.heap.size w (w2.alloc o) := hB.trans (hb3.mono hsz)
    exact ((hB2.trans (hS3.below (by omega) fun j hj => by have := haf j hj; omega))).setCell (p := ⟨w1.heap.size, 2, none⟩) h1 _
set_option maxRecDepth 100000 in
set_option maxHeartbeats 4000000 in
theorem bookOf_own (a : Option Addr) (n cap : Nat) (zs : List Int) (w : World) (hs : SlAt w a n zs) (hg : graphB zs = true) :
    Calls Try.prog 56 #[.slice a n cap] w fun e w' => ∃ B, e = .returned (.pointer (some ⟨B, 0, none⟩)) ∧ w.heap.size ≤ B ∧ BookOwn w' w.heap.size B a n zs ∧ Below w.heap.size w w' := by
  have hG := isG_of hg
  rw [← hs.len] at hG
  have hn2 := hG.le
  have hl := Lib.hid hs.len
  obtain ⟨b, off, rfl, hbl, hc⟩ := hs.at' hG.pos
  have HC := Lib.hid hc
  have HG := Lib.hid hg
  have HS := Lib.hid hs
  clear hg hs hc
  go_enter Try.func56, Try.ntmps56
  go_wp2_with fail
  refine (balls_any _ _ _ _ _ HS.out HG.out).mono ?_
  rintro e w1 ⟨ab, cb, rfl, hAb, hb1⟩
  go_wp2
  have hB0 : Below w.heap.size w (w1.alloc (.cells #[.slice (some ⟨b, off, none⟩) n cap, .slice ab n cb, .slice none 0 0] 59)) := hb1.alloc hb1.size _
  have hK0 := Bk.new w1 (.slice (some ⟨b, off, none⟩) n cap) (.slice ab n cb) (.slice none 0 0)
  have hAb0 := Lib.hid hAb
  go_loopw [12] (fun p wr => ∃ (k : Nat) (af : Option Addr) (cf : Nat), k ≤ n ∧ p = .int .i64 k ∧ Bk wr w1.heap.size (.slice (some ⟨b, off, none⟩) n cap) (.slice ab n cb) (.slice af k cf) ∧ Arr wr w.heap.size ab n cb (ballsV zs) ∧ ArrR wr (w1.heap.size + 1) af k cf ((farV zs).take k) ∧ Below w.heap.size w wr) (fun p _ => 12 - (intOf p).toNat)
  case atStart => exact ⟨0, none, 0, by omega, rfl, hK0, hAb.alloc _, ⟨[], ArrRV.nil _ _⟩, hB0⟩
  case round =>
    obtain ⟨k, af, cf, hk, rfl, hK, hAb, hF, hB⟩ := hrel
    obtain ⟨vs, hF⟩ := hF
    by_cases hlt : k < n
    · have hlt' : (k : Int) < n := by omega
      have hKlt := hK.lt
      have HS2 := Lib.hid (HS.out.below hB)
      have c0 := hK.cell0
      have c2 := hK.cell2
      have f2 := hK.frozen 2
      have HK := Lib.hid hK
      have HF := Lib.hid hF
      have HA := Lib.hid hAb
      have HB := Lib.hid hB
      clear hK hF hAb hB hK0 hB0
      have hd0 : Below wr.heap.size wr wr.drew := (Below.refl _ _).drew
      have HKd := Lib.hid (HK.out.below hd0)
      have HFd := Lib.hid (HF.out.below hd0)
      have HCd : Hid (∀ j, j < n → wr.drew.cell? ⟨b, off + j, none⟩ = some (.int .i64 (zs.getD j 0))) := fun j hj => (HB.out.cell (p := ⟨b, off + j, none⟩) hbl).trans (HC.out j hj)
      have hbl2 : b < wr.drew.heap.size := Nat.lt_of_lt_of_le hbl HB.out.size
      have HT := Lib.hid (farV_take (zs := zs) (k := k) (by rw [← hl.out]; exact hlt))
      have hsz1 : w1.heap.size + 1 ≤ wr.drew.heap.size := hKlt
      have haf : Hid (w1.heap.size ∉ blk af) := fun hm => by have := blk_loR HF.out _ hm; omega
      clear hd0
      go_wp2
      go_region_law (first
        | (go_simp; go_at_call 93; refine (distances_any b off n cap zs k wr.drew hG hbl2 HCd.out (by omega) (by omega)).mono ?_; rintro e w2 ⟨g2, d2, rfl, hA2, hb2⟩; rw [Int.toNat_natCast] at hA2; have c22 := (HKd.out.below hb2).cell2; have c24 := ((HKd.out.below hb2).below ((Below.refl _ _).alloc (Nat.le_refl _) (.cells #[.slice (some ⟨g2, 0, none⟩) n d2] 23))).cell2; have hs2 := hb2.size)
        | (refine step_append1R (W := w2.alloc (.cells #[.slice (some ⟨g2, 0, none⟩) n d2] 23)) (W0 := wr.drew) (lo := w1.heap.size + 1) (n := k) (cap := cf) (g0 := w2.heap.size) (sa := af) (u := (some ⟨g2, 0, none⟩, n, d2)) (r := distsV zs k) rfl (.tmp 19) (.tmp 26) rfl rfl HFd.out ((HFd.out.below hb2).below ((Below.refl _ _).alloc (Nat.le_refl _) _)) (hA2.alloc _) rfl (cell_new _ _ _) hsz1 (by simp; omega) (by omega) ?_; intro g3 c3 w3 hA3 hS3 _; have hK3 := ((HKd.out.below hb2).below ((Below.refl _ _).alloc (Nat.le_refl _) _)).stay hS3 (by simp; omega) haf.out; have c23 := hK3.cell2; have f23 := hK3.frozen 2))
      all_goals (
        have hF3 := book_step hb1.size hAb0.out HA.out HB.out (blk_loR HF.out) hb2 _ hS3 (by rw [HT.out] at hA3; exact hA3) hK3 (.slice (some ⟨g3, 0, none⟩) (k + 1) c3)
        have HF3 := Lib.hid hF3
        clear hF3 hA3 hS3 hK3 c23 f23 c24 c22 hA2
        go_wp2
        go_roundw
        case rel => exact ⟨k + 1, _, _, by omega, by go_num, HF3.out.1, HF3.out.2.1, ⟨_, HF3.out.2.2.1⟩, HF3.out.2.2.2⟩
        case measure => simp [intOf]; omega)
    · obtain rfl : n = k := by omega
      have HT : Hid ((farV zs).take n = farV zs) := by
        show (farV zs).take n = farV zs
        rw [List.take_of_length_le (by rw [farV_len, ← hl.out]; exact Nat.le_refl _)]
      have HK := Lib.hid hK
      have HA := Lib.hid hAb
      have HB := Lib.hid hB
      rw [HT.out] at hF
      have HF := Lib.hid hF
      clear hK hF hAb hB hK0 hB0
      go_wp2
      go_ret
      exact ⟨_, rfl, hb1.size, ⟨hb1.size, _, _, _, _, _, HK.out, HS.out.below HB.out, HA.out, ⟨vs, HF.out.mono (Nat.le_succ_of_le hb1.size)⟩⟩, HB.out⟩
theorem bookOf_any (a : Option Addr) (n cap : Nat) (zs : List Int) (w : World) (hs : SlAt w a n zs) (hg : graphB zs = true) :
    Calls Try.prog 56 #[.slice a n cap] w fun e w' => ∃ B, e = .returned (.pointer (some ⟨B, 0, none⟩)) ∧ w.heap.size ≤ B ∧ BookAt w' B n zs ∧ Below w.heap.size w w' :=
  (bookOf_own a n cap zs w hs hg).mono fun _ _ ⟨B, h1, h2, h3, h4⟩ => ⟨B, h1, h2, h3.at', h4⟩
end Go.Proofs.Ytpllijjocccaaaa
