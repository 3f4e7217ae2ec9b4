/- Least codes of paths and circles (printed by genpaths.py). -/
import Derived.Test.YtojfafmfnblocaaCodeL3
import Derived.Test.YtojfafmfnblocaaKind
namespace Go.Proofs.Ytojfafmfnblocaa

def dstB : List Nat → Bool
  | [] => true
  | a :: l => !(l.any fun b => a == b) && dstB l
def idF (bs : List Nat) (c : Nat) : Bool := (bs.map fun b => b &&& c).all (fun m => !(m == 0)) && dstB (bs.map fun b => b &&& c)
def domF (bs : List Nat) (c : Nat) : Bool := (bs.map fun b => b &&& c).all fun m => !(m == 0)
def ballL (zs : List Int) : List Nat := (List.range zs.length).map (bN zs)
theorem dstB_iff : ∀ l : List Nat, dstB l = true ↔ l.Nodup
  | [] => by simp [dstB]
  | a :: l => by
    rw [dstB, Bool.and_eq_true, dstB_iff l, List.nodup_cons]
    refine and_congr_left fun _ => ?_
    rw [Bool.not_eq_true', List.any_eq_false]
    constructor
    · intro h hm; exact h a hm (by simp)
    · intro h b hb he; exact h (by rw [eq_of_beq he]; exact hb)
theorem dom_iff (zs : List Int) (c : Nat) : isB zs 0 c = domF (ballL zs) c := by
  rw [isB_0, Bool.eq_iff_iff]
  unfold covB domF ballL
  rw [List.all_eq_true, List.all_eq_true]
  constructor
  · intro h m hm
    rw [List.map_map] at hm
    obtain ⟨i, hi, rfl⟩ := List.mem_map.1 hm
    have h1 := h i hi
    rw [markV_bN] at h1
    simp only [Bool.not_eq_true', decide_eq_false_iff_not] at h1
    show (!((bN zs i &&& c) == 0)) = true
    rw [Bool.not_eq_true', beq_eq_false_iff_ne]
    omega
  · intro h i hi
    have h1 := h (bN zs i &&& c) (List.mem_map.2 ⟨bN zs i, List.mem_map.2 ⟨i, hi, rfl⟩, rfl⟩)
    rw [Bool.not_eq_true', beq_eq_false_iff_ne] at h1
    rw [markV_bN, Bool.not_eq_true', decide_eq_false_iff_not]; omega
theorem id_iff (zs : List Int) (c : Nat) : isB zs 2 c = idF (ballL zs) c := by
  have hd := dom_iff zs c
  rw [isB_0] at hd
  rw [isB_2, hd]
  show (domF (ballL zs) c && _) = (domF (ballL zs) c && dstB _)
  congr 1
  rw [Bool.eq_iff_iff, dstB_iff, unlB_iff, ballL, List.map_map]
  constructor
  · intro h
    refine List.pairwise_map.2 (List.pairwise_iff_getElem.2 fun i j hi hj hij => ?_)
    rw [List.length_range] at hi hj
    rw [List.getElem_range, List.getElem_range]
    intro he
    have h1 := h j i hj hij (by rw [allV_bit]; simpa using hj) (by rw [allV_bit]; simpa using hi)
    have h2 := (mark_dif zs c j i).2 h1
    refine h2 ?_
    rw [markV_bN, markV_bN]
    have he' : bN zs i &&& c = bN zs j &&& c := he
    rw [he']
  · intro h i k hi hk _ _
    have h1 := List.pairwise_iff_getElem.1 (List.pairwise_map.1 h) k i (by rw [List.length_range]; omega) (by rw [List.length_range]; exact hi) hk
    rw [List.getElem_range, List.getElem_range] at h1
    refine (mark_dif zs c i k).1 fun he => h1 ?_
    rw [markV_bN, markV_bN] at he
    show bN zs k &&& c = bN zs i &&& c
    omega
theorem least_size {zs : List Int} {kind k b : Nat} (hg : graphB zs = true) (hk : kind ≤ 3) (hb : b < 2 ^ zs.length) (hc : card b = k) (h1 : isB zs kind b = true)
    (h2 : ∀ s, s < 2 ^ zs.length → isB zs kind s = true → k ≤ card s) : ∃ b', CodeLeastR zs kind = some b' ∧ card b' = k := by
  have hok : leastOk zs kind = true := by simp [leastOk, kindB, hg]; omega
  rw [CodeLeastR, if_pos hok, Int.toNat_natCast, leastV]
  rcases leastTo_spec (isB zs kind) (2 ^ zs.length) with ⟨_, h4⟩ | ⟨b', h3, h4, h5, h6⟩
  · rw [h4 b hb] at h1; cases h1
  · refine ⟨b', h3, ?_⟩
    have a := h6 b hb h1
    have a2 := h2 b' h4 h5
    omega
/-- no set below m with fewer than k nodes is a code -/
def loB (P : List Nat → Nat → Bool) (bs : List Nat) (k m : Nat) : Bool := (List.range m).all fun s => decide (k ≤ card s) || !P bs s
theorem loB_of {P : List Nat → Nat → Bool} {bs : List Nat} {k m : Nat} (h : loB P bs k m = true) : ∀ s, s < m → P bs s = true → k ≤ card s := by
  intro s hs hp
  have := List.all_eq_true.1 h s (List.mem_range.2 hs)
  rw [hp] at this
  simpa using this

theorem path_1 : ∃ b, CodeLeastR (kTo 0 1 1) 2 = some b ∧ card b = 1 := by
  have hb : ballL (kTo 0 1 1) = [1] := by decide +kernel
  have hl : (kTo 0 1 1).length = 1 := by decide +kernel
  refine least_size (kind := 2) (b := 1) (by decide +kernel) (by omega) (by rw [hl]; decide) (by decide +kernel) (by rw [id_iff, hb]; decide +kernel) ?_
  rw [hl]
  intro s hs h
  rw [id_iff, hb] at h
  exact loB_of (P := idF) (m := 2) (by decide +kernel) s hs h

theorem path_3 : ∃ b, CodeLeastR (kTo 0 3 3) 2 = some b ∧ card b = 2 := by
  have hb : ballL (kTo 0 3 3) = [3, 7, 6] := by decide +kernel
  have hl : (kTo 0 3 3).length = 3 := by decide +kernel
  refine least_size (kind := 2) (b := 5) (by decide +kernel) (by omega) (by rw [hl]; decide) (by decide +kernel) (by rw [id_iff, hb]; decide +kernel) ?_
  rw [hl]
  intro s hs h
  rw [id_iff, hb] at h
  exact loB_of (P := idF) (m := 8) (by decide +kernel) s hs h

theorem path_4 : ∃ b, CodeLeastR (kTo 0 4 4) 2 = some b ∧ card b = 3 := by
  have hb : ballL (kTo 0 4 4) = [3, 7, 14, 12] := by decide +kernel
  have hl : (kTo 0 4 4).length = 4 := by decide +kernel
  refine least_size (kind := 2) (b := 7) (by decide +kernel) (by omega) (by rw [hl]; decide) (by decide +kernel) (by rw [id_iff, hb]; decide +kernel) ?_
  rw [hl]
  intro s hs h
  rw [id_iff, hb] at h
  exact loB_of (P := idF) (m := 16) (by decide +kernel) s hs h

theorem path_5 : ∃ b, CodeLeastR (kTo 0 5 5) 2 = some b ∧ card b = 3 := by
  have hb : ballL (kTo 0 5 5) = [3, 7, 14, 28, 24] := by decide +kernel
  have hl : (kTo 0 5 5).length = 5 := by decide +kernel
  refine least_size (kind := 2) (b := 14) (by decide +kernel) (by omega) (by rw [hl]; decide) (by decide +kernel) (by rw [id_iff, hb]; decide +kernel) ?_
  rw [hl]
  intro s hs h
  rw [id_iff, hb] at h
  exact loB_of (P := idF) (m := 32) (by decide +kernel) s hs h

theorem path_6 : ∃ b, CodeLeastR (kTo 0 6 6) 2 = some b ∧ card b = 4 := by
  have hb : ballL (kTo 0 6 6) = [3, 7, 14, 28, 56, 48] := by decide +kernel
  have hl : (kTo 0 6 6).length = 6 := by decide +kernel
  refine least_size (kind := 2) (b := 29) (by decide +kernel) (by omega) (by rw [hl]; decide) (by decide +kernel) (by rw [id_iff, hb]; decide +kernel) ?_
  rw [hl]
  intro s hs h
  rw [id_iff, hb] at h
  exact loB_of (P := idF) (m := 64) (by decide +kernel) s hs h

theorem path_7 : ∃ b, CodeLeastR (kTo 0 7 7) 2 = some b ∧ card b = 4 := by
  have hb : ballL (kTo 0 7 7) = [3, 7, 14, 28, 56, 112, 96] := by decide +kernel
  have hl : (kTo 0 7 7).length = 7 := by decide +kernel
  refine least_size (kind := 2) (b := 85) (by decide +kernel) (by omega) (by rw [hl]; decide) (by decide +kernel) (by rw [id_iff, hb]; decide +kernel) ?_
  rw [hl]
  intro s hs h
  rw [id_iff, hb] at h
  exact loB_of (P := idF) (m := 128) (by decide +kernel) s hs h

theorem path_8 : ∃ b, CodeLeastR (kTo 0 8 8) 2 = some b ∧ card b = 5 := by
  have hb : ballL (kTo 0 8 8) = [3, 7, 14, 28, 56, 112, 224, 192] := by decide +kernel
  have hl : (kTo 0 8 8).length = 8 := by decide +kernel
  refine least_size (kind := 2) (b := 117) (by decide +kernel) (by omega) (by rw [hl]; decide) (by decide +kernel) (by rw [id_iff, hb]; decide +kernel) ?_
  rw [hl]
  intro s hs h
  rw [id_iff, hb] at h
  exact loB_of (P := idF) (m := 256) (by decide +kernel) s hs h

theorem path_9 : ∃ b, CodeLeastR (kTo 0 9 9) 2 = some b ∧ card b = 5 := by
  have hb : ballL (kTo 0 9 9) = [3, 7, 14, 28, 56, 112, 224, 448, 384] := by decide +kernel
  have hl : (kTo 0 9 9).length = 9 := by decide +kernel
  refine least_size (kind := 2) (b := 341) (by decide +kernel) (by omega) (by rw [hl]; decide) (by decide +kernel) (by rw [id_iff, hb]; decide +kernel) ?_
  rw [hl]
  intro s hs h
  rw [id_iff, hb] at h
  exact loB_of (P := idF) (m := 512) (by decide +kernel) s hs h

theorem path_10 : ∃ b, CodeLeastR (kTo 0 10 10) 2 = some b ∧ card b = 6 := by
  have hb : ballL (kTo 0 10 10) = [3, 7, 14, 28, 56, 112, 224, 448, 896, 768] := by decide +kernel
  have hl : (kTo 0 10 10).length = 10 := by decide +kernel
  refine least_size (kind := 2) (b := 462) (by decide +kernel) (by omega) (by rw [hl]; decide) (by decide +kernel) (by rw [id_iff, hb]; decide +kernel) ?_
  rw [hl]
  intro s hs h
  rw [id_iff, hb] at h
  exact loB_of (P := idF) (m := 1024) (by decide +kernel) s hs h

theorem path_11 : ∃ b, CodeLeastR (kTo 0 11 11) 2 = some b ∧ card b = 6 := by
  have hb : ballL (kTo 0 11 11) = [3, 7, 14, 28, 56, 112, 224, 448, 896, 1792, 1536] := by decide +kernel
  have hl : (kTo 0 11 11).length = 11 := by decide +kernel
  refine least_size (kind := 2) (b := 1365) (by decide +kernel) (by omega) (by rw [hl]; decide) (by decide +kernel) (by rw [id_iff, hb]; decide +kernel) ?_
  rw [hl]
  intro s hs h
  rw [id_iff, hb] at h
  exact loB_of (P := idF) (m := 2048) (by decide +kernel) s hs h

theorem path_12 : ∃ b, CodeLeastR (kTo 0 12 12) 2 = some b ∧ card b = 7 := by
  have hb : ballL (kTo 0 12 12) = [3, 7, 14, 28, 56, 112, 224, 448, 896, 1792, 3584, 3072] := by decide +kernel
  have hl : (kTo 0 12 12).length = 12 := by decide +kernel
  refine least_size (kind := 2) (b := 1877) (by decide +kernel) (by omega) (by rw [hl]; decide) (by decide +kernel) (by rw [id_iff, hb]; decide +kernel) ?_
  rw [hl]
  intro s hs h
  rw [id_iff, hb] at h
  exact loB_of (P := idF) (m := 4096) (by decide +kernel) s hs h

theorem ring_4 : ∃ b, CodeLeastR (kTo 1 4 4) 2 = some b ∧ card b = 3 := by
  have hb : ballL (kTo 1 4 4) = [11, 7, 14, 13] := by decide +kernel
  have hl : (kTo 1 4 4).length = 4 := by decide +kernel
  refine least_size (kind := 2) (b := 7) (by decide +kernel) (by omega) (by rw [hl]; decide) (by decide +kernel) (by rw [id_iff, hb]; decide +kernel) ?_
  rw [hl]
  intro s hs h
  rw [id_iff, hb] at h
  exact loB_of (P := idF) (m := 16) (by decide +kernel) s hs h

theorem ring_5 : ∃ b, CodeLeastR (kTo 1 5 5) 2 = some b ∧ card b = 3 := by
  have hb : ballL (kTo 1 5 5) = [19, 7, 14, 28, 25] := by decide +kernel
  have hl : (kTo 1 5 5).length = 5 := by decide +kernel
  refine least_size (kind := 2) (b := 7) (by decide +kernel) (by omega) (by rw [hl]; decide) (by decide +kernel) (by rw [id_iff, hb]; decide +kernel) ?_
  rw [hl]
  intro s hs h
  rw [id_iff, hb] at h
  exact loB_of (P := idF) (m := 32) (by decide +kernel) s hs h

theorem ring_6 : ∃ b, CodeLeastR (kTo 1 6 6) 2 = some b ∧ card b = 3 := by
  have hb : ballL (kTo 1 6 6) = [35, 7, 14, 28, 56, 49] := by decide +kernel
  have hl : (kTo 1 6 6).length = 6 := by decide +kernel
  refine least_size (kind := 2) (b := 21) (by decide +kernel) (by omega) (by rw [hl]; decide) (by decide +kernel) (by rw [id_iff, hb]; decide +kernel) ?_
  rw [hl]
  intro s hs h
  rw [id_iff, hb] at h
  exact loB_of (P := idF) (m := 64) (by decide +kernel) s hs h

theorem ring_7 : ∃ b, CodeLeastR (kTo 1 7 7) 2 = some b ∧ card b = 5 := by
  have hb : ballL (kTo 1 7 7) = [67, 7, 14, 28, 56, 112, 97] := by decide +kernel
  have hl : (kTo 1 7 7).length = 7 := by decide +kernel
  refine least_size (kind := 2) (b := 31) (by decide +kernel) (by omega) (by rw [hl]; decide) (by decide +kernel) (by rw [id_iff, hb]; decide +kernel) ?_
  rw [hl]
  intro s hs h
  rw [id_iff, hb] at h
  exact loB_of (P := idF) (m := 128) (by decide +kernel) s hs h

theorem ring_8 : ∃ b, CodeLeastR (kTo 1 8 8) 2 = some b ∧ card b = 4 := by
  have hb : ballL (kTo 1 8 8) = [131, 7, 14, 28, 56, 112, 224, 193] := by decide +kernel
  have hl : (kTo 1 8 8).length = 8 := by decide +kernel
  refine least_size (kind := 2) (b := 85) (by decide +kernel) (by omega) (by rw [hl]; decide) (by decide +kernel) (by rw [id_iff, hb]; decide +kernel) ?_
  rw [hl]
  intro s hs h
  rw [id_iff, hb] at h
  exact loB_of (P := idF) (m := 256) (by decide +kernel) s hs h

theorem ring_9 : ∃ b, CodeLeastR (kTo 1 9 9) 2 = some b ∧ card b = 6 := by
  have hb : ballL (kTo 1 9 9) = [259, 7, 14, 28, 56, 112, 224, 448, 385] := by decide +kernel
  have hl : (kTo 1 9 9).length = 9 := by decide +kernel
  refine least_size (kind := 2) (b := 119) (by decide +kernel) (by omega) (by rw [hl]; decide) (by decide +kernel) (by rw [id_iff, hb]; decide +kernel) ?_
  rw [hl]
  intro s hs h
  rw [id_iff, hb] at h
  exact loB_of (P := idF) (m := 512) (by decide +kernel) s hs h

theorem ring_10 : ∃ b, CodeLeastR (kTo 1 10 10) 2 = some b ∧ card b = 5 := by
  have hb : ballL (kTo 1 10 10) = [515, 7, 14, 28, 56, 112, 224, 448, 896, 769] := by decide +kernel
  have hl : (kTo 1 10 10).length = 10 := by decide +kernel
  refine least_size (kind := 2) (b := 341) (by decide +kernel) (by omega) (by rw [hl]; decide) (by decide +kernel) (by rw [id_iff, hb]; decide +kernel) ?_
  rw [hl]
  intro s hs h
  rw [id_iff, hb] at h
  exact loB_of (P := idF) (m := 1024) (by decide +kernel) s hs h

theorem ring_11 : ∃ b, CodeLeastR (kTo 1 11 11) 2 = some b ∧ card b = 7 := by
  have hb : ballL (kTo 1 11 11) = [1027, 7, 14, 28, 56, 112, 224, 448, 896, 1792, 1537] := by decide +kernel
  have hl : (kTo 1 11 11).length = 11 := by decide +kernel
  refine least_size (kind := 2) (b := 463) (by decide +kernel) (by omega) (by rw [hl]; decide) (by decide +kernel) (by rw [id_iff, hb]; decide +kernel) ?_
  rw [hl]
  intro s hs h
  rw [id_iff, hb] at h
  exact loB_of (P := idF) (m := 2048) (by decide +kernel) s hs h

theorem ring_12 : ∃ b, CodeLeastR (kTo 1 12 12) 2 = some b ∧ card b = 6 := by
  have hb : ballL (kTo 1 12 12) = [2051, 7, 14, 28, 56, 112, 224, 448, 896, 1792, 3584, 3073] := by decide +kernel
  have hl : (kTo 1 12 12).length = 12 := by decide +kernel
  refine least_size (kind := 2) (b := 1365) (by decide +kernel) (by omega) (by rw [hl]; decide) (by decide +kernel) (by rw [id_iff, hb]; decide +kernel) ?_
  rw [hl]
  intro s hs h
  rw [id_iff, hb] at h
  exact loB_of (P := idF) (m := 4096) (by decide +kernel) s hs h

theorem rdom_3 : ∃ b, CodeLeastR (kTo 1 3 3) 0 = some b ∧ card b = 1 := by
  have hb : ballL (kTo 1 3 3) = [7, 7, 7] := by decide +kernel
  have hl : (kTo 1 3 3).length = 3 := by decide +kernel
  refine least_size (kind := 0) (b := 1) (by decide +kernel) (by omega) (by rw [hl]; decide) (by decide +kernel) (by rw [dom_iff, hb]; decide +kernel) ?_
  rw [hl]
  intro s hs h
  rw [dom_iff, hb] at h
  exact loB_of (P := domF) (m := 8) (by decide +kernel) s hs h

theorem rdom_4 : ∃ b, CodeLeastR (kTo 1 4 4) 0 = some b ∧ card b = 2 := by
  have hb : ballL (kTo 1 4 4) = [11, 7, 14, 13] := by decide +kernel
  have hl : (kTo 1 4 4).length = 4 := by decide +kernel
  refine least_size (kind := 0) (b := 3) (by decide +kernel) (by omega) (by rw [hl]; decide) (by decide +kernel) (by rw [dom_iff, hb]; decide +kernel) ?_
  rw [hl]
  intro s hs h
  rw [dom_iff, hb] at h
  exact loB_of (P := domF) (m := 16) (by decide +kernel) s hs h

theorem rdom_5 : ∃ b, CodeLeastR (kTo 1 5 5) 0 = some b ∧ card b = 2 := by
  have hb : ballL (kTo 1 5 5) = [19, 7, 14, 28, 25] := by decide +kernel
  have hl : (kTo 1 5 5).length = 5 := by decide +kernel
  refine least_size (kind := 0) (b := 5) (by decide +kernel) (by omega) (by rw [hl]; decide) (by decide +kernel) (by rw [dom_iff, hb]; decide +kernel) ?_
  rw [hl]
  intro s hs h
  rw [dom_iff, hb] at h
  exact loB_of (P := domF) (m := 32) (by decide +kernel) s hs h

theorem rdom_6 : ∃ b, CodeLeastR (kTo 1 6 6) 0 = some b ∧ card b = 2 := by
  have hb : ballL (kTo 1 6 6) = [35, 7, 14, 28, 56, 49] := by decide +kernel
  have hl : (kTo 1 6 6).length = 6 := by decide +kernel
  refine least_size (kind := 0) (b := 9) (by decide +kernel) (by omega) (by rw [hl]; decide) (by decide +kernel) (by rw [dom_iff, hb]; decide +kernel) ?_
  rw [hl]
  intro s hs h
  rw [dom_iff, hb] at h
  exact loB_of (P := domF) (m := 64) (by decide +kernel) s hs h

theorem rdom_7 : ∃ b, CodeLeastR (kTo 1 7 7) 0 = some b ∧ card b = 3 := by
  have hb : ballL (kTo 1 7 7) = [67, 7, 14, 28, 56, 112, 97] := by decide +kernel
  have hl : (kTo 1 7 7).length = 7 := by decide +kernel
  refine least_size (kind := 0) (b := 19) (by decide +kernel) (by omega) (by rw [hl]; decide) (by decide +kernel) (by rw [dom_iff, hb]; decide +kernel) ?_
  rw [hl]
  intro s hs h
  rw [dom_iff, hb] at h
  exact loB_of (P := domF) (m := 128) (by decide +kernel) s hs h

theorem rdom_8 : ∃ b, CodeLeastR (kTo 1 8 8) 0 = some b ∧ card b = 3 := by
  have hb : ballL (kTo 1 8 8) = [131, 7, 14, 28, 56, 112, 224, 193] := by decide +kernel
  have hl : (kTo 1 8 8).length = 8 := by decide +kernel
  refine least_size (kind := 0) (b := 37) (by decide +kernel) (by omega) (by rw [hl]; decide) (by decide +kernel) (by rw [dom_iff, hb]; decide +kernel) ?_
  rw [hl]
  intro s hs h
  rw [dom_iff, hb] at h
  exact loB_of (P := domF) (m := 256) (by decide +kernel) s hs h

theorem rdom_9 : ∃ b, CodeLeastR (kTo 1 9 9) 0 = some b ∧ card b = 3 := by
  have hb : ballL (kTo 1 9 9) = [259, 7, 14, 28, 56, 112, 224, 448, 385] := by decide +kernel
  have hl : (kTo 1 9 9).length = 9 := by decide +kernel
  refine least_size (kind := 0) (b := 73) (by decide +kernel) (by omega) (by rw [hl]; decide) (by decide +kernel) (by rw [dom_iff, hb]; decide +kernel) ?_
  rw [hl]
  intro s hs h
  rw [dom_iff, hb] at h
  exact loB_of (P := domF) (m := 512) (by decide +kernel) s hs h

theorem rdom_10 : ∃ b, CodeLeastR (kTo 1 10 10) 0 = some b ∧ card b = 4 := by
  have hb : ballL (kTo 1 10 10) = [515, 7, 14, 28, 56, 112, 224, 448, 896, 769] := by decide +kernel
  have hl : (kTo 1 10 10).length = 10 := by decide +kernel
  refine least_size (kind := 0) (b := 147) (by decide +kernel) (by omega) (by rw [hl]; decide) (by decide +kernel) (by rw [dom_iff, hb]; decide +kernel) ?_
  rw [hl]
  intro s hs h
  rw [dom_iff, hb] at h
  exact loB_of (P := domF) (m := 1024) (by decide +kernel) s hs h

theorem rdom_11 : ∃ b, CodeLeastR (kTo 1 11 11) 0 = some b ∧ card b = 4 := by
  have hb : ballL (kTo 1 11 11) = [1027, 7, 14, 28, 56, 112, 224, 448, 896, 1792, 1537] := by decide +kernel
  have hl : (kTo 1 11 11).length = 11 := by decide +kernel
  refine least_size (kind := 0) (b := 293) (by decide +kernel) (by omega) (by rw [hl]; decide) (by decide +kernel) (by rw [dom_iff, hb]; decide +kernel) ?_
  rw [hl]
  intro s hs h
  rw [dom_iff, hb] at h
  exact loB_of (P := domF) (m := 2048) (by decide +kernel) s hs h

theorem rdom_12 : ∃ b, CodeLeastR (kTo 1 12 12) 0 = some b ∧ card b = 4 := by
  have hb : ballL (kTo 1 12 12) = [2051, 7, 14, 28, 56, 112, 224, 448, 896, 1792, 3584, 3073] := by decide +kernel
  have hl : (kTo 1 12 12).length = 12 := by decide +kernel
  refine least_size (kind := 0) (b := 585) (by decide +kernel) (by omega) (by rw [hl]; decide) (by decide +kernel) (by rw [dom_iff, hb]; decide +kernel) ?_
  rw [hl]
  intro s hs h
  rw [dom_iff, hb] at h
  exact loB_of (P := domF) (m := 4096) (by decide +kernel) s hs h

theorem path_all {n : Nat} (h : n = 1 ∨ (3 ≤ n ∧ n ≤ 12)) : ∃ b, CodeLeastR (kTo 0 n n) 2 = some b ∧ card b = n / 2 + 1 := by
  rcases (show n = 1 ∨ n = 3 ∨ n = 4 ∨ n = 5 ∨ n = 6 ∨ n = 7 ∨ n = 8 ∨ n = 9 ∨ n = 10 ∨ n = 11 ∨ n = 12 by omega) with rfl | rfl | rfl | rfl | rfl | rfl | rfl | rfl | rfl | rfl | rfl
  · exact path_1
  · exact path_3
  · exact path_4
  · exact path_5
  · exact path_6
  · exact path_7
  · exact path_8
  · exact path_9
  · exact path_10
  · exact path_11
  · exact path_12

theorem rdom_all {n : Nat} (h : 3 ≤ n ∧ n ≤ 12) : ∃ b, CodeLeastR (kTo 1 n n) 0 = some b ∧ card b = (n + 2) / 3 := by
  rcases (show n = 3 ∨ n = 4 ∨ n = 5 ∨ n = 6 ∨ n = 7 ∨ n = 8 ∨ n = 9 ∨ n = 10 ∨ n = 11 ∨ n = 12 by omega) with rfl | rfl | rfl | rfl | rfl | rfl | rfl | rfl | rfl | rfl
  · exact rdom_3
  · exact rdom_4
  · exact rdom_5
  · exact rdom_6
  · exact rdom_7
  · exact rdom_8
  · exact rdom_9
  · exact rdom_10
  · exact rdom_11
  · exact rdom_12

theorem ring_all {n : Nat} (h : 4 ≤ n ∧ n ≤ 12) : ∃ b, CodeLeastR (kTo 1 n n) 2 = some b ∧ card b = (if n < 6 then 3 else if n % 2 = 0 then n / 2 else (n + 3) / 2) := by
  rcases (show n = 4 ∨ n = 5 ∨ n = 6 ∨ n = 7 ∨ n = 8 ∨ n = 9 ∨ n = 10 ∨ n = 11 ∨ n = 12 by omega) with rfl | rfl | rfl | rfl | rfl | rfl | rfl | rfl | rfl
  · exact ring_4
  · exact ring_5
  · exact ring_6
  · exact ring_7
  · exact ring_8
  · exact ring_9
  · exact ring_10
  · exact ring_11
  · exact ring_12

end Go.Proofs.Ytojfafmfnblocaa
