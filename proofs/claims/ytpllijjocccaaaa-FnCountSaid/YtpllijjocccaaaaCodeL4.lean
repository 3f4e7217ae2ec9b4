/- Laws of marks, vectors, places and counts: plain mathematics. -/
import Derived.Test.YtpllijjocccaaaaCodeL3
import Derived.Test.YtpllijjocccaaaaPlace
namespace Go.Proofs.Ytpllijjocccaaaa

/-- marks are parts of the code -/
theorem mark_sub (zs : List Int) (c i : Nat) : bdiff (bN zs i &&& c) c = 0 := sub_bdiff fun x hx => by
  rw [Nat.testBit_and, Bool.and_eq_true] at hx; exact hx.2
theorem mark_self {zs : List Int} {c i : Nat} (h : c.testBit i = true) : (bN zs i &&& c).testBit i = true := by
  rw [Nat.testBit_and, bN_self, h]; rfl
theorem bN_symm {zs : List Int} {n i k : Nat} (hG : IsG n zs) : (bN zs i).testBit k = (bN zs k).testBit i := by
  rw [bN_bit, bN_bit]
  have h1 : adjB zs i k = adjB zs k i := by
    cases h : adjB zs i k with
    | true => exact (adj_symm hG _ _ h).symm
    | false => cases h2 : adjB zs k i with
      | false => rfl
      | true => rw [adj_symm hG _ _ h2] at h; cases h
  rw [h1]
  congr 1
  rw [decide_eq_decide]; exact eq_comm
theorem mark_symm {zs : List Int} {n c i k : Nat} (hG : IsG n zs) (hi : c.testBit i = true) (hk : c.testBit k = true) : (bN zs i &&& c).testBit k = (bN zs k &&& c).testBit i := by
  rw [Nat.testBit_and, Nat.testBit_and, hi, hk, bN_symm hG]
theorem vecV_len' (zs : List Int) (c i : Nat) : (vecV zs c i).length = card c := by unfold vecV card; rw [List.length_map]
/-- resolving codes tell nodes by their distances -/
theorem vec_inj {zs : List Int} {c i k : Nat} (h : isB zs 3 c = true) (hi : i < zs.length) (hk : k < zs.length) (he : vecV zs c i = vecV zs c k) : i = k := by
  rw [isB_3, resB_iff] at h
  have key : ∀ a b, a < zs.length → b < a → vecV zs c a ≠ vecV zs c b := by
    intro a b ha hb hv
    obtain ⟨x, h1, h2, h3⟩ := h a b ha hb
    refine h3 ?_
    have := List.map_inj_left.1 hv x (mem_bitsOf.2 ⟨h1, h2⟩)
    exact this
  rcases Nat.lt_trichotomy i k with h1 | h1 | h1
  · exact absurd he.symm (key k i hk h1)
  · exact h1
  · exact absurd he (key i k hi h1)
/-- what the law FnPlace says -/
theorem place_law {zs ys : List Int} {c : Nat} (h : 0 ≤ placeB zs c ys) : ∃ k : Nat, CodePlaceR zs c ys = k ∧ k < zs.length ∧ c < 2 ^ zs.length ∧ codeInB zs 3 c = true ∧ ∀ i, i < zs.length → (vecV zs c i = ys ↔ i = k) := by
  unfold CodePlaceR
  rw [if_pos h]
  unfold placeB at h ⊢
  split at h
  · rename_i hc
    rw [if_pos hc]
    have hI := (codeIn_iff (kind := 3)).1 hc
    rw [Int.toNat_natCast] at h ⊢
    rcases idxBy_cases (vecsV zs c).length (fun i => decide ((vecsV zs c).getD i [] = ys)) with ⟨k, hk, hp, _, he⟩ | ⟨_, he⟩
    · rw [vecsV_len] at hk
      have hm : vecV zs c k = ys := by
        have := of_decide_eq_true hp
        simpa [vecsV, hk] using this
      refine ⟨k, he, hk, hI.2.2.1, hc, fun i hi => ⟨fun hv => vec_inj hI.2.2.2 hi hk (hv.trans hm.symm), fun e => by rw [e]; exact hm⟩⟩
    · have h' : 0 ≤ idxBy (vecsV zs c).length (fun i => decide ((vecsV zs c).getD i [] = ys)) := h
      rw [he] at h'; omega
  · omega
/-- a distance of 0 to a node of the code is there for the code's nodes alone -/
theorem vec_zero {zs : List Int} {n c i : Nat} (hG : IsG n zs) (hc : c < 2 ^ n) (hi : i < n) : (0 : Int) ∈ vecV zs c i ↔ c.testBit i = true := by
  unfold vecV
  rw [List.mem_map]
  constructor
  · rintro ⟨x, hx, h0⟩
    have := (dist_zero hG (lt_of_mem_bitsOf hc hx)).1 h0
    subst this; exact (mem_bitsOf.1 hx).2
  · intro h
    have := hG.le
    exact ⟨i, mem_bitsOf.2 ⟨by omega, h⟩, dist_self hG hi⟩
theorem count_pos {P : Nat → Bool} {m : Int} {k s : Nat} (hs : s < k) (hc : (card s : Int) = m) (hp : P s = true) : 1 ≤ countTo P m k := by
  unfold countTo
  exact List.countP_pos_iff.2 ⟨s, List.mem_range.2 hs, by simp [hc, hp]⟩
theorem count_none {P : Nat → Bool} {m : Int} {k : Nat} (h : ∀ s, s < k → P s = true → m < card s) : countTo P m k = 0 := by
  unfold countTo
  rw [List.countP_eq_zero]
  intro s hs
  simp only [Bool.and_eq_true, decide_eq_true_eq, not_and]
  intro hc hp
  have := h s (List.mem_range.1 hs) hp
  omega
end Go.Proofs.Ytpllijjocccaaaa
