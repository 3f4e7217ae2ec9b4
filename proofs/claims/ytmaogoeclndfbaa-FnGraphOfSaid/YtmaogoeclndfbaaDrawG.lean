/- The drawn graphs: l91Graph. -/
import Derived.Test.YtmaogoeclndfbaaKind
import Derived.Test.YtmaogoeclndfbaaPick
namespace Go.Proofs.Ytmaogoeclndfbaa
open Go.RowKit Go.Shelf
attribute [local go_sem] Oper.semAt_some

theorem ArrR.stayR {w w' : World} {lo n cap R : Nat} {a : Option Addr} {rows : List (List Int)} (h : ArrR w lo a n cap rows) (hS : Stay w.heap.size [R] w w') (hR : R < lo) : ArrR w' lo a n cap rows := by
  obtain ⟨vs, h⟩ := h
  exact ⟨vs, h.stay' hS fun k hk hm => by have := h.ge k hk; simp at hm; omega⟩
theorem Arr.stayR {w w' : World} {lo n cap R : Nat} {a : Option Addr} {zs : List Int} (h : Arr w lo a n cap zs) (hS : Stay w.heap.size [R] w w') (hR : R < lo) : Arr w' lo a n cap zs :=
  h.stay' hS fun k hk hm => by have := h.ge k hk; simp at hm; omega
theorem blk_loA {w : World} {lo n cap : Nat} {a : Option Addr} {rows : List (List Int)} (h : ArrR w lo a n cap rows) : ∀ k ∈ blk a, lo ≤ k := by
  obtain ⟨vs, h⟩ := h; exact blk_loR h
theorem RdAt.app {w w' : World} {B R p lo : Nat} {sa : Option Addr} (h : RdAt w B R p) (hS : Stay w.heap.size (blk sa) w w') (hlo : ∀ k ∈ blk sa, lo ≤ k) (hR : R < lo) : RdAt w' B R p :=
  h.stay hS h.lt fun k hk => by have := hlo k hk; have := h.lo; exact ⟨by omega, by omega⟩
theorem Stay.next {w w1 w2 : World} {B : Nat} {ex : List Nat} (h : Stay B ex w w1) (k : Stay w1.heap.size ex w1 w2) (hB : B ≤ w1.heap.size) : Stay B ex w w2 := h.trans (k.mono hB)
theorem kTo_len (c n i : Nat) : (kTo c n i).length = n := by
  induction i with
  | zero => simp [kTo]
  | succ i ih =>
    rw [kTo_succ]
    have h : ∀ k o, (kRow c n i o k).length = o.length := by
      intro k o
      induction k with
      | zero => simp [kRow]
      | succ k ihk => rw [kRow_succ]; split <;> simp [joinV_len, ihk]
    rw [h, ih]
theorem kTo_bd (c n i : Nat) (hn : n ≤ 12) (hi : i ≤ n) : Bd12 (kTo c n i) := by
  induction i with
  | zero => exact Bd12_zero n
  | succ i ih =>
    rw [kTo_succ]
    have h : ∀ k, k ≤ i → ∀ o, Bd12 o → Bd12 (kRow c n i o k) := by
      intro k hk o ho
      induction k with
      | zero => simpa [kRow] using ho
      | succ k ihk =>
        rw [kRow_succ]
        split
        · exact joinV_bd (ihk (by omega)) (by omega) (by omega)
        · exact ihk (by omega)
    exact h i (Nat.le_refl _) _ (ih (by omega))
theorem putAll_bd {n : Nat} {es : List (List Int)} (hn : n ≤ 12) (h : ∀ r ∈ es, okE n r = true) : Bd12 (putAll n es) := by
  have H : ∀ (es : List (List Int)) (o : List Int), Bd12 o → (∀ r ∈ es, okE n r = true) → Bd12 (es.foldl putE o) := by
    intro es
    induction es with
    | nil => intro o ho _; exact ho
    | cons r es ih =>
      intro o ho hr
      obtain ⟨_, h1, h2, _⟩ := okE_two (hr r (by simp))
      exact ih _ (joinV_bd ho (by omega) (by omega)) fun r' hr' => hr r' (by simp [hr'])
  exact H es _ (Bd12_zero n) h
theorem GraphOfR_draw {n : Nat} {es : List (List Int)} (hn1 : 1 ≤ n) (hn : n ≤ 12) (h : ∀ r ∈ es, okE n r = true) : ofOk n es = true ∧ (GraphOfR n es).length = n ∧ Bd12 (GraphOfR n es) := by
  have h1 : ofOk n es = true := by
    simp only [ofOk, Bool.and_eq_true, decide_eq_true_eq, List.all_eq_true]
    exact ⟨⟨by omega, by omega⟩, h⟩
  refine ⟨h1, ?_, ?_⟩
  · rw [GraphOfR, if_pos h1, Int.toNat_natCast, putAll_len]
  · rw [GraphOfR, if_pos h1, Int.toNat_natCast]; exact putAll_bd hn h
theorem okE_pair {n i k : Nat} (hi : i < n) (hk : k < n) (hne : i ≠ k) : okE n [(i : Int), (k : Int)] = true := by
  simp [okE]; omega
theorem rows_snoc {n : Nat} {rows : List (List Int)} {r : List Int} (h : ∀ x ∈ rows, okE n x = true) (hr : okE n r = true) : ∀ x ∈ rows ++ [r], okE n x = true := by
  intro x hx
  rcases List.mem_append.1 hx with h1 | h1
  · exact h x h1
  · rw [List.mem_singleton.1 h1]; exact hr
theorem xor2_bd {zs : List Int} (h : Bd12 zs) : Bd12 (zs.set 0 (((zs[0]?.getD 0).toNat ^^^ 2 : Nat) : Int)) := fun i => by
  rw [List.getElem?_set]
  split
  · split
    · have h0 := h 0
      have h1 : (zs[0]?.getD 0).toNat ^^^ 2 < 2 ^ 12 := Nat.xor_lt_two_pow (by omega) (by omega)
      simp only [Option.getD_some]
      omega
    · simp
  · exact h i
/-- what l91Graph leaves -/
def DrawnG (B R p most : Nat) (w : World) (e : Ending) (w' : World) : Prop :=
  ∃ (a : Option Addr) (n c p' : Nat) (zs : List Int), e = .returned (.slice a n c) ∧ Arr w' w.heap.size a n c zs ∧ 1 ≤ n ∧ n ≤ most ∧ Bd12 zs ∧ RdAt w' B R p' ∧ p' ≤ p + 200 ∧ Stay w.heap.size [R] w w'
end Go.Proofs.Ytmaogoeclndfbaa
