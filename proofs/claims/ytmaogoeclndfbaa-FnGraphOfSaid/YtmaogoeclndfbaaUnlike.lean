/- unlike: a set of nodes has unlike marks. -/
import Derived.Maps.OwnIn
import Derived.Test.YtmaogoeclndfbaaCodeM
namespace Go.Proofs.Ytmaogoeclndfbaa
open Go.RowKit Go.Shelf Go.Maps
attribute [local go_sem] Oper.semAt_some

theorem keyInt : Keyed Try.prog 3 := int_keyed Try.underlying3
theorem zeroBool (w : World) : (zeroValue 4).run Try.prog w = .ok (.bool false) w := by kernel_rfl
/-- the map that 'seen' is when these keys have been stored -/
def seenD (l : List Int) : DataW Unit := l.foldl (fun D u => D.put (.int .i64 u) (.lit (.bool true))) (.map [])
theorem seenD_snoc (l : List Int) (u : Int) : seenD (l ++ [u]) = (seenD l).put (.int .i64 u) (.lit (.bool true)) := by simp [seenD, List.foldl_append]
theorem seenD_map : ∀ l, IsMap (seenD l) := by
  intro l
  unfold seenD
  have : ∀ (l : List Int) (D : DataW Unit), IsMap D → IsMap (l.foldl (fun D u => D.put (.int .i64 u) (.lit (.bool true))) D) := by
    intro l
    induction l with
    | nil => exact fun _ h => h
    | cons u l ih => exact fun D h => ih _ (h.put _ _)
  exact this l _ isMap_empty
theorem seenD_at (u : Int) : ∀ (l : List Int), (seenD l).atKey (.int .i64 u) (.lit (.bool false)) = .lit (.bool (decide (u ∈ l))) := by
  intro l
  have h : ∀ m : List Int, (seenD m.reverse).atKey (.int .i64 u) (.lit (.bool false)) = .lit (.bool (decide (u ∈ m.reverse))) := by
    intro m
    induction m with
    | nil => simp [seenD, DataW.atKey]
    | cons v m ih =>
      rw [List.reverse_cons, seenD_snoc]
      by_cases e : v = u
      · subst e
        rw [atKey_put_same (seenD_map _) (by simp [WideAt.IsKeyLit])]; simp
      · rw [atKey_put_other (by intro h; cases h; exact e rfl), ih]
        congr 2
        simp [Ne.symm e]
  have := h l.reverse
  simpa using this
theorem plainElem_bool_inv {v : Value} {z : DataW Unit × List MemPlace} (h : plainElem Try.prog 4 v = some z) : ∃ x, v = .bool x ∧ z = (.lit (.bool x), []) := by
  unfold plainElem at h
  rw [Try.underlying4] at h
  cases v <;> simp at h
  exact ⟨_, rfl, h.symm⟩
theorem ownsMap_at {W W' : World} {P : Program} {k : TypeId} {R : Value → Option (DataW Unit × List MemPlace)} {b n : Nat} {D : DataW Unit} (h : W.ownsMap P k R b n D) (hb : W'.heap[b]? = W.heap[b]?) : W'.ownsMap P k R b n D := by
  obtain ⟨es, clock, hb0, F, hs, hD⟩ := h
  exact ⟨es, clock, hb.trans hb0, F, hs, hD⟩
def uniqOn (ms : List Int) (s : Nat) : Bool := decide ((bitsOf s).map (fun x => ms[x]?.getD 0)).Nodup
def Wf64 (ms : List Int) : Prop := ∀ x, x < 12 → (Lit.int .i64 (ms[x]?.getD 0)).wf = true
theorem wf64_of {ms : List Int} (h : ∀ x, x < 12 → 0 ≤ ms[x]?.getD 0 ∧ ms[x]?.getD 0 < 4096) : Wf64 ms := fun x hx => by
  have := h x hx
  exact WalkArith.wf_i64 (by omega)
theorem nodup_prefix {l m : List Int} (h : l <+: m) (hm : m.Nodup) : l.Nodup := by
  obtain ⟨t, rfl⟩ := h
  exact (List.nodup_append.1 hm).1
theorem nodup_snoc {l : List Int} {u : Int} : (l ++ [u]).Nodup ↔ l.Nodup ∧ u ∉ l := by
  rw [List.nodup_append]
  constructor
  · rintro ⟨h1, _, h3⟩
    exact ⟨h1, fun hm => h3 u hm u (by simp) rfl⟩
  · rintro ⟨h1, h2⟩
    exact ⟨h1, by simp, fun a ha b hb => by simp at hb; subst hb; exact fun e => h2 (e ▸ ha)⟩
end Go.Proofs.Ytmaogoeclndfbaa
