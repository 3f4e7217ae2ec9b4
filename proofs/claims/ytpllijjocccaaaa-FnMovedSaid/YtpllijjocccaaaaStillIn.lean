/- A region of reads ahead of one store, within a round of a range over a function. -/
import Derived.StillTailTactics
import Derived.OrdersIn
import Derived.OwnWalkIn
import Derived.RangeFuncCalls
import Derived.WalkKit
import Derived.Deep.RegionHeld
namespace Go.Proofs.Ytpllijjocccaaaa
open Go.RowKit

def noDefer (l : List Oper) : Bool := l.all fun o => match o.op with | .defer _ => false | _ => true
theorem noDefer_at {l : List Oper} (h : noDefer l = true) {i : Nat} {o : Oper} (ho : l.toArray[i]? = some o) : ∀ c, o.op ≠ .defer c := by
  intro c hc
  have hm : o ∈ l := by
    have h1 : l[i]? = some o := by simpa using ho
    exact List.mem_of_getElem? h1
  have h2 := List.all_eq_true.1 h o hm
  rw [hc] at h2
  cases h2
section
variable {P : Program} {ops : Array Oper} {md : Region.Mode} {w : World} {l n : Nat}
theorem wpIn_of_still' {o : Oper} {a : Act} {K : Act → Prop} {K' : Act → World → Prop} {Q' : Exit → Act → World → Prop} (hd : ∀ c, o.op ≠ .defer c) (h : ∀ a, K a → K' a w) (hh : o.still P a w K) :
    o.wpIn (Fence.wide.inRound l) n P a w K' Q' := by
  unfold Oper.still at hh
  unfold Oper.wpIn
  refine ⟨fun _ _ => trivial, ?_⟩
  rw [Oper.semAt_plain (Fence.wide.inRound l) _ _ hd]
  generalize (execOp a.eval o).run P w = r at *
  cases r with
  | ok x w' =>
    cases x <;> simp only [Oper.stillUpon] at hh <;> simp only [Oper.uponIn]
    case enter f args =>
      obtain ⟨rfl, v, hc, hn⟩ := hh
      refine ⟨fun hsm => by simp [Fence.wide] at hsm, ?_⟩
      exact (CallsIn.inRound l (callsIn_wide.2 hc)).mono fun e w'' ⟨he, hw⟩ => by subst he; subst hw; exact h _ hn
    all_goals (obtain ⟨rfl, h2⟩ := hh; exact h _ h2)
  | halt x w' => simp only [Oper.stillUpon] at hh
theorem wpOpIn_of_stOp' {i : Nat} {a : Act} {K : Act → Prop} {K' : Act → World → Prop} {Q' : Exit → Act → World → Prop} (hd : ∀ o, ops[i]? = some o → ∀ c, o.op ≠ .defer c) (h : ∀ a, K a → K' a w) (hh : stOp P ops w i K a) :
    wpOpIn (Fence.wide.inRound l) n P ops Q' i K' a w := by
  unfold stOp at hh
  unfold wpOpIn
  split
  · rename_i ho; simp only [ho] at hh; exact h _ hh
  · rename_i o ho
    simp only [ho] at hh
    split
    · rename_i hw; simp only [hw, if_true] at hh; exact wpIn_of_still' (hd o ho) h hh
    · rename_i hw; simp only [hw] at hh; exact ⟨fun _ _ => trivial, h _ hh⟩
theorem wpAnyIn_of_head' {N g : Nat} {L : Array Bool → Act → Prop} {Q' : Exit → Act → World → Prop} (hd : ∀ (i : Nat) (o : Oper), ops[i]? = some o → ∀ c, o.op ≠ .defer c)
    (hL : ∀ listed a, L listed a → wpAnyIn (Fence.wide.inRound l) n P md ops Q' g listed a w) :
    ∀ (f : Nat) (listed : Array Bool) (a : Act), wpAnyL P md ops w N L f listed a → wpAnyIn (Fence.wide.inRound l) n P md ops Q' (f + g) listed a w
  | 0, listed, a, h => by rw [Nat.zero_add]; exact hL _ _ h
  | f + 1, listed, a, h => by
    rw [show f + 1 + g = (f + g) + 1 by omega]
    exact ⟨fun h0 => absurd h0 h.1, fun i hi => wpOpIn_of_stOp' (hd i) (fun a' h' => wpAnyIn_of_head' hd hL f _ a' h') (h.2 i hi).2⟩
theorem wpAnyIn_of_seq' {F : Fence} {Q' : Exit → Act → World → Prop} : ∀ (l : List Oper) (k : Nat) (listed : Array Bool) (a : Act) (w : World), (∀ j, l[j]? = ops[k + j]?) →
    Region.seqB md ops l.length k listed = true → wpListIn F n P ops Q' l a w → wpAnyIn F n P md ops Q' l.length listed a w
  | [], _, _, _, _, _, hB, h => ⟨by simpa [Region.seqB] using hB, h⟩
  | o :: l, k, listed, a, w, hl, hB, h => by
    have h0 : ops[k]? = some o := by simpa using (hl 0).symm
    simp only [List.length_cons, Region.seqB, Bool.and_eq_true, decide_eq_true_eq] at hB
    refine ⟨fun h1 => (by rw [hB.1] at h1; cases h1), fun i hi => ?_⟩
    rw [hB.1] at hi
    have hik : i = k := by simpa using hi
    subst hik
    have hw : wpOpIn F n P ops Q' i (wpListIn F n P ops Q' l) a w := by unfold wpOpIn; simp only [h0]; exact h
    exact wpOpIn_mono (fun a' w' h' => wpAnyIn_of_seq' l (i + 1) _ a' w' (fun j => by have := hl (j + 1); simpa [Nat.add_assoc, Nat.add_comm 1 j] using this) hB.2 h') hw
/-- reads and quiet calls ahead of a chain that begins with operation N, in a round -/
theorem wpIn_still_tail {id : Nat} {Q : Exit → Act → World → Prop} {a : Act} {w : World} {ls : List Oper} (N : Nat) (hm : P.follows .mixedOrders = true) (hB : Region.lexTailB .any ls.toArray N = true) (hnd : noDefer ls = true)
    (h : wpStill P ls.toArray w.drew (fun a' => wpListIn (Fence.wide.inRound l) n P ls.toArray Q (ls.drop N) a' w.drew) (ls.take N) a) : (Code.region id ls.toArray true).wpIn (Fence.wide.inRound l) n P Q a w := by
  simp only [Region.lexTailB, Bool.and_eq_true, decide_eq_true_eq] at hB
  obtain ⟨⟨⟨⟨hsel, hn⟩, hs⟩, hc⟩, hlex⟩ := hB
  have hn' : N < ls.length := by simpa using hn
  have htl : (ls.take N).length = N := by simp; omega
  have hdl : (ls.drop N).length = ls.toArray.size - N := by simp
  have inv0 : HeadInv .any ls.toArray N (Array.replicate ls.toArray.size false) :=
    ⟨by simp, fun j oj _ hl => (by rw [getD_replicate_false] at hl; cases hl), fun t _ ht => getD_in (by simpa using ht) (getD_replicate_false _ _)⟩
  have H := wpAnyL_lex (md := .any) (g := ls.toArray.size - N) hsel hs hc hn (ls.take N) 0 _ a (fun j hj => by
    have hj' : j < N := by rw [htl] at hj; exact hj
    simp [hj']) (by simpa using htl) inv0 (by rw [htl]; exact hlex) h
  refine wpIn_region_any hm ?_
  have := wpAnyIn_of_head' (l := l) (n := n) (Q' := Q) (g := ls.toArray.size - N) (fun i o ho => noDefer_at hnd ho) (fun listed a' hL => by
    have := wpAnyIn_of_seq' (F := Fence.wide.inRound l) (n := n) (md := .any) (Q' := Q) (ls.drop N) N listed a' w.drew (fun j => by simp [List.getElem?_drop]) (by rw [hdl]; exact hL.1) hL.2
    rwa [hdl] at this) _ _ _ H
  rw [htl, show N + (ls.toArray.size - N) = ls.toArray.size by omega] at this
  exact this
/-- a law of an operation that makes no defer serves in a round -/
theorem oper_wpIn {o : Oper} {a : Act} {K : Act → World → Prop} {Q : Exit → Act → World → Prop} (hd : ∀ c, o.op ≠ .defer c) (hh : o.wp P a w K Q) : o.wpIn (Fence.wide.inRound l) n P a w K Q := by
  unfold Oper.wp at hh
  unfold Oper.wpIn
  refine ⟨fun _ _ => trivial, ?_⟩
  rw [Oper.semAt_plain (Fence.wide.inRound l) _ _ hd]
  generalize (execOp a.eval o).run P w = r at *
  cases r with
  | ok x w' =>
    cases x <;> simp only [Oper.upon] at hh <;> simp only [Oper.uponIn]
    case enter f args => exact ⟨fun hsm => by simp [Fence.wide] at hsm, CallsIn.inRound l (callsIn_wide.2 hh)⟩
    case row row args => exact ⟨fun hsm => by simp [Fence.wide] at hsm, fun c cs _ => let ⟨v, w', r, s⟩ := hh c cs; ⟨v, w', r, stepsIn_wide.2 s⟩⟩
    all_goals exact hh
  | halt x w' => cases x <;> simp only [Oper.upon] at hh <;> simp only [Oper.uponIn] <;> exact hh
theorem wpListIn_op {o : Oper} {rest : List Oper} {a : Act} {Q : Exit → Act → World → Prop} (hg : o.guard = none) (hd : ∀ c, o.op ≠ .defer c) (h : ∀ K : Act → World → Prop, (∀ a w, wpListIn (Fence.wide.inRound l) n P ops Q rest a w → K a w) → o.wp P a w K Q) :
    wpListIn (Fence.wide.inRound l) n P ops Q (o :: rest) a w := wpListIn_plain hg fun K hK => oper_wpIn hd (h K hK)
/-- of a post: where the code goes on, and a panic -/
def onlyQ (Q : Exit → Act → World → Prop) : Exit → Act → World → Prop
  | .normal, a, w => Q .normal a w
  | .panic c, a, w => Q (.panic c) a w
  | _, _, _ => False
theorem onlyQ_in (Q : Exit → Act → World → Prop) : ¬ LetsOut (onlyQ Q) := fun h => by
  obtain ⟨_, _, h⟩ := h
  exact h
theorem oper_wpIn_only {o : Oper} {a : Act} {K : Act → World → Prop} {Q : Exit → Act → World → Prop} (hd : ∀ c, o.op ≠ .defer c) (hh : o.wp P a w K (onlyQ Q)) : o.wpIn (Fence.wide.inRound l) n P a w K Q := by
  have h := oper_wpIn (l := l) (n := n) hd hh
  refine ⟨h.1, ?_⟩
  have h2 := h.2
  generalize (o.semAt (Fence.wide.inRound l).round a.eval).run P w = r at *
  cases r with
  | ok x w' =>
    cases x <;> simp only [Oper.uponIn] at h2 ⊢
    case enter f args => exact ⟨h2.1, CallsIn.mono h2.2 fun e w'' he => by cases e with
      | returned v => exact he
      | panicked c => exact he
      | outgrown => exact absurd he (onlyQ_in Q)⟩
    case round l' f tmps assign body => exact ⟨h2.1, RoundIn.mono h2.2 fun e w'' he => by cases e with
      | returned v => exact he
      | panicked c => exact he
      | outgrown => exact absurd he (onlyQ_in Q)⟩
    all_goals exact h2
  | halt x w' => cases x <;> simp only [Oper.uponIn] at h2 ⊢ <;> exact h2
theorem wpAnyIn_of_any {Q : Exit → Act → World → Prop} (hd : ∀ (i : Nat) (o : Oper), ops[i]? = some o → ∀ c, o.op ≠ .defer c) : ∀ (fuel : Nat) (listed : Array Bool) (a : Act) (w : World),
    wpAny P md ops (onlyQ Q) fuel listed a w → wpAnyIn (Fence.wide.inRound l) n P md ops Q fuel listed a w
  | 0, _, _, _, h => h
  | fuel + 1, listed, a, w, h => ⟨h.1, fun i hi => by
    have h1 := h.2 i hi
    unfold wpOp at h1
    unfold wpOpIn
    split
    · rename_i ho; simp only [ho] at h1; exact wpAnyIn_of_any hd fuel _ a w h1
    · rename_i o ho
      simp only [ho] at h1
      split
      · rename_i hw
        simp only [hw, if_true] at h1
        rcases h1 with h1 | h1
        · exact Oper.wpIn_mono (fun a' w' h' => wpAnyIn_of_any hd fuel _ a' w' h') (oper_wpIn_only (hd i o ho) h1)
        · exact absurd h1.2 (onlyQ_in Q)
      · rename_i hw; simp only [hw] at h1; exact ⟨fun _ _ => trivial, wpAnyIn_of_any hd fuel _ _ w h1⟩⟩
/-- a region that draws its order, in a round: by the laws for regions outside of rounds -/
theorem wpIn_of_any {id : Nat} {Q : Exit → Act → World → Prop} {a : Act} {w : World} {ls : List Oper} (hm : P.follows .mixedOrders = true) (hnd : noDefer ls = true)
    (h : wpAny P .any ls.toArray (onlyQ Q) ls.toArray.size (Array.replicate ls.toArray.size false) a w.drew) : (Code.region id ls.toArray true).wpIn (Fence.wide.inRound l) n P Q a w :=
  wpIn_region_any hm (wpAnyIn_of_any (fun _ _ ho => noDefer_at hnd ho) _ _ _ _ h)
/-- number i, which yields v in every world that meets S, is taken first -/
theorem held_take {S : World → Prop} {Q : Exit → Act → World → Prop} (i d : Nat) {oi : Oper} {v : Value} {fuel : Nat} {listed : Array Bool} {a : Act} {w : World} (hi : ops[i]? = some oi)
    (hs : Region.noSelect ops = true) (hf : Region.free md ops listed i = true) (hr : (Region.ready md ops listed).contains i = true)
    (hdst : (ops[i]?).bind (·.dst) = some d) (hQ : ∀ c a w, Q (.panic c) (a.put oi.dst v) w → Q (.panic c) a w) (hS : S w)
    (hw : Region.wanted oi (yielded ops a.tmps) = true) (hy : ∀ w', S w' → (execOp a.eval oi).run P w' = .ok (.value v) w')
    (h : wpAnyH P md ops Q S fuel (listed.setIfInBounds i true) { a with tmps := a.tmps.setIfInBounds d v } w) : wpAnyH P md ops Q S (fuel + 1) listed a w := by
  refine wpAnyH_take hi hs hf hr hQ (.inl ⟨hw, hy⟩) hS ?_
  have e : oi.dst = some d := by rw [hi] at hdst; simpa using hdst
  unfold Act.put
  rw [e]
  exact h
/-- 'wpStill' behind a name that no elaboration opens (a guard's reckoning does not come to an end there) -/
structure StillS (P : Program) (ops : Array Oper) (w : World) (Q : Act → Prop) (l : List Oper) (a : Act) : Prop where
  out : wpStill P ops w Q l a
theorem StillS.nil {Q : Act → Prop} {a : Act} (h : Q a) : StillS P ops w Q [] a := ⟨h⟩
/-- an operation whose guard says no -/
theorem StillS.skip {Q : Act → Prop} {a : Act} {o : Oper} {rest : List Oper} (hw : Region.wanted o (yielded ops a.tmps) = false) (h : StillS P ops w Q rest (a.put o.dst undef)) : StillS P ops w Q (o :: rest) a := ⟨by
  refine wpStill_step fun K hK => ?_
  rw [hw]
  exact hK _ h.out⟩
/-- an operation whose guard says yes -/
theorem StillS.want {Q : Act → Prop} {a : Act} {o : Oper} {rest : List Oper} (hw : Region.wanted o (yielded ops a.tmps) = true) (h : ∀ K : Act → Prop, Hid (∀ a, StillS P ops w Q rest a → K a) → o.still P a w K) : StillS P ops w Q (o :: rest) a := ⟨by
  refine wpStill_step fun K hK => ?_
  rw [hw]
  exact h K fun a ha => hK a ha.out⟩
theorem wpIn_still_tailS {id : Nat} {Q : Exit → Act → World → Prop} {a : Act} {w : World} {ls : List Oper} (N : Nat) (hm : P.follows .mixedOrders = true) (hB : Region.lexTailB .any ls.toArray N = true) (hnd : noDefer ls = true)
    (h : StillS P ls.toArray w.drew (fun a' => wpListIn (Fence.wide.inRound l) n P ls.toArray Q (ls.drop N) a' w.drew) (ls.take N) a) : (Code.region id ls.toArray true).wpIn (Fence.wide.inRound l) n P Q a w :=
  wpIn_still_tail N hm hB hnd h.out
end
end Go.Proofs.Ytpllijjocccaaaa
