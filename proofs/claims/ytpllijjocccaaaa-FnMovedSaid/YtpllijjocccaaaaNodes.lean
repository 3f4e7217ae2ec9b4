/- The iterator impl.nodes: its contract, and the law of 'for x := range nodes(set) { .. }' for whatever body. -/
import Derived.RangeFuncNested
import Derived.RangeFuncBound
import Derived.RangeFuncCalls
import Derived.RangeFuncLeaves
import Derived.Shelf.Abstract
import Derived.Shelf.RegionOpen
import Derived.WalkKit
import Derived.WalkSpells
import Derived.OwnWalkIn
import Derived.TacticsInMore
import Derived.LoopNIn
import Derived.LoopIn
import Derived.Outline
import Derived.Lib.Hide
import Derived.Test.YtpllijjocccaaaaMath
import Derived.Test.YtpllijjocccaaaaProg
namespace Go.Proofs.Ytpllijjocccaaaa
open Go.RowKit Go.Shelf
attribute [local go_sem] Oper.semAt_some

theorem has_any (s n : Int) (hs : 0 ≤ s) (hs2 : s ≤ 9223372036854775807) (hn : 0 ≤ n) (hn2 : n < 64) (w : World) : Calls Try.prog 84 #[.int .i64 s, .int .i64 n] w fun e w' => e = .returned (.bool (s.toNat.testBit n.toNat)) ∧ w = w' := by
  have h1 := has_val s n hs (by omega)
  go_enter Try.func84, Try.ntmps84
  go_wp2
  go_ret
  simp

/-- 'nodes(set)': a closure over a box that holds the set. -/
theorem nodes_any (s : Int) (w : World) : Calls Try.prog 85 #[.int .i64 s] w fun e w' => e = .returned (.func (.func 102) #[] #[.pointer (some ⟨w.heap.size, 0, none⟩)]) ∧ w.alloc (.cells #[.int .i64 s] 3) = w' := by
  have hmf : ∀ (fn : Fn) (first cap : Array Value) (w : World), (Instr.makeFunc fn first cap).run Try.prog w = .ok (.func fn first cap) w := fun _ _ _ _ => rfl
  go_enter Try.func85, Try.ntmps85
  go_wp2
  go_ret
  simp

/-- a node of the set s -/
abbrev Node (s : Nat) := { x : Nat // x ∈ bitsOf s }
def KeepsBox (Bn : Nat) (W W' : World) : Prop := W'.cell? ⟨Bn, 0, none⟩ = W.cell? ⟨Bn, 0, none⟩
theorem KeepsBox.refl (Bn : Nat) (W : World) : KeepsBox Bn W W := rfl
theorem KeepsBox.t {Bn : Nat} {A B C : World} (h : KeepsBox Bn A B) (k : KeepsBox Bn B C) : KeepsBox Bn A C := k.trans h
theorem KeepsBox.b {Bn : Nat} {w : World} (hn : Bn < w.heap.size) (W : World) (l : Nat) (o o' : Obj) (hl : w.heap.size ≤ l) (_ : W.heap[l]? = some o) (_ : o.isCells = false) (_ : o.isWalk = false) : KeepsBox Bn W (W.putObj l o') :=
  World.cell?_of_block (World.putObj_heap_other (by show Bn ≠ l; omega))

theorem bitsOf_sub {s k x : Nat} (hk : k < 12) (h : x ∈ bitsTo s k) : x ∈ bitsOf s := (bitsTo_prefix (Nat.le_of_lt hk)).subset h
def nodesTo (s k : Nat) : List (Node s) := (bitsTo s k).filterMap fun x => if h : x ∈ bitsOf s then some ⟨x, h⟩ else none
theorem nodesTo_val {s k : Nat} (hk : k ≤ 12) : (nodesTo s k).map (·.1) = bitsTo s k := by
  unfold nodesTo
  rw [List.map_filterMap]
  have hall : ∀ x ∈ bitsTo s k, Option.map (fun y : Node s => y.1) (if h : x ∈ bitsOf s then some ⟨x, h⟩ else none) = some x := fun x hx => by
    rw [dif_pos ((bitsTo_prefix hk).subset hx)]; rfl
  generalize bitsTo s k = l at hall ⊢
  induction l with
  | nil => rfl
  | cons a l ih =>
    rw [List.filterMap_cons, hall a (by simp)]
    simp only [List.cons.injEq, true_and]
    exact ih fun x hx => hall x (by simp [hx])
theorem nodesTo_len (s k : Nat) (hk : k ≤ 12) : (nodesTo s k).length ≤ k := by
  have := congrArg List.length (nodesTo_val (s := s) hk)
  rw [List.length_map] at this
  rw [this]; exact bitsTo_len s k
theorem nodesTo_no {s k : Nat} (h : s.testBit k = false) : nodesTo s (k + 1) = nodesTo s k := by
  unfold nodesTo; rw [bitsTo_succ, h]; simp
theorem nodesTo_yes {s k : Nat} (hk : k < 12) (h : s.testBit k = true) : nodesTo s (k + 1) = nodesTo s k ++ [⟨k, mem_bitsOf.2 ⟨hk, h⟩⟩] := by
  unfold nodesTo
  rw [bitsTo_succ, if_pos h, List.filterMap_append]
  simp [mem_bitsOf.2 ⟨hk, h⟩]

theorem shr_pos_iff (s k : Nat) : (decide (0 < (s : Int) / 2 ^ k)) = decide (0 < s / 2 ^ k) := by
  have e : ((s / 2 ^ k : Nat) : Int) = (s : Int) / 2 ^ k := by simp
  rw [← e]; exact decide_eq_decide.2 (by omega)

set_option maxRecDepth 100000 in
set_option maxHeartbeats 1000000 in
theorem nodes_stops (n : Nat) (hn : 1 ≤ n) (Bn : Nat) (s : Nat) (hs : s < 4096) (w : World) (hB : Bn < w.heap.size) (hb : w.cell? ⟨Bn, 0, none⟩ = some (.int .i64 s)) :
    SeqStopsK Fence.wide n Try.prog 102 #[.pointer (some ⟨Bn, 0, none⟩)] (fun x : Node s => #[.int .i64 x.1]) (KeepsBox Bn) (fun xs => xs.map (·.1) = bitsOf s) (fun pre => pre.map (·.1) <+: bitsOf s) 12 w := by
  intro l J Jx W hW hJ hJx hY h0
  have hbW : W.cell? ⟨Bn, 0, none⟩ = some (.int .i64 s) := (hW.cell (p := ⟨Bn, 0, none⟩) hB).trans hb
  refine callsIn_of_wp Try.func102 rfl trivial ?_ rfl
  simp only [Try.ntmps102, List.size_toArray, List.length_cons, List.length_nil, Nat.reduceAdd, Nat.reduceSub, Array.replicate_succ, Array.replicate_zero, List.push_toArray, List.append_toArray, List.nil_append, List.cons_append]
  clear hW hb
  gi_wp2
  gi_loopw [3] (fun p wr => ∃ k : Nat, k ≤ 12 ∧ p = .int .i64 k ∧ J (nodesTo s k) wr ∧ wr.cell? ⟨Bn, 0, none⟩ = some (.int .i64 s)) (fun p _ => 12 - (intOf p).toNat)
  case atStart => exact ⟨0, by omega, rfl, h0, hbW⟩
  case round =>
    obtain ⟨k, hk, rfl, hJk, hc⟩ := hrel
    have hpos := shr_pos_iff s k
    by_cases hz : s / 2 ^ k = 0
    · have hd : decide (0 < s / 2 ^ k) = false := by simp [hz]
      rw [hd] at hpos
      gi_wp2
      go_end0
      exact ⟨⟨_, rfl⟩, .inl ⟨_, by rw [nodesTo_val hk]; exact bitsTo_all hk hz, hJk⟩⟩
    · have hd : decide (0 < s / 2 ^ k) = true := decide_eq_true (Nat.pos_of_ne_zero hz)
      rw [hd] at hpos
      have hk12 : k < 12 := by
        refine Nat.lt_of_not_le fun hle => hz ?_
        have : k = 12 := by omega
        subst this
        omega
      clear hz hd
      cases hbit : s.testBit k with
      | false =>
        have hn' := nodesTo_no hbit
        have H := Lib.hid hn'
        clear hn'
        gi_wp2_with (refine ⟨trivial, ?_⟩; gi_at_call 84; refine (callsIn_wide.2 (has_any _ _ (by omega) (by omega) (by omega) (by omega) _)).mono ?_; rintro e w' ⟨rfl, rfl⟩)
        refine ⟨fun _ h => (by cases h), ?_⟩
        gi_wp2
        go_roundw
        case rel => exact ⟨k + 1, by omega, by go_num, by rw [H.out]; exact hJk, hc⟩
        case measure => simp [intOf]; omega
      | true =>
        have hn' := nodesTo_yes hk12 hbit
        have H := Lib.hid hn'
        clear hn'
        obtain ⟨fn, tmps, assign, body, hy, hR⟩ := hY (nodesTo s k) ⟨k, mem_bitsOf.2 ⟨hk12, hbit⟩⟩ wr hJk (by have := nodesTo_len s k (by omega); omega)
        dsimp only at hy
        have hpre : (nodesTo s (k + 1)).map (·.1) <+: bitsOf s := by rw [nodesTo_val (by omega)]; exact bitsTo_prefix (by omega)
        have HP := Lib.hid hpre
        clear hpre
        gi_wp2_with (refine ⟨trivial, ?_⟩; gi_at_call 84; refine (callsIn_wide.2 (has_any _ _ (by omega) (by omega) (by omega) (by omega) _)).mono ?_; rintro e w' ⟨rfl, rfl⟩)
        refine hR.mono ?_
        rintro e W3 (⟨rfl, hJ3, hk3⟩ | ⟨rfl, hJx3⟩)
        · have hc3 : W3.cell? ⟨Bn, 0, none⟩ = some (.int .i64 s) := Eq.trans hk3 hc
          clear hk3 hc
          gi_wp2
          go_roundw
          case rel => exact ⟨k + 1, by omega, by go_num, by rw [H.out]; exact hJ3, hc3⟩
          case measure => simp [intOf]; omega
        · gi_wp2
          refine bodyPost_ret (results_none rfl _ _ _) rfl ?_
          exact ⟨⟨_, rfl⟩, .inr ⟨nodesTo s k ++ [⟨k, mem_bitsOf.2 ⟨hk12, hbit⟩⟩], by rw [← H.out]; exact HP.out, hJx3⟩⟩

/-! ### Functions that hold a range over nodes: the way in, the way out -/
theorem calls_marks {f : FuncId} {fn : Func} {c : Code} {args : Array Value} {w : World} {R : Ending → World → Prop}
    (hf : Try.prog.funcs[f]? = some fn) (hb : fn.body = some c)
    (h : c.wp Try.prog (bodyPostM Fence.wide 9 Try.prog fn R) { tmps := args ++ Array.replicate (fn.ntmps - args.size) undef, defers := [] } w) : Calls Try.prog f args w R :=
  callsIn_wide.1 (callsIn_of_wp_marks (n := 9) hf hb trivial (wpIn_wide.2 h) rfl)

def marks (Ds : List Nat) : List Deferred := Ds.map fun D => { target := .collected D, args := #[] }
structure MarksOk (lo : Nat) (Ds : List Nat) (W : World) : Prop where
  nd : Ds.Nodup
  all : ∀ D ∈ Ds, lo ≤ D ∧ W.heap[D]? = some (.deferred (some []))
theorem MarksOk.nil (lo : Nat) (W : World) : MarksOk lo [] W := ⟨List.nodup_nil, by simp⟩
theorem MarksOk.below {lo : Nat} {Ds : List Nat} {W W' : World} (h : MarksOk lo Ds W) (hb : Below W.heap.size W W') : MarksOk lo Ds W' :=
  ⟨h.nd, fun D hD => ⟨(h.all D hD).1, (hb.block D (Array.getElem?_eq_some_iff.1 (h.all D hD).2).1).trans (h.all D hD).2⟩⟩
theorem MarksOk.others {lo : Nat} {Ds : List Nat} {W W' : World} (h : MarksOk lo Ds W) (hb : KeepsOthers W W') : MarksOk lo Ds W' :=
  ⟨h.nd, fun D hD => ⟨(h.all D hD).1, hb.same D _ (h.all D hD).2 rfl⟩⟩
theorem MarksOk.push {lo : Nat} {Ds : List Nat} {W : World} {B D : Nat} (h : MarksOk lo Ds W) (hlt : ∀ X ∈ Ds, X < B) (hB : B ≤ D) (hlo : lo ≤ D) (hD : W.heap[D]? = some (.deferred (some []))) : MarksOk lo (D :: Ds) W :=
  ⟨List.nodup_cons.2 ⟨fun hm => by have := hlt D hm; omega, h.nd⟩, fun X hX => by
    rcases List.mem_cons.1 hX with rfl | hX
    · exact ⟨hlo, hD⟩
    · exact h.all X hX⟩
/-- what taking the marks leaves: the cells lie as they lay -/
structure Turned (lo : Nat) (W W' : World) : Prop where
  below : Below lo W W'
  cells : ∀ (k : Nat) (es : Array Value) (e : TypeId) (fz : Nat × Nat), W.heap[k]? = some (Obj.cells es e fz) → W'.heap[k]? = some (Obj.cells es e fz)
theorem Turned.cell {lo : Nat} {W W' : World} (h : Turned lo W W') {a : Addr} {v : Value} (hc : W.cell? a = some v) : W'.cell? a = some v := by
  unfold World.cell? at hc ⊢
  cases ho : W.heap[a.block]? with
  | none => simp [ho] at hc
  | some o =>
    rw [ho] at hc
    cases o <;> simp at hc
    rw [h.cells _ _ _ _ ho]; simpa using hc
theorem Turned.owns {lo base : Nat} {W W' : World} (h : Turned lo W W') {e : TypeId} {size n : Nat} {v : Value} {xs : List Value} (hc : W.ownsRow base e size v n xs) : W'.ownsRow base e size v n xs := by
  obtain ⟨h1, h2⟩ := hc
  refine ⟨h1, ?_⟩
  rcases h2 with h2 | ⟨g, cap, cur, hv, hg, hh, r⟩
  · exact .inl h2
  · exact .inr ⟨g, cap, cur, hv, hg, h.cells _ _ _ _ hh, r⟩
theorem leaves_marks {fn : Func} {tmps : Array Value} {R : Ending → World → Prop} {lo : Nat} : ∀ (Ds : List Nat) (W : World), lo ≤ W.heap.size → MarksOk lo Ds W →
    (∀ W', Turned lo W W' → ∃ v, (results fn tmps).run Try.prog W' = .ok v W' ∧ R (.returned v) W') → LeavesInM Fence.wide 9 Try.prog fn tmps R (marks Ds) .returning W := by
  intro Ds
  induction Ds with
  | nil => intro W _ _ h; exact h W ⟨Below.refl _ _, fun _ _ _ _ h => h⟩
  | cons D Ds ih =>
    intro W hlo hM h
    obtain ⟨hD1, hD2⟩ := hM.all D (by simp)
    refine ⟨by simp, .inl ⟨D, _, rfl, run_takeDeferred hD2, ?_⟩⟩
    have hnd := List.nodup_cons.1 hM.nd
    refine ih _ (by simpa using hlo) ⟨hnd.2, fun X hX => ⟨(hM.all X (by simp [hX])).1, ?_⟩⟩ ?_
    · rw [World.putObj_heap_other (fun e => hnd.1 (by subst e; exact hX))]; exact (hM.all X (by simp [hX])).2
    · intro W' hT
      refine h W' ⟨?_, ?_⟩
      · exact ((Below.refl lo W).grown (grownBy_putObj' W D _) hlo (fun k e => by cases e; exact hD1)).trans hT.below
      · intro k es e fz hk
        refine hT.cells k es e fz ?_
        rw [World.putObj_heap_other (fun e => by subst e; rw [hD2] at hk; cases hk)]; exact hk

/-! ### THE LAW of 'for x := range nodes(set) { body }' -/
def nodePost (B Bn : Nat) (I Ix : List Nat → World → Prop) (xs : List Nat) (W : World) : Exit → Act → World → Prop
  | .normal, _, W' => KeepsFrom B W W' ∧ KeepsBox Bn W W' ∧ I xs W'
  | .ret, _, W' => KeepsFrom B W W' ∧ Ix xs W'
  | _, _, _ => False
theorem wp_nodes {g : Operand} {t : Tmp} {assign body : Code} {Q : Exit → Act → World → Prop} {a : Act} {w : World} {Bn s : Nat}
    (hg : a.eval g = .func (.func 102) #[] #[.pointer (some ⟨Bn, 0, none⟩)]) (hs : s < 4096) (hB : Bn < w.heap.size) (hb : w.cell? ⟨Bn, 0, none⟩ = some (.int .i64 s))
    (I Ix : List Nat → World → Prop) (hI : OwnFrom w.heap.size I) (hIx : OwnFrom w.heap.size Ix) (h0 : I [] w)
    (hround : ∀ (l x : Nat) (W : World) (K : Act → World → Prop), x ∈ bitsOf s → (∀ a', (∀ (l : Nat) (pre : List Nat) (W : World), (∀ y ∈ pre, y ∈ bitsOf s) → I pre W →
        body.wpIn (Fence.wide.inRound l) 7 Try.prog (nodePost w.heap.size Bn I Ix (pre ++ [x]) W) a' W) → K a' W) →
      assign.wpIn (Fence.wide.inRound l) 7 Try.prog (Exit.then K (fun _ _ _ => False)) { tmps := a.tmps.setIfInBounds t (.int .i64 x), defers := [] } W)
    (hdone : ∀ (D : Nat) (W : World), w.heap.size ≤ D → I (bitsOf s) W → W.heap[D]? = some (.deferred (some [])) → Q .normal { a with defers := { target := .collected D, args := #[] } :: a.defers } W)
    (hstop : ∀ (D : Nat) (pre : List Nat) (W : World), w.heap.size ≤ D → pre <+: bitsOf s → Ix pre W → W.heap[D]? = some (.deferred (some [])) → Q .ret { a with defers := { target := .collected D, args := #[] } :: a.defers } W) :
    (Code.rangeFunc g #[t] assign body).wp Try.prog Q a w := by
  refine (wpIn_wide (n := 9)).1 ?_
  refine wpIn_rangeFunc_ownH (F := Fence.wide) (n := 9) rfl (by omega) (gf := 102) (lb := #[.pointer (some ⟨Bn, 0, none⟩)]) hg trivial (enters_of Try.func102 (by kernel_rfl) rfl)
    (nodes_stops 8 (by omega) Bn s hs w hB hb) (fun h k => KeepsBox.t h k) (KeepsBox.b hB) (Below.refl _ _) (fun _ => rfl)
    (fun (pre : List (Node s)) W => I (pre.map (·.1)) W) (fun c (pre : List (Node s)) W => c = .ret ∧ Ix (pre.map (·.1)) W)
    (fun s' A B row hs' hg' hr => hI (List.map (fun x : Node s => x.1) s') A B row hs' hg' hr) (fun c s' A B row hs' hg' hr => ⟨hs'.1, hIx (List.map (fun x : Node s => x.1) s') A B row hs'.2 hg' hr⟩) h0
    (fun x a' _ => ∀ (l : Nat) (pre : List Nat) (W : World), (∀ y ∈ pre, y ∈ bitsOf s) → I pre W → body.wpIn (Fence.wide.inRound l) 7 Try.prog (nodePost w.heap.size Bn I Ix (pre ++ [x.1]) W) a' W)
    (fun x a' _ _ _ _ hs' _ _ => hs') ?_ ?_ ?_ ?_
  · intro l pre x W K hi hK
    have h := hround l x.1 W K x.2 (fun a' ha => hK a' W (KeepsFrom.refl _ _) (KeepsBox.refl Bn W) hi ha)
    simpa using h
  · intro l pre x a' W _ _ hi hax _
    refine wpIn_mono (hax l (pre.map (·.1)) W (fun y hy => by obtain ⟨z, _, rfl⟩ := List.mem_map.1 hy; exact z.2) hi) ?_
    intro e a' W' hp
    cases e <;> first | exact hp.elim | (simpa [nodePost, ownPostG] using hp)
  · intro D xs W hD hS hi hk
    have hS' : xs.map (·.1) = bitsOf s := hS
    have hi' : I (xs.map (·.1)) W := hi
    rw [hS'] at hi'
    exact hdone D W hD hi' hk
  · rintro D c pre W hD hS ⟨rfl, hi⟩ hk
    exact (wpIn_wide (n := 9)).2 (wp_ret (hstop D _ W hD hS hi hk))

/-! ### 'Stay B ex W W'': of the blocks below B all but those of ex lie as they lay -/
structure Stay (B : Nat) (ex : List Nat) (w w' : World) : Prop where
  os : w'.os = w.os
  tape : w'.tape = w.tape
  output : w'.output = w.output
  size : w.heap.size ≤ w'.heap.size
  block : ∀ k, k < B → k ∉ ex → w'.heap[k]? = w.heap[k]?
theorem Stay.refl (B : Nat) (ex : List Nat) (w : World) : Stay B ex w w := ⟨rfl, rfl, rfl, Nat.le_refl _, fun _ _ _ => rfl⟩
theorem Stay.trans {B : Nat} {ex : List Nat} {a b c : World} (h : Stay B ex a b) (k : Stay B ex b c) : Stay B ex a c :=
  ⟨k.os.trans h.os, k.tape.trans h.tape, k.output.trans h.output, Nat.le_trans h.size k.size, fun i hi hx => (k.block i hi hx).trans (h.block i hi hx)⟩
theorem Stay.mono {B B' : Nat} {ex : List Nat} {w w' : World} (h : Stay B ex w w') (hB : B' ≤ B) : Stay B' ex w w' := ⟨h.os, h.tape, h.output, h.size, fun k hk hx => h.block k (Nat.lt_of_lt_of_le hk hB) hx⟩
theorem Stay.weak {B : Nat} {ex ex' : List Nat} {w w' : World} (h : Stay B ex w w') (hx : ∀ k ∈ ex, k ∈ ex') : Stay B ex' w w' := ⟨h.os, h.tape, h.output, h.size, fun k hk hn => h.block k hk fun hm => hn (hx k hm)⟩
theorem Stay.drew {B : Nat} {ex : List Nat} {a w : World} (h : Stay B ex a w) : Stay B ex a w.drew := ⟨h.os, h.tape, h.output, h.size, h.block⟩
theorem Stay.then {B : Nat} {ex : List Nat} {a b c : World} (h : Stay B ex a b) (k : Below b.heap.size b c) (hB : B ≤ b.heap.size) : Stay B ex a c :=
  h.trans ⟨k.os, k.tape, k.output, k.size, fun i hi _ => k.block i (by omega)⟩
theorem Stay.alloc {B : Nat} {ex : List Nat} {a w : World} (h : Stay B ex a w) (hB : B ≤ w.heap.size) (o : Obj) : Stay B ex a (w.alloc o) :=
  h.then ((Below.refl _ _).alloc (Nat.le_refl _) o) hB
theorem Stay.setCell {B : Nat} {ex : List Nat} {a w : World} (h : Stay B ex a w) {p : Addr} (hp : p.block ∈ ex ∨ B ≤ p.block) (u : Value) : Stay B ex a (w.setCell p u) :=
  h.trans ⟨rfl, rfl, rfl, by simp [World.setCell], fun k hk hx => Below.heap_setCell _ _ _ _ (by rcases hp with hp | hp; exact fun e => hx (e ▸ hp); omega)⟩
theorem Stay.grown {B : Nat} {ex : List Nat} {a w w' : World} {row : Option Nat} (h : Stay B ex a w) (hg : w.grownBy w' row) (hB : B ≤ w.heap.size) (hr : ∀ k, row = some k → k ∈ ex ∨ B ≤ k) : Stay B ex a w' :=
  h.trans ⟨hg.os, hg.tape, hg.output, hg.size, fun k hk hx => hg.block k (by omega) (fun e => by rcases hr k e.symm with h | h; exact hx h; omega)⟩
theorem Stay.cell {B : Nat} {ex : List Nat} {w w' : World} (h : Stay B ex w w') {p : Addr} (hp : p.block < B) (hx : p.block ∉ ex) : w'.cell? p = w.cell? p := World.cell?_of_block (w := w) (h.block p.block hp hx)
theorem Stay.frozen {B : Nat} {ex : List Nat} {w w' : World} (h : Stay B ex w w') {p : Addr} (hp : p.block < B) (hx : p.block ∉ ex) : w'.frozen? p = w.frozen? p := World.frozen?_of_block (w := w) (h.block p.block hp hx)
theorem Stay.below {B lo : Nat} {ex : List Nat} {w w' : World} (h : Stay B ex w w') (hB : lo ≤ B) (hx : ∀ k ∈ ex, lo ≤ k) : Below lo w w' :=
  ⟨h.os, h.tape, h.output, h.size, fun k hk => h.block k (by omega) (fun hm => by have := hx k hm; omega)⟩
theorem Below.stay {B : Nat} {w w' : World} (h : Below B w w') (ex : List Nat) : Stay B ex w w' := ⟨h.os, h.tape, h.output, h.size, fun k hk _ => h.block k hk⟩
theorem MarksOk.stay {lo B : Nat} {Ds ex : List Nat} {W W' : World} (h : MarksOk lo Ds W) (hs : Stay B ex W W') (hB : ∀ D ∈ Ds, D < B ∧ D ∉ ex) : MarksOk lo Ds W' :=
  ⟨h.nd, fun D hD => ⟨(h.all D hD).1, (hs.block D (hB D hD).1 (hB D hD).2).trans (h.all D hD).2⟩⟩
theorem MarksOk.lt {lo : Nat} {Ds : List Nat} {W : World} (h : MarksOk lo Ds W) : ∀ D ∈ Ds, D < W.heap.size := fun D hD => (Array.getElem?_eq_some_iff.1 (h.all D hD).2).1
theorem Boxed.stay {B R : Nat} {ex : List Nat} {W W' : World} {t : TypeId} {v : Value} (h : Boxed W R t v) (hs : Stay B ex W W') (hB : R < B) (hx : R ∉ ex) : Boxed W' R t v := (hs.block R hB hx).trans h
theorem Boxed.alloc {W : World} {R : Nat} {t : TypeId} {v : Value} (h : Boxed W R t v) (o : Obj) : Boxed (W.alloc o) R t v := (Below.heap_alloc W o R h.lt).trans h
theorem Boxed.set {W : World} {R : Nat} {t : TypeId} {v u : Value} (h : Boxed W R t v) : Boxed (W.setCell ⟨R, 0, none⟩ u) R t u := by
  unfold Boxed at h ⊢
  simp [World.setCell, Array.getElem?_modify, h]

/-- what the body of a round over nodes owes -/
def bodyPostN (ex : List Nat) (Fa Fx : List Nat → World → Prop) (xs : List Nat) (W : World) : Exit → Act → World → Prop
  | .normal, _, W' => Stay W.heap.size ex W W' ∧ Fa xs W'
  | .ret, _, W' => Stay W.heap.size ex W W' ∧ Fx xs W'
  | _, _, _ => False
/-- the law in the words of 'Stay': the caller's facts speak of the blocks of ex alone -/
theorem wp_nodes2 {g : Operand} {t : Tmp} {assign body : Code} {Q : Exit → Act → World → Prop} {a : Act} {w : World} {Bn s : Nat}
    (hg : a.eval g = .func (.func 102) #[] #[.pointer (some ⟨Bn, 0, none⟩)]) (hs : s < 4096) (hB : Bn < w.heap.size) (hb : w.cell? ⟨Bn, 0, none⟩ = some (.int .i64 s))
    (ex : List Nat) (hex : ∀ k ∈ ex, k < w.heap.size ∧ k ≠ Bn) (Fa Fx : List Nat → World → Prop)
    (hFa : ∀ pre W W', Fa pre W → (∀ k ∈ ex, W'.heap[k]? = W.heap[k]?) → Fa pre W') (hFx : ∀ pre W W', Fx pre W → (∀ k ∈ ex, W'.heap[k]? = W.heap[k]?) → Fx pre W')
    (h0 : Fa [] w)
    (hround : ∀ (l x : Nat) (W : World) (K : Act → World → Prop), x ∈ bitsOf s → (∀ a', (∀ (l : Nat) (pre : List Nat) (W : World), (∀ y ∈ pre, y ∈ bitsOf s) → Stay w.heap.size ex w W → Fa pre W →
        body.wpIn (Fence.wide.inRound l) 7 Try.prog (bodyPostN ex Fa Fx (pre ++ [x]) W) a' W) → K a' W) →
      assign.wpIn (Fence.wide.inRound l) 7 Try.prog (Exit.then K (fun _ _ _ => False)) { tmps := a.tmps.setIfInBounds t (.int .i64 x), defers := [] } W)
    (hdone : ∀ (D : Nat) (W : World), w.heap.size ≤ D → Stay w.heap.size ex w W → Fa (bitsOf s) W → W.heap[D]? = some (.deferred (some [])) → Q .normal { a with defers := { target := .collected D, args := #[] } :: a.defers } W)
    (hstop : ∀ (D : Nat) (pre : List Nat) (W : World), w.heap.size ≤ D → pre <+: bitsOf s → Stay w.heap.size ex w W → Fx pre W → W.heap[D]? = some (.deferred (some [])) → Q .ret { a with defers := { target := .collected D, args := #[] } :: a.defers } W) :
    (Code.rangeFunc g #[t] assign body).wp Try.prog Q a w := by
  have own : ∀ (F : List Nat → World → Prop), (∀ pre W W', F pre W → (∀ k ∈ ex, W'.heap[k]? = W.heap[k]?) → F pre W') → OwnFrom w.heap.size (fun pre W => Stay w.heap.size ex w W ∧ F pre W) := by
    intro F hF s' A B row hs' hg' hr
    refine ⟨hs'.1.grown hg' hs'.1.size (fun k e => .inr (hr k e).1), hF _ A B hs'.2 fun k hk => hg'.block k (by have := (hex k hk).1; have := hs'.1.size; omega) (fun e => ?_)⟩
    have h1 := (hr k e.symm).1
    have h2 := (hex k hk).1
    omega
  refine wp_nodes hg hs hB hb (fun pre W => Stay w.heap.size ex w W ∧ Fa pre W) (fun pre W => Stay w.heap.size ex w W ∧ Fx pre W) (own Fa hFa) (own Fx hFx) ⟨Stay.refl _ _ _, h0⟩ ?_ ?_ ?_
  · intro l x W K hx hK
    refine hround l x W K hx fun a' ha => hK a' ?_
    rintro l pre W hpre ⟨hS, hF⟩
    have hle : w.heap.size ≤ W.heap.size := hS.size
    have from' : ∀ W', Stay W.heap.size ex W W' → KeepsFrom w.heap.size W W' := fun W' h => ⟨h.size, fun k o hk ho hc => (h.block k (Array.getElem?_eq_some_iff.1 ho).1 (fun hm => by have := (hex k hm).1; omega)).trans ho⟩
    refine wpIn_mono (ha l pre W hpre hS hF) ?_
    intro e a' W' hp
    cases e with
    | normal => exact ⟨from' _ hp.1, hp.1.cell (p := ⟨Bn, 0, none⟩) (by show Bn < W.heap.size; omega) (fun hm => (hex Bn hm).2 rfl), hS.trans (hp.1.mono hle), hp.2⟩
    | ret => exact ⟨from' _ hp.1, hS.trans (hp.1.mono hle), hp.2⟩
    | exit id => exact hp.elim
    | goto l => exact hp.elim
    | panic c => exact hp.elim
    | outgrown => exact hp.elim
  · rintro D W hD ⟨hS, hF⟩ hk
    exact hdone D W hD hS hF hk
  · rintro D pre W hD hpre ⟨hS, hF⟩ hk
    exact hstop D pre W hD hpre hS hF hk
end Go.Proofs.Ytpllijjocccaaaa
