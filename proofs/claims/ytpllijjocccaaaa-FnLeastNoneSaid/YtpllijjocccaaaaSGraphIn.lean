/- spec.GraphIn answers graphB, as impl.GraphIn does. -/
import Derived.Test.YtpllijjocccaaaaSl
import Derived.Test.YtpllijjocccaaaaGraphIn
namespace Go.Proofs.Ytpllijjocccaaaa
open Go.RowKit Go.Shelf

theorem quiet_mine {f : FuncId} {args : Array Value} {w : World} {n : Nat} {v : Value}
    (h : Calls Try.prog f args (w.drewN n) fun e w' => e = .returned v ∧ w.drewN n = w') : Calls Try.prog f args (w.drewN n) fun e w'' => e = .returned v ∧ ∃ m, w'' = w.drewN m :=
  h.mono fun _ _ ⟨he, hm⟩ => ⟨he, n, hm.symm⟩

theorem drews {w wr : World} (h : ∃ q, w.drewN q = wr) (m : Nat) : ∃ q, w.drewN q = wr.drewN m := by
  obtain ⟨q, rfl⟩ := h; exact ⟨q + m, (World.drewN_drewN _ _ _).symm⟩
set_option maxRecDepth 100000 in
theorem sin_yes (n lo hi : Int) (h1 : lo ≤ n) (h2 : n ≤ hi) (w : World) : Calls Try.prog 86 #[.int .i64 n, .int .i64 lo, .int .i64 hi] w fun e w' => e = .returned (.bool true) ∧ w = w' := by
  go_enter Try.func86, Try.ntmps86
  go_wp2
  go_ret
  exact ⟨rfl, rfl⟩
set_option maxRecDepth 100000 in
theorem sin_no (n lo hi : Int) (h : ¬ (lo ≤ n ∧ n ≤ hi)) (w : World) : Calls Try.prog 86 #[.int .i64 n, .int .i64 lo, .int .i64 hi] w fun e w' => e = .returned (.bool false) ∧ w = w' := by
  by_cases h1 : lo ≤ n
  · have h2 : ¬ n ≤ hi := fun h' => h ⟨h1, h'⟩
    clear h
    go_enter Try.func86, Try.ntmps86
    go_wp2
    go_ret
    exact ⟨rfl, rfl⟩
  · clear h
    go_enter Try.func86, Try.ntmps86
    go_wp2
    go_ret
    exact ⟨rfl, rfl⟩
/-- spec.l1Bit -/
def bitI (s : Int) (i : Nat) : Int := if s.toNat.testBit i then 1 else 0
theorem bitI_yes {s : Int} {i : Nat} (h : s.toNat.testBit i = true) : bitI s i = 1 := by simp [bitI, h]
theorem bitI_no {s : Int} {i : Nat} (h : s.toNat.testBit i = false) : bitI s i = 0 := by simp [bitI, h]
theorem bitI_bd (s : Int) (i : Nat) : 0 ≤ bitI s i ∧ bitI s i ≤ 1 := by unfold bitI; split <;> omega
theorem bitI_inj {s t : Int} {i j : Nat} : bitI s i = bitI t j ↔ s.toNat.testBit i = t.toNat.testBit j := by
  unfold bitI; cases s.toNat.testBit i <;> cases t.toNat.testBit j <;> simp
theorem l1Bit_any (s n : Int) (hs : 0 ≤ s) (hs2 : s ≤ 9223372036854775807) (hn : 0 ≤ n) (hn2 : n < 64) (w : World) : Calls Try.prog 87 #[.int .i64 s, .int .i64 n] w fun e w' => e = .returned (.int .i64 (bitI s n.toNat)) ∧ w = w' := by
  have h1 : bits BinOp.and IntKind.i64 (s / 2 ^ n.toNat) 1 = bitI s n.toNat := bit_val s n hs (by omega)
  go_enter Try.func87, Try.ntmps87
  go_wp2
  go_ret
  simp

theorem graphB_pair {zs : List Int} {i k : Nat} (hi : i < zs.length) (hk : k < zs.length) (h : ¬ bitI (zs[i]?.getD 0) k = bitI (zs[k]?.getD 0) i) : graphB zs = false := by
  cases hg : graphB zs with
  | false => rfl
  | true =>
    refine absurd (bitI_inj.2 ?_) h
    simp only [graphB, Bool.and_eq_true, List.all_eq_true, List.mem_range, decide_eq_true_eq] at hg
    have sym : ∀ i k, i < zs.length → k < zs.length → (zs[i]?.getD 0).toNat.testBit k = true → (zs[k]?.getD 0).toNat.testBit i = true := by
      intro i k hi hk hb
      have := hg.2.2 i hi
      simp only [symAt, List.all_eq_true, List.getD_eq_getElem?_getD] at this
      exact this k (mem_bitsOf.2 ⟨by omega, hb⟩)
    cases h1 : (zs[i]?.getD 0).toNat.testBit k <;> cases h2 : (zs[k]?.getD 0).toNat.testBit i
    · rfl
    · rw [sym k i hk hi h2] at h1; cases h1
    · rw [sym i k hi hk h1] at h2; cases h2
    · rfl
theorem graphB_pairs {zs : List Int} (h1 : 1 ≤ zs.length) (h2 : zs.length ≤ 12) (h3 : ∀ i, i < zs.length → okAt zs i = true)
    (h4 : ∀ i, i < zs.length → ∀ k, k < zs.length → bitI (zs[i]?.getD 0) k = bitI (zs[k]?.getD 0) i) : graphB zs = true := by
  refine graphB_yes h1 h2 h3 fun i hi => ?_
  simp only [symAt, List.all_eq_true, List.getD_eq_getElem?_getD]
  intro x hx
  have hb := okAt_bd rfl h2 (h3 i hi)
  have hxn : x < zs.length := by
    refine lt_of_mem_bitsOf (s := (zs[i]?.getD 0).toNat) ?_ hx
    have e : ((2 ^ zs.length : Nat) : Int) = (2 : Int) ^ zs.length := by simp
    omega
  rw [← bitI_inj.1 (h4 i hi x hxn)]
  exact (mem_bitsOf.1 hx).2

set_option maxRecDepth 100000 in
set_option maxHeartbeats 2000000 in
theorem sGraphIn_any (a : Option Addr) (n cap : Nat) (zs : List Int) (w : World) (hs : SlAt w a n zs) :
    Calls Try.prog 60 #[.slice a n cap] w fun e w' => e = .returned (.bool (graphB zs)) ∧ ∃ q, w.drewN q = w' := by
  have hbd := hs.bd
  by_cases hn : 1 ≤ n ∧ n ≤ 12
  · obtain ⟨hn1, hn2⟩ := hn
    obtain ⟨b, off, rfl, hb, hc⟩ := hs.at' (by omega)
    have hz := Lib.hid hs.len
    have hp := npow_bd n (by omega)
    have hw1 : IntKind.i64.wrap (2 ^ n) = 2 ^ n := IntWalk.i64_in _ (by omega)
    have hw2 : IntKind.i64.wrap (2 ^ n - 1) = 2 ^ n - 1 := IntWalk.i64_in _ (by omega)
    clear hs
    go_enter Try.func60, Try.ntmps60
    go_wp2_with (go_at_call 86; refine (sin_yes _ _ _ (by omega) (by omega) _).mono ?_; rintro e w' ⟨rfl, rfl⟩)
    go_loopw [4] (fun p wr => ∃ k : Nat, k ≤ n ∧ p = .int .i64 k ∧ (∀ i, i < k → Hid (okAt zs i = true)) ∧ ∃ q, w.drewN q = wr) (fun p _ => 12 - (intOf p).toNat)
    case atStart => exact ⟨0, by omega, rfl, by omega, 0, rfl⟩
    case round =>
      obtain ⟨k, hk, rfl, hall, hq⟩ := hrel
      have HQ := Lib.hid hq
      by_cases hlt : k < n
      · have hx : wr.cell? ⟨b, off + k, none⟩ = some (.int .i64 (zs.getD k 0)) := by obtain ⟨q, rfl⟩ := hq; exact hc k hlt
        clear hq
        have hlt' : (k : Int) < n := by omega
        rw [List.getD_eq_getElem?_getD] at hx
        by_cases h1 : 0 ≤ zs[k]?.getD 0 ∧ zs[k]?.getD 0 < 2 ^ n
        · obtain ⟨h1a, h1b⟩ := h1
          cases h2 : (zs[k]?.getD 0).toNat.testBit k with
          | true =>
            have e0 := bitI_yes h2
            have HG := Lib.hid (graphB_ok (by rw [← hz.out]; exact hlt) (okAt_no2 h2))
            clear hc hall h2
            go_wp2
            go_quiet (first | (go_at_call 86; exact quiet_mine (sin_yes _ _ _ (by omega) (by omega) _)) | (go_at_call 87; exact quiet_mine (l1Bit_any _ _ (by omega) (by omega) (by omega) (by omega) _)))
            go_wp2
            go_ret
            exact ⟨by rw [HG.out]; rfl, drews HQ.out _⟩
          | false =>
            have e0 := bitI_no h2
            have HG := Lib.hid (okAt_yes hz.out ⟨h1a, h1b⟩ h2)
            have HA := Lib.hid hall
            clear hc hall h2
            go_wp2
            go_quiet (first | (go_at_call 86; exact quiet_mine (sin_yes _ _ _ (by omega) (by omega) _)) | (go_at_call 87; exact quiet_mine (l1Bit_any _ _ (by omega) (by omega) (by omega) (by omega) _)))
            go_wp2
            go_roundw
            case rel =>
              refine ⟨k + 1, by omega, by go_num, fun i hi => ?_, drews HQ.out _⟩
              rcases Nat.lt_succ_iff_lt_or_eq.1 hi with h | rfl
              · exact HA.out i h
              · exact HG.out
            case measure => simp [intOf]; omega
        · have HG := Lib.hid (graphB_ok (by rw [← hz.out]; exact hlt) (okAt_no1 hz.out h1))
          have h1' : ¬ (0 ≤ zs[k]?.getD 0 ∧ zs[k]?.getD 0 ≤ 2 ^ n - 1) := by omega
          have H1 := Lib.hid h1'
          clear hc hall h1 h1'
          go_wp2
          go_quiet ((go_at_call 86; exact quiet_mine (sin_no _ _ _ H1.out _)))
          go_wp2
          go_ret
          exact ⟨by rw [HG.out]; rfl, drews HQ.out _⟩
      · obtain rfl : k = n := by omega
        have HA := Lib.hid hall
        clear hall hlt hq
        go_wp2
        go_loopw [5] (fun p wr => ∃ i : Nat, i ≤ k ∧ p = .int .i64 i ∧ (∀ i', i' < i → ∀ k', k' < k → Hid (bitI (zs[i']?.getD 0) k' = bitI (zs[k']?.getD 0) i')) ∧ ∃ q, w.drewN q = wr) (fun p _ => 12 - (intOf p).toNat)
        case atStart => exact ⟨0, by omega, rfl, by omega, HQ.out⟩
        case round =>
          obtain ⟨i, hi, rfl, hP, hq⟩ := hrel
          have HP := Lib.hid hP
          have HQ2 := Lib.hid hq
          clear hP hq HQ
          by_cases hik : i < k
          · have hik' : (i : Int) < k := by omega
            go_wp2
            obtain ⟨wo, rfl⟩ : ∃ wo : World, wo = wr := ⟨_, rfl⟩
            go_loopw [6] (fun p wr => ∃ j : Nat, j ≤ k ∧ p = .int .i64 j ∧ (∀ k', k' < j → Hid (bitI (zs[i]?.getD 0) k' = bitI (zs[k']?.getD 0) i)) ∧ ∃ q, w.drewN q = wr) (fun p _ => 12 - (intOf p).toNat)
            case atStart => exact ⟨0, by omega, rfl, by omega, HQ2.out⟩
            case round =>
              obtain ⟨j, hj, rfl, hJ, hq⟩ := hrel
              have HJ := Lib.hid hJ
              have HQ3 := Lib.hid hq
              by_cases hjk : j < k
              · have hjk' : (j : Int) < k := by omega
                have hxi : wr.cell? ⟨b, off + i, none⟩ = some (.int .i64 (zs.getD i 0)) := by obtain ⟨q, rfl⟩ := hq; exact hc i hik
                have hxj : wr.cell? ⟨b, off + j, none⟩ = some (.int .i64 (zs.getD j 0)) := by obtain ⟨q, rfl⟩ := hq; exact hc j hjk
                rw [List.getD_eq_getElem?_getD] at hxi hxj
                obtain ⟨q1, q2, _⟩ := okAt_bd hz.out hn2 (HA.out i hik)
                obtain ⟨q3, q4, _⟩ := okAt_bd hz.out hn2 (HA.out j hjk)
                clear hq hJ hc hw1 hw2
                go_wp2
                go_quiet ((go_at_call 87; exact quiet_mine (l1Bit_any _ _ (by omega) (by omega) (by omega) (by omega) _)))
                go_wp2
                · have hne : (bitI (zs[i]?.getD 0) j != bitI (zs[j]?.getD 0) i) = true := by assumption
                  have hne' : ¬ bitI (zs[i]?.getD 0) j = bitI (zs[j]?.getD 0) i := by simpa using hne
                  have hz' := hz.out
                  go_ret
                  exact ⟨by rw [graphB_pair (by omega) (by omega) hne']; rfl, drews HQ3.out _⟩
                · have hne : (bitI (zs[i]?.getD 0) j != bitI (zs[j]?.getD 0) i) = false := by assumption
                  have hne' : bitI (zs[i]?.getD 0) j = bitI (zs[j]?.getD 0) i := by simpa using hne
                  go_roundw
                  case rel =>
                    refine ⟨j + 1, by omega, by go_num, fun k' hk' => ?_, drews HQ3.out _⟩
                    rcases Nat.lt_succ_iff_lt_or_eq.1 hk' with h | rfl
                    · exact HJ.out k' h
                    · exact hne'
                  case measure => simp [intOf]; omega
              · obtain rfl : j = k := by omega
                clear hJ hq
                go_wp2
                go_roundw
                case rel =>
                  refine ⟨i + 1, by omega, by go_num, fun i' hi' k' hk' => ?_, HQ3.out⟩
                  rcases Nat.lt_succ_iff_lt_or_eq.1 hi' with h | rfl
                  · exact HP.out i' h k' hk'
                  · exact HJ.out k' hk'
                case measure => simp [intOf]; omega
          · obtain rfl : i = k := by omega
            go_wp2
            go_ret
            have hz' := hz.out
            exact ⟨by rw [graphB_pairs (by omega) (by omega) (fun j hj => HA.out j (by omega)) (fun j hj k' hk' => HP.out j (by omega) k' (by omega))]; rfl, HQ2.out⟩
  · have HG := Lib.hid (graphB_len (zs := zs) (by rw [← hs.len]; exact hn))
    have hn' : ¬ ((1 : Int) ≤ n ∧ (n : Int) ≤ 12) := by omega
    have HN := Lib.hid hn'
    clear hn hn' hs
    go_enter Try.func60, Try.ntmps60
    go_wp2_with (go_at_call 86; refine (sin_no _ _ _ HN.out _).mono ?_; rintro e w' ⟨rfl, rfl⟩)
    go_ret
    exact ⟨by rw [HG.out]; rfl, 0, rfl⟩

set_option maxRecDepth 100000 in
set_option maxHeartbeats 2000000 in
theorem GraphIn_is (v : Bool) (a : Option Addr) (n cap : Nat) (zs : List Int) (w : World) (hs : SlAt w a n zs) (hg : graphB zs = v) :
    Calls Try.prog 54 #[.slice a n cap] w fun e w' => e = .returned (.bool v) ∧ Below w.heap.size w w' := by
  subst hg
  by_cases hn : 1 ≤ n ∧ n ≤ 12
  · obtain ⟨b, off, rfl, hb, hc⟩ := hs.at' (by omega)
    exact GraphIn_t b off n cap zs w hs.len hn.1 hn.2 hb hc
  · have HG := Lib.hid (graphB_len (zs := zs) (by rw [← hs.len]; exact hn))
    have hbd := hs.bd
    have d1 : (decide ((1 : Int) ≤ n) && decide ((n : Int) ≤ 12)) = false := by simp; omega
    clear hs
    refine calls_marks Try.func54 rfl ?_
    simp only [Try.ntmps54, List.size_toArray, List.length_cons, List.length_nil, Nat.reduceAdd, Nat.reduceSub, Array.replicate_succ, Array.replicate_zero, List.push_toArray, List.append_toArray, List.nil_append, List.cons_append]
    go_wp2_with (go_at_call 91; refine (in_any _ _ _ _).mono ?_; rintro e w' ⟨rfl, rfl⟩; rw [d1])
    refine leaves_marks (lo := w.heap.size) [] _ (by simp; omega) (MarksOk.nil _ _) ?_
    intro W' hT
    have hcc := hT.cell (boxes2 w _ _ _ _).2.1
    refine ⟨_, by simp [results, Try.f54, go_sem, hcc]; rfl, ?_, (boxes2 w _ _ _ _).2.2.trans hT.below⟩
    rw [HG.out]
theorem sGraphIn_is (v : Bool) (a : Option Addr) (n cap : Nat) (zs : List Int) (w : World) (hs : SlAt w a n zs) (hg : graphB zs = v) :
    Calls Try.prog 60 #[.slice a n cap] w fun e w' => e = .returned (.bool v) ∧ Below w.heap.size w w' :=
  (sGraphIn_any a n cap zs w hs).mono fun _ _ ⟨h, q, hq⟩ => ⟨by rw [h, hg], by subst hq; exact ⟨rfl, rfl, rfl, Nat.le_refl _, fun _ _ => rfl⟩⟩
end Go.Proofs.Ytpllijjocccaaaa
