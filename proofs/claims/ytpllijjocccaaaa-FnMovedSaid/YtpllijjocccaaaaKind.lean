/- GraphKind of both packages (printed by genkind.py). -/
import Derived.Test.YtpllijjocccaaaaSGraphOf
import Derived.Test.YtpllijjocccaaaaPair
namespace Go.Proofs.Ytpllijjocccaaaa
open Go.RowKit Go.Shelf
set_option linter.unusedVariables false

def eI (c n i k : Nat) : Bool := c == 3 || (c == 2 && k == 0) || (decide (c < 2) && (k + 1 == i)) || (c == 1 && k == 0 && (i + 1 == n))
def kRow (c n i : Nat) (o : List Int) (k : Nat) : List Int := (List.range k).foldl (fun o k => if eI c n i k then joinV o i k else o) o
def kTo (c n i : Nat) : List Int := (List.range i).foldl (fun o i => kRow c n i o i) (List.replicate n 0)
theorem kRow_succ (c n i : Nat) (o : List Int) (k : Nat) : kRow c n i o (k + 1) = if eI c n i k then joinV (kRow c n i o k) i k else kRow c n i o k := by
  unfold kRow; rw [List.range_succ, List.foldl_append]; rfl
theorem kTo_succ (c n i : Nat) : kTo c n (i + 1) = kRow c n i (kTo c n i) i := by
  unfold kTo; rw [List.range_succ, List.foldl_append]; rfl
def eS (c n i k : Nat) : Bool := c == 3 || (c == 2 && i == 0) || (decide (c < 2) && (k == i + 1)) || (c == 1 && i == 0 && (k + 1 == n))
def sRow (c n i m : Nat) : List (List Int) := ((List.range m).filter fun d => eS c n i (i + 1 + d)).map fun d => [(i : Int), ((i + 1 + d : Nat) : Int)]
def sTo (c n i : Nat) : List (List Int) := (List.range i).flatMap fun j => sRow c n j (n - j - 1)
theorem sRow_yes {c n i m : Nat} (h : eS c n i (i + 1 + m) = true) : sRow c n i (m + 1) = sRow c n i m ++ [[(i : Int), ((i + 1 + m : Nat) : Int)]] := by
  simp [sRow, List.range_succ, List.filter_append, h]
theorem sRow_no {c n i m : Nat} (h : eS c n i (i + 1 + m) = false) : sRow c n i (m + 1) = sRow c n i m := by
  simp [sRow, List.range_succ, List.filter_append, h]
theorem sTo_succ (c n i : Nat) : sTo c n (i + 1) = sTo c n i ++ sRow c n i (n - i - 1) := by
  simp [sTo, List.range_succ]
theorem sRow_len (c n i m : Nat) : (sRow c n i m).length ≤ m := by
  unfold sRow; rw [List.length_map]; exact Nat.le_trans (List.length_filter_le _ _) (by simp)
theorem sTo_len (c n i : Nat) : (sTo c n i).length ≤ i * n := by
  induction i with
  | zero => simp [sTo]
  | succ i ih => rw [sTo_succ, List.length_append, Nat.succ_mul]; have := sRow_len c n i (n - i - 1); omega
def kindOk (x y : Int) : Bool := (decide (0 ≤ x) && decide (x ≤ 3)) && (decide (1 ≤ y) && decide (y ≤ 12)) && !(decide (x = 1) && decide (y < 3))
def GraphKindR (x y : Int) : List Int := if kindOk x y then kTo x.toNat y.toNat y.toNat else []
theorem kinds_alike : ∀ c, c < 4 → ∀ n : Nat, n < 13 → n = 0 ∨ (c = 1 ∧ n < 3) ∨ (ofOk n (sTo c n n) = true ∧ putAll n (sTo c n n) = kTo c n n ∧ (kTo c n n).length = n) := by decide +kernel
theorem kindOk_of {x y : Int} (h : kindOk x y = true) : (0 ≤ x ∧ x ≤ 3) ∧ (1 ≤ y ∧ y ≤ 12) ∧ ¬ (x = 1 ∧ y < 3) := by
  simp only [kindOk, Bool.and_eq_true, Bool.not_eq_true', decide_eq_true_eq, Bool.and_eq_false_iff, decide_eq_false_iff_not] at h
  omega
theorem GraphKind_small {x y : Int} : (GraphKindR x y).length ≤ 4096 := by
  unfold GraphKindR
  split
  · rename_i h
    obtain ⟨h1, h2, h3⟩ := kindOk_of h
    rcases kinds_alike x.toNat (by omega) y.toNat (by omega) with h | h | h
    · omega
    · omega
    · rw [h.2.2]; omega
  · simp

theorem kind_cases (x y : Int) : (kindOk x y = true ∧ ∃ c n : Nat, x = c ∧ y = n ∧ c < 4 ∧ 1 ≤ n ∧ n ≤ 12 ∧ ¬ (c = 1 ∧ n < 3)) ∨ (kindOk x y = false ∧ ((decide (0 ≤ x) && decide (x ≤ 3)) = false ∨
    ((decide (0 ≤ x) && decide (x ≤ 3)) = true ∧ (decide (1 ≤ y) && decide (y ≤ 12)) = false) ∨ ((decide (0 ≤ x) && decide (x ≤ 3)) = true ∧ (decide (1 ≤ y) && decide (y ≤ 12)) = true ∧ x = 1 ∧ y < 3))) := by
  cases h : kindOk x y with
  | true =>
    obtain ⟨h1, h2, h3⟩ := kindOk_of h
    exact .inl ⟨rfl, x.toNat, y.toNat, by omega, by omega, by omega, by omega, by omega, by omega⟩
  | false =>
    refine .inr ⟨rfl, ?_⟩
    cases h1 : (decide (0 ≤ x) && decide (x ≤ 3)) with
    | false => exact .inl rfl
    | true =>
      cases h2 : (decide (1 ≤ y) && decide (y ≤ 12)) with
      | false => exact .inr (.inl ⟨rfl, rfl⟩)
      | true =>
        refine .inr (.inr ⟨rfl, rfl, ?_⟩)
        simpa [kindOk, h1, h2] using h
set_option maxRecDepth 100000 in
set_option maxHeartbeats 8000000 in
theorem sGraphKind_t0 (n : Nat) (w : World) (hn1 : 1 ≤ n) (hn2 : n ≤ 12) (hcn : ¬ (0 = 1 ∧ n < 3)) :
    Calls Try.prog 89 #[.int .i64 0, .int .i64 n] w fun e w' => ∃ a' n' c', e = .returned (.tuple #[.slice a' n' c', .bool true]) ∧ Arr w' w.heap.size a' n' c' (kTo 0 n n) ∧ Below w.heap.size w w' := by
  have HX : Hid ((decide ((0 : Int) ≤ 0) && decide ((0 : Int) ≤ 3)) = true) := by show (decide ((0 : Int) ≤ 0) && decide ((0 : Int) ≤ 3)) = true; decide
  have HY : Hid ((decide ((1 : Int) ≤ n) && decide ((n : Int) ≤ 12)) = true) := by show (decide ((1 : Int) ≤ n) && decide ((n : Int) ≤ 12)) = true; simp; omega
  have HL : Hid (ofOk n (sTo 0 n n) = true ∧ putAll n (sTo 0 n n) = kTo 0 n n) := by
    rcases kinds_alike 0 (by omega) n (by omega) with h | h | h
    · omega
    · exact absurd h hcn
    · exact ⟨h.1, h.2.1⟩
  have HV := Lib.hid (ArrRV.empty w w.heap.size (Nat.le_refl _))
  have HB0 : Hid (Below w.heap.size w (w.alloc (.cells #[] 23))) := (Below.refl _ _).alloc (Nat.le_refl _) _
  go_enter Try.func89, Try.ntmps89
  · have hdummy : True := trivial
    go_wp2_with fail
    refine (sin_is true _ _ _ _ HX.out).mono ?_
    rintro e w' ⟨rfl, rfl⟩
    go_wp2_with fail
    refine (sin_is true _ _ _ _ HY.out).mono ?_
    rintro e w' ⟨rfl, rfl⟩
    go_wp2
    go_loopw [6, 7] (fun u p wr => ∃ (i : Nat) (a' : Option Addr) (m c' : Nat), i ≤ n ∧ p = .int .i64 i ∧ u = .slice a' m c' ∧ ArrR wr w.heap.size a' m c' (sTo 0 n i) ∧ Below w.heap.size w wr) (fun _ p _ => 12 - (intOf p).toNat)
    case atStart => exact ⟨0, _, 0, 0, by omega, rfl, rfl, ⟨_, HV.out⟩, HB0.out⟩
    case round =>
      obtain ⟨i, a', m, c', hi', rfl, rfl, hA, hB⟩ := hrel
      have HA := Lib.hid hA
      have HB := Lib.hid hB
      clear hA hB
      by_cases hlt : i < n
      · have hlt' : (i : Int) < n := by omega
        go_wp2
        go_loopw [6, 8] (fun u p wr2 => ∃ (d : Nat) (a2 : Option Addr) (m2 c2 : Nat), i + 1 + d ≤ n ∧ p = .int .i64 ((i + 1 + d : Nat) : Int) ∧ u = .slice a2 m2 c2 ∧ ArrR wr2 w.heap.size a2 m2 c2 (sTo 0 n i ++ sRow 0 n i d) ∧ Below w.heap.size w wr2) (fun _ p _ => 12 - (intOf p).toNat)
        case atStart => exact ⟨0, _, _, _, by omega, by go_num, rfl, by simpa [sRow] using HA.out, HB.out⟩
        case round =>
          obtain ⟨d, a2, m2, c2, hd, rfl, rfl, hA, hB⟩ := hrel
          have hsz := hB.size
          have hm2 : m2 ≤ 1099511627776 := by
            have h1 := hA.len
            have h2 := sTo_len 0 n i
            have h3 := sRow_len 0 n i d
            rw [List.length_append] at h1
            have h4 : i * n ≤ 12 * 12 := Nat.mul_le_mul (by omega) hn2
            omega
          by_cases hlk : i + 1 + d < n
          · have hlk' : ((i + 1 + d : Nat) : Int) < n := by omega
            cases h0 : ((i : Int) == 0) with
            | true =>
              cases h1 : ((i : Int) + 1 + d == (i : Int) + 1) with
              | true =>
                have h0p := eq_of_beq h0
                have h1p := eq_of_beq h1
                have HE : Hid (eS 0 n i (i + 1 + d) = true) := by
                  show eS 0 n i (i + 1 + d) = true
                  simp [eS]
                  omega
                clear h0p
                clear h1p
                have HT := Lib.hid (sRow_yes HE.out)
                go_wp2_with (at_builtin; refine wpList_appendPair (W0 := wr) (sa := a2) (n := m2) (cap := c2) (p := i) (q := (i : Int) + 1 + d) rfl (.tmp 77) (.tmp 81) rfl rfl hA rfl hsz hm2 ?_; intro g c' w' hA' hB' _ _)
                go_roundw
                case rel =>
                  refine ⟨d + 1, _, _, _, by omega, by go_num, rfl, ?_, hB.trans hB'⟩
                  rw [HT.out, ← List.append_assoc, show ((i + 1 + d : Nat) : Int) = (i : Int) + 1 + d by omega]; exact hA'
                case measure => simp [intOf]; omega
              | false =>
                have h0p := eq_of_beq h0
                have h1p := ne_of_beq_false h1
                have HE : Hid (eS 0 n i (i + 1 + d) = false) := by
                  show eS 0 n i (i + 1 + d) = false
                  simp [eS]
                  omega
                clear h0p
                clear h1p
                have HT := Lib.hid (sRow_no HE.out)
                go_wp2
                go_roundw
                case rel => exact ⟨d + 1, _, _, _, by omega, by go_num, rfl, by rw [HT.out]; exact hA, hB⟩
                case measure => simp [intOf]; omega
            | false =>
              cases h1 : ((i : Int) + 1 + d == (i : Int) + 1) with
              | true =>
                have h0p := ne_of_beq_false h0
                have h1p := eq_of_beq h1
                have HE : Hid (eS 0 n i (i + 1 + d) = true) := by
                  show eS 0 n i (i + 1 + d) = true
                  simp [eS]
                  omega
                clear h0p
                clear h1p
                have HT := Lib.hid (sRow_yes HE.out)
                go_wp2_with (at_builtin; refine wpList_appendPair (W0 := wr) (sa := a2) (n := m2) (cap := c2) (p := i) (q := (i : Int) + 1 + d) rfl (.tmp 77) (.tmp 81) rfl rfl hA rfl hsz hm2 ?_; intro g c' w' hA' hB' _ _)
                go_roundw
                case rel =>
                  refine ⟨d + 1, _, _, _, by omega, by go_num, rfl, ?_, hB.trans hB'⟩
                  rw [HT.out, ← List.append_assoc, show ((i + 1 + d : Nat) : Int) = (i : Int) + 1 + d by omega]; exact hA'
                case measure => simp [intOf]; omega
              | false =>
                have h0p := ne_of_beq_false h0
                have h1p := ne_of_beq_false h1
                have HE : Hid (eS 0 n i (i + 1 + d) = false) := by
                  show eS 0 n i (i + 1 + d) = false
                  simp [eS]
                  omega
                clear h0p
                clear h1p
                have HT := Lib.hid (sRow_no HE.out)
                go_wp2
                go_roundw
                case rel => exact ⟨d + 1, _, _, _, by omega, by go_num, rfl, by rw [HT.out]; exact hA, hB⟩
                case measure => simp [intOf]; omega
          · have hd' : d = n - i - 1 := by omega
            have HT := Lib.hid (sTo_succ 0 n i)
            have HA2 := Lib.hid hA
            have HB2 := Lib.hid hB
            clear hA hB hsz
            go_wp2
            go_roundw
            case rel => exact ⟨i + 1, _, _, _, by omega, by go_num, rfl, by rw [HT.out, ← hd']; exact HA2.out, HB2.out⟩
            case measure => simp [intOf]; omega
      · obtain rfl : n = i := by omega
        have HN : Hid (-9223372036854775808 ≤ (n : Int) ∧ (n : Int) ≤ 9223372036854775807) := by show -9223372036854775808 ≤ (n : Int) ∧ (n : Int) ≤ 9223372036854775807; omega
        obtain ⟨vs, hV⟩ := HA.out
        have HR := Lib.hid hV.rowsAt
        clear hV
        go_wp2_with (go_at_call 90; refine (sGraphOf_any _ _ _ _ _ _ HN.out HR.out).mono ?_; rintro e w2 ⟨p2, m2, c2, rfl, hA2, hB2⟩; rw [HL.out.1])
        go_ret2
        have e : GraphOfR n (sTo 0 n n) = kTo 0 n n := by rw [GraphOfR, if_pos HL.out.1, Int.toNat_natCast]; exact HL.out.2
        exact ⟨_, _, _, rfl, by rw [← e]; exact hA2.mono HB.out.size, bnext HB.out hB2⟩
set_option maxRecDepth 100000 in
set_option maxHeartbeats 8000000 in
theorem sGraphKind_t1 (n : Nat) (w : World) (hn1 : 1 ≤ n) (hn2 : n ≤ 12) (hcn : ¬ (1 = 1 ∧ n < 3)) :
    Calls Try.prog 89 #[.int .i64 1, .int .i64 n] w fun e w' => ∃ a' n' c', e = .returned (.tuple #[.slice a' n' c', .bool true]) ∧ Arr w' w.heap.size a' n' c' (kTo 1 n n) ∧ Below w.heap.size w w' := by
  have HX : Hid ((decide ((0 : Int) ≤ 1) && decide ((1 : Int) ≤ 3)) = true) := by show (decide ((0 : Int) ≤ 1) && decide ((1 : Int) ≤ 3)) = true; decide
  have HY : Hid ((decide ((1 : Int) ≤ n) && decide ((n : Int) ≤ 12)) = true) := by show (decide ((1 : Int) ≤ n) && decide ((n : Int) ≤ 12)) = true; simp; omega
  have HL : Hid (ofOk n (sTo 1 n n) = true ∧ putAll n (sTo 1 n n) = kTo 1 n n) := by
    rcases kinds_alike 1 (by omega) n (by omega) with h | h | h
    · omega
    · exact absurd h hcn
    · exact ⟨h.1, h.2.1⟩
  have HV := Lib.hid (ArrRV.empty w w.heap.size (Nat.le_refl _))
  have HB0 : Hid (Below w.heap.size w (w.alloc (.cells #[] 23))) := (Below.refl _ _).alloc (Nat.le_refl _) _
  go_enter Try.func89, Try.ntmps89
  · have hcn3 : ¬ (n : Int) < 3 := by omega
    go_wp2_with fail
    refine (sin_is true _ _ _ _ HX.out).mono ?_
    rintro e w' ⟨rfl, rfl⟩
    go_wp2_with fail
    refine (sin_is true _ _ _ _ HY.out).mono ?_
    rintro e w' ⟨rfl, rfl⟩
    go_wp2
    go_loopw [6, 7] (fun u p wr => ∃ (i : Nat) (a' : Option Addr) (m c' : Nat), i ≤ n ∧ p = .int .i64 i ∧ u = .slice a' m c' ∧ ArrR wr w.heap.size a' m c' (sTo 1 n i) ∧ Below w.heap.size w wr) (fun _ p _ => 12 - (intOf p).toNat)
    case atStart => exact ⟨0, _, 0, 0, by omega, rfl, rfl, ⟨_, HV.out⟩, HB0.out⟩
    case round =>
      obtain ⟨i, a', m, c', hi', rfl, rfl, hA, hB⟩ := hrel
      have HA := Lib.hid hA
      have HB := Lib.hid hB
      clear hA hB
      by_cases hlt : i < n
      · have hlt' : (i : Int) < n := by omega
        go_wp2
        go_loopw [6, 8] (fun u p wr2 => ∃ (d : Nat) (a2 : Option Addr) (m2 c2 : Nat), i + 1 + d ≤ n ∧ p = .int .i64 ((i + 1 + d : Nat) : Int) ∧ u = .slice a2 m2 c2 ∧ ArrR wr2 w.heap.size a2 m2 c2 (sTo 1 n i ++ sRow 1 n i d) ∧ Below w.heap.size w wr2) (fun _ p _ => 12 - (intOf p).toNat)
        case atStart => exact ⟨0, _, _, _, by omega, by go_num, rfl, by simpa [sRow] using HA.out, HB.out⟩
        case round =>
          obtain ⟨d, a2, m2, c2, hd, rfl, rfl, hA, hB⟩ := hrel
          have hsz := hB.size
          have hm2 : m2 ≤ 1099511627776 := by
            have h1 := hA.len
            have h2 := sTo_len 1 n i
            have h3 := sRow_len 1 n i d
            rw [List.length_append] at h1
            have h4 : i * n ≤ 12 * 12 := Nat.mul_le_mul (by omega) hn2
            omega
          by_cases hlk : i + 1 + d < n
          · have hlk' : ((i + 1 + d : Nat) : Int) < n := by omega
            cases h0 : ((i : Int) == 0) with
            | true =>
              cases h1 : ((i : Int) + 1 + d == (i : Int) + 1) with
              | true =>
                have h0p := eq_of_beq h0
                have h1p := eq_of_beq h1
                have HE : Hid (eS 1 n i (i + 1 + d) = true) := by
                  show eS 1 n i (i + 1 + d) = true
                  simp [eS]
                  omega
                clear h0p
                clear h1p
                have HT := Lib.hid (sRow_yes HE.out)
                go_wp2_with (at_builtin; refine wpList_appendPair (W0 := wr) (sa := a2) (n := m2) (cap := c2) (p := i) (q := (i : Int) + 1 + d) rfl (.tmp 77) (.tmp 81) rfl rfl hA rfl hsz hm2 ?_; intro g c' w' hA' hB' _ _)
                go_roundw
                case rel =>
                  refine ⟨d + 1, _, _, _, by omega, by go_num, rfl, ?_, hB.trans hB'⟩
                  rw [HT.out, ← List.append_assoc, show ((i + 1 + d : Nat) : Int) = (i : Int) + 1 + d by omega]; exact hA'
                case measure => simp [intOf]; omega
              | false =>
                cases h3 : ((i : Int) + 1 + d == (n : Int) - 1) with
                | true =>
                  have h0p := eq_of_beq h0
                  have h1p := ne_of_beq_false h1
                  have h3p := eq_of_beq h3
                  have HE : Hid (eS 1 n i (i + 1 + d) = true) := by
                    show eS 1 n i (i + 1 + d) = true
                    simp [eS]
                    omega
                  clear h0p
                  clear h1p
                  clear h3p
                  have HT := Lib.hid (sRow_yes HE.out)
                  go_wp2_with (at_builtin; refine wpList_appendPair (W0 := wr) (sa := a2) (n := m2) (cap := c2) (p := i) (q := (i : Int) + 1 + d) rfl (.tmp 77) (.tmp 81) rfl rfl hA rfl hsz hm2 ?_; intro g c' w' hA' hB' _ _)
                  go_roundw
                  case rel =>
                    refine ⟨d + 1, _, _, _, by omega, by go_num, rfl, ?_, hB.trans hB'⟩
                    rw [HT.out, ← List.append_assoc, show ((i + 1 + d : Nat) : Int) = (i : Int) + 1 + d by omega]; exact hA'
                  case measure => simp [intOf]; omega
                | false =>
                  have h0p := eq_of_beq h0
                  have h1p := ne_of_beq_false h1
                  have h3p := ne_of_beq_false h3
                  have HE : Hid (eS 1 n i (i + 1 + d) = false) := by
                    show eS 1 n i (i + 1 + d) = false
                    simp [eS]
                    omega
                  clear h0p
                  clear h1p
                  clear h3p
                  have HT := Lib.hid (sRow_no HE.out)
                  go_wp2
                  go_roundw
                  case rel => exact ⟨d + 1, _, _, _, by omega, by go_num, rfl, by rw [HT.out]; exact hA, hB⟩
                  case measure => simp [intOf]; omega
            | false =>
              cases h1 : ((i : Int) + 1 + d == (i : Int) + 1) with
              | true =>
                have h0p := ne_of_beq_false h0
                have h1p := eq_of_beq h1
                have HE : Hid (eS 1 n i (i + 1 + d) = true) := by
                  show eS 1 n i (i + 1 + d) = true
                  simp [eS]
                  omega
                clear h0p
                clear h1p
                have HT := Lib.hid (sRow_yes HE.out)
                go_wp2_with (at_builtin; refine wpList_appendPair (W0 := wr) (sa := a2) (n := m2) (cap := c2) (p := i) (q := (i : Int) + 1 + d) rfl (.tmp 77) (.tmp 81) rfl rfl hA rfl hsz hm2 ?_; intro g c' w' hA' hB' _ _)
                go_roundw
                case rel =>
                  refine ⟨d + 1, _, _, _, by omega, by go_num, rfl, ?_, hB.trans hB'⟩
                  rw [HT.out, ← List.append_assoc, show ((i + 1 + d : Nat) : Int) = (i : Int) + 1 + d by omega]; exact hA'
                case measure => simp [intOf]; omega
              | false =>
                have h0p := ne_of_beq_false h0
                have h1p := ne_of_beq_false h1
                have HE : Hid (eS 1 n i (i + 1 + d) = false) := by
                  show eS 1 n i (i + 1 + d) = false
                  simp [eS]
                  omega
                clear h0p
                clear h1p
                have HT := Lib.hid (sRow_no HE.out)
                go_wp2
                go_roundw
                case rel => exact ⟨d + 1, _, _, _, by omega, by go_num, rfl, by rw [HT.out]; exact hA, hB⟩
                case measure => simp [intOf]; omega
          · have hd' : d = n - i - 1 := by omega
            have HT := Lib.hid (sTo_succ 1 n i)
            have HA2 := Lib.hid hA
            have HB2 := Lib.hid hB
            clear hA hB hsz
            go_wp2
            go_roundw
            case rel => exact ⟨i + 1, _, _, _, by omega, by go_num, rfl, by rw [HT.out, ← hd']; exact HA2.out, HB2.out⟩
            case measure => simp [intOf]; omega
      · obtain rfl : n = i := by omega
        have HN : Hid (-9223372036854775808 ≤ (n : Int) ∧ (n : Int) ≤ 9223372036854775807) := by show -9223372036854775808 ≤ (n : Int) ∧ (n : Int) ≤ 9223372036854775807; omega
        obtain ⟨vs, hV⟩ := HA.out
        have HR := Lib.hid hV.rowsAt
        clear hV
        go_wp2_with (go_at_call 90; refine (sGraphOf_any _ _ _ _ _ _ HN.out HR.out).mono ?_; rintro e w2 ⟨p2, m2, c2, rfl, hA2, hB2⟩; rw [HL.out.1])
        go_ret2
        have e : GraphOfR n (sTo 1 n n) = kTo 1 n n := by rw [GraphOfR, if_pos HL.out.1, Int.toNat_natCast]; exact HL.out.2
        exact ⟨_, _, _, rfl, by rw [← e]; exact hA2.mono HB.out.size, bnext HB.out hB2⟩
set_option maxRecDepth 100000 in
set_option maxHeartbeats 8000000 in
theorem sGraphKind_t2 (n : Nat) (w : World) (hn1 : 1 ≤ n) (hn2 : n ≤ 12) (hcn : ¬ (2 = 1 ∧ n < 3)) :
    Calls Try.prog 89 #[.int .i64 2, .int .i64 n] w fun e w' => ∃ a' n' c', e = .returned (.tuple #[.slice a' n' c', .bool true]) ∧ Arr w' w.heap.size a' n' c' (kTo 2 n n) ∧ Below w.heap.size w w' := by
  have HX : Hid ((decide ((0 : Int) ≤ 2) && decide ((2 : Int) ≤ 3)) = true) := by show (decide ((0 : Int) ≤ 2) && decide ((2 : Int) ≤ 3)) = true; decide
  have HY : Hid ((decide ((1 : Int) ≤ n) && decide ((n : Int) ≤ 12)) = true) := by show (decide ((1 : Int) ≤ n) && decide ((n : Int) ≤ 12)) = true; simp; omega
  have HL : Hid (ofOk n (sTo 2 n n) = true ∧ putAll n (sTo 2 n n) = kTo 2 n n) := by
    rcases kinds_alike 2 (by omega) n (by omega) with h | h | h
    · omega
    · exact absurd h hcn
    · exact ⟨h.1, h.2.1⟩
  have HV := Lib.hid (ArrRV.empty w w.heap.size (Nat.le_refl _))
  have HB0 : Hid (Below w.heap.size w (w.alloc (.cells #[] 23))) := (Below.refl _ _).alloc (Nat.le_refl _) _
  go_enter Try.func89, Try.ntmps89
  · have hdummy : True := trivial
    go_wp2_with fail
    refine (sin_is true _ _ _ _ HX.out).mono ?_
    rintro e w' ⟨rfl, rfl⟩
    go_wp2_with fail
    refine (sin_is true _ _ _ _ HY.out).mono ?_
    rintro e w' ⟨rfl, rfl⟩
    go_wp2
    go_loopw [6, 7] (fun u p wr => ∃ (i : Nat) (a' : Option Addr) (m c' : Nat), i ≤ n ∧ p = .int .i64 i ∧ u = .slice a' m c' ∧ ArrR wr w.heap.size a' m c' (sTo 2 n i) ∧ Below w.heap.size w wr) (fun _ p _ => 12 - (intOf p).toNat)
    case atStart => exact ⟨0, _, 0, 0, by omega, rfl, rfl, ⟨_, HV.out⟩, HB0.out⟩
    case round =>
      obtain ⟨i, a', m, c', hi', rfl, rfl, hA, hB⟩ := hrel
      have HA := Lib.hid hA
      have HB := Lib.hid hB
      clear hA hB
      by_cases hlt : i < n
      · have hlt' : (i : Int) < n := by omega
        go_wp2
        go_loopw [6, 8] (fun u p wr2 => ∃ (d : Nat) (a2 : Option Addr) (m2 c2 : Nat), i + 1 + d ≤ n ∧ p = .int .i64 ((i + 1 + d : Nat) : Int) ∧ u = .slice a2 m2 c2 ∧ ArrR wr2 w.heap.size a2 m2 c2 (sTo 2 n i ++ sRow 2 n i d) ∧ Below w.heap.size w wr2) (fun _ p _ => 12 - (intOf p).toNat)
        case atStart => exact ⟨0, _, _, _, by omega, by go_num, rfl, by simpa [sRow] using HA.out, HB.out⟩
        case round =>
          obtain ⟨d, a2, m2, c2, hd, rfl, rfl, hA, hB⟩ := hrel
          have hsz := hB.size
          have hm2 : m2 ≤ 1099511627776 := by
            have h1 := hA.len
            have h2 := sTo_len 2 n i
            have h3 := sRow_len 2 n i d
            rw [List.length_append] at h1
            have h4 : i * n ≤ 12 * 12 := Nat.mul_le_mul (by omega) hn2
            omega
          by_cases hlk : i + 1 + d < n
          · have hlk' : ((i + 1 + d : Nat) : Int) < n := by omega
            cases h0 : ((i : Int) == 0) with
            | true =>
              have h0p := eq_of_beq h0
              have HE : Hid (eS 2 n i (i + 1 + d) = true) := by
                show eS 2 n i (i + 1 + d) = true
                simp [eS]
                omega
              clear h0p
              have HT := Lib.hid (sRow_yes HE.out)
              go_wp2_with (at_builtin; refine wpList_appendPair (W0 := wr) (sa := a2) (n := m2) (cap := c2) (p := i) (q := (i : Int) + 1 + d) rfl (.tmp 77) (.tmp 81) rfl rfl hA rfl hsz hm2 ?_; intro g c' w' hA' hB' _ _)
              go_roundw
              case rel =>
                refine ⟨d + 1, _, _, _, by omega, by go_num, rfl, ?_, hB.trans hB'⟩
                rw [HT.out, ← List.append_assoc, show ((i + 1 + d : Nat) : Int) = (i : Int) + 1 + d by omega]; exact hA'
              case measure => simp [intOf]; omega
            | false =>
              have h0p := ne_of_beq_false h0
              have HE : Hid (eS 2 n i (i + 1 + d) = false) := by
                show eS 2 n i (i + 1 + d) = false
                simp [eS]
                omega
              clear h0p
              have HT := Lib.hid (sRow_no HE.out)
              go_wp2
              go_roundw
              case rel => exact ⟨d + 1, _, _, _, by omega, by go_num, rfl, by rw [HT.out]; exact hA, hB⟩
              case measure => simp [intOf]; omega
          · have hd' : d = n - i - 1 := by omega
            have HT := Lib.hid (sTo_succ 2 n i)
            have HA2 := Lib.hid hA
            have HB2 := Lib.hid hB
            clear hA hB hsz
            go_wp2
            go_roundw
            case rel => exact ⟨i + 1, _, _, _, by omega, by go_num, rfl, by rw [HT.out, ← hd']; exact HA2.out, HB2.out⟩
            case measure => simp [intOf]; omega
      · obtain rfl : n = i := by omega
        have HN : Hid (-9223372036854775808 ≤ (n : Int) ∧ (n : Int) ≤ 9223372036854775807) := by show -9223372036854775808 ≤ (n : Int) ∧ (n : Int) ≤ 9223372036854775807; omega
        obtain ⟨vs, hV⟩ := HA.out
        have HR := Lib.hid hV.rowsAt
        clear hV
        go_wp2_with (go_at_call 90; refine (sGraphOf_any _ _ _ _ _ _ HN.out HR.out).mono ?_; rintro e w2 ⟨p2, m2, c2, rfl, hA2, hB2⟩; rw [HL.out.1])
        go_ret2
        have e : GraphOfR n (sTo 2 n n) = kTo 2 n n := by rw [GraphOfR, if_pos HL.out.1, Int.toNat_natCast]; exact HL.out.2
        exact ⟨_, _, _, rfl, by rw [← e]; exact hA2.mono HB.out.size, bnext HB.out hB2⟩
set_option maxRecDepth 100000 in
set_option maxHeartbeats 8000000 in
theorem sGraphKind_t3 (n : Nat) (w : World) (hn1 : 1 ≤ n) (hn2 : n ≤ 12) (hcn : ¬ (3 = 1 ∧ n < 3)) :
    Calls Try.prog 89 #[.int .i64 3, .int .i64 n] w fun e w' => ∃ a' n' c', e = .returned (.tuple #[.slice a' n' c', .bool true]) ∧ Arr w' w.heap.size a' n' c' (kTo 3 n n) ∧ Below w.heap.size w w' := by
  have HX : Hid ((decide ((0 : Int) ≤ 3) && decide ((3 : Int) ≤ 3)) = true) := by show (decide ((0 : Int) ≤ 3) && decide ((3 : Int) ≤ 3)) = true; decide
  have HY : Hid ((decide ((1 : Int) ≤ n) && decide ((n : Int) ≤ 12)) = true) := by show (decide ((1 : Int) ≤ n) && decide ((n : Int) ≤ 12)) = true; simp; omega
  have HL : Hid (ofOk n (sTo 3 n n) = true ∧ putAll n (sTo 3 n n) = kTo 3 n n) := by
    rcases kinds_alike 3 (by omega) n (by omega) with h | h | h
    · omega
    · exact absurd h hcn
    · exact ⟨h.1, h.2.1⟩
  have HV := Lib.hid (ArrRV.empty w w.heap.size (Nat.le_refl _))
  have HB0 : Hid (Below w.heap.size w (w.alloc (.cells #[] 23))) := (Below.refl _ _).alloc (Nat.le_refl _) _
  go_enter Try.func89, Try.ntmps89
  · have hdummy : True := trivial
    go_wp2_with fail
    refine (sin_is true _ _ _ _ HX.out).mono ?_
    rintro e w' ⟨rfl, rfl⟩
    go_wp2_with fail
    refine (sin_is true _ _ _ _ HY.out).mono ?_
    rintro e w' ⟨rfl, rfl⟩
    go_wp2
    go_loopw [6, 7] (fun u p wr => ∃ (i : Nat) (a' : Option Addr) (m c' : Nat), i ≤ n ∧ p = .int .i64 i ∧ u = .slice a' m c' ∧ ArrR wr w.heap.size a' m c' (sTo 3 n i) ∧ Below w.heap.size w wr) (fun _ p _ => 12 - (intOf p).toNat)
    case atStart => exact ⟨0, _, 0, 0, by omega, rfl, rfl, ⟨_, HV.out⟩, HB0.out⟩
    case round =>
      obtain ⟨i, a', m, c', hi', rfl, rfl, hA, hB⟩ := hrel
      have HA := Lib.hid hA
      have HB := Lib.hid hB
      clear hA hB
      by_cases hlt : i < n
      · have hlt' : (i : Int) < n := by omega
        go_wp2
        go_loopw [6, 8] (fun u p wr2 => ∃ (d : Nat) (a2 : Option Addr) (m2 c2 : Nat), i + 1 + d ≤ n ∧ p = .int .i64 ((i + 1 + d : Nat) : Int) ∧ u = .slice a2 m2 c2 ∧ ArrR wr2 w.heap.size a2 m2 c2 (sTo 3 n i ++ sRow 3 n i d) ∧ Below w.heap.size w wr2) (fun _ p _ => 12 - (intOf p).toNat)
        case atStart => exact ⟨0, _, _, _, by omega, by go_num, rfl, by simpa [sRow] using HA.out, HB.out⟩
        case round =>
          obtain ⟨d, a2, m2, c2, hd, rfl, rfl, hA, hB⟩ := hrel
          have hsz := hB.size
          have hm2 : m2 ≤ 1099511627776 := by
            have h1 := hA.len
            have h2 := sTo_len 3 n i
            have h3 := sRow_len 3 n i d
            rw [List.length_append] at h1
            have h4 : i * n ≤ 12 * 12 := Nat.mul_le_mul (by omega) hn2
            omega
          by_cases hlk : i + 1 + d < n
          · have hlk' : ((i + 1 + d : Nat) : Int) < n := by omega
            cases h0 : ((i : Int) == 0) with
            | true =>
              have h0p := eq_of_beq h0
              have HE : Hid (eS 3 n i (i + 1 + d) = true) := by
                show eS 3 n i (i + 1 + d) = true
                rfl
              clear h0p
              have HT := Lib.hid (sRow_yes HE.out)
              go_wp2_with (at_builtin; refine wpList_appendPair (W0 := wr) (sa := a2) (n := m2) (cap := c2) (p := i) (q := (i : Int) + 1 + d) rfl (.tmp 77) (.tmp 81) rfl rfl hA rfl hsz hm2 ?_; intro g c' w' hA' hB' _ _)
              go_roundw
              case rel =>
                refine ⟨d + 1, _, _, _, by omega, by go_num, rfl, ?_, hB.trans hB'⟩
                rw [HT.out, ← List.append_assoc, show ((i + 1 + d : Nat) : Int) = (i : Int) + 1 + d by omega]; exact hA'
              case measure => simp [intOf]; omega
            | false =>
              have h0p := ne_of_beq_false h0
              have HE : Hid (eS 3 n i (i + 1 + d) = true) := by
                show eS 3 n i (i + 1 + d) = true
                rfl
              clear h0p
              have HT := Lib.hid (sRow_yes HE.out)
              go_wp2_with (at_builtin; refine wpList_appendPair (W0 := wr) (sa := a2) (n := m2) (cap := c2) (p := i) (q := (i : Int) + 1 + d) rfl (.tmp 77) (.tmp 81) rfl rfl hA rfl hsz hm2 ?_; intro g c' w' hA' hB' _ _)
              go_roundw
              case rel =>
                refine ⟨d + 1, _, _, _, by omega, by go_num, rfl, ?_, hB.trans hB'⟩
                rw [HT.out, ← List.append_assoc, show ((i + 1 + d : Nat) : Int) = (i : Int) + 1 + d by omega]; exact hA'
              case measure => simp [intOf]; omega
          · have hd' : d = n - i - 1 := by omega
            have HT := Lib.hid (sTo_succ 3 n i)
            have HA2 := Lib.hid hA
            have HB2 := Lib.hid hB
            clear hA hB hsz
            go_wp2
            go_roundw
            case rel => exact ⟨i + 1, _, _, _, by omega, by go_num, rfl, by rw [HT.out, ← hd']; exact HA2.out, HB2.out⟩
            case measure => simp [intOf]; omega
      · obtain rfl : n = i := by omega
        have HN : Hid (-9223372036854775808 ≤ (n : Int) ∧ (n : Int) ≤ 9223372036854775807) := by show -9223372036854775808 ≤ (n : Int) ∧ (n : Int) ≤ 9223372036854775807; omega
        obtain ⟨vs, hV⟩ := HA.out
        have HR := Lib.hid hV.rowsAt
        clear hV
        go_wp2_with (go_at_call 90; refine (sGraphOf_any _ _ _ _ _ _ HN.out HR.out).mono ?_; rintro e w2 ⟨p2, m2, c2, rfl, hA2, hB2⟩; rw [HL.out.1])
        go_ret2
        have e : GraphOfR n (sTo 3 n n) = kTo 3 n n := by rw [GraphOfR, if_pos HL.out.1, Int.toNat_natCast]; exact HL.out.2
        exact ⟨_, _, _, rfl, by rw [← e]; exact hA2.mono HB.out.size, bnext HB.out hB2⟩
theorem sGraphKind_t (c n : Nat) (w : World) (hc : c < 4) (hn1 : 1 ≤ n) (hn2 : n ≤ 12) (hcn : ¬ (c = 1 ∧ n < 3)) :
    Calls Try.prog 89 #[.int .i64 c, .int .i64 n] w fun e w' => ∃ a' n' c', e = .returned (.tuple #[.slice a' n' c', .bool true]) ∧ Arr w' w.heap.size a' n' c' (kTo c n n) ∧ Below w.heap.size w w' := by
  have h4 : c = 0 ∨ c = 1 ∨ c = 2 ∨ c = 3 := by omega
  rcases h4 with rfl | rfl | rfl | rfl
  · exact sGraphKind_t0 n w hn1 hn2 hcn
  · exact sGraphKind_t1 n w hn1 hn2 hcn
  · exact sGraphKind_t2 n w hn1 hn2 hcn
  · exact sGraphKind_t3 n w hn1 hn2 hcn
set_option maxHeartbeats 1000000 in
theorem sGraphKind_any (x y : Int) (w : World) (hx : -9223372036854775808 ≤ x ∧ x ≤ 9223372036854775807) (hy : -9223372036854775808 ≤ y ∧ y ≤ 9223372036854775807) :
    Calls Try.prog 89 #[.int .i64 x, .int .i64 y] w fun e w' => ∃ a' n' c', e = .returned (.tuple #[.slice a' n' c', .bool (kindOk x y)]) ∧ Arr w' w.heap.size a' n' c' (GraphKindR x y) ∧ Below w.heap.size w w' := by
  rcases kind_cases x y with ⟨hk, c, n, rfl, rfl, h1, h2, h3, h4⟩ | ⟨hk, h⟩
  · rw [hk, GraphKindR, if_pos hk]; exact sGraphKind_t c n w h1 h2 h3 h4
  · have HK := Lib.hid hk
    have HR : Hid (GraphKindR x y = []) := by show GraphKindR x y = []; rw [GraphKindR, hk]; rfl
    clear hk
    rcases h with h | ⟨h, h'⟩ | ⟨h, h', rfl, h3⟩
    · have H := Lib.hid h
      clear h
      go_enter Try.func89, Try.ntmps89
      go_wp2_with (go_at_call 86; refine (sin_is false _ _ _ _ H.out).mono ?_; rintro e w' ⟨rfl, rfl⟩)
      go_ret2
      exact ⟨_, _, _, by rw [HK.out]; rfl, by rw [HR.out]; exact Arr.empty (Nat.le_refl _), (Below.refl _ _).alloc (Nat.le_refl _) _⟩
    · have H := Lib.hid h
      have H' := Lib.hid h'
      clear h h'
      go_enter Try.func89, Try.ntmps89
      go_wp2_with fail
      refine (sin_is true _ _ _ _ H.out).mono ?_
      rintro e w' ⟨rfl, rfl⟩
      go_wp2_with fail
      refine (sin_is false _ _ _ _ H'.out).mono ?_
      rintro e w' ⟨rfl, rfl⟩
      go_wp2
      go_ret2
      exact ⟨_, _, _, by rw [HK.out]; rfl, by rw [HR.out]; exact Arr.empty (Nat.le_refl _), (Below.refl _ _).alloc (Nat.le_refl _) _⟩
    · have H := Lib.hid h
      have H' := Lib.hid h'
      clear h h'
      go_enter Try.func89, Try.ntmps89
      go_wp2_with fail
      refine (sin_is true _ _ _ _ H.out).mono ?_
      rintro e w' ⟨rfl, rfl⟩
      go_wp2_with fail
      refine (sin_is true _ _ _ _ H'.out).mono ?_
      rintro e w' ⟨rfl, rfl⟩
      go_wp2
      go_ret2
      exact ⟨_, _, _, by rw [HK.out]; rfl, by rw [HR.out]; exact Arr.empty (Nat.le_refl _), (Below.refl _ _).alloc (Nat.le_refl _) _⟩
end Go.Proofs.Ytpllijjocccaaaa
