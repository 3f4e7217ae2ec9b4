/- CodePlace of the program. -/
import Derived.Test.YtpllijjocccaaaaCodes
namespace Go.Proofs.Ytpllijjocccaaaa
open Go.RowKit Go.Shelf
attribute [local go_sem] Oper.semAt_some

set_option maxRecDepth 100000 in
set_option maxHeartbeats 1000000 in
theorem equal_any (a b : Option Addr) (n m ca cb : Nat) (xs ys : List Int) (w : World) (hs : SlAt w a n xs) (ht : SlAt w b m ys) :
    Calls Try.prog 73 #[.slice a n ca, .slice b m cb] w fun e w' => e = .returned (.bool (decide (xs = ys))) ∧ ∃ q, w.drewN q = w' := by
  by_cases hnm : n = m
  · subst hnm
    go_enter Try.func73, Try.ntmps73
    go_wp2
    go_loopw [13] (fun p wr => ∃ k : Nat, k ≤ n ∧ p = .int .i64 k ∧ (∀ j, j < k → xs[j]?.getD 0 = ys[j]?.getD 0) ∧ ∃ q, w.drewN q = wr) (fun p _ => n - (intOf p).toNat)
    case atStart => exact ⟨0, by omega, rfl, by omega, 0, rfl⟩
    case round =>
      obtain ⟨k, hk, rfl, hag, q, rfl⟩ := hrel
      by_cases hlt : k < n
      · obtain ⟨b1, o1, rfl, hb1, hc1⟩ := hs.at' (by omega)
        obtain ⟨b2, o2, rfl, hb2, hc2⟩ := ht.at' (by omega)
        have hx := hc1 k hlt
        have hy := hc2 k hlt
        have hlt' : (k : Int) < n := by omega
        have hbd := hs.bd
        have HG := Lib.hid hag
        clear hc1 hc2 hag
        go_wp2
        go_quiet (fail)
        go_wp2
        · have hne : ¬ xs[k]?.getD 0 = ys[k]?.getD 0 := by
            have h : (xs[k]?.getD 0 != ys[k]?.getD 0) = true := by assumption
            simpa using h
          go_ret
          exact ⟨by rw [ne_of_at hne]; rfl, q + nq, (World.drewN_drewN _ _ _).symm⟩
        · have he : xs[k]?.getD 0 = ys[k]?.getD 0 := by
            have h : (xs[k]?.getD 0 != ys[k]?.getD 0) = false := by assumption
            simpa using h
          go_roundw
          case rel =>
            refine ⟨k + 1, by omega, by go_num, fun j hj => ?_, _, rfl⟩
            rcases Nat.lt_succ_iff_lt_or_eq.1 hj with h | rfl
            · exact HG.out j h
            · exact he
          case measure => simp [intOf]; omega
      · obtain rfl : k = n := by omega
        go_wp2
        go_ret
        exact ⟨by rw [eq_of_at hs.len ht.len hag]; rfl, q, rfl⟩
  · have hne : decide (xs = ys) = false := decide_eq_false fun e => hnm (by rw [hs.len, ht.len, e])
    have H := Lib.hid hne
    clear hne
    go_enter Try.func73, Try.ntmps73
    go_wp2
    go_ret
    exact ⟨by rw [H.out]; rfl, 0, rfl⟩


theorem equal_is (v : Bool) (a b : Option Addr) (n m ca cb : Nat) (xs ys : List Int) (w : World) (hs : SlAt w a n xs) (ht : SlAt w b m ys) (hv : decide (xs = ys) = v) :
    Calls Try.prog 73 #[.slice a n ca, .slice b m cb] w fun e w' => e = .returned (.bool v) ∧ Below w.heap.size w w' :=
  (equal_any a b n m ca cb xs ys w hs ht).mono fun _ _ ⟨h, q, hq⟩ => ⟨by rw [h, hv], by subst hq; exact bdrewN _ _⟩
theorem Boxed.below' {W W' : World} {R : Nat} {t : TypeId} {v : Value} (h : Boxed W R t v) (hb : Below W.heap.size W W') : Boxed W' R t v := Boxed.stay h (Below.stay hb []) h.lt (by simp)
theorem placeF_any (v : Bool) (a b : Option Addr) (n m ca cb PL : Nat) (xs ys : List Int) (w : World) (hP : Boxed w PL 23 (.slice b m cb)) (hs : SlAt w a n xs) (ht : SlAt w b m ys) (hv : decide (xs = ys) = v) :
    Calls Try.prog 72 #[.slice a n ca, .pointer (some ⟨PL, 0, none⟩)] w fun e w' => e = .returned (.bool v) ∧ Below w.heap.size w w' := by
  have c1 := hP.cell
  go_enter Try.func72, Try.ntmps72
  go_wp2_with (go_at_call 73; refine (equal_is v _ _ _ _ _ _ _ _ _ hs ht hv).mono ?_; rintro e w1 ⟨rfl, hb1⟩)
  go_ret
  exact ⟨rfl, hb1⟩
def rowIdx (rows : List (List Int)) (ys : List Int) : Int := idxBy rows.length fun i => decide (rows.getD i [] = ys)
set_option maxRecDepth 100000 in
set_option maxHeartbeats 1000000 in
theorem indexF_any (a b : Option Addr) (n m ca cb PL : Nat) (rows : List (List Int)) (ys : List Int) (w : World) (hP : Boxed w PL 23 (.slice b m cb)) (hs : RowsAt w a n rows) (ht : SlAt w b m ys) :
    Calls Try.prog 70 #[.slice a n ca, .func (.func 72) #[] #[.pointer (some ⟨PL, 0, none⟩)]] w fun e w' => e = .returned (.int .i64 (rowIdx rows ys)) ∧ Below w.heap.size w w' := by
  have hl := Lib.hid hs.len
  have hbd := hs.bd
  have HP := Lib.hid hP
  have HS := Lib.hid hs
  have HT := Lib.hid ht
  clear hP hs ht
  go_enter Try.func70, Try.ntmps70
  go_wp2
  go_loopw [8] (fun p wr => ∃ k : Nat, k ≤ n ∧ p = .int .i64 k ∧ (∀ j, j < k → Hid (decide (rows.getD j [] = ys) = false)) ∧ Below w.heap.size w wr) (fun p _ => n - (intOf p).toNat)
  case atStart => exact ⟨0, by omega, rfl, fun j hj => absurd hj (Nat.not_lt_zero j), Below.refl _ _⟩
  case round =>
    obtain ⟨k, hk, rfl, hag, hB⟩ := hrel
    have HAG := Lib.hid hag
    have HB := Lib.hid hB
    clear hag hB
    by_cases hlt : k < n
    · obtain ⟨b1, off, rfl, hb1, hc⟩ := (HS.out.below HB.out).at' (by omega)
      obtain ⟨aj, nj, cj, hcj, hsj⟩ := hc k hlt
      have hlt' : (k : Int) < n := by omega
      have HP2 := Lib.hid (Boxed.below' HP.out HB.out)
      have HT2 := Lib.hid (HT.out.below HB.out)
      have HSJ := Lib.hid hsj
      clear hc hsj
      cases hv : decide (rows.getD k [] = ys) with
      | true =>
        have HI : Hid (rowIdx rows ys = k) := idxBy_hit (by rw [← hl.out]; exact hlt) hv fun j hj => (HAG.out j hj).out
        have HV := Lib.hid hv
        clear hv
        go_wp2_with (go_at_call 72; refine (placeF_any true _ _ _ _ _ _ _ _ _ _ HP2.out HSJ.out HT2.out HV.out).mono ?_; rintro e w1 ⟨rfl, hb2⟩)
        go_ret
        exact ⟨by rw [HI.out]; rfl, bnext HB.out hb2⟩
      | false =>
        have HV := Lib.hid hv
        clear hv
        go_wp2_with (go_at_call 72; refine (placeF_any false _ _ _ _ _ _ _ _ _ _ HP2.out HSJ.out HT2.out HV.out).mono ?_; rintro e w1 ⟨rfl, hb2⟩)
        go_roundw
        case rel =>
          refine ⟨k + 1, by omega, by go_num, fun j hj => ?_, bnext HB.out hb2⟩
          rcases Nat.lt_succ_iff_lt_or_eq.1 hj with h | rfl
          · exact HAG.out j h
          · exact HV
        case measure => simp [intOf]; omega
    · obtain rfl : n = k := by omega
      have HI : Hid (rowIdx rows ys = -1) := idxBy_miss fun j hj => (HAG.out j (by rw [hl.out]; exact hj)).out
      go_wp2
      go_ret
      exact ⟨by rw [HI.out]; rfl, HB.out⟩
def placeB (zs : List Int) (cd : Int) (ys : List Int) : Int := if codeInB zs 3 cd then rowIdx (vecsV zs cd.toNat) ys else -1
def CodePlaceR (zs : List Int) (cd : Int) (ys : List Int) : Int := if 0 ≤ placeB zs cd ys then placeB zs cd ys else 0
set_option maxRecDepth 100000 in
set_option maxHeartbeats 1000000 in
theorem CodePlace_any (a : Option Addr) (n cap : Nat) (zs : List Int) (cd : Int) (b : Option Addr) (m cb : Nat) (ys : List Int) (w : World) (hs : SlAt w a n zs) (ht : SlAt w b m ys) :
    Calls Try.prog 24 #[.slice a n cap, .int .i64 cd, .slice b m cb] w fun e w' => e = .returned (.tuple #[.int .i64 (CodePlaceR zs cd ys), .bool (decide (0 ≤ placeB zs cd ys))]) ∧ Below w.heap.size w w' := by
  have hB0 : Below w.heap.size w (w.alloc (.cells #[.slice b m cb] 23)) := (Below.refl _ _).alloc (Nat.le_refl _) _
  have hX0 := Boxed.new w 23 (.slice b m cb)
  have hs0 := hs.below hB0
  cases hi : codeInB zs 3 cd with
  | false =>
    have HF := Lib.hid (show placeB zs cd ys = -1 by simp [placeB, hi])
    have HI := Lib.hid hi
    clear hi hX0
    go_enter Try.func24, Try.ntmps24
    go_wp2_with (go_at_call 22; refine (CodeIn_is false _ _ _ _ _ _ _ hs0 HI.out).mono ?_; rintro e w1 ⟨rfl, hb1⟩)
    go_ret2
    exact ⟨by unfold CodePlaceR; rw [HF.out]; rfl, bnext hB0 hb1⟩
  | true =>
    obtain ⟨hg, kind, c, hk2, rfl, hk3, hc, hc2, hiv⟩ := codeIn_of hi
    clear hk2 hk3 hiv
    have hG := isG_of hg
    rw [← hs.len] at hG hc2
    have HF := Lib.hid (show placeB zs c ys = rowIdx (vecsV zs c) ys by simp [placeB, hi])
    have HI := Lib.hid hi
    have HG := Lib.hid hg
    have HX0 := Lib.hid hX0
    have HC2 := Lib.hid hc2
    have HT := Lib.hid ht
    clear hi hg hc2 hX0 ht
    go_enter Try.func24, Try.ntmps24
    go_wp2_with fail
    refine (CodeIn_is true _ _ _ _ _ _ _ hs0 HI.out).mono ?_
    rintro e w1 ⟨rfl, hb1⟩
    go_wp2_with fail
    refine (bookOf_any _ _ _ _ _ (hs0.below hb1) HG.out).mono ?_
    rintro e w2 ⟨B, rfl, _, hBk, hb2⟩
    go_wp2_with fail
    refine (vectors_any B n zs c w2 hBk hG hc HC2.out).mono ?_
    rintro e w3 ⟨a3, c3, rfl, hA3, hb3⟩
    have hB3 := bnext (bnext (bnext hB0 hb1) hb2) hb3
    have HX3 := Lib.hid (Boxed.below' (Boxed.below' (Boxed.below' HX0.out hb1) hb2) hb3)
    have HT3 := Lib.hid (HT.out.below hB3)
    go_wp2_with fail
    refine (indexF_any _ _ _ _ _ _ _ _ ys _ HX3.out hA3.rowsAt HT3.out).mono ?_
    rintro e w4 ⟨rfl, hb4⟩
    obtain ⟨d, hd⟩ : ∃ d, rowIdx (vecsV zs c) ys = d := ⟨_, rfl⟩
    rw [hd]
    have HD := Lib.hid hd
    have hB := bnext hB3 hb4
    clear hd
    by_cases hd0 : 0 ≤ d
    · have hd0' : ¬ d < 0 := by omega
      go_wp2
      go_ret2
      exact ⟨by unfold CodePlaceR; rw [HF.out, HD.out, if_pos hd0, decide_eq_true hd0]; rfl, hB⟩
    · have hd0' : d < 0 := by omega
      go_wp2
      go_ret2
      exact ⟨by unfold CodePlaceR; rw [HF.out, HD.out, if_neg (by omega)]; rfl, hB⟩
end Go.Proofs.Ytpllijjocccaaaa
