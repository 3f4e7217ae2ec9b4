/- CodeHas. -/
import Derived.Test.YtpllijjocccaaaaTwins
namespace Go.Proofs.Ytpllijjocccaaaa
open Go.RowKit Go.Shelf

def codeHasB (zs : List Int) : Bool := graphB zs && decide ((GraphTwinsR zs).length = 0)
theorem CodeHas_any (a : Option Addr) (n cap : Nat) (zs : List Int) (w : World) (hs : SlAt w a n zs) :
    Calls Try.prog 29 #[.slice a n cap] w fun e w' => e = .returned (.bool (codeHasB zs)) ∧ Below w.heap.size w w' := by
  cases hg : graphB zs with
  | false =>
    have HR := Lib.hid (show codeHasB zs = false by simp [codeHasB, hg])
    have HG := Lib.hid hg
    clear hg
    go_enter Try.func29, Try.ntmps29
    go_wp2_with fail
    refine (GraphTwins_any a n cap zs w hs).mono ?_
    rintro e w1 ⟨p, m, c, rfl, hA, hb⟩
    rw [HG.out]
    go_wp2
    go_ret
    exact ⟨by rw [HR.out]; rfl, hb⟩
  | true =>
    by_cases hm : (GraphTwinsR zs).length = 0
    · have HR := Lib.hid (show codeHasB zs = true by simp [codeHasB, hg, hm])
      have HG := Lib.hid hg
      have HM := Lib.hid hm
      clear hg hm
      go_enter Try.func29, Try.ntmps29
      go_wp2_with fail
      refine (GraphTwins_any a n cap zs w hs).mono ?_
      rintro e w1 ⟨p, m, c, rfl, hA, hb⟩
      obtain rfl : m = 0 := by rw [hA.len]; exact HM.out
      rw [HG.out]
      go_wp2
      go_ret
      exact ⟨by rw [HR.out]; rfl, hb⟩
    · have HR := Lib.hid (show codeHasB zs = false by simp [codeHasB, hm])
      have HG := Lib.hid hg
      have HM := Lib.hid hm
      clear hg hm
      go_enter Try.func29, Try.ntmps29
      go_wp2_with fail
      refine (GraphTwins_any a n cap zs w hs).mono ?_
      rintro e w1 ⟨p, m, c, rfl, hA, hb⟩
      have hm0 : m ≠ 0 := by rw [hA.len]; exact HM.out
      have hmz : ((m : Int) == 0) = false := by simpa using hm0
      rw [HG.out]
      go_wp2
      go_ret
      exact ⟨by rw [HR.out]; rfl, hb⟩
theorem sCodeHas_any (a : Option Addr) (n cap : Nat) (zs : List Int) (w : World) (hs : SlAt w a n zs) :
    Calls Try.prog 30 #[.slice a n cap] w fun e w' => e = .returned (.bool (codeHasB zs)) ∧ Below w.heap.size w w' := by
  cases hg : graphB zs with
  | false =>
    have HR := Lib.hid (show codeHasB zs = false by simp [codeHasB, hg])
    have HG := Lib.hid hg
    clear hg
    go_enter Try.func30, Try.ntmps30
    go_wp2_with fail
    refine (sGraphTwins_any a n cap zs w hs).mono ?_
    rintro e w1 ⟨p, m, c, rfl, hA, hb⟩
    rw [HG.out]
    go_wp2
    go_ret
    exact ⟨by rw [HR.out]; rfl, hb⟩
  | true =>
    by_cases hm : (GraphTwinsR zs).length = 0
    · have HR := Lib.hid (show codeHasB zs = true by simp [codeHasB, hg, hm])
      have HG := Lib.hid hg
      have HM := Lib.hid hm
      clear hg hm
      go_enter Try.func30, Try.ntmps30
      go_wp2_with fail
      refine (sGraphTwins_any a n cap zs w hs).mono ?_
      rintro e w1 ⟨p, m, c, rfl, hA, hb⟩
      obtain rfl : m = 0 := by rw [hA.len]; exact HM.out
      rw [HG.out]
      go_wp2
      go_ret
      exact ⟨by rw [HR.out]; rfl, hb⟩
    · have HR := Lib.hid (show codeHasB zs = false by simp [codeHasB, hm])
      have HG := Lib.hid hg
      have HM := Lib.hid hm
      clear hg hm
      go_enter Try.func30, Try.ntmps30
      go_wp2_with fail
      refine (sGraphTwins_any a n cap zs w hs).mono ?_
      rintro e w1 ⟨p, m, c, rfl, hA, hb⟩
      have hm0 : m ≠ 0 := by rw [hA.len]; exact HM.out
      have hmz : ((m : Int) == 0) = false := by simpa using hm0
      rw [HG.out]
      go_wp2
      go_ret
      exact ⟨by rw [HR.out]; rfl, hb⟩
end Go.Proofs.Ytpllijjocccaaaa
