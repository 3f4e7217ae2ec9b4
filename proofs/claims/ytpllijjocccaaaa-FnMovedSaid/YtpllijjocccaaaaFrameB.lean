/- What the frames of the statements over bytes share. -/
import Derived.Test.YtpllijjocccaaaaFrame
import Derived.Test.YtpllijjocccaaaaPick
namespace Go.Proofs.Ytpllijjocccaaaa
open Go.RowKit Go.ChangeShapes Go.WideShapes Go.ChangeAt

theorem wf_byte {n : Int} (h : (Lit.int .u8 n).wf = true) : 0 ≤ n ∧ n ≤ 255 := by
  simpa [Lit.wf, IntKind.min, IntKind.max, IntKind.signed, IntKind.bits] using h
theorem isRow_bytes {w : World} {a : Option Addr} {len cap : Nat} {zs : List Int} (h : IsRow .u8 w a len cap zs) : BytesAt w a len cap := by
  have hc := isRow_cells h
  refine ⟨hc.2.1, ?_, fun hn => ?_⟩
  · rcases h with ⟨rfl, rfl, rfl, rfl⟩ | ⟨x, rfl, hl, _⟩
    · exact Nat.le_refl _
    · exact hl
  · obtain ⟨b, off, e, hb, hcell⟩ := hc.2.2 hn
    refine ⟨b, off, e, hb, fun j hj => ?_⟩
    have hwf : ∀ n ∈ zs, (Lit.int .u8 n).wf = true := by
      rcases h with ⟨_, rfl, _⟩ | ⟨x, rfl, hl, hm, hz, hc, hwf⟩
      · omega
      · exact hwf
    have hlen := hc.1
    have hm : (zs.take len).getD j 0 ∈ zs := by
      rw [List.getD_eq_getElem?_getD, List.getElem?_eq_getElem (by omega)]
      exact List.mem_of_mem_take (List.getElem_mem (by omega))
    obtain ⟨h0, h1⟩ := wf_byte (hwf _ hm)
    exact ⟨((zs.take len).getD j 0).toNat, by omega, by rw [hcell j hj, Int.toNat_of_nonneg h0]⟩
end Go.Proofs.Ytpllijjocccaaaa
