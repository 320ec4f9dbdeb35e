/- Helpers of the laws about properties: f6big, f6ints, f6sum. A []byte parameter read as bytes. -/
import Derived.Test.YtnpejedeidnjnaaDoorBase
import Derived.Test.YtnpejedeidnjnaaDoorDecS
import Derived.BigQuiet
namespace Go.Proofs.YtnpejedeidnjnaaDoor
open Go Go.RowKit Go.ChangeShapes Go.WideShapes
set_option linter.unusedSimpArgs false
set_option linter.unusedVariables false
def toU (l : List Int) : List UInt8 := l.map fun x => UInt8.ofNat x.toNat
theorem Sl.bytes {w : World} {v : Value} {l : List Int} (h : Sl w 1 v eB l) (hr : ∀ x ∈ l, 0 ≤ x ∧ x ≤ 255) : Sl w 1 v eU (toU l) := by
  obtain ⟨h1, A, c, h2, h3, h4, h5⟩ := h
  refine ⟨by simpa [toU] using h1, A, c, by simpa [toU] using h2, by simpa [toU] using h3, h4, fun i y hy => ?_⟩
  simp only [toU, List.getElem?_map, Option.map_eq_some_iff] at hy
  obtain ⟨x, hx, rfl⟩ := hy
  obtain ⟨b, o, hA, hb, hc⟩ := h5 i x hx
  refine ⟨b, o, hA, hb, fun j u hu => hc j u ?_⟩
  obtain ⟨x0, x1⟩ := hr x (List.mem_of_getElem? hx)
  have : ((UInt8.ofNat x.toNat).toNat : Int) = x := by
    rw [UInt8.toNat_ofNat']
    omega
  simp only [eU, this] at hu
  exact hu
theorem toU_len (l : List Int) : (toU l).length = l.length := by simp [toU]
end Go.Proofs.YtnpejedeidnjnaaDoor
