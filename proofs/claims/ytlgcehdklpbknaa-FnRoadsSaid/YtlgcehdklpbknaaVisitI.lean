/- All tours: the program's walk through them, for whatever function it is handed. No condition but that the slices read. -/
import Derived.Test.YtlgcehdklpbknaaVisitP
import Derived.Test.YtlgcehdklpbknaaNextI
namespace Go.Proofs.Ytlgcehdklpbknaa
open Go Go.RowKit Go.ChangeShapes Go.WideShapes
set_option linter.unusedSimpArgs false
set_option linter.unusedVariables false

theorem touch_below {w w' : World} (bs : List (Option Nat)) (h : Below w.heap.size w w') : TouchL w w' bs := ⟨h.os, h.tape, h.output, h.size, fun k hk _ => h.block k hk⟩
theorem touch_step {a b c : World} {bs : List (Option Nat)} (h : TouchL a b bs) (h' : TouchL b c bs) : TouchL a c bs := (h.trans h').mono (by intro x hx; simpa using hx)
theorem touch_cell {w w' : World} {bs : List (Option Nat)} (h : TouchL w w' bs) {b o : Nat} (hb : b < w.heap.size) (hn : ∀ x ∈ bs, x ≠ some b) : w'.cell? ⟨b, o, none⟩ = w.cell? ⟨b, o, none⟩ := by
  have := h.block b hb hn
  simp [World.cell?, this]
def GivesV {σ : Type} (w : World) (bs : List (Option Nat)) (St : World → σ → Prop) (s : σ) (e : Ending) (w' : World) : Prop := e = .returned (.tuple #[]) ∧ St w' s ∧ TouchL w w' bs

end Go.Proofs.Ytlgcehdklpbknaa
