/- LongestTour and BestTour: the program's functions. No condition but that the slices read. -/
import Derived.Test.YtlgcehdklpbknaaVisitI
import Derived.OneCell
namespace Go.Proofs.Ytlgcehdklpbknaa
open Go Go.RowKit Go.ChangeShapes Go.WideShapes
set_option linter.unusedSimpArgs false
set_option linter.unusedVariables false

def longR (l : List THall) (H : List Int) (R : List (List Int)) : Int × Int := if okHalls l H R = true then (longT l H R, 0) else (0, 1)
def bestR (l : List THall) (H : List Int) (R : List (List Int)) : List Int × Int × Int := if okHalls l H R = true then ((bestT l H R).1, (bestT l H R).2, 0) else ([], 0, 1)
theorem bestR_len (l : List THall) (H : List Int) (R : List (List Int)) : (bestR l H R).1.length ≤ l.length := by
  unfold bestR
  split
  · exact best_len ..
  · simp
def GivesOwnII {α : Type} (w : World) (E : TypeId) (k : Nat) (enc : α → List Value) (r : List α × Int × Int) (e : Ending) (w' : World) : Prop :=
  ∃ v, e = .returned (.tuple #[v, .int .i64 r.2.1, .int .i64 r.2.2]) ∧ Own w' w.heap.size E k v enc r.1 ∧ Below w.heap.size w w'
theorem touch_set (w : World) (g : Nat) (u : Value) (bs : List (Option Nat)) (h : some g ∈ bs) : TouchL w (w.setCell ⟨g, 0, none⟩ u) bs :=
  ⟨rfl, rfl, rfl, by simp, fun k _ hn => heap_setCell_other _ _ _ _ (fun e => hn _ h (by rw [e]))⟩
/-- a number in a block of its own -/
def StL (gm : Nat) (w : World) (m : Int) : Prop := w.heap[gm]? = some (.cells #[.int .i64 m] 3 (0, 0))
theorem StL.kept {gm : Nat} {w w' : World} {m : Int} (h : StL gm w m) (hb : Below w.heap.size w w') : StL gm w' m := (hb.block gm (lt_of_block h)).trans h

theorem ownsSet {α : Type} {w : World} {B : Nat} {E : TypeId} {k : Nat} {v : Value} {enc : α → List Value} {l : List α} (h : Own w B E k v enc l) {g : Nat} (hg : apart v.ownBlock (some g)) (u : Value) : Own (w.setCell ⟨g, 0, none⟩ u) B E k v enc l :=
  h.touched (touch_set w g u [some g] (by simp)) (by intro b hb; simp only [List.mem_singleton] at hb; subst hb; exact hg)
/-- the best tour and its income, each in a block of its own -/
def StB (gb gm B : Nat) (w : World) (s : List Int × Int) : Prop :=
  ∃ vb, Own w B 2 1 vb eI s.1 ∧ (∀ b ∈ [some gb, some gm], apart vb.ownBlock b) ∧ w.heap[gb]? = some (.cells #[vb] 25 (0, 0)) ∧ w.heap[gm]? = some (.cells #[.int .i64 s.2] 2 (0, 0))
theorem StB.kept {gb gm B : Nat} {w w' : World} {s : List Int × Int} (h : StB gb gm B w s) (hb : Below w.heap.size w w') : StB gb gm B w' s := by
  obtain ⟨vb, h1, h2, h3, h4⟩ := h
  exact ⟨vb, h1.below hb (Nat.le_refl _), h2, (hb.block gb (lt_of_block h3)).trans h3, (hb.block gm (lt_of_block h4)).trans h4⟩
theorem StB.store {gb gm B : Nat} {w w3 : World} {s : List Int × Int} (hne : gb ≠ gm) (h : StB gb gm B w s) (hb : Below w.heap.size w w3) {v3 : Value} {T : List Int} (ho : Own w3 w.heap.size 2 1 v3 eI T) (hB : B ≤ w.heap.size) (m : Int) :
    StB gb gm B ((w3.setCell ⟨gb, 0, none⟩ v3).setCell ⟨gm, 0, none⟩ (.int .i64 m)) (T, m) ∧ TouchL w ((w3.setCell ⟨gb, 0, none⟩ v3).setCell ⟨gm, 0, none⟩ (.int .i64 m)) [some gb, some gm] := by
  obtain ⟨vb, h1, h2, h3, h4⟩ := h
  have hgb := lt_of_block h3
  have hgm := lt_of_block h4
  have a1 : apart v3.ownBlock (some gb) := by
    cases hv : v3.ownBlock with
    | none => exact .inl rfl
    | some q => exact .inr fun e => by have := ho.lt q hv; simp only [Option.some.injEq] at e; omega
  have a2 : apart v3.ownBlock (some gm) := by
    cases hv : v3.ownBlock with
    | none => exact .inl rfl
    | some q => exact .inr fun e => by have := ho.lt q hv; simp only [Option.some.injEq] at e; omega
  have k3 := (hb.block gb hgb).trans h3
  have k4 := (hb.block gm hgm).trans h4
  refine ⟨⟨v3, ownsSet (ownsSet (ho.base hB) a1 _) a2 _, ?_, ?_, ?_⟩, touch_step (touch_below _ hb) (touch_step (touch_set _ _ _ _ (by simp)) (touch_set _ _ _ _ (by simp)))⟩
  · intro b hb'
    simp only [List.mem_cons, List.not_mem_nil, or_false] at hb'
    rcases hb' with rfl | rfl
    · exact a1
    · exact a2
  · rw [heap_setCell_other _ _ _ _ hne]
    exact one_setCell k3
  · exact one_setCell (by rw [heap_setCell_other _ _ _ _ (fun e => hne e.symm)]; exact k4)
end Go.Proofs.Ytlgcehdklpbknaa
