/- One field of one place of an owned slice of structs: what it reads, what a store leaves. No condition. -/
import Derived.Test.YtlgcehdklpbknaaMem
import Derived.Laws.OwnMore
namespace Go.Proofs.Ytlgcehdklpbknaa
open Go Go.RowKit
set_option linter.unusedSimpArgs false
set_option linter.unusedVariables false

theorem flatMap_field {α : Type} (enc : α → List Value) (k : Nat) (hk : ∀ x, (enc x).length = k) (l : List α) (i : Nat) (hi : i < l.length) (y : α) (j : Nat) (hj : j < k) (u : Value) (hy : enc y = (enc l[i]).set j u) :
    (l.set i y).flatMap enc = (l.flatMap enc).set (i * k + j) u := by
  induction l generalizing i with
  | nil => simp at hi
  | cons x l ih =>
    cases i with
    | zero =>
      simp only [List.set_cons_zero, List.flatMap_cons, Nat.zero_mul, Nat.zero_add]
      simp only [List.getElem_cons_zero] at hy
      rw [hy, List.set_append_left _ _ (by rw [hk]; exact hj)]
    | succ i =>
      simp only [List.getElem_cons_succ] at hy
      simp only [List.set_cons_succ, List.flatMap_cons]
      rw [ih i (by simpa using hi) hy, List.set_append_right _ _ (by rw [hk, Nat.add_mul]; omega), hk]
      congr 2
      rw [Nat.add_mul]
      omega
theorem Own.field {α : Type} {enc : α → List Value} {w : World} {B : Nat} {E : TypeId} {k g cap n : Nat} {l : List α} (h : Own w B E k (.slice (some ⟨g, 0, none⟩) n cap) enc l) (hk : ∀ x, (enc x).length = k) (i : Nat) (hi : i < l.length) (y : α) (j : Nat) (hj : j < k) (u : Value) (hy : enc y = (enc l[i]).set j u) :
    Own (w.setCell ⟨g, i * k + j, none⟩ u) B E k (.slice (some ⟨g, 0, none⟩) n cap) enc (l.set i y) := by
  have hn : n = l.length := by
    rcases h.form with ⟨hv, -⟩ | ⟨g', cap', hv, -⟩
    · cases hv
    · injection hv
  subst hn
  have h1 := (World.ownsRow.stored h (i * k + j) u).1
  unfold Own
  rw [flatMap_field enc k hk l i hi y j hj u hy, List.length_set]
  exact h1
theorem Own.fieldAt {α : Type} {enc : α → List Value} {w : World} {B : Nat} {E : TypeId} {k g cap n : Nat} {l : List α} (h : Own w B E k (.slice (some ⟨g, 0, none⟩) n cap) enc l) (hk : ∀ x, (enc x).length = k) (i : Nat) (hi : i < l.length) (j : Nat) (u : Value) (hu : (enc l[i])[j]? = some u) :
    w.cell? ⟨g, i * k + j, none⟩ = some u ∧ w.frozen? ⟨g, i * k + j, none⟩ = false := by
  have hj : j < k := by have := (List.getElem?_eq_some_iff.1 hu).1; rwa [hk] at this
  have hn : n = l.length := by
    rcases h.form with ⟨hv, -⟩ | ⟨g', cap', hv, -⟩
    · cases hv
    · injection hv
  subst hn
  refine ⟨?_, World.ownsRow.frozenAt h _⟩
  have hlt : i * k + j < l.length * k := by
    have : (i + 1) * k ≤ l.length * k := Nat.mul_le_mul_right k hi
    rw [Nat.add_mul] at this
    omega
  rw [World.ownsRow.cellAt h (i * k + j) hlt, flatMap_at enc k hk l i l[i] (List.getElem?_eq_getElem hi) j hj, hu]
end Go.Proofs.Ytlgcehdklpbknaa
