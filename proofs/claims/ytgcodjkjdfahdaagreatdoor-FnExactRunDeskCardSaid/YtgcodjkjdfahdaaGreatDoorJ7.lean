/- Texts of the claim, joined: each says at its head what it proves. No condition. -/
import Derived.Test.YtgcodjkjdfahdaaGreatDoorJ5
import Derived.Test.YtgcodjkjdfahdaaGreatDoorJ1
import Derived.Test.YtgcodjkjdfahdaaGreatDoorJ6
import Derived.BigQuiet
import Derived.RangeFuncBox
import Derived.Laws.Bits64b
import Derived.Maps.AppendAt
/- The reference's source of choices: next, pick, one, among. No condition but that the source reads its bytes. -/
namespace Go.Proofs.YtgcodjkjdfahdaaGreatDoor
open Go Go.RowKit Go.ChangeShapes Go.WideShapes
set_option linter.unusedSimpArgs false
set_option linter.unusedVariables false
/-- a source lies in a block of its own; it has made n choices at the most -/
def Src (w0 : World) (v : Value) (g n : Nat) (W : World) : Prop :=
  g < W.heap.size ∧ w0.heap.size ≤ g ∧ Below w0.heap.size w0 W ∧ ∃ (p : Nat) (seed : Int), p ≤ n ∧ (0 ≤ seed ∧ seed ≤ 18446744073709551615) ∧ W.cell? ⟨g, 0, none⟩ = some v ∧ W.cell? ⟨g, 1, none⟩ = some (.int .i64 (p : Int)) ∧ W.cell? ⟨g, 2, none⟩ = some (.int .u64 seed) ∧ W.frozen? ⟨g, 1, none⟩ = false ∧ W.frozen? ⟨g, 2, none⟩ = false
theorem Src.below {w0 W W' : World} {v : Value} {g n : Nat} (h : Src w0 v g n W) (hb : Below W.heap.size W W') : Src w0 v g n W' := by
  obtain ⟨h1, h2, h3, p, seed, h4, h5, c0, c1, c2, f1, f2⟩ := h
  exact ⟨Nat.lt_of_lt_of_le h1 hb.size, h2, h3.trans (hb.mono h3.size), p, seed, h4, h5, (hb.cell (p := ⟨g, 0, none⟩) h1).trans c0, (hb.cell (p := ⟨g, 1, none⟩) h1).trans c1, (hb.cell (p := ⟨g, 2, none⟩) h1).trans c2, (hb.frozen (p := ⟨g, 1, none⟩) h1).trans f1, (hb.frozen (p := ⟨g, 2, none⟩) h1).trans f2⟩
end Go.Proofs.YtgcodjkjdfahdaaGreatDoor

/- What the reference draws for prices, seats and shares. No condition but that the bytes read. -/
namespace Go.Proofs.YtgcodjkjdfahdaaGreatDoor
open Go Go.RowKit Go.ChangeShapes Go.WideShapes
set_option linter.unusedSimpArgs false
set_option linter.unusedVariables false
theorem Src.below2 {w0 W W' : World} {v : Value} {g n C : Nat} (h : Src w0 v g n W) (hC : g < C) (hb : Below C W W') : Src w0 v g n W' := by
  obtain ⟨h1, h2, h3, p, seed, h4, h5, c0, c1, c2, f1, f2⟩ := h
  exact ⟨Nat.lt_of_lt_of_le h1 hb.size, h2, h3.trans (hb.mono (by omega)), p, seed, h4, h5, (hb.cell (p := ⟨g, 0, none⟩) hC).trans c0, (hb.cell (p := ⟨g, 1, none⟩) hC).trans c1, (hb.cell (p := ⟨g, 2, none⟩) hC).trans c2, (hb.frozen (p := ⟨g, 1, none⟩) hC).trans f1, (hb.frozen (p := ⟨g, 2, none⟩) hC).trans f2⟩
theorem Own.src {α : Type} {W W' : World} {g : Nat} {E : TypeId} {k : Nat} {v : Value} {enc : α → List Value} {L : List α} (h : Own W (g + 1) E k v enc L) (hg : W.grownBy W' (some g)) : Own W' (g + 1) E k v enc L :=
  h.grown hg (by
    rcases q : v.ownBlock with _ | b
    · exact .inl rfl
    · refine .inr ?_
      have := (h.lt b q).1
      intro e
      injection e with e
      omega)
end Go.Proofs.YtgcodjkjdfahdaaGreatDoor

/- The reference's choice among texts. No condition but that the source reads its bytes. -/
namespace Go.Proofs.YtgcodjkjdfahdaaGreatDoor
open Go Go.RowKit Go.ChangeShapes Go.WideShapes
set_option linter.unusedSimpArgs false
set_option linter.unusedVariables false
end Go.Proofs.YtgcodjkjdfahdaaGreatDoor

/- A record that lies in a block of its own: its cells, its stores; what a source of choices and a grown world keep of it. No condition. -/
namespace Go.Proofs.YtgcodjkjdfahdaaGreatDoor
open Go Go.RowKit Go.ChangeShapes Go.WideShapes
set_option linter.unusedSimpArgs false
set_option linter.unusedVariables false
def Rec (W : World) (B E : Nat) (T : TypeId) (cs : List Value) : Prop := W.ownsRow B T cs.length (.slice (some ⟨E, 0, none⟩) 1 1) 1 cs
section
variable {W W' : World} {B E : Nat} {T : TypeId} {cs : List Value}
theorem Rec.lt (h : Rec W B E T cs) : B ≤ E ∧ E < W.heap.size := World.ownsRow.lt h E rfl
theorem Rec.cell (h : Rec W B E T cs) (j : Nat) (u : Value) (hj : cs[j]? = some u) : W.cell? ⟨E, j, none⟩ = some u := by
  have hl := (List.getElem?_eq_some_iff.1 hj).1
  rw [World.ownsRow.cellAt h j (by omega)]
  exact hj
theorem Rec.free (h : Rec W B E T cs) (j : Nat) : W.frozen? ⟨E, j, none⟩ = false := World.ownsRow.frozenAt h j
theorem Rec.keep {row : Option Nat} (h : Rec W B E T cs) (hg : W.grownBy W' row) (hne : some E ≠ row) : Rec W' B E T cs := World.ownsRow.kept h hg (.inr hne)
theorem Rec.alloc (h : Rec W B E T cs) (o : Obj) : Rec (W.alloc o) B E T cs := World.ownsRow.alloc h o
theorem Rec.below (h : Rec W B E T cs) (hb : Below W.heap.size W W') : Rec W' B E T cs := h.keep (grownBy_of_below hb none) (by simp)
theorem Rec.set (h : Rec W B E T cs) (j : Nat) (u : Value) : Rec (W.setCell ⟨E, j, none⟩ u) B E T (cs.set j u) := by
  unfold Rec
  rw [List.length_set]
  exact (World.ownsRow.stored h j u).1
theorem Rec.base {B' : Nat} (h : Rec W B E T cs) (hB : B' ≤ B) : Rec W B' E T cs := by
  refine ⟨h.1, ?_⟩
  rcases h.2 with hn | ⟨g, cap, cur, hv, hbg, rest⟩
  · exact .inl hn
  · exact .inr ⟨g, cap, cur, hv, by omega, rest⟩
end
theorem Src.put {w0 W : World} {v : Value} {g n E : Nat} (h : Src w0 v g n W) (hE : g < E) (j : Nat) (u : Value) : Src w0 v g n (W.setCell ⟨E, j, none⟩ u) :=
  h.below2 (Nat.lt_succ_self g) ((Below.refl (g + 1) W).setCell (p := ⟨E, j, none⟩) (by exact hE) u)
theorem Src.drew {w0 W : World} {v : Value} {g n : Nat} (h : Src w0 v g n W) : Src w0 v g n W.drew := h.below (Below.drew (Below.refl _ _))
theorem Src.more {w0 W : World} {v : Value} {g n : Nat} (h : Src w0 v g n W) (o : Obj) : Src w0 v g n (W.alloc o) := h.below ((Below.refl _ _).alloc (Nat.le_refl _) o)
end Go.Proofs.YtgcodjkjdfahdaaGreatDoor
