/- A record that lies in a block of its own: its cells, its stores; what a source of choices and a grown world keep of it. No condition. -/
import Derived.Test.YtlgcehdklpbknaaTxt
namespace Go.Proofs.Ytlgcehdklpbknaa
open Go Go.RowKit Go.ChangeShapes Go.WideShapes
set_option linter.unusedSimpArgs false
set_option linter.unusedVariables false
def Rec (W : World) (B E : Nat) (T : TypeId) (cs : List Value) : Prop := W.ownsRow B T cs.length (.slice (some ⟨E, 0, none⟩) 1 1) 1 cs
theorem rec_new (w : World) (B : Nat) (T : TypeId) (cs : List Value) (hB : B ≤ w.heap.size) : Rec (w.alloc (.cells cs.toArray T)) B w.heap.size T cs :=
  ⟨by simp, .inr ⟨w.heap.size, 1, cs.toArray, rfl, hB, heap_alloc_new w _, Nat.le_refl _, by decide, by simp, by simp⟩⟩
section
variable {W W' : World} {B E : Nat} {T : TypeId} {cs : List Value}
theorem Rec.lt (h : Rec W B E T cs) : B ≤ E ∧ E < W.heap.size := World.ownsRow.lt h E rfl
theorem Rec.cell (h : Rec W B E T cs) (j : Nat) (u : Value) (hj : cs[j]? = some u) : W.cell? ⟨E, j, none⟩ = some u := by
  have hl := (List.getElem?_eq_some_iff.1 hj).1
  rw [World.ownsRow.cellAt h j (by omega)]
  exact hj
theorem Rec.free (h : Rec W B E T cs) (j : Nat) : W.frozen? ⟨E, j, none⟩ = false := World.ownsRow.frozenAt h j
theorem Rec.keep {row : Option Nat} (h : Rec W B E T cs) (hg : W.grownBy W' row) (hne : some E ≠ row) : Rec W' B E T cs := World.ownsRow.kept h hg (.inr hne)
theorem Rec.alloc (h : Rec W B E T cs) (o : Obj) : Rec (W.alloc o) B E T cs := World.ownsRow.alloc h o
theorem Rec.below (h : Rec W B E T cs) (hb : Below W.heap.size W W') : Rec W' B E T cs := h.keep (grownBy_of_below hb none) (by simp)
theorem Rec.set (h : Rec W B E T cs) (j : Nat) (u : Value) : Rec (W.setCell ⟨E, j, none⟩ u) B E T (cs.set j u) := by
  unfold Rec
  rw [List.length_set]
  exact (World.ownsRow.stored h j u).1
theorem Rec.other {E' : Nat} (h : Rec W B E T cs) (j : Nat) (u : Value) (hne : E ≠ E') : Rec (W.setCell ⟨E', j, none⟩ u) B E T cs := h.keep (grow_set W ⟨E', j, none⟩ u) (by simpa using hne)
theorem Rec.base {B' : Nat} (h : Rec W B E T cs) (hB : B' ≤ B) : Rec W B' E T cs := by
  refine ⟨h.1, ?_⟩
  rcases h.2 with hn | ⟨g, cap, cur, hv, hbg, rest⟩
  · exact .inl hn
  · exact .inr ⟨g, cap, cur, hv, by omega, rest⟩
end
theorem Own.src2 {α : Type} {W W' : World} {B g : Nat} {E : TypeId} {k : Nat} {v : Value} {enc : α → List Value} {L : List α} (h : Own W B E k v enc L) (hB : g < B) (hg : W.grownBy W' (some g)) : Own W' B E k v enc L :=
  h.grown hg (by
    rcases q : v.ownBlock with _ | b
    · exact .inl rfl
    · refine .inr ?_
      have := (h.lt b q).1
      intro e
      injection e with e
      omega)
theorem grow_below {w W W' : World} {row : Option Nat} (h : w.grownBy W row) (hb : Below w.heap.size W W') : w.grownBy W' row :=
  ⟨hb.os.trans h.os, hb.tape.trans h.tape, hb.output.trans h.output, Nat.le_trans h.size hb.size, fun k hk hne => (hb.block k hk).trans (h.block k hk hne)⟩
theorem grow_below2 {w W W' : World} {row : Option Nat} (h : w.grownBy W row) (hb : Below W.heap.size W W') : w.grownBy W' row := grow_below h (hb.mono h.size)
theorem ne_of_lt {v v' : Value} {N : Nat} (h1 : ∀ b, v.ownBlock = some b → b < N) (h2 : ∀ b, v'.ownBlock = some b → N ≤ b) : v.ownBlock = none ∨ v.ownBlock ≠ v'.ownBlock := by
  rcases q : v.ownBlock with _ | b
  · exact .inl rfl
  · refine .inr fun e => ?_
    have := h1 b q
    have := h2 b e.symm
    omega
theorem le_alloc (w : World) (o : Obj) : w.heap.size ≤ (w.alloc o).heap.size := by simp
theorem some_ne {g E : Nat} (h : g < E) : some E ≠ some g := fun e => by injection e with e; omega
theorem grow_new {w W : World} {row : Option Nat} {E : Nat} (h : w.grownBy W row) (hE : w.heap.size ≤ E) (j : Nat) (u : Value) : w.grownBy (W.setCell ⟨E, j, none⟩ u) row :=
  ⟨h.os, h.tape, h.output, Nat.le_trans h.size (grow_set W ⟨E, j, none⟩ u).size, fun k hk hne => by
    rw [(grow_set W ⟨E, j, none⟩ u).block k (Nat.lt_of_lt_of_le hk h.size) (by simp; omega)]
    exact h.block k hk hne⟩
theorem Src.put {w0 W : World} {v : Value} {g n E : Nat} (h : Src w0 v g n W) (hE : g < E) (j : Nat) (u : Value) : Src w0 v g n (W.setCell ⟨E, j, none⟩ u) :=
  h.below2 (Nat.lt_succ_self g) ((Below.refl (g + 1) W).setCell (p := ⟨E, j, none⟩) (by exact hE) u)
theorem Src.drew {w0 W : World} {v : Value} {g n : Nat} (h : Src w0 v g n W) : Src w0 v g n W.drew := h.below (Below.drew (Below.refl _ _))
theorem Src.more {w0 W : World} {v : Value} {g n : Nat} (h : Src w0 v g n W) (o : Obj) : Src w0 v g n (W.alloc o) := h.below ((Below.refl _ _).alloc (Nat.le_refl _) o)
theorem results_one {fn : Func} {p : Tmp} {ty : TypeId} (h : fn.results = #[.cell p ty]) (tmps : Array Value) (P : Program) (w : World) :
    (results fn tmps).run P w = ((asAddr (tmps.getD p undef)).run P w).andThen fun a w₁ => ((loadVar ty a).run P w₁) := by
  simp only [results, h]
  simp [Sem.run_bind, Result.andThen]
end Go.Proofs.Ytlgcehdklpbknaa
