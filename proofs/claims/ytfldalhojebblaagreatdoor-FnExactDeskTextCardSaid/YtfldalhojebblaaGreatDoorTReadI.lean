/- A title read from a text: the program's ReadTitle. No condition but that the library's table, its two errors and its search variable lie as they are laid. -/
import Derived.Test.YtfldalhojebblaaGreatDoorTRead
import Derived.Laws.ResultCell
namespace Go.Proofs.YtfldalhojebblaaGreatDoor
open Go Go.RowKit Go.ChangeShapes Go.WideShapes
set_option linter.unusedSimpArgs false
set_option linter.unusedVariables false
theorem free_in {w : World} {g : Nat} {cs : Array Value} {T : TypeId} (h : w.heap[g]? = some (.cells cs T (0, 0))) (j : Nat) : w.frozen? ⟨g, j, none⟩ = false := by
  simp [World.frozen?, h]
theorem title_new (w : World) (a b c d : Value) (T : TypeId) :
    (w.alloc (.cells #[a, b, c, d] T)).cell? ⟨w.heap.size, 0, none⟩ = some a ∧ (w.alloc (.cells #[a, b, c, d] T)).cell? ⟨w.heap.size, 1, none⟩ = some b ∧ (w.alloc (.cells #[a, b, c, d] T)).cell? ⟨w.heap.size, 2, none⟩ = some c ∧ (w.alloc (.cells #[a, b, c, d] T)).cell? ⟨w.heap.size, 3, none⟩ = some d ∧
    (w.alloc (.cells #[a, b, c, d] T)).frozen? ⟨w.heap.size, 0, none⟩ = false ∧ (w.alloc (.cells #[a, b, c, d] T)).frozen? ⟨w.heap.size, 1, none⟩ = false ∧ (w.alloc (.cells #[a, b, c, d] T)).frozen? ⟨w.heap.size, 2, none⟩ = false ∧ (w.alloc (.cells #[a, b, c, d] T)).frozen? ⟨w.heap.size, 3, none⟩ = false ∧
    (w.alloc (.cells #[a, b, c, d] T)).heap.size = w.heap.size + 1 ∧ Below w.heap.size w (w.alloc (.cells #[a, b, c, d] T)) := by
  have g0 : (w.alloc (.cells #[a, b, c, d] T)).heap[w.heap.size]? = some (.cells #[a, b, c, d] T (0, 0)) := heap_alloc_new w _
  exact ⟨cell_of_row _ _ 0 _ _ (0, 0) g0, cell_of_row _ _ 1 _ _ (0, 0) g0, cell_of_row _ _ 2 _ _ (0, 0) g0, cell_of_row _ _ 3 _ _ (0, 0) g0, free_in g0 0, free_in g0 1, free_in g0 2, free_in g0 3, by simp, (Below.refl _ _).alloc (Nat.le_refl _) _⟩
/-- a block that holds a title's four cells, free to be written -/
def Box (W : World) (h : Nat) : Prop := h < W.heap.size ∧ (∃ d0 d1 d2 d3, W.cell? ⟨h, 0, none⟩ = some d0 ∧ W.cell? ⟨h, 1, none⟩ = some d1 ∧ W.cell? ⟨h, 2, none⟩ = some d2 ∧ W.cell? ⟨h, 3, none⟩ = some d3) ∧ W.frozen? ⟨h, 0, none⟩ = false ∧ W.frozen? ⟨h, 1, none⟩ = false ∧ W.frozen? ⟨h, 2, none⟩ = false ∧ W.frozen? ⟨h, 3, none⟩ = false
theorem Box.below {W W' : World} {h : Nat} (x : Box W h) (hb : Below W.heap.size W W') : Box W' h := by
  obtain ⟨h0, ⟨d0, d1, d2, d3, c0, c1, c2, c3⟩, f0, f1, f2, f3⟩ := x
  exact ⟨Nat.lt_of_lt_of_le h0 hb.size, ⟨d0, d1, d2, d3, (hb.cell (p := ⟨h, 0, none⟩) h0).trans c0, (hb.cell (p := ⟨h, 1, none⟩) h0).trans c1, (hb.cell (p := ⟨h, 2, none⟩) h0).trans c2, (hb.cell (p := ⟨h, 3, none⟩) h0).trans c3⟩, (hb.frozen (p := ⟨h, 0, none⟩) h0).trans f0, (hb.frozen (p := ⟨h, 1, none⟩) h0).trans f1, (hb.frozen (p := ⟨h, 2, none⟩) h0).trans f2, (hb.frozen (p := ⟨h, 3, none⟩) h0).trans f3⟩
theorem box_new (w : World) (a b c d : Value) (T : TypeId) : Box (w.alloc (.cells #[a, b, c, d] T)) w.heap.size := by
  obtain ⟨c0, c1, c2, c3, f0, f1, f2, f3, hs, -⟩ := title_new w a b c d T
  exact ⟨by omega, ⟨_, _, _, _, c0, c1, c2, c3⟩, f0, f1, f2, f3⟩
theorem box_below {w W : World} {h : Nat} (hb : Below h w W) (a b c d : Value) : Below h w ((((W.setCell ⟨h, 0, none⟩ a).setCell ⟨h, 1, none⟩ b).setCell ⟨h, 2, none⟩ c).setCell ⟨h, 3, none⟩ d) :=
  (((hb.setCell (p := ⟨h, 0, none⟩) (Nat.le_refl _) _).setCell (p := ⟨h, 1, none⟩) (Nat.le_refl _) _).setCell (p := ⟨h, 2, none⟩) (Nat.le_refl _) _).setCell (p := ⟨h, 3, none⟩) (Nat.le_refl _) _
theorem num_form (l : List UInt8) : ∃ (n : Int) (ok : Bool), -1000000000000000000 < n ∧ n < 1000000000000000000 ∧ rdTuple l = .tuple #[.int .i64 n, .bool ok] ∧ (ok = true → numS l = some n) ∧ (ok = false → numS l = none) := by
  rcases h : numS l with _ | n
  · exact ⟨0, false, by omega, by omega, rd_none h, fun e => (by cases e), fun _ => rfl⟩
  · obtain ⟨-, -, h1, h2, -⟩ := numS_some h
    exact ⟨n, true, h1, h2, rd_some h, fun _ => rfl, fun e => (by cases e)⟩
end Go.Proofs.YtfldalhojebblaaGreatDoor
