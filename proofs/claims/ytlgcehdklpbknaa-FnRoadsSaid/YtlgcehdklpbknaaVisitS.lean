/- All tours: the reference's walk through them. No condition but that the slices read. -/
import Derived.Test.YtlgcehdklpbknaaLongI
namespace Go.Proofs.Ytlgcehdklpbknaa
open Go Go.RowKit Go.ChangeShapes Go.WideShapes
set_option linter.unusedSimpArgs false
set_option linter.unusedVariables false

set_option maxHeartbeats 1000000 in
theorem own_ints (w : World) (v : Value) (l : List Int) (h : Sl w 1 v eI l) (hl : l.length ≤ 1048576) :
    Calls Try.prog 66 #[v] w (GivesOwn w 2 1 eI l) := by
  obtain ⟨-, A, c, rfl, -, -, hA⟩ := id h
  obtain ⟨i0, hi, hz0, hz1, hz2⟩ := info_parts info_i64
  clear hA
  go_enter Try.func66, Try.ntmps66
  go_wp2_with (at_builtin; refine wpList_append_sl _ rfl _ _ 25 rfl i0 (.int .i64 0) 8 Try.underlying25 hi hz0 hz1 hz2 rfl (by decide) eI_len (by intro y u hu; simp [eI] at hu; subst hu; rfl) _ [] rfl (Own.made0 w w.heap.size 2 1 eI (Nat.le_refl _)) _ l rfl (h.alloc _) (by unfold maxLen; simp; omega) (by simp; omega) (by simp) ?_)
  intro v' w1 hown hgr
  have hbel := ((Below.refl w.heap.size w).alloc (Nat.le_refl _) (.cells #[] 2)).grown hgr (by simp) (by intro g hg; simp [Value.ownBlock] at hg; omega)
  go_wp2_with fail
  go_ret
  exact ⟨_, rfl, by simpa using hown, hbel⟩

theorem below_set {B g o : Nat} {a w : World} {u : Value} (h : Below B a w) (hg : B ≤ g) : Below B a (w.setCell ⟨g, o, none⟩ u) := h.setCell (p := ⟨g, o, none⟩) hg u
theorem touch_at (w : World) (g o : Nat) (u : Value) (bs : List (Option Nat)) (h : some g ∈ bs) : TouchL w (w.setCell ⟨g, o, none⟩ u) bs :=
  ⟨rfl, rfl, rfl, by simp, fun k _ hn => heap_setCell_other _ _ _ _ (fun e => hn _ h (by rw [e]))⟩
end Go.Proofs.Ytlgcehdklpbknaa
