/- A log read whole: the reference's l27Read and l27Code, the program's logCode. No condition but that the library's table, its two errors and its search variable lie as they are laid. -/
import Derived.Test.YtiofpmmbgohnhaaDoorLLineS
namespace Go.Proofs.YtiofpmmbgohnhaaDoor
open Go Go.RowKit Go.ChangeShapes Go.WideShapes
set_option linter.unusedSimpArgs false
set_option linter.unusedVariables false
theorem rs_new (w : World) (s : ByteArray) (v : Value) (T : TypeId) : Rs (w.alloc (.cells #[.string s, .int .i64 0, .int .i64 0, v] T)) w.heap.size s v 0 0 := by
  have g0 : (w.alloc (.cells #[.string s, .int .i64 0, .int .i64 0, v] T)).heap[w.heap.size]? = some (.cells #[.string s, .int .i64 0, .int .i64 0, v] T (0, 0)) := heap_alloc_new w _
  exact ⟨by simp, ⟨cell_of_row _ _ 0 _ _ (0, 0) g0, cell_of_row _ _ 1 _ _ (0, 0) g0, cell_of_row _ _ 2 _ _ (0, 0) g0, cell_of_row _ _ 3 _ _ (0, 0) g0⟩, free_in g0 1, free_in g0 2, free_in g0 3⟩
/-- a reader of the reference, what it has read -/
def Reader (w : World) (s : ByteArray) (T : LS) (g : Nat) (w' : World) : Prop :=
  ∃ v, Rs w' g s v T.st T.at_ ∧ Own w' w.heap.size 38 3 v eEntry T.l ∧ w.heap.size ≤ g ∧ Below w.heap.size w w'
set_option maxRecDepth 100000 in
set_option maxHeartbeats 4000000 in
theorem read_spec (w : World) (s : ByteArray) (hs : s.size ≤ 1048576) :
    Calls Tryd.prog 116 #[.string s] w fun e w' => ∃ g, e = .returned (.pointer (some ⟨g, 0, none⟩)) ∧ Reader w s (readL s) g w' := by
  have O0 := (Own.made0 w w.heap.size 38 3 eEntry (Nat.le_refl _)).alloc (.cells #[.string s, .int .i64 0, .int .i64 0, .slice (some ⟨w.heap.size, 0, none⟩) 0 0] 103)
  have R0 := rs_new (w.alloc (.cells #[] 38)) s (.slice (some ⟨w.heap.size, 0, none⟩) 0 0) 103
  have hz : (w.alloc (.cells #[] 38)).heap.size = w.heap.size + 1 := by simp
  have B0 := ((Below.refl w.heap.size w).alloc (Nat.le_refl _) (.cells #[] 38)).alloc (show w.heap.size ≤ (w.alloc (.cells #[] 38)).heap.size by omega) (.cells #[.string s, .int .i64 0, .int .i64 0, .slice (some ⟨w.heap.size, 0, none⟩) 0 0] 103)
  rw [hz] at R0
  go_enter Tryd.func116, Tryd.ntmps116
  go_wp2_with fail
  generalize (w.alloc (.cells #[] 38)).alloc (.cells #[.string s, .int .i64 0, .int .i64 0, .slice (some ⟨w.heap.size, 0, none⟩) 0 0] 103) = W1 at O0 R0 B0 ⊢
  go_loopw [9] (fun _ wr => ∃ (T : LS) (v : Value), Hid (OnWay s T) ∧ (T.at_ ≤ s.size ∧ T.l.length ≤ T.at_ ∧ 0 ≤ T.st ∧ T.st ≤ 65518) ∧ Rs wr (w.heap.size + 1) s v T.st T.at_ ∧ Own wr w.heap.size 38 3 v eEntry T.l ∧ (v.ownBlock = none ∨ v.ownBlock ≠ some (w.heap.size + 1)) ∧ Below w.heap.size w wr) (fun _ wr => s.size - (intOf ((wr.cell? ⟨w.heap.size + 1, 1, none⟩).getD undef)).toNat)
  case atStart => exact ⟨startL, _, hd (onWay_start s), ⟨Nat.zero_le _, Nat.le_refl _, by decide, by decide⟩, R0, O0, .inr (by intro e; simp [Value.ownBlock] at e), B0⟩
  case round =>
    obtain ⟨T, v, HOW, ⟨q1, q2, q3, q4⟩, R, O, hne, B⟩ := hrel
    clear R0 O0 B0 hz
    have HMZ := hd R.2.1.2.1
    go_wp2_with fail
    refine (line_log _ s hs w.heap.size (w.heap.size + 1) T v HOW q1 q2 q3 q4 R O hne (Nat.le_succ _)).mono ?_
    rintro e w2 ⟨T', v', hr, R2, O2, hne2, B2⟩
    have B3 := B.trans B2
    rcases hr with ⟨hn, rfl⟩ | ⟨⟨hn, rfl⟩, rfl⟩
    · have HOW2 := hd (onWay_next HOW.out hn)
      obtain ⟨a1, a2⟩ := nextL_at hn
      obtain ⟨-, b1, b2, ⟨b3, b4⟩, -⟩ := HOW2.out
      clear R O hne B B2 hn
      go_wp2_with fail
      go_roundw
      case rel => exact ⟨T', v', HOW2, ⟨b1, b2, b3, b4⟩, R2, O2, hne2, B3⟩
      case measure =>
        rw [R2.2.1.2.1, HMZ.out]
        simp [intOf]
        omega
    · have HE := hd (onWay_end HOW.out hn)
      clear R O hne B B2 hn HMZ
      go_wp2_with fail
      go_ret
      exact ⟨w.heap.size + 1, rfl, v', by rw [HE.out]; exact R2, by rw [HE.out]; exact O2, Nat.le_succ _, B3⟩
end Go.Proofs.YtiofpmmbgohnhaaDoor
