/- Lemmas for the claim (the walks of its functions and their plain laws), joined. No condition. -/
import Derived.Test.YtgcodjkjdfahdaaGreatDoorJ14
import Derived.Test.YtgcodjkjdfahdaaGreatDoorJ6
namespace Go.Proofs.YtgcodjkjdfahdaaGreatDoor
open Go Go.RowKit Go.ChangeShapes Go.WideShapes
set_option linter.unusedSimpArgs false
set_option linter.unusedVariables false
def titleS (a : Int) (b : ByteArray) (c d : Int) : ByteArray :=
  (⟨#[110, 111, 32]⟩ ++ decS a ++ ⟨#[32]⟩ ++ b ++ ⟨#[32, 103, 108, 97, 115, 115, 101, 115, 32]⟩ ++ decS c ++ ⟨#[32, 98, 114, 111, 107, 101, 110, 32]⟩ ++ decS d)
def textR (a : Int) (b : ByteArray) (c d : Int) : ByteArray := if okTitleB (a, b, c, d) = true then titleS a b c d else ByteArray.empty
theorem isName_len {s : ByteArray} (h : isNameB s = true) : s.size ≤ 12 := by
  by_cases q : s.size ≤ 12
  · exact q
  · rw [isName_long q] at h; cases h
set_option maxHeartbeats 1000000 in
theorem ttext_impl (w : World) (a : Int) (b : ByteArray) (c d : Int) (ht : Tab w) :
    Calls Tryz.prog 82 #[.agg #[.int .i64 a, .string b, .int .i64 c, .int .i64 d]] w fun e w' => e = .returned (.string (textR a b c d)) ∧ Below w.heap.size w w' := by
  have hb := (Below.refl w.heap.size w).alloc (Nat.le_refl _) (.cells #[.int .i64 a, .string b, .int .i64 c, .int .i64 d] 95)
  have p0 := new_cell w #[.int .i64 a, .string b, .int .i64 c, .int .i64 d] 95 0 _ rfl
  have p1 := new_cell w #[.int .i64 a, .string b, .int .i64 c, .int .i64 d] 95 1 _ rfl
  have p2 := new_cell w #[.int .i64 a, .string b, .int .i64 c, .int .i64 d] 95 2 _ rfl
  have p3 := new_cell w #[.int .i64 a, .string b, .int .i64 c, .int .i64 d] 95 3 _ rfl
  have hgs : w.heap.size < (w.alloc (.cells #[.int .i64 a, .string b, .int .i64 c, .int .i64 d] 95)).heap.size := by simp
  have HT := hd ht
  clear ht
  rcases q : okTitleB (a, b, c, d) with _ | _
  · have HE := hd (show textR a b c d = ByteArray.empty by unfold textR; rw [q]; rfl)
    go_enter Tryz.func82, Tryz.ntmps82
    go_wp2_with fail
    generalize (w.alloc (.cells #[.int .i64 a, .string b, .int .i64 c, .int .i64 d] 95)) = W at hb p0 p1 p2 p3 hgs ⊢
    refine (title_impl _ _ _ _ _).mono ?_
    rintro e w1 ⟨rfl, hb1⟩
    have hb2 := below_step hb hb1
    rw [q]
    go_wp2_with fail
    go_ret
    exact ⟨by rw [HE.out]; rfl, hb2⟩
  · have HE := hd (show textR a b c d = titleS a b c d by unfold textR; rw [if_pos q])
    obtain ⟨⟨a1, a2⟩, bn, ⟨c1, c2⟩, d1, d2⟩ := okTitleB_bd q
    have hlen := isName_len bn
    dsimp only at a1 a2 c1 c2 d1 d2 hlen
    have HA := hd (show -9223372036854775808 ≤ a ∧ a ≤ 9223372036854775807 by omega)
    have HC := hd (show -9223372036854775808 ≤ c ∧ c ≤ 9223372036854775807 by omega)
    have HD := hd (show -9223372036854775808 ≤ d ∧ d ≤ 9223372036854775807 by omega)
    have sa := decS_size HA.out
    have sc := decS_size HC.out
    have sd := decS_size HD.out
    clear bn
    go_enter Tryz.func82, Tryz.ntmps82
    go_wp2_with fail
    generalize (w.alloc (.cells #[.int .i64 a, .string b, .int .i64 c, .int .i64 d] 95)) = W at hb p0 p1 p2 p3 hgs ⊢
    refine (title_impl _ _ _ _ _).mono ?_
    rintro e w1 ⟨rfl, hb1⟩
    have hb2 := below_step hb hb1
    rw [q]
    clear q
    have g0 := gro_cell ((hb1.cell (p := ⟨w.heap.size, 0, none⟩) hgs).trans p0)
    have g1 := gro_cell ((hb1.cell (p := ⟨w.heap.size, 1, none⟩) hgs).trans p1)
    have g2 := gro_cell ((hb1.cell (p := ⟨w.heap.size, 2, none⟩) hgs).trans p2)
    have g3 := gro_cell ((hb1.cell (p := ⟨w.heap.size, 3, none⟩) hgs).trans p3)
    have HTX := hd (show ∀ x : Ext w1, Tab (gro w1 x) from fun x => (HT.out.below hb2).below (gro_below x))
    clear p0 p1 p2 p3 hgs hb hb1
    go_wp2_with fail
    refine wp_region_calm (by kernel_rfl) (by kernel_rfl) ?_
    repeat (first | go_big_quiet_step ((go_at_call 36; exact calm_of (dec_impl _ _ (by first | exact HA.out | exact HC.out | exact HD.out) (HTX.out _)))) | quiet_step ((go_at_call 36; exact calm_of (dec_impl _ _ (by first | exact HA.out | exact HC.out | exact HD.out) (HTX.out _)))))
    refine wpQuiet_nil ?_
    rintro w2 ⟨x, rfl⟩
    have hb3 := below_step hb2 (gro_below x)
    clear g0 g1 g2 g3
    go_wp2_with fail
    go_ret
    exact ⟨by rw [HE.out]; rfl, hb3⟩
end Go.Proofs.YtgcodjkjdfahdaaGreatDoor
