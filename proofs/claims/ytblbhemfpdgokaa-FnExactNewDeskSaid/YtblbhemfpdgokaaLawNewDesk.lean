/- FnExactNewDesk: the program's NewDesk returns what the reference's returns, and memory of its own. No condition. -/
import Derived.Test.YtblbhemfpdgokaaSCue
import Derived.Test.YtblbhemfpdgokaaSTitle
import Derived.OneCell
namespace Go.Proofs.Ytblbhemfpdgokaa
open Go Go.RowKit Go.ChangeShapes Go.WideShapes
set_option linter.unusedSimpArgs false
set_option linter.unusedVariables false
theorem row_alloc {w : World} {g : Nat} {o : Obj} (h : w.heap[g]? = some o) (o' : Obj) : (w.alloc o').heap[g]? = some o := (((Below.refl w.heap.size w).alloc (Nat.le_refl _) o').block g (lt_of_block h)).trans h
theorem l28New_spec (w : World) : Calls Try.prog 37 #[] w fun e w' => e = .returned (.agg #[.string ⟨#[97, 98, 99, 100]⟩, .slice none 0 0, .slice none 0 0, .string ⟨#[]⟩]) ∧ Below w.heap.size w w' := by
  have hb := (Below.refl w.heap.size w).alloc (Nat.le_refl _) (.cells #[.string ⟨#[97, 98, 99, 100]⟩, .slice none 0 0, .slice none 0 0, .string ⟨#[]⟩] 25)
  go_enter Try.func37, Try.ntmps37
  go_wp2_with fail
  exact bodyPost_ret (v := .agg #[.string ⟨#[97, 98, 99, 100]⟩, .slice none 0 0, .slice none 0 0, .string ⟨#[]⟩]) (by simp [results, Try.results37, go_sem]) rfl ⟨rfl, hb⟩
theorem newDesk_impl (w : World) : Calls Try.prog 9 #[] w fun e w' => e = .returned (.agg #[.string ⟨#[97, 98, 99, 100]⟩, .slice none 0 0, .slice none 0 0, .string ⟨#[]⟩]) ∧ Below w.heap.size w w' := by
  have hb := (Below.refl w.heap.size w).alloc (Nat.le_refl _) (.cells #[.string ⟨#[97, 98, 99, 100]⟩, .slice none 0 0, .slice none 0 0, .string ⟨#[]⟩] 25)
  go_enter Try.func9, Try.ntmps9
  go_wp2_with fail
  exact bodyPost_ret (v := .agg #[.string ⟨#[97, 98, 99, 100]⟩, .slice none 0 0, .slice none 0 0, .string ⟨#[]⟩]) (by simp [results, Try.results9, go_sem]) rfl ⟨rfl, hb⟩
theorem newDesk_spec (w : World) : Calls Try.prog 8 #[] w fun e w' => e = .returned (.agg #[.string ⟨#[97, 98, 99, 100]⟩, .slice none 0 0, .slice none 0 0, .string ⟨#[]⟩]) ∧ Below w.heap.size w w' := by
  have hb := (Below.refl w.heap.size w).alloc (Nat.le_refl _) (.cells #[.string ⟨#[]⟩, .slice none 0 0, .slice none 0 0, .string ⟨#[]⟩] 25)
  have hgs : w.heap.size < (w.alloc (.cells #[.string ⟨#[]⟩, .slice none 0 0, .slice none 0 0, .string ⟨#[]⟩] 25)).heap.size := by simp
  have r0 := heap_alloc_new w (.cells #[.string ⟨#[]⟩, .slice none 0 0, .slice none 0 0, .string ⟨#[]⟩] 25)
  go_enter Try.func8, Try.ntmps8
  go_wp2_with fail
  generalize (w.alloc (.cells #[.string ⟨#[]⟩, .slice none 0 0, .slice none 0 0, .string ⟨#[]⟩] 25)) = W at hb hgs r0 ⊢
  refine (l28New_spec _).mono ?_
  rintro e w1 ⟨rfl, hb1⟩
  have b1 := below_step hb hb1
  have r1 := (hb1.block w.heap.size hgs).trans r0
  have c0 := cell_of_row w1 w.heap.size 0 _ _ (0, 0) r1
  have c1 := cell_of_row w1 w.heap.size 1 _ _ (0, 0) r1
  have c2 := cell_of_row w1 w.heap.size 2 _ _ (0, 0) r1
  have c3 := cell_of_row w1 w.heap.size 3 _ _ (0, 0) r1
  have f0 : w1.frozen? ⟨w.heap.size, 0, none⟩ = false := by simp [World.frozen?, r1]
  have f1 : w1.frozen? ⟨w.heap.size, 1, none⟩ = false := by simp [World.frozen?, r1]
  have f2 : w1.frozen? ⟨w.heap.size, 2, none⟩ = false := by simp [World.frozen?, r1]
  have f3 : w1.frozen? ⟨w.heap.size, 3, none⟩ = false := by simp [World.frozen?, r1]
  have HR := hd r1
  clear r0 r1 hb1 hb
  go_wp2_with fail
  refine bodyPost_ret (v := .agg #[.string ⟨#[97, 98, 99, 100]⟩, .slice none 0 0, .slice none 0 0, .string ⟨#[]⟩]) (by simp [results, Try.results8, go_sem, c0, c1, c2, c3]) rfl ⟨rfl, ?_⟩
  repeat (refine Below.setCell ?_ (by simp) _)
  exact b1
set_option maxHeartbeats 1000000 in
theorem eqDesk0 (w : World) : Calls Try.prog 10 #[.agg #[.string ⟨#[97, 98, 99, 100]⟩, .slice none 0 0, .slice none 0 0, .string ⟨#[]⟩], .agg #[.string ⟨#[97, 98, 99, 100]⟩, .slice none 0 0, .slice none 0 0, .string ⟨#[]⟩]] w fun e w' => e = .returned (.bool true) ∧ Below w.heap.size w w' := by
  obtain ⟨W, hW⟩ : ∃ W, W = (w.alloc (.cells #[.string ⟨#[97, 98, 99, 100]⟩, .slice none 0 0, .slice none 0 0, .string ⟨#[]⟩] 25)).alloc (.cells #[.string ⟨#[97, 98, 99, 100]⟩, .slice none 0 0, .slice none 0 0, .string ⟨#[]⟩] 25) := ⟨_, rfl⟩
  have hb : Below w.heap.size w W := by rw [hW]; exact ((Below.refl w.heap.size w).alloc (Nat.le_refl _) _).alloc (by simp) _
  have g1 : W.heap[w.heap.size]? = some (.cells #[.string ⟨#[97, 98, 99, 100]⟩, .slice none 0 0, .slice none 0 0, .string ⟨#[]⟩] 25 (0, 0)) := by
    rw [hW]
    exact (((Below.refl (w.heap.size + 1) (w.alloc (.cells #[.string ⟨#[97, 98, 99, 100]⟩, .slice none 0 0, .slice none 0 0, .string ⟨#[]⟩] 25))).alloc (by simp) (.cells #[.string ⟨#[97, 98, 99, 100]⟩, .slice none 0 0, .slice none 0 0, .string ⟨#[]⟩] 25)).block w.heap.size (by omega)).trans (heap_alloc_new w _)
  have g2 : W.heap[w.heap.size + 1]? = some (.cells #[.string ⟨#[97, 98, 99, 100]⟩, .slice none 0 0, .slice none 0 0, .string ⟨#[]⟩] 25 (0, 0)) := by
    rw [hW]
    have e := heap_alloc_new (w.alloc (.cells #[.string ⟨#[97, 98, 99, 100]⟩, .slice none 0 0, .slice none 0 0, .string ⟨#[]⟩] 25)) (.cells #[.string ⟨#[97, 98, 99, 100]⟩, .slice none 0 0, .slice none 0 0, .string ⟨#[]⟩] 25)
    rw [show (w.alloc (.cells #[.string ⟨#[97, 98, 99, 100]⟩, .slice none 0 0, .slice none 0 0, .string ⟨#[]⟩] 25)).heap.size = w.heap.size + 1 from by simp] at e
    exact e
  have hz : w.heap.size + 2 = W.heap.size := by rw [hW]; simp
  have z1 : w.heap.size < W.heap.size := by omega
  have z2 : w.heap.size + 1 < W.heap.size := by omega
  have a0 := cell_of_row W w.heap.size 0 _ _ (0, 0) g1
  have b0 := cell_of_row W (w.heap.size + 1) 0 _ _ (0, 0) g2
  have a1 := cell_of_row W w.heap.size 1 _ _ (0, 0) g1
  have b1 := cell_of_row W (w.heap.size + 1) 1 _ _ (0, 0) g2
  have a2 := cell_of_row W w.heap.size 2 _ _ (0, 0) g1
  have b2 := cell_of_row W (w.heap.size + 1) 2 _ _ (0, 0) g2
  have a3 := cell_of_row W w.heap.size 3 _ _ (0, 0) g1
  have b3 := cell_of_row W (w.heap.size + 1) 3 _ _ (0, 0) g2
  have HW := hd hW
  have HG1 := hd g1
  have HG2 := hd g2
  clear hW g1 g2 hz
  go_enter Try.func10, Try.ntmps10
  go_wp2_with fail
  rw [← HW.out]
  refine (eqCues _ _ _ [] [] (Sl.nil _ _ _) (Sl.nil _ _ _)).mono ?_
  rintro e w1 ⟨rfl, hb1⟩
  have h1 := below_step hb hb1
  replace a0 := (hb1.cell (p := ⟨w.heap.size, 0, none⟩) z1).trans a0
  replace b0 := (hb1.cell (p := ⟨w.heap.size + 1, 0, none⟩) z2).trans b0
  replace a1 := (hb1.cell (p := ⟨w.heap.size, 1, none⟩) z1).trans a1
  replace b1 := (hb1.cell (p := ⟨w.heap.size + 1, 1, none⟩) z2).trans b1
  replace a2 := (hb1.cell (p := ⟨w.heap.size, 2, none⟩) z1).trans a2
  replace b2 := (hb1.cell (p := ⟨w.heap.size + 1, 2, none⟩) z2).trans b2
  replace a3 := (hb1.cell (p := ⟨w.heap.size, 3, none⟩) z1).trans a3
  replace b3 := (hb1.cell (p := ⟨w.heap.size + 1, 3, none⟩) z2).trans b3
  have y1 := Nat.lt_of_lt_of_le z1 hb1.size
  have y2 := Nat.lt_of_lt_of_le z2 hb1.size
  clear hb1 z1 z2
  rw [show decide (([] : List TCue) = []) = true from rfl]
  go_wp2_with fail
  refine (eqTitles _ _ _ [] [] (Sl.nil _ _ _) (Sl.nil _ _ _)).mono ?_
  rintro e w2 ⟨rfl, hb2⟩
  have h2 := below_step h1 hb2
  replace a0 := (hb2.cell (p := ⟨w.heap.size, 0, none⟩) y1).trans a0
  replace b0 := (hb2.cell (p := ⟨w.heap.size + 1, 0, none⟩) y2).trans b0
  replace a1 := (hb2.cell (p := ⟨w.heap.size, 1, none⟩) y1).trans a1
  replace b1 := (hb2.cell (p := ⟨w.heap.size + 1, 1, none⟩) y2).trans b1
  replace a2 := (hb2.cell (p := ⟨w.heap.size, 2, none⟩) y1).trans a2
  replace b2 := (hb2.cell (p := ⟨w.heap.size + 1, 2, none⟩) y2).trans b2
  replace a3 := (hb2.cell (p := ⟨w.heap.size, 3, none⟩) y1).trans a3
  replace b3 := (hb2.cell (p := ⟨w.heap.size + 1, 3, none⟩) y2).trans b3
  clear hb2 y1 y2
  rw [show decide (([] : List TTitle) = []) = true from rfl]
  go_wp2_with fail
  go_ret
  exact ⟨rfl, h2⟩
theorem markDesk0 (w : World) : Calls Try.prog 11 #[.agg #[.string ⟨#[97, 98, 99, 100]⟩, .slice none 0 0, .slice none 0 0, .string ⟨#[]⟩], .int .i64 1] w fun e w' => e = .returned (.int .i64 1) ∧ Below w.heap.size w w' := by
  have hb := (Below.refl w.heap.size w).alloc (Nat.le_refl _) (.cells #[.string ⟨#[97, 98, 99, 100]⟩, .slice none 0 0, .slice none 0 0, .string ⟨#[]⟩] 25)
  have p0 := new_cell w #[.string ⟨#[97, 98, 99, 100]⟩, .slice none 0 0, .slice none 0 0, .string ⟨#[]⟩] 25 0 _ rfl
  have p1 := new_cell w #[.string ⟨#[97, 98, 99, 100]⟩, .slice none 0 0, .slice none 0 0, .string ⟨#[]⟩] 25 1 _ rfl
  have p2 := new_cell w #[.string ⟨#[97, 98, 99, 100]⟩, .slice none 0 0, .slice none 0 0, .string ⟨#[]⟩] 25 2 _ rfl
  have p3 := new_cell w #[.string ⟨#[97, 98, 99, 100]⟩, .slice none 0 0, .slice none 0 0, .string ⟨#[]⟩] 25 3 _ rfl
  have hgs : w.heap.size < (w.alloc (.cells #[.string ⟨#[97, 98, 99, 100]⟩, .slice none 0 0, .slice none 0 0, .string ⟨#[]⟩] 25)).heap.size := by simp
  go_enter Try.func11, Try.ntmps11
  go_wp2_with fail
  generalize (w.alloc (.cells #[.string ⟨#[97, 98, 99, 100]⟩, .slice none 0 0, .slice none 0 0, .string ⟨#[]⟩] 25)) = W at hb p0 p1 p2 p3 hgs ⊢
  refine (markCues W w.heap.size 0 _ [] (Own.nil _ _ _ _ _) 1 (by omega) (by simp)).mono ?_
  rintro e w1 ⟨he, -, hg1⟩
  have hb1 : Below W.heap.size W w1 := below_of_grown hg1 (Nat.le_refl _) (by intro g hg; cases hg)
  have b1 := below_step hb hb1
  have q2 := (hb1.cell (p := ⟨w.heap.size, 2, none⟩) hgs).trans p2
  have he2 : e = .returned (.int .i64 1) := by rw [he]; rfl
  subst he2
  clear he hg1 hb1 hb p0 p1 p2 p3 hgs
  go_wp2_with fail
  refine (markTitles w1 w.heap.size 0 _ [] (Own.nil _ _ _ _ _) 1 (by simp)).mono ?_
  rintro e w2 ⟨he, -, hg2⟩
  have hb2 : Below w1.heap.size w1 w2 := below_of_grown hg2 (Nat.le_refl _) (by intro g hg; cases hg)
  have b2 := below_step b1 hb2
  have he2 : e = .returned (.int .i64 1) := by rw [he]; rfl
  subst he2
  clear he hg2 hb2
  go_wp2_with fail
  go_ret
  exact ⟨rfl, b2⟩
theorem heldDesk0 (w : World) : Calls Try.prog 12 #[.agg #[.string ⟨#[97, 98, 99, 100]⟩, .slice none 0 0, .slice none 0 0, .string ⟨#[]⟩], .int .i64 1] w fun e w' => e = .returned (.int .i64 1) ∧ Below w.heap.size w w' := by
  have hb := (Below.refl w.heap.size w).alloc (Nat.le_refl _) (.cells #[.string ⟨#[97, 98, 99, 100]⟩, .slice none 0 0, .slice none 0 0, .string ⟨#[]⟩] 25)
  have p0 := new_cell w #[.string ⟨#[97, 98, 99, 100]⟩, .slice none 0 0, .slice none 0 0, .string ⟨#[]⟩] 25 0 _ rfl
  have p1 := new_cell w #[.string ⟨#[97, 98, 99, 100]⟩, .slice none 0 0, .slice none 0 0, .string ⟨#[]⟩] 25 1 _ rfl
  have p2 := new_cell w #[.string ⟨#[97, 98, 99, 100]⟩, .slice none 0 0, .slice none 0 0, .string ⟨#[]⟩] 25 2 _ rfl
  have p3 := new_cell w #[.string ⟨#[97, 98, 99, 100]⟩, .slice none 0 0, .slice none 0 0, .string ⟨#[]⟩] 25 3 _ rfl
  have hgs : w.heap.size < (w.alloc (.cells #[.string ⟨#[97, 98, 99, 100]⟩, .slice none 0 0, .slice none 0 0, .string ⟨#[]⟩] 25)).heap.size := by simp
  go_enter Try.func12, Try.ntmps12
  go_wp2_with fail
  generalize (w.alloc (.cells #[.string ⟨#[97, 98, 99, 100]⟩, .slice none 0 0, .slice none 0 0, .string ⟨#[]⟩] 25)) = W at hb p0 p1 p2 p3 hgs ⊢
  refine (heldCues W _ 1 0 (Sl.nil _ _ _) (by omega) (by simp)).mono ?_
  rintro e w1 ⟨he, hw⟩
  have hw := hw.symm
  subst hw
  have he2 : e = .returned (.int .i64 1) := by rw [he]; rfl
  subst he2
  clear he
  go_wp2_with fail
  refine (heldTitles W _ 1 0 (Sl.nil _ _ _) (by simp)).mono ?_
  rintro e w2 ⟨he, hb2⟩
  have b2 := below_step hb hb2
  have he2 : e = .returned (.int .i64 1) := by rw [he]; rfl
  subst he2
  clear he hb2
  go_wp2_with fail
  go_ret
  exact ⟨rfl, b2⟩
set_option maxHeartbeats 2000000 in
theorem law_FnExactNewDesk (w : World) : Calls Try.prog 3 #[] w fun e w' => e = .returned (.bool true) ∧ Below w.heap.size w w' := by
  have B := Below.refl w.heap.size w
  go_enter Try.func3, Try.ntmps3
  go_wp2_with fail
  refine (newDesk_spec _).mono ?_
  rintro e w1 ⟨rfl, hb1⟩
  replace B := below_step B hb1
  clear hb1
  have R1 := heap_alloc_new w1 (.cells #[.string ⟨#[97, 98, 99, 100]⟩, .slice none 0 0, .slice none 0 0, .string ⟨#[]⟩] 25)
  replace B := B.alloc B.size (.cells #[.string ⟨#[97, 98, 99, 100]⟩, .slice none 0 0, .slice none 0 0, .string ⟨#[]⟩] 25)
  go_wp2_with fail
  generalize (w1.alloc (.cells #[.string ⟨#[97, 98, 99, 100]⟩, .slice none 0 0, .slice none 0 0, .string ⟨#[]⟩] 25)) = W1 at B R1 ⊢
  generalize w1.heap.size = G1 at R1 ⊢
  refine (newDesk_impl _).mono ?_
  rintro e w2 ⟨rfl, hb2⟩
  replace R1 := (hb2.block G1 (lt_of_block R1)).trans R1
  replace B := below_step B hb2
  clear hb2
  replace R1 := row_alloc R1 (.cells #[.string ⟨#[97, 98, 99, 100]⟩, .slice none 0 0, .slice none 0 0, .string ⟨#[]⟩] 25)
  have R2 := heap_alloc_new w2 (.cells #[.string ⟨#[97, 98, 99, 100]⟩, .slice none 0 0, .slice none 0 0, .string ⟨#[]⟩] 25)
  replace B := B.alloc B.size (.cells #[.string ⟨#[97, 98, 99, 100]⟩, .slice none 0 0, .slice none 0 0, .string ⟨#[]⟩] 25)
  have y10 := cell_of_row (w2.alloc (.cells #[.string ⟨#[97, 98, 99, 100]⟩, .slice none 0 0, .slice none 0 0, .string ⟨#[]⟩] 25)) G1 0 _ _ (0, 0) R1
  have y11 := cell_of_row (w2.alloc (.cells #[.string ⟨#[97, 98, 99, 100]⟩, .slice none 0 0, .slice none 0 0, .string ⟨#[]⟩] 25)) G1 1 _ _ (0, 0) R1
  have y12 := cell_of_row (w2.alloc (.cells #[.string ⟨#[97, 98, 99, 100]⟩, .slice none 0 0, .slice none 0 0, .string ⟨#[]⟩] 25)) G1 2 _ _ (0, 0) R1
  have y13 := cell_of_row (w2.alloc (.cells #[.string ⟨#[97, 98, 99, 100]⟩, .slice none 0 0, .slice none 0 0, .string ⟨#[]⟩] 25)) G1 3 _ _ (0, 0) R1
  go_wp2_with fail
  clear y10 y11 y12 y13
  generalize (w2.alloc (.cells #[.string ⟨#[97, 98, 99, 100]⟩, .slice none 0 0, .slice none 0 0, .string ⟨#[]⟩] 25)) = W2 at B R1 R2 ⊢
  generalize w2.heap.size = G2 at R2 ⊢
  refine (eqDesk0 _).mono ?_
  rintro e w3 ⟨rfl, hb3⟩
  replace R1 := (hb3.block G1 (lt_of_block R1)).trans R1
  replace R2 := (hb3.block G2 (lt_of_block R2)).trans R2
  replace B := below_step B hb3
  clear hb3
  have y10 := cell_of_row w3 G1 0 _ _ (0, 0) R1
  have y11 := cell_of_row w3 G1 1 _ _ (0, 0) R1
  have y12 := cell_of_row w3 G1 2 _ _ (0, 0) R1
  have y13 := cell_of_row w3 G1 3 _ _ (0, 0) R1
  have y20 := cell_of_row w3 G2 0 _ _ (0, 0) R2
  have y21 := cell_of_row w3 G2 1 _ _ (0, 0) R2
  have y22 := cell_of_row w3 G2 2 _ _ (0, 0) R2
  have y23 := cell_of_row w3 G2 3 _ _ (0, 0) R2
  go_wp2_with fail
  clear y10 y11 y12 y13 y20 y21 y22 y23
  refine (markDesk0 _).mono ?_
  rintro e w4 ⟨rfl, hb4⟩
  replace R1 := (hb4.block G1 (lt_of_block R1)).trans R1
  replace R2 := (hb4.block G2 (lt_of_block R2)).trans R2
  replace B := below_step B hb4
  clear hb4
  have y10 := cell_of_row w4 G1 0 _ _ (0, 0) R1
  have y11 := cell_of_row w4 G1 1 _ _ (0, 0) R1
  have y12 := cell_of_row w4 G1 2 _ _ (0, 0) R1
  have y13 := cell_of_row w4 G1 3 _ _ (0, 0) R1
  have y20 := cell_of_row w4 G2 0 _ _ (0, 0) R2
  have y21 := cell_of_row w4 G2 1 _ _ (0, 0) R2
  have y22 := cell_of_row w4 G2 2 _ _ (0, 0) R2
  have y23 := cell_of_row w4 G2 3 _ _ (0, 0) R2
  go_wp2_with fail
  clear y10 y11 y12 y13 y20 y21 y22 y23
  refine (heldDesk0 _).mono ?_
  rintro e w5 ⟨rfl, hb5⟩
  replace R1 := (hb5.block G1 (lt_of_block R1)).trans R1
  replace R2 := (hb5.block G2 (lt_of_block R2)).trans R2
  replace B := below_step B hb5
  clear hb5
  have y10 := cell_of_row w5 G1 0 _ _ (0, 0) R1
  have y11 := cell_of_row w5 G1 1 _ _ (0, 0) R1
  have y12 := cell_of_row w5 G1 2 _ _ (0, 0) R1
  have y13 := cell_of_row w5 G1 3 _ _ (0, 0) R1
  have y20 := cell_of_row w5 G2 0 _ _ (0, 0) R2
  have y21 := cell_of_row w5 G2 1 _ _ (0, 0) R2
  have y22 := cell_of_row w5 G2 2 _ _ (0, 0) R2
  have y23 := cell_of_row w5 G2 3 _ _ (0, 0) R2
  go_wp2_with fail
  clear y10 y11 y12 y13 y20 y21 y22 y23
  refine (newDesk_impl _).mono ?_
  rintro e w6 ⟨rfl, hb6⟩
  replace R1 := (hb6.block G1 (lt_of_block R1)).trans R1
  replace R2 := (hb6.block G2 (lt_of_block R2)).trans R2
  replace B := below_step B hb6
  clear hb6
  replace R1 := row_alloc R1 (.cells #[.string ⟨#[97, 98, 99, 100]⟩, .slice none 0 0, .slice none 0 0, .string ⟨#[]⟩] 25)
  replace R2 := row_alloc R2 (.cells #[.string ⟨#[97, 98, 99, 100]⟩, .slice none 0 0, .slice none 0 0, .string ⟨#[]⟩] 25)
  have R3 := heap_alloc_new w6 (.cells #[.string ⟨#[97, 98, 99, 100]⟩, .slice none 0 0, .slice none 0 0, .string ⟨#[]⟩] 25)
  replace B := B.alloc B.size (.cells #[.string ⟨#[97, 98, 99, 100]⟩, .slice none 0 0, .slice none 0 0, .string ⟨#[]⟩] 25)
  have y10 := cell_of_row (w6.alloc (.cells #[.string ⟨#[97, 98, 99, 100]⟩, .slice none 0 0, .slice none 0 0, .string ⟨#[]⟩] 25)) G1 0 _ _ (0, 0) R1
  have y11 := cell_of_row (w6.alloc (.cells #[.string ⟨#[97, 98, 99, 100]⟩, .slice none 0 0, .slice none 0 0, .string ⟨#[]⟩] 25)) G1 1 _ _ (0, 0) R1
  have y12 := cell_of_row (w6.alloc (.cells #[.string ⟨#[97, 98, 99, 100]⟩, .slice none 0 0, .slice none 0 0, .string ⟨#[]⟩] 25)) G1 2 _ _ (0, 0) R1
  have y13 := cell_of_row (w6.alloc (.cells #[.string ⟨#[97, 98, 99, 100]⟩, .slice none 0 0, .slice none 0 0, .string ⟨#[]⟩] 25)) G1 3 _ _ (0, 0) R1
  have y20 := cell_of_row (w6.alloc (.cells #[.string ⟨#[97, 98, 99, 100]⟩, .slice none 0 0, .slice none 0 0, .string ⟨#[]⟩] 25)) G2 0 _ _ (0, 0) R2
  have y21 := cell_of_row (w6.alloc (.cells #[.string ⟨#[97, 98, 99, 100]⟩, .slice none 0 0, .slice none 0 0, .string ⟨#[]⟩] 25)) G2 1 _ _ (0, 0) R2
  have y22 := cell_of_row (w6.alloc (.cells #[.string ⟨#[97, 98, 99, 100]⟩, .slice none 0 0, .slice none 0 0, .string ⟨#[]⟩] 25)) G2 2 _ _ (0, 0) R2
  have y23 := cell_of_row (w6.alloc (.cells #[.string ⟨#[97, 98, 99, 100]⟩, .slice none 0 0, .slice none 0 0, .string ⟨#[]⟩] 25)) G2 3 _ _ (0, 0) R2
  go_wp2_with fail
  clear y10 y11 y12 y13 y20 y21 y22 y23
  generalize (w6.alloc (.cells #[.string ⟨#[97, 98, 99, 100]⟩, .slice none 0 0, .slice none 0 0, .string ⟨#[]⟩] 25)) = W6 at B R1 R2 R3 ⊢
  generalize w6.heap.size = G3 at R3 ⊢
  refine (eqDesk0 _).mono ?_
  rintro e w7 ⟨rfl, hb7⟩
  replace R1 := (hb7.block G1 (lt_of_block R1)).trans R1
  replace R2 := (hb7.block G2 (lt_of_block R2)).trans R2
  replace R3 := (hb7.block G3 (lt_of_block R3)).trans R3
  replace B := below_step B hb7
  clear hb7
  have y10 := cell_of_row w7 G1 0 _ _ (0, 0) R1
  have y11 := cell_of_row w7 G1 1 _ _ (0, 0) R1
  have y12 := cell_of_row w7 G1 2 _ _ (0, 0) R1
  have y13 := cell_of_row w7 G1 3 _ _ (0, 0) R1
  have y20 := cell_of_row w7 G2 0 _ _ (0, 0) R2
  have y21 := cell_of_row w7 G2 1 _ _ (0, 0) R2
  have y22 := cell_of_row w7 G2 2 _ _ (0, 0) R2
  have y23 := cell_of_row w7 G2 3 _ _ (0, 0) R2
  have y30 := cell_of_row w7 G3 0 _ _ (0, 0) R3
  have y31 := cell_of_row w7 G3 1 _ _ (0, 0) R3
  have y32 := cell_of_row w7 G3 2 _ _ (0, 0) R3
  have y33 := cell_of_row w7 G3 3 _ _ (0, 0) R3
  go_wp2_with fail
  clear y10 y11 y12 y13 y20 y21 y22 y23 y30 y31 y32 y33
  refine (heldDesk0 _).mono ?_
  rintro e w8 ⟨rfl, hb8⟩
  replace R1 := (hb8.block G1 (lt_of_block R1)).trans R1
  replace R2 := (hb8.block G2 (lt_of_block R2)).trans R2
  replace R3 := (hb8.block G3 (lt_of_block R3)).trans R3
  replace B := below_step B hb8
  clear hb8
  have y10 := cell_of_row w8 G1 0 _ _ (0, 0) R1
  have y11 := cell_of_row w8 G1 1 _ _ (0, 0) R1
  have y12 := cell_of_row w8 G1 2 _ _ (0, 0) R1
  have y13 := cell_of_row w8 G1 3 _ _ (0, 0) R1
  have y20 := cell_of_row w8 G2 0 _ _ (0, 0) R2
  have y21 := cell_of_row w8 G2 1 _ _ (0, 0) R2
  have y22 := cell_of_row w8 G2 2 _ _ (0, 0) R2
  have y23 := cell_of_row w8 G2 3 _ _ (0, 0) R2
  have y30 := cell_of_row w8 G3 0 _ _ (0, 0) R3
  have y31 := cell_of_row w8 G3 1 _ _ (0, 0) R3
  have y32 := cell_of_row w8 G3 2 _ _ (0, 0) R3
  have y33 := cell_of_row w8 G3 3 _ _ (0, 0) R3
  go_wp2_with fail
  clear y10 y11 y12 y13 y20 y21 y22 y23 y30 y31 y32 y33
  go_ret
  exact ⟨rfl, B⟩

set_option maxRecDepth 100000 in
theorem FnExactNewDesk_lifted (os : Os) (started : os.Started) (H : Type) (enc : TypeId × Value → H) :
    ReturnsInHanded {} Try.checked os 3 .any (Rows.fnExactNewDeskSpec.pre6 enc Try.prog Try.f3 Rows.fnExactNewDeskRow.domain false) (Rows.fnExactNewDeskSpec.post enc Try.prog Try.f3 false true false false) := by
  refine returnsInHanded_of_change (C := Try.checked) own_knob started (by kernel_rfl) Try.func3
    (ChangeSpec.witness6 (enc := enc) (C := Try.checked) false ⟨#[], #[], []⟩ 8 (by kernel_rfl) (by kernel_rfl) (by kernel_rfl) (by kernel_rfl)) ?_
  intro W base args ds gs before hval0 hW hcnd _
  have hval : ∀ (j : Nat) t v, Try.f3.params[j]? = some t → args[j]? = some v → Value.okWide Try.prog W .any base t v := hval0
  have hW' := hW
  obtain ⟨p, q, hA0, hV, rfl, hfz, hnd⟩ := hW
  have hA : DataW.TrodAll enc Try.prog W 0 (fun _ => true) true Try.f3.params.toList args.toList ds p := hA0
  rw [Try.params3] at hA hval
  obtain ⟨hargs, rfl, rfl⟩ := trodAll_nil hA
  obtain rfl : args = #[] := by cases args; simp_all
  obtain ⟨rfl, rfl⟩ := trodVars_none hV
  refine (law_FnExactNewDesk W ).mono fun e W' ⟨he, bel⟩ => ?_
  subst he
  exact ⟨_, rfl, _, _, _, [], _, [], hW', trodAll_mk1 (shut_bool Try.underlying4 _), trodAll_mk0, rfl, bel.frame _, fun h => by cases h⟩

theorem FnExactNewDesk_closed : joinedFacts Try.pinned.checked.prog 3 Try.f3 Rows.fnExactNewDeskSpec Rows.fnExactNewDeskRow = true := by
  unfold joinedFacts; rw [seat_enter, seat_lifts, seat_make]; kernel_rfl

theorem FnExactNewDesk_named : Try.pinned.checked.prog.funcNamed Rows.fnExactNewDeskRow.func = some 3 := by kernel_rfl

theorem FnExactNewDesk_holds : Rows.FnExactNewDeskSaid :=
  OpenClaim.holds_of_wide 3 Try.f3 rfl rfl rfl rfl rfl rfl rfl ⟨rfl, rfl, rfl, rfl, rfl⟩ rfl rfl rfl rfl rfl FnExactNewDesk_named Try.func3 FnExactNewDesk_closed
    (of_decide_eq_true (by kernel_rfl)) (by unfold Func.isWrapper; first | (rw [if_pos (by decide +kernel)]; kernel_rfl) | (rw [if_neg (by decide +kernel)]; exact ⟨rfl, rfl⟩))
    (fun os started H enc _ => FnExactNewDesk_lifted os started H enc)
#print axioms FnExactNewDesk_holds

end Go.Proofs.Ytblbhemfpdgokaa
