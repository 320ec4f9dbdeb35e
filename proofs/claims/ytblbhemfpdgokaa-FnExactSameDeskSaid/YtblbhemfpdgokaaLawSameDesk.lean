/- FnExactSameDesk: for all arguments the program's SameDesk returns what the reference's returns, and leaves its arguments as they are. No condition. -/
import Derived.Test.YtblbhemfpdgokaaDesk
import Derived.Deep.RegionHeld3
namespace Go.Proofs.Ytblbhemfpdgokaa
open Go Go.RowKit Go.ChangeShapes Go.WideShapes
set_option linter.unusedSimpArgs false
set_option linter.unusedVariables false
theorem row_allocD {w : World} {g : Nat} {o : Obj} (h : w.heap[g]? = some o) (o' : Obj) : (w.alloc o').heap[g]? = some o := (((Below.refl w.heap.size w).alloc (Nat.le_refl _) o').block g (lt_of_block h)).trans h
theorem eqDesk_same (w : World) (p q : ByteArray) (v1 v2 t1 t2 : Value) (C : List TCue) (T : List TTitle) (hC : Sl w 4 v1 eCue C) (hT : Sl w 4 v2 eTitle T) (kC : Sl w 4 t1 eCue C) (kT : Sl w 4 t2 eTitle T) :
    Calls Try.prog 10 #[.agg #[.string p, v1, v2, .string q], .agg #[.string p, t1, t2, .string q]] w fun e w' => e = .returned (.bool true) ∧ Below w.heap.size w w' := by
  have := eqDesk w p q p q v1 v2 t1 t2 C C T T hC hT kC kT
  rw [sameD_self] at this
  exact this
set_option maxRecDepth 100000 in
set_option maxHeartbeats 4000000 in
theorem law_FnExactSameDesk (w : World) (pa : ByteArray) (va1 va2 : Value) (Ca : List TCue) (Ta : List TTitle) (qa : ByteArray) (zpa : pa.size ≤ maxLen) (Sa1 : Sl w 4 va1 eCue Ca) (Sa2 : Sl w 4 va2 eTitle Ta) (ga : ∀ x ∈ Ta, okTitle x) (zqa : qa.size ≤ maxLen) (pb : ByteArray) (vb1 vb2 : Value) (Cb : List TCue) (Tb : List TTitle) (qb : ByteArray) (zpb : pb.size ≤ maxLen) (Sb1 : Sl w 4 vb1 eCue Cb) (Sb2 : Sl w 4 vb2 eTitle Tb) (gb : ∀ x ∈ Tb, okTitle x) (zqb : qb.size ≤ maxLen) :
    Calls Try.prog 4 #[.agg #[.string pa, va1, va2, .string qa], .agg #[.string pb, vb1, vb2, .string qb]] w fun e w' => e = .returned (.bool true) ∧ Below w.heap.size w w' := by
  obtain ⟨Aa1, ca1, rfl⟩ := Sa1.sliceD
  obtain ⟨Aa2, ca2, rfl⟩ := Sa2.sliceD
  obtain ⟨Ab1, cb1, rfl⟩ := Sb1.sliceD
  obtain ⟨Ab2, cb2, rfl⟩ := Sb2.sliceD
  obtain ⟨W, hW⟩ : ∃ W, W = (w.alloc (.cells #[.string pa, .slice Aa1 Ca.length ca1, .slice Aa2 Ta.length ca2, .string qa] 33)).alloc (.cells #[.string pb, .slice Ab1 Cb.length cb1, .slice Ab2 Tb.length cb2, .string qb] 33) := ⟨_, rfl⟩
  have hb : Below w.heap.size w W := by rw [hW]; exact ((Below.refl w.heap.size w).alloc (Nat.le_refl _) _).alloc (by simp) _
  have g1 : W.heap[w.heap.size]? = some (.cells #[.string pa, .slice Aa1 Ca.length ca1, .slice Aa2 Ta.length ca2, .string qa] 33 (0, 0)) := by
    rw [hW]
    exact (((Below.refl (w.heap.size + 1) (w.alloc (.cells #[.string pa, .slice Aa1 Ca.length ca1, .slice Aa2 Ta.length ca2, .string qa] 33))).alloc (by simp) (.cells #[.string pb, .slice Ab1 Cb.length cb1, .slice Ab2 Tb.length cb2, .string qb] 33)).block w.heap.size (by omega)).trans (heap_alloc_new w _)
  have g2 : W.heap[w.heap.size + 1]? = some (.cells #[.string pb, .slice Ab1 Cb.length cb1, .slice Ab2 Tb.length cb2, .string qb] 33 (0, 0)) := by
    rw [hW]
    have e := heap_alloc_new (w.alloc (.cells #[.string pa, .slice Aa1 Ca.length ca1, .slice Aa2 Ta.length ca2, .string qa] 33)) (.cells #[.string pb, .slice Ab1 Cb.length cb1, .slice Ab2 Tb.length cb2, .string qb] 33)
    rw [show (w.alloc (.cells #[.string pa, .slice Aa1 Ca.length ca1, .slice Aa2 Ta.length ca2, .string qa] 33)).heap.size = w.heap.size + 1 from by simp] at e
    exact e
  have z1 : w.heap.size < W.heap.size := lt_of_block g1
  have z2 : w.heap.size + 1 < W.heap.size := lt_of_block g2
  have a0 := cell_of_row W w.heap.size 0 _ _ (0, 0) g1
  have b0 := cell_of_row W (w.heap.size + 1) 0 _ _ (0, 0) g2
  have a1 := cell_of_row W w.heap.size 1 _ _ (0, 0) g1
  have b1 := cell_of_row W (w.heap.size + 1) 1 _ _ (0, 0) g2
  have a2 := cell_of_row W w.heap.size 2 _ _ (0, 0) g1
  have b2 := cell_of_row W (w.heap.size + 1) 2 _ _ (0, 0) g2
  have a3 := cell_of_row W w.heap.size 3 _ _ (0, 0) g1
  have b3 := cell_of_row W (w.heap.size + 1) 3 _ _ (0, 0) g2
  have HW := hd hW
  clear hW g1 g2
  have HS := hd (fun (w' : World) (h : Below W.heap.size W w') => (show w'.cell? ⟨w.heap.size, 0, none⟩ = some (.string pa) ∧ w'.cell? ⟨w.heap.size, 1, none⟩ = some (.slice Aa1 Ca.length ca1) ∧ w'.cell? ⟨w.heap.size, 2, none⟩ = some (.slice Aa2 Ta.length ca2) ∧ w'.cell? ⟨w.heap.size, 3, none⟩ = some (.string qa) ∧ w'.cell? ⟨(w.heap.size + 1), 0, none⟩ = some (.string pb) ∧ w'.cell? ⟨(w.heap.size + 1), 1, none⟩ = some (.slice Ab1 Cb.length cb1) ∧ w'.cell? ⟨(w.heap.size + 1), 2, none⟩ = some (.slice Ab2 Tb.length cb2) ∧ w'.cell? ⟨(w.heap.size + 1), 3, none⟩ = some (.string qb) from ⟨(h.cell (p := ⟨w.heap.size, 0, none⟩) z1).trans a0, (h.cell (p := ⟨w.heap.size, 1, none⟩) z1).trans a1, (h.cell (p := ⟨w.heap.size, 2, none⟩) z1).trans a2, (h.cell (p := ⟨w.heap.size, 3, none⟩) z1).trans a3, (h.cell (p := ⟨w.heap.size + 1, 0, none⟩) z2).trans b0, (h.cell (p := ⟨w.heap.size + 1, 1, none⟩) z2).trans b1, (h.cell (p := ⟨w.heap.size + 1, 2, none⟩) z2).trans b2, (h.cell (p := ⟨w.heap.size + 1, 3, none⟩) z2).trans b3⟩))
  have Ga := hd ga
  have Gb := hd gb
  clear ga gb
  replace Sa1 := Sa1.below hb
  replace Sa2 := Sa2.below hb
  replace Sb1 := Sb1.below hb
  replace Sb2 := Sb2.below hb
  have K : Below W.heap.size W W := Below.refl _ _
  by_cases ya : (totDesk pa Ca Ta qa : Int) ≤ 1048576
  case neg =>
    go_enter Try.func4, Try.ntmps4
    go_wp2_with fail
    rw [← HW.out]
    refine (szDesk_no _ _ _ _ _ _ _ zpa zqa (Sa1.below K) (Sa2.below K) Ga.out _ (by omega) (by omega) (by omega)).mono ?_
    rintro e w1 ⟨rfl, hb1⟩
    go_wp2_with fail
    go_ret
    exact ⟨rfl, below_step hb hb1⟩
  by_cases yb : (totDesk pb Cb Tb qb : Int) ≤ 1048576 - (totDesk pa Ca Ta qa : Int)
  case neg =>
    go_enter Try.func4, Try.ntmps4
    go_wp2_with fail
    rw [← HW.out]
    refine (szDesk_yes _ _ _ _ _ _ _ zpa zqa (Sa1.below K) (Sa2.below K) Ga.out _ (by omega) (by omega) (by omega)).mono ?_
    rintro e w1 ⟨rfl, hb1⟩
    replace K := below_step K hb1
    clear a0 a1 a2 a3 b0 b1 b2 b3
    obtain ⟨a0, a1, a2, a3, b0, b1, b2, b3⟩ := HS.out _ K
    go_wp2_with fail
    refine (szDesk_no _ _ _ _ _ _ _ zpb zqb (Sb1.below K) (Sb2.below K) Gb.out _ (by omega) (by omega) (by omega)).mono ?_
    rintro e w2 ⟨rfl, hb2⟩
    go_wp2_with fail
    go_ret
    exact ⟨rfl, below_step (below_step hb K) hb2⟩
  have ba1 : Ca.length ≤ 1048576 := by unfold totDesk at ya; omega
  have ba2 : Ta.length ≤ 1048576 := by unfold totDesk totTitle at ya; omega
  have bb1 : Cb.length ≤ 1048576 := by unfold totDesk at yb; omega
  have bb2 : Tb.length ≤ 1048576 := by unfold totDesk totTitle at yb; omega
  go_enter Try.func4, Try.ntmps4
  go_wp2_with fail
  rw [← HW.out]
  refine (szDesk_yes _ _ _ _ _ _ _ zpa zqa (Sa1.below K) (Sa2.below K) Ga.out _ (by omega) (by omega) (by omega)).mono ?_
  rintro e w1 ⟨rfl, hb1⟩
  replace K := below_step K hb1
  clear a0 a1 a2 a3 b0 b1 b2 b3 hb1
  obtain ⟨a0, a1, a2, a3, b0, b1, b2, b3⟩ := HS.out _ K
  go_wp2_with fail
  clear a0 a1 a2 a3 b0 b1 b2 b3
  refine (szDesk_yes _ _ _ _ _ _ _ zpb zqb (Sb1.below K) (Sb2.below K) Gb.out _ (by omega) (by omega) (by omega)).mono ?_
  rintro e w2 ⟨rfl, hb2⟩
  replace K := below_step K hb2
  clear hb2
  have hb := hd hb
  go_wp2_with fail
  go_region_held3 (fun ww => ww.cell? ⟨w.heap.size, 0, none⟩ = some (.string pa) ∧ ww.cell? ⟨w.heap.size, 1, none⟩ = some (.slice Aa1 Ca.length ca1) ∧ ww.cell? ⟨w.heap.size, 2, none⟩ = some (.slice Aa2 Ta.length ca2) ∧ ww.cell? ⟨w.heap.size, 3, none⟩ = some (.string qa) ∧ ww.cell? ⟨(w.heap.size + 1), 0, none⟩ = some (.string pb) ∧ ww.cell? ⟨(w.heap.size + 1), 1, none⟩ = some (.slice Ab1 Cb.length cb1) ∧ ww.cell? ⟨(w.heap.size + 1), 2, none⟩ = some (.slice Ab2 Tb.length cb2) ∧ ww.cell? ⟨(w.heap.size + 1), 3, none⟩ = some (.string qb)) (first | with_reducible exact HS.out _ K | with_reducible exact HS.out _ (Below.drew K))
    (first | (go_at_call 15; replace K := Below.drew K; with_reducible refine (toDesk _ _ _ _ _ _ _ (Sa1.below K) (Sa2.below K) ba1 ba2).mono ?_; rintro e w3 ⟨A31, c31, A32, c32, rfl, SC3, ST3, hb3⟩; replace K := below_step K hb3; clear hb3) | (go_at_call 15; with_reducible refine (toDesk _ _ _ _ _ _ _ (Sb1.below K) (Sb2.below K) bb1 bb2).mono ?_; rintro e w4 ⟨A41, c41, A42, c42, rfl, SC4, ST4, hb4⟩; replace K := below_step K hb4; replace SC3 := SC3.below hb4; replace ST3 := ST3.below hb4; clear hb4) | (go_at_call 14; with_reducible refine (sameDesk_spec _ _ _ _ _ _ _ _ _ _ _ _ _ SC3 ST3 SC4 ST4).mono ?_; rintro e w5 ⟨rfl, hb5⟩; replace K := below_step K hb5; clear hb5 SC3 ST3 SC4 ST4))
  all_goals
    obtain ⟨a0, a1, a2, a3, b0, b1, b2, b3⟩ := HS.out _ K
    go_wp2_with fail
    clear a0 a1 a2 a3 b0 b1 b2 b3
    refine (toDesk _ _ _ _ _ _ _ (Sa1.below K) (Sa2.below K) ba1 ba2).mono ?_
    rintro e w6 ⟨A71, c71, A72, c72, rfl, SC7, ST7, hb6⟩
    have R7 := heap_alloc_new w6 (.cells #[.string pa, .slice A71 Ca.length c71, .slice A72 Ta.length c72, .string qa] 25)
    replace K := (below_step K hb6).alloc (below_step K hb6).size (.cells #[.string pa, .slice A71 Ca.length c71, .slice A72 Ta.length c72, .string qa] 25)
    replace SC7 := SC7.alloc (.cells #[.string pa, .slice A71 Ca.length c71, .slice A72 Ta.length c72, .string qa] 25)
    replace ST7 := ST7.alloc (.cells #[.string pa, .slice A71 Ca.length c71, .slice A72 Ta.length c72, .string qa] 25)
    clear hb6
    obtain ⟨a0, a1, a2, a3, b0, b1, b2, b3⟩ := HS.out _ K
    go_wp2_with fail
    clear a0 a1 a2 a3 b0 b1 b2 b3
    generalize (w6.alloc (.cells #[.string pa, .slice A71 Ca.length c71, .slice A72 Ta.length c72, .string qa] 25)) = W7 at K R7 SC7 ST7 ⊢
    generalize w6.heap.size = G7 at R7 ⊢
    refine (toDesk _ _ _ _ _ _ _ (Sb1.below K) (Sb2.below K) bb1 bb2).mono ?_
    rintro e w7 ⟨A81, c81, A82, c82, rfl, SC8, ST8, hb7⟩
    replace R7 := row_allocD ((hb7.block G7 (lt_of_block R7)).trans R7) (.cells #[.string pb, .slice A81 Cb.length c81, .slice A82 Tb.length c82, .string qb] 25)
    have R8 := heap_alloc_new w7 (.cells #[.string pb, .slice A81 Cb.length c81, .slice A82 Tb.length c82, .string qb] 25)
    replace K := (below_step K hb7).alloc (below_step K hb7).size (.cells #[.string pb, .slice A81 Cb.length c81, .slice A82 Tb.length c82, .string qb] 25)
    replace SC7 := (SC7.below hb7).alloc (.cells #[.string pb, .slice A81 Cb.length c81, .slice A82 Tb.length c82, .string qb] 25)
    replace ST7 := (ST7.below hb7).alloc (.cells #[.string pb, .slice A81 Cb.length c81, .slice A82 Tb.length c82, .string qb] 25)
    replace SC8 := SC8.alloc (.cells #[.string pb, .slice A81 Cb.length c81, .slice A82 Tb.length c82, .string qb] 25)
    replace ST8 := ST8.alloc (.cells #[.string pb, .slice A81 Cb.length c81, .slice A82 Tb.length c82, .string qb] 25)
    clear hb7
    have y0 := cell_of_row _ G7 0 _ _ (0, 0) R7
    have x0 := cell_of_row _ w7.heap.size 0 _ _ (0, 0) R8
    have y1 := cell_of_row _ G7 1 _ _ (0, 0) R7
    have x1 := cell_of_row _ w7.heap.size 1 _ _ (0, 0) R8
    have y2 := cell_of_row _ G7 2 _ _ (0, 0) R7
    have x2 := cell_of_row _ w7.heap.size 2 _ _ (0, 0) R8
    have y3 := cell_of_row _ G7 3 _ _ (0, 0) R7
    have x3 := cell_of_row _ w7.heap.size 3 _ _ (0, 0) R8
    go_wp2_with fail
    clear y0 y1 y2 y3 x0 x1 x2 x3
    generalize (w7.alloc (.cells #[.string pb, .slice A81 Cb.length c81, .slice A82 Tb.length c82, .string qb] 25)) = W7b at K R7 R8 SC7 ST7 SC8 ST8 ⊢
    generalize w7.heap.size = G8 at R8 ⊢
    refine (sameDesk_impl _ _ _ _ _ _ _ _ _ _ _ _ _ SC7 ST7 SC8 ST8).mono ?_
    rintro e W8 ⟨rfl, hb8⟩
    replace R7 := (hb8.block G7 (lt_of_block R7)).trans R7
    replace R8 := (hb8.block G8 (lt_of_block R8)).trans R8
    replace K := below_step K hb8
    replace SC7 := SC7.below hb8
    replace ST7 := ST7.below hb8
    replace SC8 := SC8.below hb8
    replace ST8 := ST8.below hb8
    clear hb8
    go_wp2_with fail
    obtain ⟨ta0, ta1, ta2, ta3, tb0, tb1, tb2, tb3⟩ := HS.out _ K
    have L : Below W8.heap.size W8 W8 := Below.refl _ _
    have HT9 := hd (fun (w' : World) (h : Below W8.heap.size W8 w') => (show w'.cell? ⟨G7, 0, none⟩ = some (.string pa) ∧ w'.cell? ⟨G7, 1, none⟩ = some (.slice A71 Ca.length c71) ∧ w'.cell? ⟨G7, 2, none⟩ = some (.slice A72 Ta.length c72) ∧ w'.cell? ⟨G7, 3, none⟩ = some (.string qa) ∧ w'.cell? ⟨w.heap.size, 0, none⟩ = some (.string pa) ∧ w'.cell? ⟨w.heap.size, 1, none⟩ = some (.slice Aa1 Ca.length ca1) ∧ w'.cell? ⟨w.heap.size, 2, none⟩ = some (.slice Aa2 Ta.length ca2) ∧ w'.cell? ⟨w.heap.size, 3, none⟩ = some (.string qa) from ⟨(h.cell (p := ⟨G7, 0, none⟩) (lt_of_block R7)).trans (cell_of_row W8 G7 0 _ _ (0, 0) R7), (h.cell (p := ⟨G7, 1, none⟩) (lt_of_block R7)).trans (cell_of_row W8 G7 1 _ _ (0, 0) R7), (h.cell (p := ⟨G7, 2, none⟩) (lt_of_block R7)).trans (cell_of_row W8 G7 2 _ _ (0, 0) R7), (h.cell (p := ⟨G7, 3, none⟩) (lt_of_block R7)).trans (cell_of_row W8 G7 3 _ _ (0, 0) R7), (h.cell (p := ⟨w.heap.size, 0, none⟩) (Nat.lt_of_lt_of_le z1 K.size)).trans ta0, (h.cell (p := ⟨w.heap.size, 1, none⟩) (Nat.lt_of_lt_of_le z1 K.size)).trans ta1, (h.cell (p := ⟨w.heap.size, 2, none⟩) (Nat.lt_of_lt_of_le z1 K.size)).trans ta2, (h.cell (p := ⟨w.heap.size, 3, none⟩) (Nat.lt_of_lt_of_le z1 K.size)).trans ta3⟩))
    go_region_held3 (fun ww => ww.cell? ⟨G7, 0, none⟩ = some (.string pa) ∧ ww.cell? ⟨G7, 1, none⟩ = some (.slice A71 Ca.length c71) ∧ ww.cell? ⟨G7, 2, none⟩ = some (.slice A72 Ta.length c72) ∧ ww.cell? ⟨G7, 3, none⟩ = some (.string qa) ∧ ww.cell? ⟨w.heap.size, 0, none⟩ = some (.string pa) ∧ ww.cell? ⟨w.heap.size, 1, none⟩ = some (.slice Aa1 Ca.length ca1) ∧ ww.cell? ⟨w.heap.size, 2, none⟩ = some (.slice Aa2 Ta.length ca2) ∧ ww.cell? ⟨w.heap.size, 3, none⟩ = some (.string qa)) (first | with_reducible exact HT9.out _ L | with_reducible exact HT9.out _ (Below.drew L))
      (first | (go_at_call 15; replace L := Below.drew L; with_reducible refine (toDesk _ _ _ _ _ _ _ (Sa1.below (below_step K L)) (Sa2.below (below_step K L)) ba1 ba2).mono ?_; rintro e w9 ⟨A91, c91, A92, c92, rfl, SC9, ST9, hb9⟩; have M9 := below_step L hb9; replace L := M9; clear hb9 M9) | (go_at_call 10; with_reducible refine (eqDesk_same _ _ _ _ _ _ _ _ _ (SC7.below L) (ST7.below L) SC9 ST9).mono ?_; rintro e w9x ⟨rfl, hb9⟩; replace L := below_step L hb9; clear hb9 SC9 ST9))
    all_goals
      go_wp2_with fail
      have HT10 := hd (fun (w' : World) (h : Below W8.heap.size W8 w') => (show w'.cell? ⟨G8, 0, none⟩ = some (.string pb) ∧ w'.cell? ⟨G8, 1, none⟩ = some (.slice A81 Cb.length c81) ∧ w'.cell? ⟨G8, 2, none⟩ = some (.slice A82 Tb.length c82) ∧ w'.cell? ⟨G8, 3, none⟩ = some (.string qb) ∧ w'.cell? ⟨(w.heap.size + 1), 0, none⟩ = some (.string pb) ∧ w'.cell? ⟨(w.heap.size + 1), 1, none⟩ = some (.slice Ab1 Cb.length cb1) ∧ w'.cell? ⟨(w.heap.size + 1), 2, none⟩ = some (.slice Ab2 Tb.length cb2) ∧ w'.cell? ⟨(w.heap.size + 1), 3, none⟩ = some (.string qb) from ⟨(h.cell (p := ⟨G8, 0, none⟩) (lt_of_block R8)).trans (cell_of_row W8 G8 0 _ _ (0, 0) R8), (h.cell (p := ⟨G8, 1, none⟩) (lt_of_block R8)).trans (cell_of_row W8 G8 1 _ _ (0, 0) R8), (h.cell (p := ⟨G8, 2, none⟩) (lt_of_block R8)).trans (cell_of_row W8 G8 2 _ _ (0, 0) R8), (h.cell (p := ⟨G8, 3, none⟩) (lt_of_block R8)).trans (cell_of_row W8 G8 3 _ _ (0, 0) R8), (h.cell (p := ⟨(w.heap.size + 1), 0, none⟩) (Nat.lt_of_lt_of_le z2 K.size)).trans tb0, (h.cell (p := ⟨(w.heap.size + 1), 1, none⟩) (Nat.lt_of_lt_of_le z2 K.size)).trans tb1, (h.cell (p := ⟨(w.heap.size + 1), 2, none⟩) (Nat.lt_of_lt_of_le z2 K.size)).trans tb2, (h.cell (p := ⟨(w.heap.size + 1), 3, none⟩) (Nat.lt_of_lt_of_le z2 K.size)).trans tb3⟩))
      go_region_held3 (fun ww => ww.cell? ⟨G8, 0, none⟩ = some (.string pb) ∧ ww.cell? ⟨G8, 1, none⟩ = some (.slice A81 Cb.length c81) ∧ ww.cell? ⟨G8, 2, none⟩ = some (.slice A82 Tb.length c82) ∧ ww.cell? ⟨G8, 3, none⟩ = some (.string qb) ∧ ww.cell? ⟨(w.heap.size + 1), 0, none⟩ = some (.string pb) ∧ ww.cell? ⟨(w.heap.size + 1), 1, none⟩ = some (.slice Ab1 Cb.length cb1) ∧ ww.cell? ⟨(w.heap.size + 1), 2, none⟩ = some (.slice Ab2 Tb.length cb2) ∧ ww.cell? ⟨(w.heap.size + 1), 3, none⟩ = some (.string qb)) (first | with_reducible exact HT10.out _ L | with_reducible exact HT10.out _ (Below.drew L))
        (first | (go_at_call 15; replace L := Below.drew L; with_reducible refine (toDesk _ _ _ _ _ _ _ (Sb1.below (below_step K L)) (Sb2.below (below_step K L)) bb1 bb2).mono ?_; rintro e w10 ⟨A101, c101, A102, c102, rfl, SC10, ST10, hb10⟩; have M10 := below_step L hb10; replace L := M10; clear hb10 M10) | (go_at_call 10; with_reducible refine (eqDesk_same _ _ _ _ _ _ _ _ _ (SC8.below L) (ST8.below L) SC10 ST10).mono ?_; rintro e w10x ⟨rfl, hb10⟩; replace L := below_step L hb10; clear hb10 SC10 ST10))
      all_goals
        go_wp2_with fail
        go_ret
        exact ⟨rfl, below_step (below_step hb.out K) L⟩

set_option maxRecDepth 100000 in
theorem FnExactSameDesk_lifted (os : Os) (started : os.Started) (H : Type) (enc : TypeId × Value → H) :
    ReturnsInHanded {} Try.checked os 4 .any (Rows.fnExactSameDeskSpec.pre6 enc Try.prog Try.f4 Rows.fnExactSameDeskRow.domain false) (Rows.fnExactSameDeskSpec.post enc Try.prog Try.f4 false true false false) := by
  refine returnsInHanded_of_change (C := Try.checked) own_knob started (by kernel_rfl) Try.func4
    (ChangeSpec.witness6 (enc := enc) (C := Try.checked) false ⟨#[], #[.agg #[.string ByteArray.empty, .slice none 0 0, .slice none 0 0, .string ByteArray.empty], .agg #[.string ByteArray.empty, .slice none 0 0, .slice none 0 0, .string ByteArray.empty]], []⟩ 8 (by kernel_rfl) (by kernel_rfl) (by kernel_rfl) (by kernel_rfl)) ?_
  intro W base args ds gs before hval0 hW hcnd _
  have hval : ∀ (j : Nat) t v, Try.f4.params[j]? = some t → args[j]? = some v → Value.okWide Try.prog W .any base t v := hval0
  have hW' := hW
  obtain ⟨p, q, hA0, hV, rfl, hfz, hnd⟩ := hW
  have hA : DataW.TrodAll enc Try.prog W 0 (fun _ => true) true Try.f4.params.toList args.toList ds p := hA0
  rw [Try.params4] at hA hval
  obtain ⟨v0, vs0, d0, ds0, p0, q0, hargs, rfl, rfl, h0, r0⟩ := trodAll_cons hA
  obtain ⟨v1, vs1, d1, ds1, p1, q1, rfl, rfl, rfl, h1, r1⟩ := trodAll_cons r0
  obtain ⟨rfl, rfl, rfl⟩ := trodAll_nil r1
  obtain rfl : args = #[v0, v1] := by cases args; simp_all
  obtain ⟨rfl, rfl⟩ := trodVars_none hV
  have k0 := h0
  have lt0 : ∀ x ∈ p0, x.block < W.heap.size := by obtain ⟨m, hm⟩ := k0; exact DataW.trod_lt m _ _ _ hm
  have k1 := h1
  have lt1 : ∀ x ∈ p1, x.block < W.heap.size := by obtain ⟨m, hm⟩ := k1; exact DataW.trod_lt m _ _ _ hm
  obtain ⟨p0, va0, vb0, C0, T0, q0, rfl, zp0, sc0, st0, gt0, zq0⟩ := agg_of_Desk (hval 0 33 v0 rfl rfl) h0
  obtain ⟨p1, va1, vb1, C1, T1, q1, rfl, zp1, sc1, st1, gt1, zq1⟩ := agg_of_Desk (hval 1 33 v1 rfl rfl) h1
  refine (law_FnExactSameDesk W p0 va0 vb0 C0 T0 q0 zp0 sc0 st0 gt0 zq0 p1 va1 vb1 C1 T1 q1 zp1 sc1 st1 gt1 zq1).mono fun e W' ⟨he, bel⟩ => ?_
  subst he
  exact ⟨_, rfl, _, _, _, [], _, [], hW', trodAll_mk1 (shut_bool Try.underlying4 _), (trodAll_cons_mk (Below.trod laid_out (by kernel_rfl) (of_decide_eq_true (by kernel_rfl)) k0 bel lt0) (trodAll_cons_mk (Below.trod laid_out (by kernel_rfl) (of_decide_eq_true (by kernel_rfl)) k1 bel lt1) trodAll_mk0)), rfl, bel.frame _, fun h => by cases h⟩

theorem FnExactSameDesk_closed : joinedFacts Try.pinned.checked.prog 4 Try.f4 Rows.fnExactSameDeskSpec Rows.fnExactSameDeskRow = true := by
  unfold joinedFacts; rw [seat_enter, seat_lifts, seat_make]; kernel_rfl

theorem FnExactSameDesk_named : Try.pinned.checked.prog.funcNamed Rows.fnExactSameDeskRow.func = some 4 := by kernel_rfl

theorem FnExactSameDesk_holds : Rows.FnExactSameDeskSaid :=
  OpenClaim.holds_of_wide 4 Try.f4 rfl rfl rfl rfl rfl rfl rfl ⟨rfl, rfl, rfl, rfl, rfl⟩ rfl rfl rfl rfl rfl FnExactSameDesk_named Try.func4 FnExactSameDesk_closed
    (of_decide_eq_true (by kernel_rfl)) (by unfold Func.isWrapper; first | (rw [if_pos (by decide +kernel)]; kernel_rfl) | (rw [if_neg (by decide +kernel)]; exact ⟨rfl, rfl⟩))
    (fun os started H enc _ => FnExactSameDesk_lifted os started H enc)
#print axioms FnExactSameDesk_holds

end Go.Proofs.Ytblbhemfpdgokaa
