/- FnExactAddHire: for all arguments the program's AddHire returns what the reference's returns, leaves its arguments as they are, and returns memory of its own. No condition. -/
import Derived.Test.YtccplbfafmclmaaAdd
import Derived.Deep.RegionHeld3
namespace Go.Proofs.Ytccplbfafmclmaa
open Go Go.RowKit Go.ChangeShapes Go.WideShapes
set_option linter.unusedSimpArgs false
set_option linter.unusedVariables false


set_option maxHeartbeats 2000000 in
theorem law_FnExactAddHire (w : World) (vaStock : Value) (laStock : List Int) (SaStock : Sl w 1 vaStock eI laStock) (raStock : ∀ x ∈ laStock, -9223372036854775808 ≤ x ∧ x ≤ 9223372036854775807) (vaList : Value) (laList : List THire) (SaList : Sl w 3 vaList eHire laList) (raList : ∀ x ∈ laList, okHire x) (xaX : THire) (gaX : okHire xaX) :
    Calls Try.prog 12 #[vaStock, vaList, (.agg (eHire xaX).toArray)] w fun e w' => e = .returned (.bool true) ∧ Below w.heap.size w w' := by
  have maStock := SaStock.len
  obtain ⟨-, AaStock, caStock, rfl, -, -, -⟩ := id SaStock
  have maList := SaList.len
  obtain ⟨-, AaList, caList, rfl, -, -, -⟩ := id SaList
  obtain ⟨xaX_0, xaX_1, xaX_2⟩ := xaX
  have hw0 := (Below.refl w.heap.size w).alloc (Nat.le_refl _) (.cells (eHire (xaX_0, xaX_1, xaX_2)).toArray 59)
  have hlt0 : w.heap.size < (w.alloc (.cells (eHire (xaX_0, xaX_1, xaX_2)).toArray 59)).heap.size := by simp
  have cellaX_0 := new_cell w (eHire (xaX_0, xaX_1, xaX_2)).toArray 59 0 _ rfl
  have cellaX_1 := new_cell w (eHire (xaX_0, xaX_1, xaX_2)).toArray 59 1 _ rfl
  have cellaX_2 := new_cell w (eHire (xaX_0, xaX_1, xaX_2)).toArray 59 2 _ rfl
  replace SaStock := SaStock.alloc (.cells (eHire (xaX_0, xaX_1, xaX_2)).toArray 59)
  replace SaList := SaList.alloc (.cells (eHire (xaX_0, xaX_1, xaX_2)).toArray 59)
  by_cases z_aStock : laStock.length ≤ 1048576
  case neg =>
    go_enter Try.func12, Try.ntmps12
    go_wp2_with fail
    generalize w.alloc (.cells (eHire (xaX_0, xaX_1, xaX_2)).toArray 59) = w0 at hw0 hlt0 cellaX_0 cellaX_1 cellaX_2 SaStock SaList ⊢
    have B := Below.refl w0.heap.size w0
    go_ret
    exact ⟨rfl, hw0⟩
  by_cases z_aList : (laList.length : Int) ≤ 1048576
  case neg =>
    go_enter Try.func12, Try.ntmps12
    go_wp2_with fail
    generalize w.alloc (.cells (eHire (xaX_0, xaX_1, xaX_2)).toArray 59) = w0 at hw0 hlt0 cellaX_0 cellaX_1 cellaX_2 SaStock SaList ⊢
    have B := Below.refl w0.heap.size w0
    refine (szHires_no _ _ _ SaList _ (by omega) (by omega) (by omega)).mono ?_; rintro e w' ⟨rfl, rfl⟩
    go_wp2_with fail
    go_ret
    exact ⟨rfl, hw0⟩
  have q_len := addR_len laStock laList (xaX_0, xaX_1, xaX_2)
  go_enter Try.func12, Try.ntmps12
  go_wp2_with fail
  generalize w.alloc (.cells (eHire (xaX_0, xaX_1, xaX_2)).toArray 59) = w0 at hw0 hlt0 cellaX_0 cellaX_1 cellaX_2 SaStock SaList ⊢
  have B := Below.refl w0.heap.size w0
  refine (szHires_yes _ _ _ SaList _ (by omega) (by omega) (by omega)).mono ?_; rintro e w' ⟨rfl, rfl⟩
  go_wp2_with fail
  have s0_0 := (B.cell (p := ⟨w.heap.size, 0, none⟩) hlt0).trans cellaX_0
  have s0_1 := (B.cell (p := ⟨w.heap.size, 1, none⟩) hlt0).trans cellaX_1
  have s0_2 := (B.cell (p := ⟨w.heap.size, 2, none⟩) hlt0).trans cellaX_2
  go_region_held3 (fun ww => ww.cell? ⟨w.heap.size, 0, none⟩ = some (.int .i64 xaX_0) ∧ ww.cell? ⟨w.heap.size, 1, none⟩ = some (.int .i64 xaX_1) ∧ ww.cell? ⟨w.heap.size, 2, none⟩ = some (.int .i64 xaX_2)) (first | exact ⟨s4_0, s4_1, s4_2⟩ | exact ⟨s3_0, s3_1, s3_2⟩ | exact ⟨s2_0, s2_1, s2_2⟩ | exact ⟨s1_0, s1_1, s1_2⟩ | exact ⟨s0_0, s0_1, s0_2⟩)
    (first | (go_at_call 34; replace B := below_drewN B 1; refine (toInts _ _ _ (SaStock.below B) (by omega)).mono ?_; rintro e w1 ⟨v_c1, rfl, O_c1, hb1⟩; replace O_c1 := O_c1.base B.size; replace B := below_step B hb1; clear hb1; have s1_0 := (B.cell (p := ⟨w.heap.size, 0, none⟩) hlt0).trans cellaX_0; have s1_1 := (B.cell (p := ⟨w.heap.size, 1, none⟩) hlt0).trans cellaX_1; have s1_2 := (B.cell (p := ⟨w.heap.size, 2, none⟩) hlt0).trans cellaX_2) | (go_at_call 35; refine (toHires _ _ _ (SaList.below B) (by omega)).mono ?_; rintro e w2 ⟨v_c2, rfl, O_c2, hb2⟩; have ne_c1_c2 := own_ne O_c1 O_c2; replace O_c1 := O_c1.below hb2 (Nat.le_refl _); replace O_c2 := O_c2.base B.size; replace B := below_step B hb2; clear hb2; have s2_0 := (B.cell (p := ⟨w.heap.size, 0, none⟩) hlt0).trans cellaX_0; have s2_1 := (B.cell (p := ⟨w.heap.size, 1, none⟩) hlt0).trans cellaX_1; have s2_2 := (B.cell (p := ⟨w.heap.size, 2, none⟩) hlt0).trans cellaX_2) | (go_at_call 54; refine (toHire _ _ _ _).mono ?_; rintro e w3 ⟨rfl, hb3⟩; replace O_c1 := O_c1.below hb3 (Nat.le_refl _); replace O_c2 := O_c2.below hb3 (Nat.le_refl _); replace B := below_step B hb3; clear hb3; have s3_0 := (B.cell (p := ⟨w.heap.size, 0, none⟩) hlt0).trans cellaX_0; have s3_1 := (B.cell (p := ⟨w.heap.size, 1, none⟩) hlt0).trans cellaX_1; have s3_2 := (B.cell (p := ⟨w.heap.size, 2, none⟩) hlt0).trans cellaX_2) | (go_at_call 68; refine (add_spec _ _ _ (O_c1.sl eI_len) _ _ (O_c2.sl eHire_len) _ _ _).mono ?_; rintro e w4 ⟨v_w0, rfl, O_w0, hb4⟩; have ne_c1_w0 := own_ne O_c1 O_w0; have ne_c2_w0 := own_ne O_c2 O_w0; replace O_c1 := O_c1.below hb4 (Nat.le_refl _); replace O_c2 := O_c2.below hb4 (Nat.le_refl _); replace O_w0 := O_w0.base B.size; replace B := below_step B hb4; clear hb4; have s4_0 := (B.cell (p := ⟨w.heap.size, 0, none⟩) hlt0).trans cellaX_0; have s4_1 := (B.cell (p := ⟨w.heap.size, 1, none⟩) hlt0).trans cellaX_1; have s4_2 := (B.cell (p := ⟨w.heap.size, 2, none⟩) hlt0).trans cellaX_2))
  clear s0_0 s0_1 s0_2 s1_0 s1_1 s1_2 s2_0 s2_1 s2_2 s3_0 s3_1 s3_2 s4_0 s4_1 s4_2
  clear O_c1
  clear O_c2
  go_wp2_with fail
  refine (toInts _ _ _ (SaStock.below B) (by omega)).mono ?_
  rintro e w5 ⟨v_x0, rfl, O_x0, hb5⟩
  have ne_w0_x0 := own_ne O_w0 O_x0
  replace O_w0 := O_w0.below hb5 (Nat.le_refl _)
  replace O_x0 := O_x0.base B.size
  replace B := below_step B hb5
  clear hb5
  go_wp2_with fail
  refine (toHires _ _ _ (SaList.below B) (by omega)).mono ?_
  rintro e w6 ⟨v_x1, rfl, O_x1, hb6⟩
  have ne_w0_x1 := own_ne O_w0 O_x1
  have ne_x0_x1 := own_ne O_x0 O_x1
  replace O_w0 := O_w0.below hb6 (Nat.le_refl _)
  replace O_x0 := O_x0.below hb6 (Nat.le_refl _)
  replace O_x1 := O_x1.base B.size
  replace B := below_step B hb6
  clear hb6
  have now0 := (B.cell (p := ⟨w.heap.size, 0, none⟩) hlt0).trans cellaX_0
  have now1 := (B.cell (p := ⟨w.heap.size, 1, none⟩) hlt0).trans cellaX_1
  have now2 := (B.cell (p := ⟨w.heap.size, 2, none⟩) hlt0).trans cellaX_2
  go_wp2_with fail
  refine (toHire _ _ _ _).mono ?_
  rintro e w7 ⟨rfl, hb7⟩
  replace O_w0 := O_w0.below hb7 (Nat.le_refl _)
  replace O_x0 := O_x0.below hb7 (Nat.le_refl _)
  replace O_x1 := O_x1.below hb7 (Nat.le_refl _)
  replace B := below_step B hb7
  clear hb7
  clear now0 now1 now2
  go_wp2_with fail
  refine (add_impl _ _ _ (O_x0.sl eI_len) _ _ (O_x1.sl eHire_len) _ _ _).mono ?_
  rintro e w8 ⟨v_g0, rfl, O_g0, hb8⟩
  have ne_w0_g0 := own_ne O_w0 O_g0
  have ne_x0_g0 := own_ne O_x0 O_g0
  have ne_x1_g0 := own_ne O_x1 O_g0
  replace O_w0 := O_w0.below hb8 (Nat.le_refl _)
  replace O_x0 := O_x0.below hb8 (Nat.le_refl _)
  replace O_x1 := O_x1.below hb8 (Nat.le_refl _)
  replace O_g0 := O_g0.base B.size
  replace B := below_step B hb8
  clear hb8
  go_wp2_with fail
  refine (eqHires _ _ _ _ _ (O_g0.sl eHire_len) (O_w0.sl eHire_len)).mono ?_
  rintro e w9 ⟨rfl, hb9⟩
  replace O_w0 := O_w0.below hb9 (Nat.le_refl _)
  replace O_x0 := O_x0.below hb9 (Nat.le_refl _)
  replace O_x1 := O_x1.below hb9 (Nat.le_refl _)
  replace O_g0 := O_g0.below hb9 (Nat.le_refl _)
  replace B := below_step B hb9
  clear hb9
  go_wp2_with fail
  refine (toInts _ _ _ (SaStock.below B) (by omega)).mono ?_
  rintro e w10 ⟨v_c10, rfl, O_c10, hb10⟩
  have ne_w0_c10 := own_ne O_w0 O_c10
  have ne_x0_c10 := own_ne O_x0 O_c10
  have ne_x1_c10 := own_ne O_x1 O_c10
  have ne_g0_c10 := own_ne O_g0 O_c10
  replace O_w0 := O_w0.below hb10 (Nat.le_refl _)
  replace O_x0 := O_x0.below hb10 (Nat.le_refl _)
  replace O_x1 := O_x1.below hb10 (Nat.le_refl _)
  replace O_g0 := O_g0.below hb10 (Nat.le_refl _)
  replace O_c10 := O_c10.base B.size
  replace B := below_step B hb10
  clear hb10
  go_wp2_with fail
  refine (eqInts _ _ _ _ _ (O_x0.sl eI_len) (O_c10.sl eI_len)).mono ?_
  rintro e w11 ⟨rfl, n11, rfl⟩
  replace O_w0 := O_w0.drewN n11
  replace O_x0 := O_x0.drewN n11
  replace O_x1 := O_x1.drewN n11
  replace O_g0 := O_g0.drewN n11
  replace O_c10 := O_c10.drewN n11
  replace B := below_drewN B n11
  clear O_c10 ne_w0_c10 ne_x0_c10 ne_x1_c10 ne_g0_c10
  go_wp2_with fail
  refine (toHires _ _ _ (SaList.below B) (by omega)).mono ?_
  rintro e w12 ⟨v_c12, rfl, O_c12, hb12⟩
  have ne_w0_c12 := own_ne O_w0 O_c12
  have ne_x0_c12 := own_ne O_x0 O_c12
  have ne_x1_c12 := own_ne O_x1 O_c12
  have ne_g0_c12 := own_ne O_g0 O_c12
  replace O_w0 := O_w0.below hb12 (Nat.le_refl _)
  replace O_x0 := O_x0.below hb12 (Nat.le_refl _)
  replace O_x1 := O_x1.below hb12 (Nat.le_refl _)
  replace O_g0 := O_g0.below hb12 (Nat.le_refl _)
  replace O_c12 := O_c12.base B.size
  replace B := below_step B hb12
  clear hb12
  go_wp2_with fail
  refine (eqHires _ _ _ _ _ (O_x1.sl eHire_len) (O_c12.sl eHire_len)).mono ?_
  rintro e w13 ⟨rfl, hb13⟩
  replace O_w0 := O_w0.below hb13 (Nat.le_refl _)
  replace O_x0 := O_x0.below hb13 (Nat.le_refl _)
  replace O_x1 := O_x1.below hb13 (Nat.le_refl _)
  replace O_g0 := O_g0.below hb13 (Nat.le_refl _)
  replace O_c12 := O_c12.below hb13 (Nat.le_refl _)
  replace B := below_step B hb13
  clear hb13
  clear O_c12 ne_w0_c12 ne_x0_c12 ne_x1_c12 ne_g0_c12
  go_wp2_with fail
  refine (markInts _ _ _ _ _ O_x0 _ (by omega) (by omega)).mono ?_
  rintro e w14 ⟨rfl, P14, hg14⟩
  have B14 := B.grown hg14 B.size (fun g hg => (O_x0.lt g hg).1)
  replace O_w0 := O_w0.grown hg14 ne_w0_x0
  replace O_x1 := O_x1.grown hg14 (ne_symm ne_x0_x1)
  replace O_g0 := O_g0.grown hg14 (ne_symm ne_x0_g0)
  clear O_x0 B hg14
  have O_x0 := P14
  have B := B14
  clear P14 B14
  go_wp2_with fail
  refine (markHires _ _ _ _ _ O_x1 _ (by omega) (by omega)).mono ?_
  rintro e w15 ⟨rfl, P15, hg15⟩
  have B15 := B.grown hg15 B.size (fun g hg => (O_x1.lt g hg).1)
  replace O_w0 := O_w0.grown hg15 ne_w0_x1
  replace O_x0 := O_x0.grown hg15 ne_x0_x1
  replace O_g0 := O_g0.grown hg15 (ne_symm ne_x1_g0)
  clear O_x1 B hg15
  have O_x1 := P15
  have B := B15
  clear P15 B15
  go_wp2_with fail
  refine (eqHires _ _ _ _ _ (O_g0.sl eHire_len) (O_w0.sl eHire_len)).mono ?_
  rintro e w16 ⟨rfl, hb16⟩
  replace O_w0 := O_w0.below hb16 (Nat.le_refl _)
  replace O_x0 := O_x0.below hb16 (Nat.le_refl _)
  replace O_x1 := O_x1.below hb16 (Nat.le_refl _)
  replace O_g0 := O_g0.below hb16 (Nat.le_refl _)
  replace B := below_step B hb16
  clear hb16
  go_wp2_with fail
  refine (markHires _ _ _ _ _ O_g0 _ (by omega) (by omega)).mono ?_
  rintro e w17 ⟨rfl, P17, hg17⟩
  have B17 := B.grown hg17 B.size (fun g hg => (O_g0.lt g hg).1)
  replace O_w0 := O_w0.grown hg17 ne_w0_g0
  replace O_x0 := O_x0.grown hg17 ne_x0_g0
  replace O_x1 := O_x1.grown hg17 ne_x1_g0
  clear O_g0 B hg17
  have O_g0 := P17
  have B := B17
  clear P17 B17
  go_wp2_with fail
  refine (heldHires _ _ _ _ (O_g0.sl eHire_len) (by omega) (by omega)).mono ?_
  rintro e w' ⟨rfl, rfl⟩
  go_wp2_with fail
  have s0_0 := (B.cell (p := ⟨w.heap.size, 0, none⟩) hlt0).trans cellaX_0
  have s0_1 := (B.cell (p := ⟨w.heap.size, 1, none⟩) hlt0).trans cellaX_1
  have s0_2 := (B.cell (p := ⟨w.heap.size, 2, none⟩) hlt0).trans cellaX_2
  go_region_held3 (fun ww => ww.cell? ⟨w.heap.size, 0, none⟩ = some (.int .i64 xaX_0) ∧ ww.cell? ⟨w.heap.size, 1, none⟩ = some (.int .i64 xaX_1) ∧ ww.cell? ⟨w.heap.size, 2, none⟩ = some (.int .i64 xaX_2)) (first | exact ⟨s4_0, s4_1, s4_2⟩ | exact ⟨s3_0, s3_1, s3_2⟩ | exact ⟨s2_0, s2_1, s2_2⟩ | exact ⟨s1_0, s1_1, s1_2⟩ | exact ⟨s0_0, s0_1, s0_2⟩)
    (first | (go_at_call 34; replace B := below_drewN B 1; replace O_w0 := O_w0.drew; replace O_x0 := O_x0.drew; replace O_x1 := O_x1.drew; replace O_g0 := O_g0.drew; refine (toInts _ _ _ (SaStock.below B) (by omega)).mono ?_; rintro e w18 ⟨v_c15, rfl, O_c15, hb18⟩; have ne_w0_c15 := own_ne O_w0 O_c15; have ne_x0_c15 := own_ne O_x0 O_c15; have ne_x1_c15 := own_ne O_x1 O_c15; have ne_g0_c15 := own_ne O_g0 O_c15; replace O_w0 := O_w0.below hb18 (Nat.le_refl _); replace O_x0 := O_x0.below hb18 (Nat.le_refl _); replace O_x1 := O_x1.below hb18 (Nat.le_refl _); replace O_g0 := O_g0.below hb18 (Nat.le_refl _); replace O_c15 := O_c15.base B.size; replace B := below_step B hb18; clear hb18; have s1_0 := (B.cell (p := ⟨w.heap.size, 0, none⟩) hlt0).trans cellaX_0; have s1_1 := (B.cell (p := ⟨w.heap.size, 1, none⟩) hlt0).trans cellaX_1; have s1_2 := (B.cell (p := ⟨w.heap.size, 2, none⟩) hlt0).trans cellaX_2) | (go_at_call 35; refine (toHires _ _ _ (SaList.below B) (by omega)).mono ?_; rintro e w19 ⟨v_c16, rfl, O_c16, hb19⟩; have ne_w0_c16 := own_ne O_w0 O_c16; have ne_x0_c16 := own_ne O_x0 O_c16; have ne_x1_c16 := own_ne O_x1 O_c16; have ne_g0_c16 := own_ne O_g0 O_c16; have ne_c15_c16 := own_ne O_c15 O_c16; replace O_w0 := O_w0.below hb19 (Nat.le_refl _); replace O_x0 := O_x0.below hb19 (Nat.le_refl _); replace O_x1 := O_x1.below hb19 (Nat.le_refl _); replace O_g0 := O_g0.below hb19 (Nat.le_refl _); replace O_c15 := O_c15.below hb19 (Nat.le_refl _); replace O_c16 := O_c16.base B.size; replace B := below_step B hb19; clear hb19; have s2_0 := (B.cell (p := ⟨w.heap.size, 0, none⟩) hlt0).trans cellaX_0; have s2_1 := (B.cell (p := ⟨w.heap.size, 1, none⟩) hlt0).trans cellaX_1; have s2_2 := (B.cell (p := ⟨w.heap.size, 2, none⟩) hlt0).trans cellaX_2) | (go_at_call 54; refine (toHire _ _ _ _).mono ?_; rintro e w20 ⟨rfl, hb20⟩; replace O_w0 := O_w0.below hb20 (Nat.le_refl _); replace O_x0 := O_x0.below hb20 (Nat.le_refl _); replace O_x1 := O_x1.below hb20 (Nat.le_refl _); replace O_g0 := O_g0.below hb20 (Nat.le_refl _); replace O_c15 := O_c15.below hb20 (Nat.le_refl _); replace O_c16 := O_c16.below hb20 (Nat.le_refl _); replace B := below_step B hb20; clear hb20; have s3_0 := (B.cell (p := ⟨w.heap.size, 0, none⟩) hlt0).trans cellaX_0; have s3_1 := (B.cell (p := ⟨w.heap.size, 1, none⟩) hlt0).trans cellaX_1; have s3_2 := (B.cell (p := ⟨w.heap.size, 2, none⟩) hlt0).trans cellaX_2) | (go_at_call 69; refine (add_impl _ _ _ (O_c15.sl eI_len) _ _ (O_c16.sl eHire_len) _ _ _).mono ?_; rintro e w21 ⟨v_h0, rfl, O_h0, hb21⟩; have ne_w0_h0 := own_ne O_w0 O_h0; have ne_x0_h0 := own_ne O_x0 O_h0; have ne_x1_h0 := own_ne O_x1 O_h0; have ne_g0_h0 := own_ne O_g0 O_h0; have ne_c15_h0 := own_ne O_c15 O_h0; have ne_c16_h0 := own_ne O_c16 O_h0; replace O_w0 := O_w0.below hb21 (Nat.le_refl _); replace O_x0 := O_x0.below hb21 (Nat.le_refl _); replace O_x1 := O_x1.below hb21 (Nat.le_refl _); replace O_g0 := O_g0.below hb21 (Nat.le_refl _); replace O_c15 := O_c15.below hb21 (Nat.le_refl _); replace O_c16 := O_c16.below hb21 (Nat.le_refl _); replace O_h0 := O_h0.base B.size; replace B := below_step B hb21; clear hb21; have s4_0 := (B.cell (p := ⟨w.heap.size, 0, none⟩) hlt0).trans cellaX_0; have s4_1 := (B.cell (p := ⟨w.heap.size, 1, none⟩) hlt0).trans cellaX_1; have s4_2 := (B.cell (p := ⟨w.heap.size, 2, none⟩) hlt0).trans cellaX_2))
  clear s0_0 s0_1 s0_2 s1_0 s1_1 s1_2 s2_0 s2_1 s2_2 s3_0 s3_1 s3_2 s4_0 s4_1 s4_2
  clear O_c15
  clear O_c16
  go_wp2_with fail
  refine (eqHires _ _ _ _ _ (O_h0.sl eHire_len) (O_w0.sl eHire_len)).mono ?_
  rintro e w22 ⟨rfl, hb22⟩
  replace O_w0 := O_w0.below hb22 (Nat.le_refl _)
  replace O_x0 := O_x0.below hb22 (Nat.le_refl _)
  replace O_x1 := O_x1.below hb22 (Nat.le_refl _)
  replace O_g0 := O_g0.below hb22 (Nat.le_refl _)
  replace O_h0 := O_h0.below hb22 (Nat.le_refl _)
  replace B := below_step B hb22
  clear hb22
  go_wp2_with fail
  refine (heldHires _ _ _ _ (O_g0.sl eHire_len) (by omega) (by omega)).mono ?_
  rintro e w' ⟨rfl, rfl⟩
  go_wp2_with fail
  go_ret
  exact ⟨rfl, below_step hw0 B⟩

set_option maxRecDepth 100000 in
theorem FnExactAddHire_lifted (os : Os) (started : os.Started) (H : Type) (enc : TypeId × Value → H) :
    ReturnsInHanded {} Try.checked os 12 .any (Rows.fnExactAddHireSpec.pre6 enc Try.prog Try.f12 Rows.fnExactAddHireRow.domain false) (Rows.fnExactAddHireSpec.post enc Try.prog Try.f12 false true false false) := by
  refine returnsInHanded_of_change (C := Try.checked) own_knob started (by kernel_rfl) Try.func12
    (ChangeSpec.witness6 (enc := enc) (C := Try.checked) false ⟨#[], #[.slice none 0 0, .slice none 0 0, .agg #[.int .i64 0, .int .i64 0, .int .i64 0]], []⟩ 8 (by kernel_rfl) (by kernel_rfl) (by kernel_rfl) (by kernel_rfl)) ?_
  intro W base args ds gs before hval0 hW hcnd _
  have hval : ∀ (j : Nat) t v, Try.f12.params[j]? = some t → args[j]? = some v → Value.okWide Try.prog W .any base t v := hval0
  have hW' := hW
  obtain ⟨p, q, hA0, hV, rfl, hfz, hnd⟩ := hW
  have hA : DataW.TrodAll enc Try.prog W 0 (fun _ => true) true Try.f12.params.toList args.toList ds p := hA0
  rw [Try.params12] at hA hval
  obtain ⟨v0, vs0, d0, ds0, p0, q0, hargs, rfl, rfl, h0, r0⟩ := trodAll_cons hA
  obtain ⟨v1, vs1, d1, ds1, p1, q1, rfl, rfl, rfl, h1, r1⟩ := trodAll_cons r0
  obtain ⟨v2, vs2, d2, ds2, p2, q2, rfl, rfl, rfl, h2, r2⟩ := trodAll_cons r1
  obtain ⟨rfl, rfl, rfl⟩ := trodAll_nil r2
  obtain rfl : args = #[v0, v1, v2] := by cases args; simp_all
  obtain ⟨rfl, rfl⟩ := trodVars_none hV
  have k0 := h0
  have lt0 : ∀ x ∈ p0, x.block < W.heap.size := by obtain ⟨m, hm⟩ := k0; exact DataW.trod_lt m _ _ _ hm
  have k1 := h1
  have lt1 : ∀ x ∈ p1, x.block < W.heap.size := by obtain ⟨m, hm⟩ := k1; exact DataW.trod_lt m _ _ _ hm
  have k2 := h2
  have lt2 : ∀ x ∈ p2, x.block < W.heap.size := by obtain ⟨m, hm⟩ := k2; exact DataW.trod_lt m _ _ _ hm
  obtain ⟨l0, sl0, wf0⟩ := sl_of_i64s Try.underlying25 Try.underlying2 (by kernel_rfl) (hval 0 25 v0 rfl rfl) h0
  obtain ⟨l1, sl1, wf1⟩ := sl_of_Hires (hval 1 40 v1 rfl rfl) h1
  obtain ⟨x2, rfl, wf2⟩ := agg_of_Hire (hval 2 59 v2 rfl rfl) h2
  refine (law_FnExactAddHire W v0 l0 sl0 wf0 v1 l1 sl1 wf1 x2 wf2).mono fun e W' ⟨he, bel⟩ => ?_
  subst he
  exact ⟨_, rfl, _, _, _, [], _, [], hW', trodAll_mk1 (shut_bool Try.underlying4 _), (trodAll_cons_mk (Below.trod laid_out (by kernel_rfl) (of_decide_eq_true (by kernel_rfl)) k0 bel lt0) (trodAll_cons_mk (Below.trod laid_out (by kernel_rfl) (of_decide_eq_true (by kernel_rfl)) k1 bel lt1) (trodAll_cons_mk (Below.trod laid_out (by kernel_rfl) (of_decide_eq_true (by kernel_rfl)) k2 bel lt2) trodAll_mk0))), rfl, bel.frame _, fun h => by cases h⟩

theorem FnExactAddHire_closed : joinedFacts Try.pinned.checked.prog 12 Try.f12 Rows.fnExactAddHireSpec Rows.fnExactAddHireRow = true := by
  unfold joinedFacts; rw [seat_enter, seat_lifts, seat_make]; kernel_rfl

theorem FnExactAddHire_named : Try.pinned.checked.prog.funcNamed Rows.fnExactAddHireRow.func = some 12 := by kernel_rfl

theorem FnExactAddHire_holds : Rows.FnExactAddHireSaid :=
  OpenClaim.holds_of_wide 12 Try.f12 rfl rfl rfl rfl rfl rfl rfl ⟨rfl, rfl, rfl, rfl, rfl⟩ rfl rfl rfl rfl rfl FnExactAddHire_named Try.func12 FnExactAddHire_closed
    (of_decide_eq_true (by kernel_rfl)) (by unfold Func.isWrapper; first | (rw [if_pos (by decide +kernel)]; kernel_rfl) | (rw [if_neg (by decide +kernel)]; exact ⟨rfl, rfl⟩))
    (fun os started H enc _ => FnExactAddHire_lifted os started H enc)
#print axioms FnExactAddHire_holds

end Go.Proofs.Ytccplbfafmclmaa
