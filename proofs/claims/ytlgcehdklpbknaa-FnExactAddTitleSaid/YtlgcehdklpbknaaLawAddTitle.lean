/- FnExactAddTitle: for all arguments the program's AddTitle returns what the reference's returns, leaves its arguments as they are, and returns memory of its own. No condition. -/
import Derived.Test.YtlgcehdklpbknaaAddT
import Derived.Deep.RegionHeld3
namespace Go.Proofs.Ytlgcehdklpbknaa
open Go Go.RowKit Go.ChangeShapes Go.WideShapes
set_option linter.unusedSimpArgs false
set_option linter.unusedVariables false


set_option maxHeartbeats 2000000 in
theorem law_FnExactAddTitle (w : World) (vaList : Value) (laList : List TTitle) (SaList : Sl w 4 vaList eTitle laList) (raList : ∀ x ∈ laList, okTitle x) (xaX : TTitle) (gaX : okTitle xaX) :
    Calls Try.prog 5 #[vaList, (.agg (eTitle xaX).toArray)] w fun e w' => e = .returned (.bool true) ∧ Below w.heap.size w w' := by
  have maList := SaList.len
  obtain ⟨-, AaList, caList, rfl, -, -, -⟩ := id SaList
  obtain ⟨xaX_0, xaX_1, xaX_2, xaX_3⟩ := xaX
  have hsaX : xaX_1.size ≤ 9223372036854775807 := by have := gaX.2.1; unfold maxLen at this; exact Nat.le_trans this (by decide)
  have hw0 := (Below.refl w.heap.size w).alloc (Nat.le_refl _) (.cells (eTitle (xaX_0, xaX_1, xaX_2, xaX_3)).toArray 48)
  have hlt0 : w.heap.size < (w.alloc (.cells (eTitle (xaX_0, xaX_1, xaX_2, xaX_3)).toArray 48)).heap.size := by simp
  have cellaX_0 := new_cell w (eTitle (xaX_0, xaX_1, xaX_2, xaX_3)).toArray 48 0 _ rfl
  have cellaX_1 := new_cell w (eTitle (xaX_0, xaX_1, xaX_2, xaX_3)).toArray 48 1 _ rfl
  have cellaX_2 := new_cell w (eTitle (xaX_0, xaX_1, xaX_2, xaX_3)).toArray 48 2 _ rfl
  have cellaX_3 := new_cell w (eTitle (xaX_0, xaX_1, xaX_2, xaX_3)).toArray 48 3 _ rfl
  replace SaList := SaList.alloc (.cells (eTitle (xaX_0, xaX_1, xaX_2, xaX_3)).toArray 48)
  by_cases z_aList : (totTitle laList : Int) ≤ 1048576
  case neg =>
    go_enter Try.func5, Try.ntmps5
    go_wp2_with fail
    generalize w.alloc (.cells (eTitle (xaX_0, xaX_1, xaX_2, xaX_3)).toArray 48) = w0 at hw0 hlt0 cellaX_0 cellaX_1 cellaX_2 cellaX_3 SaList ⊢
    have B := Below.refl w0.heap.size w0
    refine (szTitles_no _ _ _ (SaList.below B) (fun x hx => (raList x hx).2.1) _ (by omega) (by omega) (by omega)).mono ?_; rintro e wz ⟨rfl, hbz⟩; replace B := below_step B hbz; clear hbz
    go_wp2_with fail
    go_ret
    exact ⟨rfl, below_step hw0 B⟩
  by_cases z_aX : (xaX_1.size : Int) ≤ (1048576 - (totTitle laList : Int))
  case neg =>
    go_enter Try.func5, Try.ntmps5
    go_wp2_with fail
    generalize w.alloc (.cells (eTitle (xaX_0, xaX_1, xaX_2, xaX_3)).toArray 48) = w0 at hw0 hlt0 cellaX_0 cellaX_1 cellaX_2 cellaX_3 SaList ⊢
    have B := Below.refl w0.heap.size w0
    refine (szTitles_yes _ _ _ (SaList.below B) (fun x hx => (raList x hx).2.1) _ (by omega) (by omega) (by omega)).mono ?_; rintro e wz ⟨rfl, hbz⟩; replace B := below_step B hbz; clear hbz
    have now0 := (B.cell (p := ⟨w.heap.size, 0, none⟩) hlt0).trans cellaX_0; have now1 := (B.cell (p := ⟨w.heap.size, 1, none⟩) hlt0).trans cellaX_1; have now2 := (B.cell (p := ⟨w.heap.size, 2, none⟩) hlt0).trans cellaX_2; have now3 := (B.cell (p := ⟨w.heap.size, 3, none⟩) hlt0).trans cellaX_3
    go_wp2_with fail
    refine (szTitle_no _ _ _ _ _ _ hsaX (by omega) (by omega) (by omega)).mono ?_; rintro e wz ⟨rfl, hbz⟩; replace B := below_step B hbz; clear hbz
    clear now0 now1 now2 now3
    go_wp2_with fail
    go_ret
    exact ⟨rfl, below_step hw0 B⟩
  have tt_aList : laList.length ≤ totTitle laList := Nat.le_add_right _ _
  have q_len := addTR_len laList (xaX_0, xaX_1, xaX_2, xaX_3)
  go_enter Try.func5, Try.ntmps5
  go_wp2_with fail
  generalize w.alloc (.cells (eTitle (xaX_0, xaX_1, xaX_2, xaX_3)).toArray 48) = w0 at hw0 hlt0 cellaX_0 cellaX_1 cellaX_2 cellaX_3 SaList ⊢
  have B := Below.refl w0.heap.size w0
  refine (szTitles_yes _ _ _ (SaList.below B) (fun x hx => (raList x hx).2.1) _ (by omega) (by omega) (by omega)).mono ?_; rintro e wz ⟨rfl, hbz⟩; replace B := below_step B hbz; clear hbz
  have now0 := (B.cell (p := ⟨w.heap.size, 0, none⟩) hlt0).trans cellaX_0; have now1 := (B.cell (p := ⟨w.heap.size, 1, none⟩) hlt0).trans cellaX_1; have now2 := (B.cell (p := ⟨w.heap.size, 2, none⟩) hlt0).trans cellaX_2; have now3 := (B.cell (p := ⟨w.heap.size, 3, none⟩) hlt0).trans cellaX_3
  go_wp2_with fail
  refine (szTitle_yes _ _ _ _ _ _ hsaX (by omega) (by omega) (by omega)).mono ?_; rintro e wz ⟨rfl, hbz⟩; replace B := below_step B hbz; clear hbz
  clear now0 now1 now2 now3
  go_wp2_with fail
  have ns_aX_0_0 := (B.cell (p := ⟨w.heap.size, 0, none⟩) hlt0).trans cellaX_0
  have ns_aX_1_0 := (B.cell (p := ⟨w.heap.size, 1, none⟩) hlt0).trans cellaX_1
  have ns_aX_2_0 := (B.cell (p := ⟨w.heap.size, 2, none⟩) hlt0).trans cellaX_2
  have ns_aX_3_0 := (B.cell (p := ⟨w.heap.size, 3, none⟩) hlt0).trans cellaX_3
  go_region_held3 (fun ww => ww.cell? ⟨w.heap.size, 0, none⟩ = some (.int .i64 xaX_0) ∧ ww.cell? ⟨w.heap.size, 1, none⟩ = some (.string xaX_1) ∧ ww.cell? ⟨w.heap.size, 2, none⟩ = some (.int .i64 xaX_2) ∧ ww.cell? ⟨w.heap.size, 3, none⟩ = some (.int .i64 xaX_3)) (first | exact ⟨ns_aX_0_3, ns_aX_1_3, ns_aX_2_3, ns_aX_3_3⟩ | exact ⟨ns_aX_0_2, ns_aX_1_2, ns_aX_2_2, ns_aX_3_2⟩ | exact ⟨ns_aX_0_1, ns_aX_1_1, ns_aX_2_1, ns_aX_3_1⟩ | exact ⟨ns_aX_0_0, ns_aX_1_0, ns_aX_2_0, ns_aX_3_0⟩)
    (first | (go_at_call 29; replace B := below_drewN B 1; refine (toTitles _ _ _ (SaList.below B) (by omega)).mono ?_; rintro e w1 ⟨v_c1, rfl, O_c1, hb1⟩; replace O_c1 := O_c1.base B.size; replace B := below_step B hb1; clear hb1; have ns_aX_0_1 := (B.cell (p := ⟨w.heap.size, 0, none⟩) hlt0).trans cellaX_0; have ns_aX_1_1 := (B.cell (p := ⟨w.heap.size, 1, none⟩) hlt0).trans cellaX_1; have ns_aX_2_1 := (B.cell (p := ⟨w.heap.size, 2, none⟩) hlt0).trans cellaX_2; have ns_aX_3_1 := (B.cell (p := ⟨w.heap.size, 3, none⟩) hlt0).trans cellaX_3) | (go_at_call 30; refine (toTitle _ _ _ _ _).mono ?_; rintro e w2 ⟨rfl, hb2⟩; replace O_c1 := O_c1.below hb2 (Nat.le_refl _); replace B := below_step B hb2; clear hb2; have ns_aX_0_2 := (B.cell (p := ⟨w.heap.size, 0, none⟩) hlt0).trans cellaX_0; have ns_aX_1_2 := (B.cell (p := ⟨w.heap.size, 1, none⟩) hlt0).trans cellaX_1; have ns_aX_2_2 := (B.cell (p := ⟨w.heap.size, 2, none⟩) hlt0).trans cellaX_2; have ns_aX_3_2 := (B.cell (p := ⟨w.heap.size, 3, none⟩) hlt0).trans cellaX_3) | (go_at_call 28; refine (addT_spec _ _ _ (O_c1.sl eTitle_len) _ _ _ _).mono ?_; rintro e w3 ⟨v_w0, rfl, O_w0, hb3⟩; have ne_c1_w0 := own_ne O_c1 O_w0; replace O_c1 := O_c1.below hb3 (Nat.le_refl _); replace O_w0 := O_w0.base B.size; replace B := below_step B hb3; clear hb3; have ns_aX_0_3 := (B.cell (p := ⟨w.heap.size, 0, none⟩) hlt0).trans cellaX_0; have ns_aX_1_3 := (B.cell (p := ⟨w.heap.size, 1, none⟩) hlt0).trans cellaX_1; have ns_aX_2_3 := (B.cell (p := ⟨w.heap.size, 2, none⟩) hlt0).trans cellaX_2; have ns_aX_3_3 := (B.cell (p := ⟨w.heap.size, 3, none⟩) hlt0).trans cellaX_3))
  clear ns_aX_0_0 ns_aX_1_0 ns_aX_2_0 ns_aX_3_0 ns_aX_0_1 ns_aX_1_1 ns_aX_2_1 ns_aX_3_1 ns_aX_0_2 ns_aX_1_2 ns_aX_2_2 ns_aX_3_2 ns_aX_0_3 ns_aX_1_3 ns_aX_2_3 ns_aX_3_3
  clear O_c1
  go_wp2_with fail
  refine (toTitles _ _ _ (SaList.below B) (by omega)).mono ?_
  rintro e w4 ⟨v_x0, rfl, O_x0, hb4⟩
  have ne_w0_x0 := own_ne O_w0 O_x0
  replace O_w0 := O_w0.below hb4 (Nat.le_refl _)
  replace O_x0 := O_x0.base B.size
  replace B := below_step B hb4
  clear hb4
  have now0 := (B.cell (p := ⟨w.heap.size, 0, none⟩) hlt0).trans cellaX_0
  have now1 := (B.cell (p := ⟨w.heap.size, 1, none⟩) hlt0).trans cellaX_1
  have now2 := (B.cell (p := ⟨w.heap.size, 2, none⟩) hlt0).trans cellaX_2
  have now3 := (B.cell (p := ⟨w.heap.size, 3, none⟩) hlt0).trans cellaX_3
  go_wp2_with fail
  refine (toTitle _ _ _ _ _).mono ?_
  rintro e w5 ⟨rfl, hb5⟩
  replace O_w0 := O_w0.below hb5 (Nat.le_refl _)
  replace O_x0 := O_x0.below hb5 (Nat.le_refl _)
  replace B := below_step B hb5
  clear hb5
  clear now0 now1 now2 now3
  go_wp2_with fail
  refine (addT_impl _ _ _ (O_x0.sl eTitle_len) _ _ _ _).mono ?_
  rintro e w6 ⟨v_g0, rfl, O_g0, hb6⟩
  have ne_w0_g0 := own_ne O_w0 O_g0
  have ne_x0_g0 := own_ne O_x0 O_g0
  replace O_w0 := O_w0.below hb6 (Nat.le_refl _)
  replace O_x0 := O_x0.below hb6 (Nat.le_refl _)
  replace O_g0 := O_g0.base B.size
  replace B := below_step B hb6
  clear hb6
  go_wp2_with fail
  refine (eqTitles _ _ _ _ _ (O_g0.sl eTitle_len) (O_w0.sl eTitle_len)).mono ?_
  rintro e w7 ⟨rfl, hb7⟩
  replace O_w0 := O_w0.below hb7 (Nat.le_refl _)
  replace O_x0 := O_x0.below hb7 (Nat.le_refl _)
  replace O_g0 := O_g0.below hb7 (Nat.le_refl _)
  replace B := below_step B hb7
  clear hb7
  go_wp2_with fail
  refine (toTitles _ _ _ (SaList.below B) (by omega)).mono ?_
  rintro e w8 ⟨v_c8, rfl, O_c8, hb8⟩
  have ne_w0_c8 := own_ne O_w0 O_c8
  have ne_x0_c8 := own_ne O_x0 O_c8
  have ne_g0_c8 := own_ne O_g0 O_c8
  replace O_w0 := O_w0.below hb8 (Nat.le_refl _)
  replace O_x0 := O_x0.below hb8 (Nat.le_refl _)
  replace O_g0 := O_g0.below hb8 (Nat.le_refl _)
  replace O_c8 := O_c8.base B.size
  replace B := below_step B hb8
  clear hb8
  go_wp2_with fail
  refine (eqTitles _ _ _ _ _ (O_x0.sl eTitle_len) (O_c8.sl eTitle_len)).mono ?_
  rintro e w9 ⟨rfl, hb9⟩
  replace O_w0 := O_w0.below hb9 (Nat.le_refl _)
  replace O_x0 := O_x0.below hb9 (Nat.le_refl _)
  replace O_g0 := O_g0.below hb9 (Nat.le_refl _)
  replace O_c8 := O_c8.below hb9 (Nat.le_refl _)
  replace B := below_step B hb9
  clear hb9
  clear O_c8 ne_w0_c8 ne_x0_c8 ne_g0_c8
  go_wp2_with fail
  refine (markTitles _ _ _ _ _ O_x0 1 (by omega)).mono ?_
  rintro e w10 ⟨rfl, P10, hg10⟩
  have B10 := B.grown hg10 B.size (fun g hg => (O_x0.lt g hg).1)
  replace O_w0 := O_w0.grown hg10 ne_w0_x0
  replace O_g0 := O_g0.grown hg10 (ne_symm ne_x0_g0)
  clear O_x0 B hg10
  have O_x0 := P10
  have B := B10
  clear P10 B10
  go_wp2_with fail
  refine (eqTitles _ _ _ _ _ (O_g0.sl eTitle_len) (O_w0.sl eTitle_len)).mono ?_
  rintro e w11 ⟨rfl, hb11⟩
  replace O_w0 := O_w0.below hb11 (Nat.le_refl _)
  replace O_x0 := O_x0.below hb11 (Nat.le_refl _)
  replace O_g0 := O_g0.below hb11 (Nat.le_refl _)
  replace B := below_step B hb11
  clear hb11
  go_wp2_with fail
  refine (markTitles _ _ _ _ _ O_g0 1 (by omega)).mono ?_
  rintro e w12 ⟨rfl, P12, hg12⟩
  have B12 := B.grown hg12 B.size (fun g hg => (O_g0.lt g hg).1)
  replace O_w0 := O_w0.grown hg12 ne_w0_g0
  replace O_x0 := O_x0.grown hg12 ne_x0_g0
  clear O_g0 B hg12
  have O_g0 := P12
  have B := B12
  clear P12 B12
  go_wp2_with fail
  refine (heldTitles _ _ 1 _ (O_g0.sl eTitle_len) (by omega)).mono ?_
  rintro e w13 ⟨rfl, hb13⟩
  replace O_w0 := O_w0.below hb13 (Nat.le_refl _)
  replace O_x0 := O_x0.below hb13 (Nat.le_refl _)
  replace O_g0 := O_g0.below hb13 (Nat.le_refl _)
  replace B := below_step B hb13
  clear hb13
  go_wp2_with fail
  have ns_aX_0_0 := (B.cell (p := ⟨w.heap.size, 0, none⟩) hlt0).trans cellaX_0
  have ns_aX_1_0 := (B.cell (p := ⟨w.heap.size, 1, none⟩) hlt0).trans cellaX_1
  have ns_aX_2_0 := (B.cell (p := ⟨w.heap.size, 2, none⟩) hlt0).trans cellaX_2
  have ns_aX_3_0 := (B.cell (p := ⟨w.heap.size, 3, none⟩) hlt0).trans cellaX_3
  go_region_held3 (fun ww => ww.cell? ⟨w.heap.size, 0, none⟩ = some (.int .i64 xaX_0) ∧ ww.cell? ⟨w.heap.size, 1, none⟩ = some (.string xaX_1) ∧ ww.cell? ⟨w.heap.size, 2, none⟩ = some (.int .i64 xaX_2) ∧ ww.cell? ⟨w.heap.size, 3, none⟩ = some (.int .i64 xaX_3)) (first | exact ⟨ns_aX_0_3, ns_aX_1_3, ns_aX_2_3, ns_aX_3_3⟩ | exact ⟨ns_aX_0_2, ns_aX_1_2, ns_aX_2_2, ns_aX_3_2⟩ | exact ⟨ns_aX_0_1, ns_aX_1_1, ns_aX_2_1, ns_aX_3_1⟩ | exact ⟨ns_aX_0_0, ns_aX_1_0, ns_aX_2_0, ns_aX_3_0⟩)
    (first | (go_at_call 29; replace B := below_drewN B 1; replace O_w0 := O_w0.drew; replace O_x0 := O_x0.drew; replace O_g0 := O_g0.drew; refine (toTitles _ _ _ (SaList.below B) (by omega)).mono ?_; rintro e w14 ⟨v_c11, rfl, O_c11, hb14⟩; have ne_w0_c11 := own_ne O_w0 O_c11; have ne_x0_c11 := own_ne O_x0 O_c11; have ne_g0_c11 := own_ne O_g0 O_c11; replace O_w0 := O_w0.below hb14 (Nat.le_refl _); replace O_x0 := O_x0.below hb14 (Nat.le_refl _); replace O_g0 := O_g0.below hb14 (Nat.le_refl _); replace O_c11 := O_c11.base B.size; replace B := below_step B hb14; clear hb14; have ns_aX_0_1 := (B.cell (p := ⟨w.heap.size, 0, none⟩) hlt0).trans cellaX_0; have ns_aX_1_1 := (B.cell (p := ⟨w.heap.size, 1, none⟩) hlt0).trans cellaX_1; have ns_aX_2_1 := (B.cell (p := ⟨w.heap.size, 2, none⟩) hlt0).trans cellaX_2; have ns_aX_3_1 := (B.cell (p := ⟨w.heap.size, 3, none⟩) hlt0).trans cellaX_3) | (go_at_call 30; refine (toTitle _ _ _ _ _).mono ?_; rintro e w15 ⟨rfl, hb15⟩; replace O_w0 := O_w0.below hb15 (Nat.le_refl _); replace O_x0 := O_x0.below hb15 (Nat.le_refl _); replace O_g0 := O_g0.below hb15 (Nat.le_refl _); replace O_c11 := O_c11.below hb15 (Nat.le_refl _); replace B := below_step B hb15; clear hb15; have ns_aX_0_2 := (B.cell (p := ⟨w.heap.size, 0, none⟩) hlt0).trans cellaX_0; have ns_aX_1_2 := (B.cell (p := ⟨w.heap.size, 1, none⟩) hlt0).trans cellaX_1; have ns_aX_2_2 := (B.cell (p := ⟨w.heap.size, 2, none⟩) hlt0).trans cellaX_2; have ns_aX_3_2 := (B.cell (p := ⟨w.heap.size, 3, none⟩) hlt0).trans cellaX_3) | (go_at_call 31; refine (addT_impl _ _ _ (O_c11.sl eTitle_len) _ _ _ _).mono ?_; rintro e w16 ⟨v_h0, rfl, O_h0, hb16⟩; have ne_w0_h0 := own_ne O_w0 O_h0; have ne_x0_h0 := own_ne O_x0 O_h0; have ne_g0_h0 := own_ne O_g0 O_h0; have ne_c11_h0 := own_ne O_c11 O_h0; replace O_w0 := O_w0.below hb16 (Nat.le_refl _); replace O_x0 := O_x0.below hb16 (Nat.le_refl _); replace O_g0 := O_g0.below hb16 (Nat.le_refl _); replace O_c11 := O_c11.below hb16 (Nat.le_refl _); replace O_h0 := O_h0.base B.size; replace B := below_step B hb16; clear hb16; have ns_aX_0_3 := (B.cell (p := ⟨w.heap.size, 0, none⟩) hlt0).trans cellaX_0; have ns_aX_1_3 := (B.cell (p := ⟨w.heap.size, 1, none⟩) hlt0).trans cellaX_1; have ns_aX_2_3 := (B.cell (p := ⟨w.heap.size, 2, none⟩) hlt0).trans cellaX_2; have ns_aX_3_3 := (B.cell (p := ⟨w.heap.size, 3, none⟩) hlt0).trans cellaX_3))
  clear ns_aX_0_0 ns_aX_1_0 ns_aX_2_0 ns_aX_3_0 ns_aX_0_1 ns_aX_1_1 ns_aX_2_1 ns_aX_3_1 ns_aX_0_2 ns_aX_1_2 ns_aX_2_2 ns_aX_3_2 ns_aX_0_3 ns_aX_1_3 ns_aX_2_3 ns_aX_3_3
  clear O_c11
  go_wp2_with fail
  refine (eqTitles _ _ _ _ _ (O_h0.sl eTitle_len) (O_w0.sl eTitle_len)).mono ?_
  rintro e w17 ⟨rfl, hb17⟩
  replace O_w0 := O_w0.below hb17 (Nat.le_refl _)
  replace O_x0 := O_x0.below hb17 (Nat.le_refl _)
  replace O_g0 := O_g0.below hb17 (Nat.le_refl _)
  replace O_h0 := O_h0.below hb17 (Nat.le_refl _)
  replace B := below_step B hb17
  clear hb17
  go_wp2_with fail
  refine (heldTitles _ _ 1 _ (O_g0.sl eTitle_len) (by omega)).mono ?_
  rintro e w18 ⟨rfl, hb18⟩
  replace O_w0 := O_w0.below hb18 (Nat.le_refl _)
  replace O_x0 := O_x0.below hb18 (Nat.le_refl _)
  replace O_g0 := O_g0.below hb18 (Nat.le_refl _)
  replace O_h0 := O_h0.below hb18 (Nat.le_refl _)
  replace B := below_step B hb18
  clear hb18
  go_wp2_with fail
  go_ret
  exact ⟨rfl, below_step hw0 B⟩

set_option maxRecDepth 100000 in
theorem FnExactAddTitle_lifted (os : Os) (started : os.Started) (H : Type) (enc : TypeId × Value → H) :
    ReturnsInHanded {} Try.checked os 5 .any (Rows.fnExactAddTitleSpec.pre6 enc Try.prog Try.f5 Rows.fnExactAddTitleRow.domain false) (Rows.fnExactAddTitleSpec.post enc Try.prog Try.f5 false true false false) := by
  refine returnsInHanded_of_change (C := Try.checked) own_knob started (by kernel_rfl) Try.func5
    (ChangeSpec.witness6 (enc := enc) (C := Try.checked) false ⟨#[], #[.slice none 0 0, .agg #[.int .i64 0, .string ByteArray.empty, .int .i64 0, .int .i64 0]], []⟩ 8 (by kernel_rfl) (by kernel_rfl) (by kernel_rfl) (by kernel_rfl)) ?_
  intro W base args ds gs before hval0 hW hcnd _
  have hval : ∀ (j : Nat) t v, Try.f5.params[j]? = some t → args[j]? = some v → Value.okWide Try.prog W .any base t v := hval0
  have hW' := hW
  obtain ⟨p, q, hA0, hV, rfl, hfz, hnd⟩ := hW
  have hA : DataW.TrodAll enc Try.prog W 0 (fun _ => true) true Try.f5.params.toList args.toList ds p := hA0
  rw [Try.params5] at hA hval
  obtain ⟨v0, vs0, d0, ds0, p0, q0, hargs, rfl, rfl, h0, r0⟩ := trodAll_cons hA
  obtain ⟨v1, vs1, d1, ds1, p1, q1, rfl, rfl, rfl, h1, r1⟩ := trodAll_cons r0
  obtain ⟨rfl, rfl, rfl⟩ := trodAll_nil r1
  obtain rfl : args = #[v0, v1] := by cases args; simp_all
  obtain ⟨rfl, rfl⟩ := trodVars_none hV
  have k0 := h0
  have lt0 : ∀ x ∈ p0, x.block < W.heap.size := by obtain ⟨m, hm⟩ := k0; exact DataW.trod_lt m _ _ _ hm
  have k1 := h1
  have lt1 : ∀ x ∈ p1, x.block < W.heap.size := by obtain ⟨m, hm⟩ := k1; exact DataW.trod_lt m _ _ _ hm
  obtain ⟨l0, sl0, wf0⟩ := sl_of_Titles (hval 0 46 v0 rfl rfl) h0
  obtain ⟨x1, rfl, wf1⟩ := agg_of_Title (hval 1 48 v1 rfl rfl) h1
  refine (law_FnExactAddTitle W v0 l0 sl0 wf0 x1 wf1).mono fun e W' ⟨he, bel⟩ => ?_
  subst he
  exact ⟨_, rfl, _, _, _, [], _, [], hW', trodAll_mk1 (shut_bool Try.underlying4 _), (trodAll_cons_mk (Below.trod laid_out (by kernel_rfl) (of_decide_eq_true (by kernel_rfl)) k0 bel lt0) (trodAll_cons_mk (Below.trod laid_out (by kernel_rfl) (of_decide_eq_true (by kernel_rfl)) k1 bel lt1) trodAll_mk0)), rfl, bel.frame _, fun h => by cases h⟩

theorem FnExactAddTitle_closed : joinedFacts Try.pinned.checked.prog 5 Try.f5 Rows.fnExactAddTitleSpec Rows.fnExactAddTitleRow = true := by
  unfold joinedFacts; rw [seat_enter, seat_lifts, seat_make]; kernel_rfl

theorem FnExactAddTitle_named : Try.pinned.checked.prog.funcNamed Rows.fnExactAddTitleRow.func = some 5 := by kernel_rfl

theorem FnExactAddTitle_holds : Rows.FnExactAddTitleSaid :=
  OpenClaim.holds_of_wide 5 Try.f5 rfl rfl rfl rfl rfl rfl rfl ⟨rfl, rfl, rfl, rfl, rfl⟩ rfl rfl rfl rfl rfl FnExactAddTitle_named Try.func5 FnExactAddTitle_closed
    (of_decide_eq_true (by kernel_rfl)) (by unfold Func.isWrapper; first | (rw [if_pos (by decide +kernel)]; kernel_rfl) | (rw [if_neg (by decide +kernel)]; exact ⟨rfl, rfl⟩))
    (fun os started H enc _ => FnExactAddTitle_lifted os started H enc)
#print axioms FnExactAddTitle_holds

end Go.Proofs.Ytlgcehdklpbknaa
