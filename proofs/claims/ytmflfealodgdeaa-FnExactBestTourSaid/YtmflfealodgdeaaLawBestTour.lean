/- FnExactBestTour: for all arguments the program's BestTour returns what the reference's returns, leaves its arguments as they are, and returns memory of its own. No condition. -/
import Derived.Test.YtmflfealodgdeaaLongS
import Derived.Deep.RegionHeld3
namespace Go.Proofs.Ytmflfealodgdeaa
open Go Go.RowKit Go.ChangeShapes Go.WideShapes
set_option linter.unusedSimpArgs false
set_option linter.unusedVariables false


set_option maxHeartbeats 2000000 in
theorem law_FnExactBestTour (w : World) (vaList : Value) (laList : List THall) (SaList : Sl w 3 vaList eHall laList) (raList : ∀ x ∈ laList, okHall x) (raR_0 raR_1 : Value) (laR : List Int) (LaR : List TRow) (SaR_0 : Sl w 1 raR_0 eI laR) (gaR_0 : ∀ x ∈ laR, inI64 x) (SaR_1 : SlR w raR_1 LaR) (gaR_1 : ∀ x ∈ LaR, ∀ n ∈ x.2, inI64 n) :
    Calls Try.prog 9 #[vaList, (.agg #[raR_0, raR_1])] w fun e w' => e = .returned (.bool true) ∧ Below w.heap.size w w' := by
  have maList := SaList.len
  obtain ⟨-, AaList, caList, rfl, -, -, -⟩ := id SaList
  obtain ⟨AaR_0, caR_0, rfl⟩ := SaR_0.slice
  obtain ⟨AaR_1, caR_1, rfl⟩ := SaR_1.1.slice
  have hw0 := (Below.refl w.heap.size w).alloc (Nat.le_refl _) (.cells #[.slice AaR_0 laR.length caR_0, .slice AaR_1 LaR.length caR_1] 26)
  have hlt0 : w.heap.size < (w.alloc (.cells #[.slice AaR_0 laR.length caR_0, .slice AaR_1 LaR.length caR_1] 26)).heap.size := by simp
  have cellaR_0 := new_cell w #[.slice AaR_0 laR.length caR_0, .slice AaR_1 LaR.length caR_1] 26 0 _ rfl
  have cellaR_1 := new_cell w #[.slice AaR_0 laR.length caR_0, .slice AaR_1 LaR.length caR_1] 26 1 _ rfl
  replace SaList := SaList.alloc (.cells #[.slice AaR_0 laR.length caR_0, .slice AaR_1 LaR.length caR_1] 26)
  replace SaR_0 := SaR_0.alloc (.cells #[.slice AaR_0 laR.length caR_0, .slice AaR_1 LaR.length caR_1] 26)
  replace SaR_1 := SaR_1.alloc (.cells #[.slice AaR_0 laR.length caR_0, .slice AaR_1 LaR.length caR_1] 26)
  by_cases z_aList : (laList.length : Int) ≤ 1048576
  case neg =>
    go_enter Try.func9, Try.ntmps9
    go_wp2_with fail
    generalize w.alloc (.cells #[.slice AaR_0 laR.length caR_0, .slice AaR_1 LaR.length caR_1] 26) = w0 at hw0 hlt0 cellaR_0 cellaR_1 SaList SaR_0 SaR_1 ⊢
    have B := Below.refl w0.heap.size w0
    refine (szHalls_no _ _ _ (SaList.below B) _ (by omega) (by omega) (by omega)).mono ?_; rintro e w' ⟨rfl, rfl⟩
    go_wp2_with fail
    go_ret
    exact ⟨rfl, below_step hw0 B⟩
  by_cases z_aR : (totRd laR LaR : Int) ≤ (1048576 - (laList.length : Int))
  case neg =>
    go_enter Try.func9, Try.ntmps9
    go_wp2_with fail
    generalize w.alloc (.cells #[.slice AaR_0 laR.length caR_0, .slice AaR_1 LaR.length caR_1] 26) = w0 at hw0 hlt0 cellaR_0 cellaR_1 SaList SaR_0 SaR_1 ⊢
    have B := Below.refl w0.heap.size w0
    refine (szHalls_yes _ _ _ (SaList.below B) _ (by omega) (by omega) (by omega)).mono ?_; rintro e w' ⟨rfl, rfl⟩
    have now0 := (B.cell (p := ⟨w.heap.size, 0, none⟩) hlt0).trans cellaR_0; have now1 := (B.cell (p := ⟨w.heap.size, 1, none⟩) hlt0).trans cellaR_1
    go_wp2_with fail
    refine (szRoads_no _ _ _ _ _ (SaR_0.below B) (SaR_1.below B) _ (by omega) (by omega) (by omega)).mono ?_; rintro e wz ⟨rfl, hbz⟩; replace B := below_step B hbz; clear hbz
    clear now0 now1
    go_wp2_with fail
    go_ret
    exact ⟨rfl, below_step hw0 B⟩
  obtain ⟨bd1, bd2, bd3, bd4⟩ := totRd_bd (l := laR) (L := LaR) (n := 1048576) (by omega)
  have q_len := bestR_len laList laR (rowsOf LaR)
  go_enter Try.func9, Try.ntmps9
  go_wp2_with fail
  generalize w.alloc (.cells #[.slice AaR_0 laR.length caR_0, .slice AaR_1 LaR.length caR_1] 26) = w0 at hw0 hlt0 cellaR_0 cellaR_1 SaList SaR_0 SaR_1 ⊢
  have B := Below.refl w0.heap.size w0
  refine (szHalls_yes _ _ _ (SaList.below B) _ (by omega) (by omega) (by omega)).mono ?_; rintro e w' ⟨rfl, rfl⟩
  have now0 := (B.cell (p := ⟨w.heap.size, 0, none⟩) hlt0).trans cellaR_0; have now1 := (B.cell (p := ⟨w.heap.size, 1, none⟩) hlt0).trans cellaR_1
  go_wp2_with fail
  refine (szRoads_yes _ _ _ _ _ (SaR_0.below B) (SaR_1.below B) _ (by omega) (by omega) (by omega)).mono ?_; rintro e wz ⟨rfl, hbz⟩; replace B := below_step B hbz; clear hbz
  clear now0 now1
  go_wp2_with fail
  have ns_aR_0_0 := (B.cell (p := ⟨w.heap.size, 0, none⟩) hlt0).trans cellaR_0
  have ns_aR_1_0 := (B.cell (p := ⟨w.heap.size, 1, none⟩) hlt0).trans cellaR_1
  go_region_held3 (fun ww => ww.cell? ⟨w.heap.size, 0, none⟩ = some (.slice AaR_0 laR.length caR_0) ∧ ww.cell? ⟨w.heap.size, 1, none⟩ = some (.slice AaR_1 LaR.length caR_1)) (first | exact ⟨ns_aR_0_3, ns_aR_1_3⟩ | exact ⟨ns_aR_0_2, ns_aR_1_2⟩ | exact ⟨ns_aR_0_1, ns_aR_1_1⟩ | exact ⟨ns_aR_0_0, ns_aR_1_0⟩)
    (first | (go_at_call 16; replace B := below_drewN B 1; refine (toHalls _ _ _ (SaList.below B) (by omega)).mono ?_; rintro e w1 ⟨v_c1, rfl, O_c1, hb1⟩; replace O_c1 := O_c1.base B.size; replace B := below_step B hb1; clear hb1; have ns_aR_0_1 := (B.cell (p := ⟨w.heap.size, 0, none⟩) hlt0).trans cellaR_0; have ns_aR_1_1 := (B.cell (p := ⟨w.heap.size, 1, none⟩) hlt0).trans cellaR_1) | (go_at_call 17; refine (toRoads _ _ _ _ _ (SaR_0.below B) (SaR_1.below B) bd1 bd2 bd4).mono ?_; rintro e w2 ⟨u1_c2, u2_c2, M_c2, rfl, hM_c2, O_c2, hb2⟩; obtain ⟨Aa_c2, ca_c2, rfl⟩ := O_c2.1.slice; obtain ⟨Ab_c2, cb_c2, rfl⟩ := O_c2.2.1.1.slice; have HM_c2 := hd hM_c2; have sm_c2 : sumLen M_c2 ≤ 1048576 := (by rw [sumLen_of hM_c2]; omega); clear hM_c2; replace O_c1 := O_c1.below hb2 (Nat.le_refl _); replace O_c2 := O_c2.base B.size; replace B := below_step B hb2; clear hb2; have ns_aR_0_2 := (B.cell (p := ⟨w.heap.size, 0, none⟩) hlt0).trans cellaR_0; have ns_aR_1_2 := (B.cell (p := ⟨w.heap.size, 1, none⟩) hlt0).trans cellaR_1) | (go_at_call 38; refine (best_spec _ _ _ (O_c1.sl eHall_len) _ _ _ _ (O_c2.1.sl eI_len) O_c2.2.1.slr _ HM_c2.out).mono ?_; rintro e w3 ⟨v_w0, rfl, O_w0, hb3⟩; replace O_c1 := O_c1.below hb3 (Nat.le_refl _); replace O_c2 := O_c2.below hb3 (Nat.le_refl _); replace O_w0 := O_w0.base B.size; replace B := below_step B hb3; clear hb3; have ns_aR_0_3 := (B.cell (p := ⟨w.heap.size, 0, none⟩) hlt0).trans cellaR_0; have ns_aR_1_3 := (B.cell (p := ⟨w.heap.size, 1, none⟩) hlt0).trans cellaR_1))
  clear ns_aR_0_0 ns_aR_1_0 ns_aR_0_1 ns_aR_1_1 ns_aR_0_2 ns_aR_1_2 ns_aR_0_3 ns_aR_1_3
  clear O_c1
  clear O_c2
  go_wp2_with fail
  refine (toHalls _ _ _ (SaList.below B) (by omega)).mono ?_
  rintro e w4 ⟨v_x0, rfl, O_x0, hb4⟩
  have ne_w0_x0 := apart_new O_w0.ltL O_x0.ltL
  replace O_w0 := O_w0.below hb4 (Nat.le_refl _)
  replace O_x0 := O_x0.base B.size
  replace B := below_step B hb4
  clear hb4
  have now0 := (B.cell (p := ⟨w.heap.size, 0, none⟩) hlt0).trans cellaR_0
  have now1 := (B.cell (p := ⟨w.heap.size, 1, none⟩) hlt0).trans cellaR_1
  go_wp2_with fail
  refine (toRoads _ _ _ _ _ (SaR_0.below B) (SaR_1.below B) bd1 bd2 bd4).mono ?_
  rintro e w5 ⟨u1_x1, u2_x1, M_x1, rfl, hM_x1, O_x1, hb5⟩
  obtain ⟨Aa_x1, ca_x1, rfl⟩ := O_x1.1.slice
  obtain ⟨Ab_x1, cb_x1, rfl⟩ := O_x1.2.1.1.slice
  have HM_x1 := hd hM_x1
  have sm_x1 : sumLen M_x1 ≤ 1048576 := (by rw [sumLen_of hM_x1]; omega)
  clear hM_x1
  have ne_w0_x1 := apart_new O_w0.ltL O_x1.lt
  have ne_x0_x1 := apart_new O_x0.ltL O_x1.lt
  replace O_w0 := O_w0.below hb5 (Nat.le_refl _)
  replace O_x0 := O_x0.below hb5 (Nat.le_refl _)
  replace O_x1 := O_x1.base B.size
  replace B := below_step B hb5
  clear hb5
  clear now0 now1
  go_wp2_with fail
  have O_bx1 := own_box w5 (.slice Aa_x1 laR.length ca_x1) (.slice Ab_x1 M_x1.length cb_x1) 32
  have ne_w0_bx1 := apart_new O_w0.ltL O_bx1.ltL
  have ne_x0_bx1 := apart_new O_x0.ltL O_bx1.ltL
  have ne_x1_bx1 := apart_new O_x1.lt O_bx1.ltL
  replace O_w0 := O_w0.alloc (.cells #[.slice Aa_x1 laR.length ca_x1, .slice Ab_x1 M_x1.length cb_x1] 32)
  replace O_x0 := O_x0.alloc (.cells #[.slice Aa_x1 laR.length ca_x1, .slice Ab_x1 M_x1.length cb_x1] 32)
  replace O_x1 := O_x1.alloc (.cells #[.slice Aa_x1 laR.length ca_x1, .slice Ab_x1 M_x1.length cb_x1] 32)
  replace O_bx1 := O_bx1.base B.size
  replace B := B.alloc B.size (.cells #[.slice Aa_x1 laR.length ca_x1, .slice Ab_x1 M_x1.length cb_x1] 32)
  generalize w5.alloc (.cells #[.slice Aa_x1 laR.length ca_x1, .slice Ab_x1 M_x1.length cb_x1] 32) = w5b at O_w0 O_x0 O_x1 O_bx1 B ⊢
  generalize w5.heap.size = G_x1 at O_bx1 ne_w0_bx1 ne_x0_bx1 ne_x1_bx1 ⊢
  refine (best_impl _ _ _ (O_x0.sl eHall_len) _ _ _ _ (O_x1.1.sl eI_len) O_x1.2.1.slr _ HM_x1.out).mono ?_
  rintro e w6 ⟨v_g0, rfl, O_g0, hb6⟩
  have ne_w0_g0 := apart_new O_w0.ltL O_g0.ltL
  have ne_x0_g0 := apart_new O_x0.ltL O_g0.ltL
  have ne_x1_g0 := apart_new O_x1.lt O_g0.ltL
  have ne_bx1_g0 := apart_new O_bx1.ltL O_g0.ltL
  replace O_w0 := O_w0.below hb6 (Nat.le_refl _)
  replace O_x0 := O_x0.below hb6 (Nat.le_refl _)
  replace O_x1 := O_x1.below hb6 (Nat.le_refl _)
  replace O_bx1 := O_bx1.below hb6 (Nat.le_refl _)
  replace O_g0 := O_g0.base B.size
  replace B := below_step B hb6
  clear hb6
  go_wp2_with fail
  refine (eqInts _ _ _ _ _ (O_g0.sl eI_len) (O_w0.sl eI_len)).mono ?_
  rintro e w7 ⟨rfl, n7, rfl⟩
  replace O_w0 := O_w0.drewN n7
  replace O_x0 := O_x0.drewN n7
  replace O_x1 := O_x1.drewN n7
  replace O_bx1 := O_bx1.drewN n7
  replace O_g0 := O_g0.drewN n7
  replace B := below_drewN B n7
  go_wp2_with fail
  refine (toHalls _ _ _ (SaList.below B) (by omega)).mono ?_
  rintro e w8 ⟨v_c8, rfl, O_c8, hb8⟩
  have ne_w0_c8 := apart_new O_w0.ltL O_c8.ltL
  have ne_x0_c8 := apart_new O_x0.ltL O_c8.ltL
  have ne_x1_c8 := apart_new O_x1.lt O_c8.ltL
  have ne_bx1_c8 := apart_new O_bx1.ltL O_c8.ltL
  have ne_g0_c8 := apart_new O_g0.ltL O_c8.ltL
  replace O_w0 := O_w0.below hb8 (Nat.le_refl _)
  replace O_x0 := O_x0.below hb8 (Nat.le_refl _)
  replace O_x1 := O_x1.below hb8 (Nat.le_refl _)
  replace O_bx1 := O_bx1.below hb8 (Nat.le_refl _)
  replace O_g0 := O_g0.below hb8 (Nat.le_refl _)
  replace O_c8 := O_c8.base B.size
  replace B := below_step B hb8
  clear hb8
  go_wp2_with fail
  refine (eqHalls _ _ _ _ _ (O_x0.sl eHall_len) (O_c8.sl eHall_len)).mono ?_
  rintro e w9 ⟨rfl, hb9⟩
  replace O_w0 := O_w0.below hb9 (Nat.le_refl _)
  replace O_x0 := O_x0.below hb9 (Nat.le_refl _)
  replace O_x1 := O_x1.below hb9 (Nat.le_refl _)
  replace O_bx1 := O_bx1.below hb9 (Nat.le_refl _)
  replace O_g0 := O_g0.below hb9 (Nat.le_refl _)
  replace O_c8 := O_c8.below hb9 (Nat.le_refl _)
  replace B := below_step B hb9
  clear hb9
  clear O_c8 ne_w0_c8 ne_x0_c8 ne_x1_c8 ne_bx1_c8 ne_g0_c8
  go_wp2_with fail
  have nb_x1_0_0 := O_bx1.box0
  have nb_x1_1_0 := O_bx1.box1
  have ns_aR_0_0 := (B.cell (p := ⟨w.heap.size, 0, none⟩) hlt0).trans cellaR_0
  have ns_aR_1_0 := (B.cell (p := ⟨w.heap.size, 1, none⟩) hlt0).trans cellaR_1
  go_region_held3 (fun ww => ww.cell? ⟨G_x1, 0, none⟩ = some (.slice Aa_x1 laR.length ca_x1) ∧ ww.cell? ⟨G_x1, 1, none⟩ = some (.slice Ab_x1 M_x1.length cb_x1) ∧ ww.cell? ⟨w.heap.size, 0, none⟩ = some (.slice AaR_0 laR.length caR_0) ∧ ww.cell? ⟨w.heap.size, 1, none⟩ = some (.slice AaR_1 LaR.length caR_1)) (first | exact ⟨nb_x1_0_2, nb_x1_1_2, ns_aR_0_2, ns_aR_1_2⟩ | exact ⟨nb_x1_0_1, nb_x1_1_1, ns_aR_0_1, ns_aR_1_1⟩ | exact ⟨nb_x1_0_0, nb_x1_1_0, ns_aR_0_0, ns_aR_1_0⟩)
    (first | (go_at_call 17; replace B := below_drewN B 1; replace O_w0 := O_w0.drew; replace O_x0 := O_x0.drew; replace O_x1 := O_x1.drew; replace O_bx1 := O_bx1.drew; replace O_g0 := O_g0.drew; refine (toRoads _ _ _ _ _ (SaR_0.below B) (SaR_1.below B) bd1 bd2 bd4).mono ?_; rintro e w10 ⟨u1_c10, u2_c10, M_c10, rfl, hM_c10, O_c10, hb10⟩; obtain ⟨Aa_c10, ca_c10, rfl⟩ := O_c10.1.slice; obtain ⟨Ab_c10, cb_c10, rfl⟩ := O_c10.2.1.1.slice; have HM_c10 := hd hM_c10; have sm_c10 : sumLen M_c10 ≤ 1048576 := (by rw [sumLen_of hM_c10]; omega); clear hM_c10; have ne_w0_c10 := apart_new O_w0.ltL O_c10.lt; have ne_x0_c10 := apart_new O_x0.ltL O_c10.lt; have ne_x1_c10 := apart_new O_x1.lt O_c10.lt; have ne_bx1_c10 := apart_new O_bx1.ltL O_c10.lt; have ne_g0_c10 := apart_new O_g0.ltL O_c10.lt; replace O_w0 := O_w0.below hb10 (Nat.le_refl _); replace O_x0 := O_x0.below hb10 (Nat.le_refl _); replace O_x1 := O_x1.below hb10 (Nat.le_refl _); replace O_bx1 := O_bx1.below hb10 (Nat.le_refl _); replace O_g0 := O_g0.below hb10 (Nat.le_refl _); replace O_c10 := O_c10.base B.size; replace B := below_step B hb10; clear hb10; have nb_x1_0_1 := O_bx1.box0; have nb_x1_1_1 := O_bx1.box1; have ns_aR_0_1 := (B.cell (p := ⟨w.heap.size, 0, none⟩) hlt0).trans cellaR_0; have ns_aR_1_1 := (B.cell (p := ⟨w.heap.size, 1, none⟩) hlt0).trans cellaR_1) | (go_at_call 20; refine (eqRoads_same _ _ _ _ _ _ _ _ (O_x1.1.sl eI_len) O_x1.2.1.slr (O_c10.1.sl eI_len) O_c10.2.1.slr (HM_x1.out.trans HM_c10.out.symm)).mono ?_; rintro e w11 ⟨rfl, hb11⟩; replace O_w0 := O_w0.below hb11 (Nat.le_refl _); replace O_x0 := O_x0.below hb11 (Nat.le_refl _); replace O_x1 := O_x1.below hb11 (Nat.le_refl _); replace O_bx1 := O_bx1.below hb11 (Nat.le_refl _); replace O_g0 := O_g0.below hb11 (Nat.le_refl _); replace O_c10 := O_c10.below hb11 (Nat.le_refl _); replace B := below_step B hb11; clear hb11; have nb_x1_0_2 := O_bx1.box0; have nb_x1_1_2 := O_bx1.box1; have ns_aR_0_2 := (B.cell (p := ⟨w.heap.size, 0, none⟩) hlt0).trans cellaR_0; have ns_aR_1_2 := (B.cell (p := ⟨w.heap.size, 1, none⟩) hlt0).trans cellaR_1))
  clear nb_x1_0_0 nb_x1_1_0 ns_aR_0_0 ns_aR_1_0 nb_x1_0_1 nb_x1_1_1 ns_aR_0_1 ns_aR_1_1 nb_x1_0_2 nb_x1_1_2 ns_aR_0_2 ns_aR_1_2
  clear O_c10
  go_wp2_with fail
  refine (markHalls _ _ _ _ _ O_x0 _ (by omega) (by omega)).mono ?_
  rintro e w12 ⟨rfl, P12, hg12⟩
  have T12 := TouchL.of_grown hg12
  clear hg12
  have B12 := B.trans (below_touched T12 B.size (fun b hb g hg => (O_x0.ltL b hb g hg).1))
  replace O_w0 := O_w0.touched T12 (ne_w0_x0 _ (List.mem_singleton.2 rfl))
  replace O_x1 := O_x1.touched T12 (fun a ha b hb => apart_symm (ne_x0_x1 b hb a (by first | exact ha | simpa only [blocksRd, blocks_marks] using ha)))
  replace O_bx1 := O_bx1.touched T12 (fun b hb => apart_symm (ne_x0_bx1 b hb _ (List.mem_singleton.2 rfl)))
  replace O_g0 := O_g0.touched T12 (fun b hb => apart_symm (ne_x0_g0 b hb _ (List.mem_singleton.2 rfl)))
  clear O_x0 B T12
  have O_x0 := P12
  have B := B12
  clear P12 B12
  have nb_x1_0 := O_bx1.box0
  have nb_x1_1 := O_bx1.box1
  go_wp2_with fail
  refine (markRoads _ _ _ _ _ _ O_x1 _ (by omega) (by omega)).mono ?_
  rintro e w13 ⟨rfl, P13, T13⟩
  have B13 := B.trans (below_touched T13 B.size (fun b hb g hg => (O_x1.lt b hb g hg).1))
  replace O_w0 := O_w0.touched T13 (ne_w0_x1 _ (List.mem_singleton.2 rfl))
  replace O_x0 := O_x0.touched T13 (ne_x0_x1 _ (List.mem_singleton.2 rfl))
  replace O_bx1 := O_bx1.touched T13 (fun b hb => apart_symm (ne_x1_bx1 b hb _ (List.mem_singleton.2 rfl)))
  replace O_g0 := O_g0.touched T13 (fun b hb => apart_symm (ne_x1_g0 b hb _ (List.mem_singleton.2 rfl)))
  clear O_x1 B T13
  have O_x1 := P13
  have B := B13
  clear P13 B13
  clear nb_x1_0 nb_x1_1
  go_wp2_with fail
  refine (eqInts _ _ _ _ _ (O_g0.sl eI_len) (O_w0.sl eI_len)).mono ?_
  rintro e w14 ⟨rfl, n14, rfl⟩
  replace O_w0 := O_w0.drewN n14
  replace O_x0 := O_x0.drewN n14
  replace O_x1 := O_x1.drewN n14
  replace O_bx1 := O_bx1.drewN n14
  replace O_g0 := O_g0.drewN n14
  replace B := below_drewN B n14
  go_wp2_with fail
  refine (markInts _ _ _ _ _ O_g0 _ (by omega) (by omega)).mono ?_
  rintro e w15 ⟨rfl, P15, hg15⟩
  have T15 := TouchL.of_grown hg15
  clear hg15
  have B15 := B.trans (below_touched T15 B.size (fun b hb g hg => (O_g0.ltL b hb g hg).1))
  replace O_w0 := O_w0.touched T15 (ne_w0_g0 _ (List.mem_singleton.2 rfl))
  replace O_x0 := O_x0.touched T15 (ne_x0_g0 _ (List.mem_singleton.2 rfl))
  replace O_x1 := O_x1.touched T15 (fun a ha b hb => ne_x1_g0 a (by first | exact ha | simpa only [blocksRd, blocks_marks] using ha) b hb)
  replace O_bx1 := O_bx1.touched T15 (ne_bx1_g0 _ (List.mem_singleton.2 rfl))
  clear O_g0 B T15
  have O_g0 := P15
  have B := B15
  clear P15 B15
  go_wp2_with fail
  refine (heldInts _ _ _ _ (O_g0.sl eI_len) (by omega) (by omega)).mono ?_
  rintro e w' ⟨rfl, rfl⟩
  go_wp2_with fail
  have ns_aR_0_0 := (B.cell (p := ⟨w.heap.size, 0, none⟩) hlt0).trans cellaR_0
  have ns_aR_1_0 := (B.cell (p := ⟨w.heap.size, 1, none⟩) hlt0).trans cellaR_1
  go_region_held3 (fun ww => ww.cell? ⟨w.heap.size, 0, none⟩ = some (.slice AaR_0 laR.length caR_0) ∧ ww.cell? ⟨w.heap.size, 1, none⟩ = some (.slice AaR_1 LaR.length caR_1)) (first | exact ⟨ns_aR_0_3, ns_aR_1_3⟩ | exact ⟨ns_aR_0_2, ns_aR_1_2⟩ | exact ⟨ns_aR_0_1, ns_aR_1_1⟩ | exact ⟨ns_aR_0_0, ns_aR_1_0⟩)
    (first | (go_at_call 16; replace B := below_drewN B 1; replace O_w0 := O_w0.drew; replace O_x0 := O_x0.drew; replace O_x1 := O_x1.drew; replace O_bx1 := O_bx1.drew; replace O_g0 := O_g0.drew; refine (toHalls _ _ _ (SaList.below B) (by omega)).mono ?_; rintro e w16 ⟨v_c13, rfl, O_c13, hb16⟩; have ne_w0_c13 := apart_new O_w0.ltL O_c13.ltL; have ne_x0_c13 := apart_new O_x0.ltL O_c13.ltL; have ne_x1_c13 := apart_new O_x1.lt O_c13.ltL; have ne_bx1_c13 := apart_new O_bx1.ltL O_c13.ltL; have ne_g0_c13 := apart_new O_g0.ltL O_c13.ltL; replace O_w0 := O_w0.below hb16 (Nat.le_refl _); replace O_x0 := O_x0.below hb16 (Nat.le_refl _); replace O_x1 := O_x1.below hb16 (Nat.le_refl _); replace O_bx1 := O_bx1.below hb16 (Nat.le_refl _); replace O_g0 := O_g0.below hb16 (Nat.le_refl _); replace O_c13 := O_c13.base B.size; replace B := below_step B hb16; clear hb16; have ns_aR_0_1 := (B.cell (p := ⟨w.heap.size, 0, none⟩) hlt0).trans cellaR_0; have ns_aR_1_1 := (B.cell (p := ⟨w.heap.size, 1, none⟩) hlt0).trans cellaR_1) | (go_at_call 17; refine (toRoads _ _ _ _ _ (SaR_0.below B) (SaR_1.below B) bd1 bd2 bd4).mono ?_; rintro e w17 ⟨u1_c14, u2_c14, M_c14, rfl, hM_c14, O_c14, hb17⟩; obtain ⟨Aa_c14, ca_c14, rfl⟩ := O_c14.1.slice; obtain ⟨Ab_c14, cb_c14, rfl⟩ := O_c14.2.1.1.slice; have HM_c14 := hd hM_c14; have sm_c14 : sumLen M_c14 ≤ 1048576 := (by rw [sumLen_of hM_c14]; omega); clear hM_c14; have ne_w0_c14 := apart_new O_w0.ltL O_c14.lt; have ne_x0_c14 := apart_new O_x0.ltL O_c14.lt; have ne_x1_c14 := apart_new O_x1.lt O_c14.lt; have ne_bx1_c14 := apart_new O_bx1.ltL O_c14.lt; have ne_g0_c14 := apart_new O_g0.ltL O_c14.lt; replace O_w0 := O_w0.below hb17 (Nat.le_refl _); replace O_x0 := O_x0.below hb17 (Nat.le_refl _); replace O_x1 := O_x1.below hb17 (Nat.le_refl _); replace O_bx1 := O_bx1.below hb17 (Nat.le_refl _); replace O_g0 := O_g0.below hb17 (Nat.le_refl _); replace O_c13 := O_c13.below hb17 (Nat.le_refl _); replace O_c14 := O_c14.base B.size; replace B := below_step B hb17; clear hb17; have ns_aR_0_2 := (B.cell (p := ⟨w.heap.size, 0, none⟩) hlt0).trans cellaR_0; have ns_aR_1_2 := (B.cell (p := ⟨w.heap.size, 1, none⟩) hlt0).trans cellaR_1) | (go_at_call 39; refine (best_impl _ _ _ (O_c13.sl eHall_len) _ _ _ _ (O_c14.1.sl eI_len) O_c14.2.1.slr _ HM_c14.out).mono ?_; rintro e w18 ⟨v_h0, rfl, O_h0, hb18⟩; have ne_w0_h0 := apart_new O_w0.ltL O_h0.ltL; have ne_x0_h0 := apart_new O_x0.ltL O_h0.ltL; have ne_x1_h0 := apart_new O_x1.lt O_h0.ltL; have ne_bx1_h0 := apart_new O_bx1.ltL O_h0.ltL; have ne_g0_h0 := apart_new O_g0.ltL O_h0.ltL; replace O_w0 := O_w0.below hb18 (Nat.le_refl _); replace O_x0 := O_x0.below hb18 (Nat.le_refl _); replace O_x1 := O_x1.below hb18 (Nat.le_refl _); replace O_bx1 := O_bx1.below hb18 (Nat.le_refl _); replace O_g0 := O_g0.below hb18 (Nat.le_refl _); replace O_c13 := O_c13.below hb18 (Nat.le_refl _); replace O_c14 := O_c14.below hb18 (Nat.le_refl _); replace O_h0 := O_h0.base B.size; replace B := below_step B hb18; clear hb18; have ns_aR_0_3 := (B.cell (p := ⟨w.heap.size, 0, none⟩) hlt0).trans cellaR_0; have ns_aR_1_3 := (B.cell (p := ⟨w.heap.size, 1, none⟩) hlt0).trans cellaR_1))
  clear ns_aR_0_0 ns_aR_1_0 ns_aR_0_1 ns_aR_1_1 ns_aR_0_2 ns_aR_1_2 ns_aR_0_3 ns_aR_1_3
  clear O_c13
  clear O_c14
  go_wp2_with fail
  refine (eqInts _ _ _ _ _ (O_h0.sl eI_len) (O_w0.sl eI_len)).mono ?_
  rintro e w19 ⟨rfl, n19, rfl⟩
  replace O_w0 := O_w0.drewN n19
  replace O_x0 := O_x0.drewN n19
  replace O_x1 := O_x1.drewN n19
  replace O_bx1 := O_bx1.drewN n19
  replace O_g0 := O_g0.drewN n19
  replace O_h0 := O_h0.drewN n19
  replace B := below_drewN B n19
  go_wp2_with fail
  refine (heldInts _ _ _ _ (O_g0.sl eI_len) (by omega) (by omega)).mono ?_
  rintro e w' ⟨rfl, rfl⟩
  go_wp2_with fail
  go_ret
  exact ⟨rfl, below_step hw0 B⟩

set_option maxRecDepth 100000 in
theorem FnExactBestTour_lifted (os : Os) (started : os.Started) (H : Type) (enc : TypeId × Value → H) :
    ReturnsInHanded {} Try.checked os 9 .any (Rows.fnExactBestTourSpec.pre6 enc Try.prog Try.f9 Rows.fnExactBestTourRow.domain false) (Rows.fnExactBestTourSpec.post enc Try.prog Try.f9 false true false false) := by
  refine returnsInHanded_of_change (C := Try.checked) own_knob started (by kernel_rfl) Try.func9
    (ChangeSpec.witness6 (enc := enc) (C := Try.checked) false ⟨#[], #[.slice none 0 0, .agg #[.slice none 0 0, .slice none 0 0]], []⟩ 8 (by kernel_rfl) (by kernel_rfl) (by kernel_rfl) (by kernel_rfl)) ?_
  intro W base args ds gs before hval0 hW hcnd _
  have hval : ∀ (j : Nat) t v, Try.f9.params[j]? = some t → args[j]? = some v → Value.okWide Try.prog W .any base t v := hval0
  have hW' := hW
  obtain ⟨p, q, hA0, hV, rfl, hfz, hnd⟩ := hW
  have hA : DataW.TrodAll enc Try.prog W 0 (fun _ => true) true Try.f9.params.toList args.toList ds p := hA0
  rw [Try.params9] at hA hval
  obtain ⟨v0, vs0, d0, ds0, p0, q0, hargs, rfl, rfl, h0, r0⟩ := trodAll_cons hA
  obtain ⟨v1, vs1, d1, ds1, p1, q1, rfl, rfl, rfl, h1, r1⟩ := trodAll_cons r0
  obtain ⟨rfl, rfl, rfl⟩ := trodAll_nil r1
  obtain rfl : args = #[v0, v1] := by cases args; simp_all
  obtain ⟨rfl, rfl⟩ := trodVars_none hV
  have k0 := h0
  have lt0 : ∀ x ∈ p0, x.block < W.heap.size := by obtain ⟨m, hm⟩ := k0; exact DataW.trod_lt m _ _ _ hm
  have k1 := h1
  have lt1 : ∀ x ∈ p1, x.block < W.heap.size := by obtain ⟨m, hm⟩ := k1; exact DataW.trod_lt m _ _ _ hm
  obtain ⟨l0, sl0, wf0⟩ := sl_of_Halls (hval 0 22 v0 rfl rfl) h0
  obtain ⟨va1, vb1, l1, L1, rfl, ⟨sl1, wf1⟩, sr1, wr1⟩ := agg_of_Roads (hval 1 26 v1 rfl rfl) h1
  refine (law_FnExactBestTour W v0 l0 sl0 wf0 va1 vb1 l1 L1 sl1 wf1 sr1 wr1).mono fun e W' ⟨he, bel⟩ => ?_
  subst he
  exact ⟨_, rfl, _, _, _, [], _, [], hW', trodAll_mk1 (shut_bool Try.underlying4 _), (trodAll_cons_mk (Below.trod laid_out (by kernel_rfl) (of_decide_eq_true (by kernel_rfl)) k0 bel lt0) (trodAll_cons_mk (Below.trod laid_out (by kernel_rfl) (of_decide_eq_true (by kernel_rfl)) k1 bel lt1) trodAll_mk0)), rfl, bel.frame _, fun h => by cases h⟩

theorem FnExactBestTour_closed : joinedFacts Try.pinned.checked.prog 9 Try.f9 Rows.fnExactBestTourSpec Rows.fnExactBestTourRow = true := by
  unfold joinedFacts; rw [seat_enter, seat_lifts, seat_make]; kernel_rfl

theorem FnExactBestTour_named : Try.pinned.checked.prog.funcNamed Rows.fnExactBestTourRow.func = some 9 := by kernel_rfl

theorem FnExactBestTour_holds : Rows.FnExactBestTourSaid :=
  OpenClaim.holds_of_wide 9 Try.f9 rfl rfl rfl rfl rfl rfl rfl ⟨rfl, rfl, rfl, rfl, rfl⟩ rfl rfl rfl rfl rfl FnExactBestTour_named Try.func9 FnExactBestTour_closed
    (of_decide_eq_true (by kernel_rfl)) (by unfold Func.isWrapper; first | (rw [if_pos (by decide +kernel)]; kernel_rfl) | (rw [if_neg (by decide +kernel)]; exact ⟨rfl, rfl⟩))
    (fun os started H enc _ => FnExactBestTour_lifted os started H enc)
#print axioms FnExactBestTour_holds

end Go.Proofs.Ytmflfealodgdeaa
