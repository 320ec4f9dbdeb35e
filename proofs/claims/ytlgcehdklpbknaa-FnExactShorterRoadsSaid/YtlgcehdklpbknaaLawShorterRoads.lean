/- FnExactShorterRoads: for all arguments the program's ShorterRoads returns what the reference's returns, leaves its arguments as they are, and returns memory of its own. No condition. -/
import Derived.Test.YtlgcehdklpbknaaShortS
import Derived.Deep.RegionHeld3
namespace Go.Proofs.Ytlgcehdklpbknaa
open Go Go.RowKit Go.ChangeShapes Go.WideShapes
set_option linter.unusedSimpArgs false
set_option linter.unusedVariables false


set_option maxHeartbeats 2000000 in
theorem law_FnExactShorterRoads (w : World) (raR_0 raR_1 : Value) (laR : List Int) (LaR : List TRow) (SaR_0 : Sl w 1 raR_0 eI laR) (gaR_0 : ∀ x ∈ laR, inI64 x) (SaR_1 : SlR w raR_1 LaR) (gaR_1 : ∀ x ∈ LaR, ∀ n ∈ x.2, inI64 n) :
    Calls Try.prog 4 #[(.agg #[raR_0, raR_1])] w fun e w' => e = .returned (.bool true) ∧ Below w.heap.size w w' := by
  obtain ⟨AaR_0, caR_0, rfl⟩ := SaR_0.slice
  obtain ⟨AaR_1, caR_1, rfl⟩ := SaR_1.1.slice
  have hw0 := (Below.refl w.heap.size w).alloc (Nat.le_refl _) (.cells #[.slice AaR_0 laR.length caR_0, .slice AaR_1 LaR.length caR_1] 40)
  have hlt0 : w.heap.size < (w.alloc (.cells #[.slice AaR_0 laR.length caR_0, .slice AaR_1 LaR.length caR_1] 40)).heap.size := by simp
  have cellaR_0 := new_cell w #[.slice AaR_0 laR.length caR_0, .slice AaR_1 LaR.length caR_1] 40 0 _ rfl
  have cellaR_1 := new_cell w #[.slice AaR_0 laR.length caR_0, .slice AaR_1 LaR.length caR_1] 40 1 _ rfl
  replace SaR_0 := SaR_0.alloc (.cells #[.slice AaR_0 laR.length caR_0, .slice AaR_1 LaR.length caR_1] 40)
  replace SaR_1 := SaR_1.alloc (.cells #[.slice AaR_0 laR.length caR_0, .slice AaR_1 LaR.length caR_1] 40)
  by_cases z_aR : (totRd laR LaR : Int) ≤ 1048576
  case neg =>
    go_enter Try.func4, Try.ntmps4
    go_wp2_with fail
    generalize w.alloc (.cells #[.slice AaR_0 laR.length caR_0, .slice AaR_1 LaR.length caR_1] 40) = w0 at hw0 hlt0 cellaR_0 cellaR_1 SaR_0 SaR_1 ⊢
    have B := Below.refl w0.heap.size w0
    refine (szRoads_no _ _ _ _ _ (SaR_0.below B) (SaR_1.below B) _ (by omega) (by omega) (by omega)).mono ?_; rintro e wz ⟨rfl, hbz⟩; replace B := below_step B hbz; clear hbz
    go_wp2_with fail
    go_ret
    exact ⟨rfl, below_step hw0 B⟩
  obtain ⟨bd1, bd2, bd3, bd4⟩ := totRd_bd (l := laR) (L := LaR) (n := 1048576) (by omega)
  have q_len := short_len laR (rowsOf LaR)
  go_enter Try.func4, Try.ntmps4
  go_wp2_with fail
  generalize w.alloc (.cells #[.slice AaR_0 laR.length caR_0, .slice AaR_1 LaR.length caR_1] 40) = w0 at hw0 hlt0 cellaR_0 cellaR_1 SaR_0 SaR_1 ⊢
  have B := Below.refl w0.heap.size w0
  refine (szRoads_yes _ _ _ _ _ (SaR_0.below B) (SaR_1.below B) _ (by omega) (by omega) (by omega)).mono ?_; rintro e wz ⟨rfl, hbz⟩; replace B := below_step B hbz; clear hbz
  have now0 := (B.cell (p := ⟨w.heap.size, 0, none⟩) hlt0).trans cellaR_0
  have now1 := (B.cell (p := ⟨w.heap.size, 1, none⟩) hlt0).trans cellaR_1
  go_wp2_with fail
  refine (toRoads _ _ _ _ _ (SaR_0.below B) (SaR_1.below B) bd1 bd2 bd4).mono ?_
  rintro e w1 ⟨u1_c1, u2_c1, M_c1, rfl, hM_c1, O_c1, hb1⟩
  obtain ⟨Aa_c1, ca_c1, rfl⟩ := O_c1.1.slice
  obtain ⟨Ab_c1, cb_c1, rfl⟩ := O_c1.2.1.1.slice
  have HM_c1 := hd hM_c1
  have sm_c1 : sumLen M_c1 ≤ 1048576 := (by rw [sumLen_of hM_c1]; omega)
  clear hM_c1
  replace O_c1 := O_c1.base B.size
  replace B := below_step B hb1
  clear hb1
  clear now0 now1
  go_wp2_with fail
  refine (short_spec _ _ _ _ _ (O_c1.1.sl eI_len) O_c1.2.1.slr _ HM_c1.out (by omega)).mono ?_
  rintro e w2 ⟨u1_w0, u2_w0, M_w0, rfl, hM_w0, O_w0, hb2⟩
  obtain ⟨Aa_w0, ca_w0, rfl⟩ := O_w0.1.slice
  obtain ⟨Ab_w0, cb_w0, rfl⟩ := O_w0.2.1.1.slice
  have HM_w0 := hd hM_w0
  have sm_w0 : sumLen M_w0 ≤ 1048576 := (short_sum hM_w0)
  clear hM_w0
  replace O_c1 := O_c1.below hb2 (Nat.le_refl _)
  replace O_w0 := O_w0.base B.size
  replace B := below_step B hb2
  clear hb2
  clear O_c1
  have now0 := (B.cell (p := ⟨w.heap.size, 0, none⟩) hlt0).trans cellaR_0
  have now1 := (B.cell (p := ⟨w.heap.size, 1, none⟩) hlt0).trans cellaR_1
  have hltn := Nat.lt_of_lt_of_le hlt0 B.size
  go_wp2_with fail
  have O_bw0 := own_box w2 (.slice Aa_w0 (shortR laR (rowsOf LaR)).1.1.length ca_w0) (.slice Ab_w0 M_w0.length cb_w0) 28
  have ne_w0_bw0 := apart_new O_w0.lt O_bw0.ltL
  replace O_w0 := O_w0.alloc (.cells #[.slice Aa_w0 (shortR laR (rowsOf LaR)).1.1.length ca_w0, .slice Ab_w0 M_w0.length cb_w0] 28)
  replace O_bw0 := O_bw0.base B.size
  replace B := B.alloc B.size (.cells #[.slice Aa_w0 (shortR laR (rowsOf LaR)).1.1.length ca_w0, .slice Ab_w0 M_w0.length cb_w0] 28)
  generalize w2.alloc (.cells #[.slice Aa_w0 (shortR laR (rowsOf LaR)).1.1.length ca_w0, .slice Ab_w0 M_w0.length cb_w0] 28) = w2b at O_w0 O_bw0 B ⊢
  generalize w2.heap.size = G_w0 at O_bw0 ne_w0_bw0 ⊢
  clear now0 now1 hltn
  have now0 := (B.cell (p := ⟨w.heap.size, 0, none⟩) hlt0).trans cellaR_0
  have now1 := (B.cell (p := ⟨w.heap.size, 1, none⟩) hlt0).trans cellaR_1
  go_wp2_with fail
  refine (toRoads _ _ _ _ _ (SaR_0.below B) (SaR_1.below B) bd1 bd2 bd4).mono ?_
  rintro e w3 ⟨u1_x0, u2_x0, M_x0, rfl, hM_x0, O_x0, hb3⟩
  obtain ⟨Aa_x0, ca_x0, rfl⟩ := O_x0.1.slice
  obtain ⟨Ab_x0, cb_x0, rfl⟩ := O_x0.2.1.1.slice
  have HM_x0 := hd hM_x0
  have sm_x0 : sumLen M_x0 ≤ 1048576 := (by rw [sumLen_of hM_x0]; omega)
  clear hM_x0
  have ne_w0_x0 := apart_new O_w0.lt O_x0.lt
  have ne_bw0_x0 := apart_new O_bw0.ltL O_x0.lt
  replace O_w0 := O_w0.below hb3 (Nat.le_refl _)
  replace O_bw0 := O_bw0.below hb3 (Nat.le_refl _)
  replace O_x0 := O_x0.base B.size
  replace B := below_step B hb3
  clear hb3
  clear now0 now1
  go_wp2_with fail
  have O_bx0 := own_box w3 (.slice Aa_x0 laR.length ca_x0) (.slice Ab_x0 M_x0.length cb_x0) 28
  have ne_w0_bx0 := apart_new O_w0.lt O_bx0.ltL
  have ne_bw0_bx0 := apart_new O_bw0.ltL O_bx0.ltL
  have ne_x0_bx0 := apart_new O_x0.lt O_bx0.ltL
  replace O_w0 := O_w0.alloc (.cells #[.slice Aa_x0 laR.length ca_x0, .slice Ab_x0 M_x0.length cb_x0] 28)
  replace O_bw0 := O_bw0.alloc (.cells #[.slice Aa_x0 laR.length ca_x0, .slice Ab_x0 M_x0.length cb_x0] 28)
  replace O_x0 := O_x0.alloc (.cells #[.slice Aa_x0 laR.length ca_x0, .slice Ab_x0 M_x0.length cb_x0] 28)
  replace O_bx0 := O_bx0.base B.size
  replace B := B.alloc B.size (.cells #[.slice Aa_x0 laR.length ca_x0, .slice Ab_x0 M_x0.length cb_x0] 28)
  generalize w3.alloc (.cells #[.slice Aa_x0 laR.length ca_x0, .slice Ab_x0 M_x0.length cb_x0] 28) = w3b at O_w0 O_bw0 O_x0 O_bx0 B ⊢
  generalize w3.heap.size = G_x0 at O_bx0 ne_w0_bx0 ne_bw0_bx0 ne_x0_bx0 ⊢
  refine (short_impl _ _ _ _ _ (O_x0.1.sl eI_len) O_x0.2.1.slr _ HM_x0.out (by omega)).mono ?_
  rintro e w4 ⟨u1_g0, u2_g0, M_g0, rfl, hM_g0, O_g0, hb4⟩
  obtain ⟨Aa_g0, ca_g0, rfl⟩ := O_g0.1.slice
  obtain ⟨Ab_g0, cb_g0, rfl⟩ := O_g0.2.1.1.slice
  have HM_g0 := hd hM_g0
  have sm_g0 : sumLen M_g0 ≤ 1048576 := (short_sum hM_g0)
  clear hM_g0
  have ne_w0_g0 := apart_new O_w0.lt O_g0.lt
  have ne_bw0_g0 := apart_new O_bw0.ltL O_g0.lt
  have ne_x0_g0 := apart_new O_x0.lt O_g0.lt
  have ne_bx0_g0 := apart_new O_bx0.ltL O_g0.lt
  replace O_w0 := O_w0.below hb4 (Nat.le_refl _)
  replace O_bw0 := O_bw0.below hb4 (Nat.le_refl _)
  replace O_x0 := O_x0.below hb4 (Nat.le_refl _)
  replace O_bx0 := O_bx0.below hb4 (Nat.le_refl _)
  replace O_g0 := O_g0.base B.size
  replace B := below_step B hb4
  clear hb4
  have nb_w0_0 := O_bw0.box0
  have nb_w0_1 := O_bw0.box1
  have hlt_w0 := (O_bw0.lt _ rfl).2
  go_wp2_with fail
  have O_bg0 := own_box w4 (.slice Aa_g0 (shortR laR (rowsOf LaR)).1.1.length ca_g0) (.slice Ab_g0 M_g0.length cb_g0) 28
  have ne_w0_bg0 := apart_new O_w0.lt O_bg0.ltL
  have ne_bw0_bg0 := apart_new O_bw0.ltL O_bg0.ltL
  have ne_x0_bg0 := apart_new O_x0.lt O_bg0.ltL
  have ne_bx0_bg0 := apart_new O_bx0.ltL O_bg0.ltL
  have ne_g0_bg0 := apart_new O_g0.lt O_bg0.ltL
  replace O_w0 := O_w0.alloc (.cells #[.slice Aa_g0 (shortR laR (rowsOf LaR)).1.1.length ca_g0, .slice Ab_g0 M_g0.length cb_g0] 28)
  replace O_bw0 := O_bw0.alloc (.cells #[.slice Aa_g0 (shortR laR (rowsOf LaR)).1.1.length ca_g0, .slice Ab_g0 M_g0.length cb_g0] 28)
  replace O_x0 := O_x0.alloc (.cells #[.slice Aa_g0 (shortR laR (rowsOf LaR)).1.1.length ca_g0, .slice Ab_g0 M_g0.length cb_g0] 28)
  replace O_bx0 := O_bx0.alloc (.cells #[.slice Aa_g0 (shortR laR (rowsOf LaR)).1.1.length ca_g0, .slice Ab_g0 M_g0.length cb_g0] 28)
  replace O_g0 := O_g0.alloc (.cells #[.slice Aa_g0 (shortR laR (rowsOf LaR)).1.1.length ca_g0, .slice Ab_g0 M_g0.length cb_g0] 28)
  replace O_bg0 := O_bg0.base B.size
  replace B := B.alloc B.size (.cells #[.slice Aa_g0 (shortR laR (rowsOf LaR)).1.1.length ca_g0, .slice Ab_g0 M_g0.length cb_g0] 28)
  generalize w4.alloc (.cells #[.slice Aa_g0 (shortR laR (rowsOf LaR)).1.1.length ca_g0, .slice Ab_g0 M_g0.length cb_g0] 28) = w4b at O_w0 O_bw0 O_x0 O_bx0 O_g0 O_bg0 B ⊢
  generalize w4.heap.size = G_g0 at O_bg0 ne_w0_bg0 ne_bw0_bg0 ne_x0_bg0 ne_bx0_bg0 ne_g0_bg0 ⊢
  clear nb_w0_0 nb_w0_1
  clear hlt_w0
  have nb_g0_0 := O_bg0.box0
  have nb_g0_1 := O_bg0.box1
  have nb_w0_0 := O_bw0.box0
  have nb_w0_1 := O_bw0.box1
  go_wp2_with fail
  refine (eqRoads_same _ _ _ _ _ _ _ _ (O_g0.1.sl eI_len) O_g0.2.1.slr (O_w0.1.sl eI_len) O_w0.2.1.slr (HM_g0.out.trans HM_w0.out.symm)).mono ?_
  rintro e w5 ⟨rfl, hb5⟩
  replace O_w0 := O_w0.below hb5 (Nat.le_refl _)
  replace O_bw0 := O_bw0.below hb5 (Nat.le_refl _)
  replace O_x0 := O_x0.below hb5 (Nat.le_refl _)
  replace O_bx0 := O_bx0.below hb5 (Nat.le_refl _)
  replace O_g0 := O_g0.below hb5 (Nat.le_refl _)
  replace O_bg0 := O_bg0.below hb5 (Nat.le_refl _)
  replace B := below_step B hb5
  clear hb5
  go_wp2_with fail
  have nb_x0_0_0 := O_bx0.box0
  have nb_x0_1_0 := O_bx0.box1
  have ns_aR_0_0 := (B.cell (p := ⟨w.heap.size, 0, none⟩) hlt0).trans cellaR_0
  have ns_aR_1_0 := (B.cell (p := ⟨w.heap.size, 1, none⟩) hlt0).trans cellaR_1
  go_region_held3 (fun ww => ww.cell? ⟨G_x0, 0, none⟩ = some (.slice Aa_x0 laR.length ca_x0) ∧ ww.cell? ⟨G_x0, 1, none⟩ = some (.slice Ab_x0 M_x0.length cb_x0) ∧ ww.cell? ⟨w.heap.size, 0, none⟩ = some (.slice AaR_0 laR.length caR_0) ∧ ww.cell? ⟨w.heap.size, 1, none⟩ = some (.slice AaR_1 LaR.length caR_1)) (first | exact ⟨nb_x0_0_2, nb_x0_1_2, ns_aR_0_2, ns_aR_1_2⟩ | exact ⟨nb_x0_0_1, nb_x0_1_1, ns_aR_0_1, ns_aR_1_1⟩ | exact ⟨nb_x0_0_0, nb_x0_1_0, ns_aR_0_0, ns_aR_1_0⟩)
    (first | (go_at_call 22; replace B := below_drewN B 1; replace O_w0 := O_w0.drew; replace O_bw0 := O_bw0.drew; replace O_x0 := O_x0.drew; replace O_bx0 := O_bx0.drew; replace O_g0 := O_g0.drew; replace O_bg0 := O_bg0.drew; refine (toRoads _ _ _ _ _ (SaR_0.below B) (SaR_1.below B) bd1 bd2 bd4).mono ?_; rintro e w6 ⟨u1_c6, u2_c6, M_c6, rfl, hM_c6, O_c6, hb6⟩; obtain ⟨Aa_c6, ca_c6, rfl⟩ := O_c6.1.slice; obtain ⟨Ab_c6, cb_c6, rfl⟩ := O_c6.2.1.1.slice; have HM_c6 := hd hM_c6; have sm_c6 : sumLen M_c6 ≤ 1048576 := (by rw [sumLen_of hM_c6]; omega); clear hM_c6; have ne_w0_c6 := apart_new O_w0.lt O_c6.lt; have ne_bw0_c6 := apart_new O_bw0.ltL O_c6.lt; have ne_x0_c6 := apart_new O_x0.lt O_c6.lt; have ne_bx0_c6 := apart_new O_bx0.ltL O_c6.lt; have ne_g0_c6 := apart_new O_g0.lt O_c6.lt; have ne_bg0_c6 := apart_new O_bg0.ltL O_c6.lt; replace O_w0 := O_w0.below hb6 (Nat.le_refl _); replace O_bw0 := O_bw0.below hb6 (Nat.le_refl _); replace O_x0 := O_x0.below hb6 (Nat.le_refl _); replace O_bx0 := O_bx0.below hb6 (Nat.le_refl _); replace O_g0 := O_g0.below hb6 (Nat.le_refl _); replace O_bg0 := O_bg0.below hb6 (Nat.le_refl _); replace O_c6 := O_c6.base B.size; replace B := below_step B hb6; clear hb6; have nb_x0_0_1 := O_bx0.box0; have nb_x0_1_1 := O_bx0.box1; have ns_aR_0_1 := (B.cell (p := ⟨w.heap.size, 0, none⟩) hlt0).trans cellaR_0; have ns_aR_1_1 := (B.cell (p := ⟨w.heap.size, 1, none⟩) hlt0).trans cellaR_1) | (go_at_call 23; refine (eqRoads_same _ _ _ _ _ _ _ _ (O_x0.1.sl eI_len) O_x0.2.1.slr (O_c6.1.sl eI_len) O_c6.2.1.slr (HM_x0.out.trans HM_c6.out.symm)).mono ?_; rintro e w7 ⟨rfl, hb7⟩; replace O_w0 := O_w0.below hb7 (Nat.le_refl _); replace O_bw0 := O_bw0.below hb7 (Nat.le_refl _); replace O_x0 := O_x0.below hb7 (Nat.le_refl _); replace O_bx0 := O_bx0.below hb7 (Nat.le_refl _); replace O_g0 := O_g0.below hb7 (Nat.le_refl _); replace O_bg0 := O_bg0.below hb7 (Nat.le_refl _); replace O_c6 := O_c6.below hb7 (Nat.le_refl _); replace B := below_step B hb7; clear hb7; have nb_x0_0_2 := O_bx0.box0; have nb_x0_1_2 := O_bx0.box1; have ns_aR_0_2 := (B.cell (p := ⟨w.heap.size, 0, none⟩) hlt0).trans cellaR_0; have ns_aR_1_2 := (B.cell (p := ⟨w.heap.size, 1, none⟩) hlt0).trans cellaR_1))
  clear nb_x0_0_0 nb_x0_1_0 ns_aR_0_0 ns_aR_1_0 nb_x0_0_1 nb_x0_1_1 ns_aR_0_1 ns_aR_1_1 nb_x0_0_2 nb_x0_1_2 ns_aR_0_2 ns_aR_1_2
  clear O_c6
  have nb_x0_0 := O_bx0.box0
  have nb_x0_1 := O_bx0.box1
  go_wp2_with fail
  refine (markRoads _ _ _ _ _ _ O_x0 _ (by omega) (by omega)).mono ?_
  rintro e w8 ⟨rfl, P8, T8⟩
  have B8 := B.trans (below_touched T8 B.size (fun b hb g hg => (O_x0.lt b hb g hg).1))
  replace O_w0 := O_w0.touched T8 (fun a ha b hb => ne_w0_x0 a (by first | exact ha | simpa only [blocksRd, blocks_marks] using ha) b hb)
  replace O_bw0 := O_bw0.touched T8 (ne_bw0_x0 _ (List.mem_singleton.2 rfl))
  replace O_bx0 := O_bx0.touched T8 (fun b hb => apart_symm (ne_x0_bx0 b hb _ (List.mem_singleton.2 rfl)))
  replace O_g0 := O_g0.touched T8 (fun a ha b hb => apart_symm (ne_x0_g0 b hb a (by first | exact ha | simpa only [blocksRd, blocks_marks] using ha)))
  replace O_bg0 := O_bg0.touched T8 (fun b hb => apart_symm (ne_x0_bg0 b hb _ (List.mem_singleton.2 rfl)))
  clear O_x0 B T8
  have O_x0 := P8
  have B := B8
  clear P8 B8
  clear nb_x0_0 nb_x0_1
  have nb_g0_0 := O_bg0.box0
  have nb_g0_1 := O_bg0.box1
  have nb_w0_0 := O_bw0.box0
  have nb_w0_1 := O_bw0.box1
  go_wp2_with fail
  refine (eqRoads_same _ _ _ _ _ _ _ _ (O_g0.1.sl eI_len) O_g0.2.1.slr (O_w0.1.sl eI_len) O_w0.2.1.slr (HM_g0.out.trans HM_w0.out.symm)).mono ?_
  rintro e w9 ⟨rfl, hb9⟩
  replace O_w0 := O_w0.below hb9 (Nat.le_refl _)
  replace O_bw0 := O_bw0.below hb9 (Nat.le_refl _)
  replace O_x0 := O_x0.below hb9 (Nat.le_refl _)
  replace O_bx0 := O_bx0.below hb9 (Nat.le_refl _)
  replace O_g0 := O_g0.below hb9 (Nat.le_refl _)
  replace O_bg0 := O_bg0.below hb9 (Nat.le_refl _)
  replace B := below_step B hb9
  clear hb9
  have nb_g0_0 := O_bg0.box0
  have nb_g0_1 := O_bg0.box1
  go_wp2_with fail
  refine (markRoads _ _ _ _ _ _ O_g0 _ (by omega) (by omega)).mono ?_
  rintro e w10 ⟨rfl, P10, T10⟩
  have B10 := B.trans (below_touched T10 B.size (fun b hb g hg => (O_g0.lt b hb g hg).1))
  replace O_w0 := O_w0.touched T10 (fun a ha b hb => ne_w0_g0 a (by first | exact ha | simpa only [blocksRd, blocks_marks] using ha) b hb)
  replace O_bw0 := O_bw0.touched T10 (ne_bw0_g0 _ (List.mem_singleton.2 rfl))
  replace O_x0 := O_x0.touched T10 (fun a ha b hb => ne_x0_g0 a (by first | exact ha | simpa only [blocksRd, blocks_marks] using ha) b hb)
  replace O_bx0 := O_bx0.touched T10 (ne_bx0_g0 _ (List.mem_singleton.2 rfl))
  replace O_bg0 := O_bg0.touched T10 (fun b hb => apart_symm (ne_g0_bg0 b hb _ (List.mem_singleton.2 rfl)))
  clear O_g0 B T10
  have O_g0 := P10
  have B := B10
  clear P10 B10
  clear nb_g0_0 nb_g0_1
  have nb_g0_0 := O_bg0.box0
  have nb_g0_1 := O_bg0.box1
  go_wp2_with fail
  refine (heldRoads _ _ _ 1 _ _ (O_g0.1.sl eI_len) O_g0.2.1.slr (by omega) (by omega)).mono ?_
  rintro e w11 ⟨rfl, hb11⟩
  replace O_w0 := O_w0.below hb11 (Nat.le_refl _)
  replace O_bw0 := O_bw0.below hb11 (Nat.le_refl _)
  replace O_x0 := O_x0.below hb11 (Nat.le_refl _)
  replace O_bx0 := O_bx0.below hb11 (Nat.le_refl _)
  replace O_g0 := O_g0.below hb11 (Nat.le_refl _)
  replace O_bg0 := O_bg0.below hb11 (Nat.le_refl _)
  replace B := below_step B hb11
  clear hb11
  clear nb_g0_0 nb_g0_1
  have now0 := (B.cell (p := ⟨w.heap.size, 0, none⟩) hlt0).trans cellaR_0
  have now1 := (B.cell (p := ⟨w.heap.size, 1, none⟩) hlt0).trans cellaR_1
  go_wp2_with fail
  refine (toRoads _ _ _ _ _ (SaR_0.below B) (SaR_1.below B) bd1 bd2 bd4).mono ?_
  rintro e w12 ⟨u1_c9, u2_c9, M_c9, rfl, hM_c9, O_c9, hb12⟩
  obtain ⟨Aa_c9, ca_c9, rfl⟩ := O_c9.1.slice
  obtain ⟨Ab_c9, cb_c9, rfl⟩ := O_c9.2.1.1.slice
  have HM_c9 := hd hM_c9
  have sm_c9 : sumLen M_c9 ≤ 1048576 := (by rw [sumLen_of hM_c9]; omega)
  clear hM_c9
  have ne_w0_c9 := apart_new O_w0.lt O_c9.lt
  have ne_bw0_c9 := apart_new O_bw0.ltL O_c9.lt
  have ne_x0_c9 := apart_new O_x0.lt O_c9.lt
  have ne_bx0_c9 := apart_new O_bx0.ltL O_c9.lt
  have ne_g0_c9 := apart_new O_g0.lt O_c9.lt
  have ne_bg0_c9 := apart_new O_bg0.ltL O_c9.lt
  replace O_w0 := O_w0.below hb12 (Nat.le_refl _)
  replace O_bw0 := O_bw0.below hb12 (Nat.le_refl _)
  replace O_x0 := O_x0.below hb12 (Nat.le_refl _)
  replace O_bx0 := O_bx0.below hb12 (Nat.le_refl _)
  replace O_g0 := O_g0.below hb12 (Nat.le_refl _)
  replace O_bg0 := O_bg0.below hb12 (Nat.le_refl _)
  replace O_c9 := O_c9.base B.size
  replace B := below_step B hb12
  clear hb12
  clear now0 now1
  go_wp2_with fail
  refine (short_impl _ _ _ _ _ (O_c9.1.sl eI_len) O_c9.2.1.slr _ HM_c9.out (by omega)).mono ?_
  rintro e w13 ⟨u1_h0, u2_h0, M_h0, rfl, hM_h0, O_h0, hb13⟩
  obtain ⟨Aa_h0, ca_h0, rfl⟩ := O_h0.1.slice
  obtain ⟨Ab_h0, cb_h0, rfl⟩ := O_h0.2.1.1.slice
  have HM_h0 := hd hM_h0
  have sm_h0 : sumLen M_h0 ≤ 1048576 := (short_sum hM_h0)
  clear hM_h0
  have ne_w0_h0 := apart_new O_w0.lt O_h0.lt
  have ne_bw0_h0 := apart_new O_bw0.ltL O_h0.lt
  have ne_x0_h0 := apart_new O_x0.lt O_h0.lt
  have ne_bx0_h0 := apart_new O_bx0.ltL O_h0.lt
  have ne_g0_h0 := apart_new O_g0.lt O_h0.lt
  have ne_bg0_h0 := apart_new O_bg0.ltL O_h0.lt
  replace O_w0 := O_w0.below hb13 (Nat.le_refl _)
  replace O_bw0 := O_bw0.below hb13 (Nat.le_refl _)
  replace O_x0 := O_x0.below hb13 (Nat.le_refl _)
  replace O_bx0 := O_bx0.below hb13 (Nat.le_refl _)
  replace O_g0 := O_g0.below hb13 (Nat.le_refl _)
  replace O_bg0 := O_bg0.below hb13 (Nat.le_refl _)
  replace O_c9 := O_c9.below hb13 (Nat.le_refl _)
  replace O_h0 := O_h0.base B.size
  replace B := below_step B hb13
  clear hb13
  clear O_c9 ne_w0_c9 ne_bw0_c9 ne_x0_c9 ne_bx0_c9 ne_g0_c9 ne_bg0_c9
  have nb_w0_0 := O_bw0.box0
  have nb_w0_1 := O_bw0.box1
  have hlt_w0 := (O_bw0.lt _ rfl).2
  go_wp2_with fail
  have O_bh0 := own_box w13 (.slice Aa_h0 (shortR laR (rowsOf LaR)).1.1.length ca_h0) (.slice Ab_h0 M_h0.length cb_h0) 28
  have ne_w0_bh0 := apart_new O_w0.lt O_bh0.ltL
  have ne_bw0_bh0 := apart_new O_bw0.ltL O_bh0.ltL
  have ne_x0_bh0 := apart_new O_x0.lt O_bh0.ltL
  have ne_bx0_bh0 := apart_new O_bx0.ltL O_bh0.ltL
  have ne_g0_bh0 := apart_new O_g0.lt O_bh0.ltL
  have ne_bg0_bh0 := apart_new O_bg0.ltL O_bh0.ltL
  have ne_h0_bh0 := apart_new O_h0.lt O_bh0.ltL
  replace O_w0 := O_w0.alloc (.cells #[.slice Aa_h0 (shortR laR (rowsOf LaR)).1.1.length ca_h0, .slice Ab_h0 M_h0.length cb_h0] 28)
  replace O_bw0 := O_bw0.alloc (.cells #[.slice Aa_h0 (shortR laR (rowsOf LaR)).1.1.length ca_h0, .slice Ab_h0 M_h0.length cb_h0] 28)
  replace O_x0 := O_x0.alloc (.cells #[.slice Aa_h0 (shortR laR (rowsOf LaR)).1.1.length ca_h0, .slice Ab_h0 M_h0.length cb_h0] 28)
  replace O_bx0 := O_bx0.alloc (.cells #[.slice Aa_h0 (shortR laR (rowsOf LaR)).1.1.length ca_h0, .slice Ab_h0 M_h0.length cb_h0] 28)
  replace O_g0 := O_g0.alloc (.cells #[.slice Aa_h0 (shortR laR (rowsOf LaR)).1.1.length ca_h0, .slice Ab_h0 M_h0.length cb_h0] 28)
  replace O_bg0 := O_bg0.alloc (.cells #[.slice Aa_h0 (shortR laR (rowsOf LaR)).1.1.length ca_h0, .slice Ab_h0 M_h0.length cb_h0] 28)
  replace O_h0 := O_h0.alloc (.cells #[.slice Aa_h0 (shortR laR (rowsOf LaR)).1.1.length ca_h0, .slice Ab_h0 M_h0.length cb_h0] 28)
  replace O_bh0 := O_bh0.base B.size
  replace B := B.alloc B.size (.cells #[.slice Aa_h0 (shortR laR (rowsOf LaR)).1.1.length ca_h0, .slice Ab_h0 M_h0.length cb_h0] 28)
  generalize w13.alloc (.cells #[.slice Aa_h0 (shortR laR (rowsOf LaR)).1.1.length ca_h0, .slice Ab_h0 M_h0.length cb_h0] 28) = w13b at O_w0 O_bw0 O_x0 O_bx0 O_g0 O_bg0 O_h0 O_bh0 B ⊢
  generalize w13.heap.size = G_h0 at O_bh0 ne_w0_bh0 ne_bw0_bh0 ne_x0_bh0 ne_bx0_bh0 ne_g0_bh0 ne_bg0_bh0 ne_h0_bh0 ⊢
  clear nb_w0_0 nb_w0_1
  clear hlt_w0
  have nb_h0_0 := O_bh0.box0
  have nb_h0_1 := O_bh0.box1
  have nb_w0_0 := O_bw0.box0
  have nb_w0_1 := O_bw0.box1
  go_wp2_with fail
  refine (eqRoads_same _ _ _ _ _ _ _ _ (O_h0.1.sl eI_len) O_h0.2.1.slr (O_w0.1.sl eI_len) O_w0.2.1.slr (HM_h0.out.trans HM_w0.out.symm)).mono ?_
  rintro e w14 ⟨rfl, hb14⟩
  replace O_w0 := O_w0.below hb14 (Nat.le_refl _)
  replace O_bw0 := O_bw0.below hb14 (Nat.le_refl _)
  replace O_x0 := O_x0.below hb14 (Nat.le_refl _)
  replace O_bx0 := O_bx0.below hb14 (Nat.le_refl _)
  replace O_g0 := O_g0.below hb14 (Nat.le_refl _)
  replace O_bg0 := O_bg0.below hb14 (Nat.le_refl _)
  replace O_h0 := O_h0.below hb14 (Nat.le_refl _)
  replace O_bh0 := O_bh0.below hb14 (Nat.le_refl _)
  replace B := below_step B hb14
  clear hb14
  have nb_g0_0 := O_bg0.box0
  have nb_g0_1 := O_bg0.box1
  go_wp2_with fail
  refine (heldRoads _ _ _ 1 _ _ (O_g0.1.sl eI_len) O_g0.2.1.slr (by omega) (by omega)).mono ?_
  rintro e w15 ⟨rfl, hb15⟩
  replace O_w0 := O_w0.below hb15 (Nat.le_refl _)
  replace O_bw0 := O_bw0.below hb15 (Nat.le_refl _)
  replace O_x0 := O_x0.below hb15 (Nat.le_refl _)
  replace O_bx0 := O_bx0.below hb15 (Nat.le_refl _)
  replace O_g0 := O_g0.below hb15 (Nat.le_refl _)
  replace O_bg0 := O_bg0.below hb15 (Nat.le_refl _)
  replace O_h0 := O_h0.below hb15 (Nat.le_refl _)
  replace O_bh0 := O_bh0.below hb15 (Nat.le_refl _)
  replace B := below_step B hb15
  clear hb15
  clear nb_g0_0 nb_g0_1
  go_wp2_with fail
  go_ret
  exact ⟨rfl, below_step hw0 B⟩

set_option maxRecDepth 100000 in
theorem FnExactShorterRoads_lifted (os : Os) (started : os.Started) (H : Type) (enc : TypeId × Value → H) :
    ReturnsInHanded {} Try.checked os 4 .any (Rows.fnExactShorterRoadsSpec.pre6 enc Try.prog Try.f4 Rows.fnExactShorterRoadsRow.domain false) (Rows.fnExactShorterRoadsSpec.post enc Try.prog Try.f4 false true false false) := by
  refine returnsInHanded_of_change (C := Try.checked) own_knob started (by kernel_rfl) Try.func4
    (ChangeSpec.witness6 (enc := enc) (C := Try.checked) false ⟨#[], #[.agg #[.slice none 0 0, .slice none 0 0]], []⟩ 8 (by kernel_rfl) (by kernel_rfl) (by kernel_rfl) (by kernel_rfl)) ?_
  intro W base args ds gs before hval0 hW hcnd _
  have hval : ∀ (j : Nat) t v, Try.f4.params[j]? = some t → args[j]? = some v → Value.okWide Try.prog W .any base t v := hval0
  have hW' := hW
  obtain ⟨p, q, hA0, hV, rfl, hfz, hnd⟩ := hW
  have hA : DataW.TrodAll enc Try.prog W 0 (fun _ => true) true Try.f4.params.toList args.toList ds p := hA0
  rw [Try.params4] at hA hval
  obtain ⟨v0, vs0, d0, ds0, p0, q0, hargs, rfl, rfl, h0, r0⟩ := trodAll_cons hA
  obtain ⟨rfl, rfl, rfl⟩ := trodAll_nil r0
  obtain rfl : args = #[v0] := by cases args; simp_all
  obtain ⟨rfl, rfl⟩ := trodVars_none hV
  have k0 := h0
  have lt0 : ∀ x ∈ p0, x.block < W.heap.size := by obtain ⟨m, hm⟩ := k0; exact DataW.trod_lt m _ _ _ hm
  obtain ⟨va0, vb0, l0, L0, rfl, ⟨sl0, wf0⟩, sr0, wr0⟩ := agg_of_Roads (hval 0 40 v0 rfl rfl) h0
  refine (law_FnExactShorterRoads W va0 vb0 l0 L0 sl0 wf0 sr0 wr0).mono fun e W' ⟨he, bel⟩ => ?_
  subst he
  exact ⟨_, rfl, _, _, _, [], _, [], hW', trodAll_mk1 (shut_bool Try.underlying4 _), (trodAll_cons_mk (Below.trod laid_out (by kernel_rfl) (of_decide_eq_true (by kernel_rfl)) k0 bel lt0) trodAll_mk0), rfl, bel.frame _, fun h => by cases h⟩

theorem FnExactShorterRoads_closed : joinedFacts Try.pinned.checked.prog 4 Try.f4 Rows.fnExactShorterRoadsSpec Rows.fnExactShorterRoadsRow = true := by
  unfold joinedFacts; rw [seat_enter, seat_lifts, seat_make]; kernel_rfl

theorem FnExactShorterRoads_named : Try.pinned.checked.prog.funcNamed Rows.fnExactShorterRoadsRow.func = some 4 := by kernel_rfl

theorem FnExactShorterRoads_holds : Rows.FnExactShorterRoadsSaid :=
  OpenClaim.holds_of_wide 4 Try.f4 rfl rfl rfl rfl rfl rfl rfl ⟨rfl, rfl, rfl, rfl, rfl⟩ rfl rfl rfl rfl rfl FnExactShorterRoads_named Try.func4 FnExactShorterRoads_closed
    (of_decide_eq_true (by kernel_rfl)) (by unfold Func.isWrapper; first | (rw [if_pos (by decide +kernel)]; kernel_rfl) | (rw [if_neg (by decide +kernel)]; exact ⟨rfl, rfl⟩))
    (fun os started H enc _ => FnExactShorterRoads_lifted os started H enc)
#print axioms FnExactShorterRoads_holds

end Go.Proofs.Ytlgcehdklpbknaa
