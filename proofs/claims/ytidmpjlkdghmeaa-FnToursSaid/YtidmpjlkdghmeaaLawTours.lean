/- FnTours: shows of a possible tour are within their days and far enough apart, and no drawn possible tour pays more than the best one. No condition. -/
import Derived.Test.YtidmpjlkdghmeaaTourA
import Derived.Test.YtidmpjlkdghmeaaLongS
import Derived.Test.YtidmpjlkdghmeaaTourD
import Derived.Test.YtidmpjlkdghmeaaTourT
import Derived.Test.YtidmpjlkdghmeaaA2
namespace Go.Proofs.Ytidmpjlkdghmeaa
open Go Go.RowKit Go.ChangeShapes Go.WideShapes Go.ChangeAt
set_option linter.unusedSimpArgs false
set_option linter.unusedVariables false
theorem tiR_two (l : List THall) (H : List Int) (R : List (List Int)) (T : List Int) : (tiR l H R T).2 = tcode l H R T := by
  unfold tiR
  split
  · next h => exact h.symm
  · rfl
set_option maxRecDepth 100000 in
set_option maxHeartbeats 16000000 in
theorem law_FnTours (w : World) (v : Value) (l0 : List Int) (h0 : Sl w 1 v eB l0) (hr : ∀ x ∈ l0, 0 ≤ x ∧ x ≤ 255) (u : Value) (m0 : List Int) (g0 : Sl w 1 u eB m0) (gr : ∀ x ∈ m0, 0 ≤ x ∧ x ≤ 255) :
    Calls Try.prog 3 #[v, u] w fun e w' => e = .returned (.bool true) ∧ Below w.heap.size w w' := by
  have hS := h0.bytes hr
  have hM := g0.bytes gr
  generalize toU l0 = l at hS
  generalize toU m0 = m at hM
  clear h0 hr g0 gr
  have B := Below.refl w.heap.size w
  by_cases hl : l.length ≤ 3000 ∧ m.length ≤ 3000
  case neg =>
    go_enter Try.func3, Try.ntmps3
    go_wp2_with fail
    refine (a2long_yes _ _ _ _ _ hS hM hl).mono ?_
    rintro e w1 ⟨rfl, rfl⟩
    go_wp2_with fail
    go_ret
    exact ⟨rfl, Below.refl _ _⟩
  obtain ⟨hl, hm⟩ := hl
  have hl1 : l.length ≤ 1048576 := by omega
  have hm1 : m.length ≤ 1048576 := by omega
  go_enter Try.func3, Try.ntmps3
  go_wp2_with fail
  refine (a2long_no _ _ _ _ _ hS hM hl hm).mono ?_
  rintro e w1 ⟨rfl, hw⟩
  obtain rfl : w = w1 := hw.symm
  go_wp2_with fail
  refine (draw_a2halls _ _ _ (hS.below B) hl1).mono ?_
  rintro e w2 ⟨lv, hv, dv, L, H, M, rfl, O1, O2, O3, hL6, hok, B2⟩
  replace B := below_step B B2
  clear B2
  have S1 := O1.sl eHall_len
  have S2 := O2.sl eI_len
  have S3 := O3.slr
  obtain ⟨A1, c1, rfl⟩ := S1.isSlice
  obtain ⟨A2, c2, rfl⟩ := S2.isSlice
  obtain ⟨A3, c3, rfl⟩ := S3.1.isSlice
  clear O1 O2 O3
  have R := rec_new w2 w2.heap.size 28 [.slice A2 H.length c2, .slice A3 M.length c3] (Nat.le_refl _)
  replace S1 := S1.alloc (.cells #[.slice A2 H.length c2, .slice A3 M.length c3] 28)
  replace S2 := S2.alloc (.cells #[.slice A2 H.length c2, .slice A3 M.length c3] 28)
  replace S3 := S3.alloc (.cells #[.slice A2 H.length c2, .slice A3 M.length c3] 28)
  replace B := B.alloc B.size (.cells #[.slice A2 H.length c2, .slice A3 M.length c3] 28)
  go_upto_region 4 with fail
  generalize w2.alloc (.cells #[.slice A2 H.length c2, .slice A3 M.length c3] 28) = W at R S1 S2 S3 B ⊢
  generalize w2.heap.size = g at R ⊢
  obtain ⟨bt1, bt2, bt3⟩ := best_is (l := L) (H := H) (R := rowsOf M)
  have HTC := hd (tcode0 hok bt1 bt2)
  have HB := hd (show bestR L H (rowsOf M) = ((bestT L H (rowsOf M)).1, (bestT L H (rowsOf M)).2, 0) by unfold bestR; rw [if_pos hok])
  have HLG := hd (show longR L H (rowsOf M) = (longT L H (rowsOf M), 0) by unfold longR; rw [if_pos hok])
  have HTI := hd (show tiR L H (rowsOf M) (bestT L H (rowsOf M)).1 = ((bestT L H (rowsOf M)).2, 0) by unfold tiR; rw [if_pos HTC.out]; exact congrArg (·, (0 : Int)) bt3)
  have HTD := hd (show tdR L H (rowsOf M) (bestT L H (rowsOf M)).1 = (showsT L H (rowsOf M) startT (bestT L H (rowsOf M)).1, 0) by unfold tdR showsR; rw [HTC.out, if_pos rfl])
  have HLM := hd (long_most (R := rowsOf M) bt1 bt2)
  have HLB := hd (long_bd L H (rowsOf M))
  have HBM := hd (fun T (h1 : tourOk L.length T = true) h2 => best_most (l := L) (H := H) (R := rowsOf M) (T := T) h1 h2)
  have HLM2 := hd (fun T (h1 : tourOk L.length T = true) h2 => long_most (l := L) (H := H) (R := rowsOf M) (T := T) h1 h2)
  have HT6 := hd (show (bestT L H (rowsOf M)).1.length ≤ 6 by have := HLM.out; have := HLB.out; omega)
  have HDL := hd (show (showsT L H (rowsOf M) startT (bestT L H (rowsOf M)).1).length = (bestT L H (rowsOf M)).1.length from showsT_len _ _ _ _ _)
  have BT1 := hd bt1
  have BT2 := hd bt2
  have HOK := hd (hallsOk_of hok)
  clear bt1 bt2 bt3 HTC hok
  have r0 := R.cell 0 _ rfl
  have r1 := R.cell 1 _ rfl
  go_wp2_with fail
  clear r0 r1
  refine (best_impl _ _ _ S1 _ _ _ _ S2 S3 _ rfl).mono ?_
  rintro e w3 ⟨v4, rfl, O4, B3⟩
  replace S1 := S1.below B3
  replace S2 := S2.below B3
  replace S3 := S3.below B3
  replace R := R.below B3
  replace B := below_step B B3
  clear B3
  rw [HB.out] at O4 ⊢
  clear HB
  generalize hT1 : (bestT L H (rowsOf M)).1 = T1 at O4 HTI HTD HLM HT6 HDL BT1 BT2 ⊢
  clear hT1
  generalize hbm : (bestT L H (rowsOf M)).2 = most at HTI HBM ⊢
  clear hbm
  have S4 := O4.sl eI_len
  clear O4
  obtain ⟨A4, c4, rfl⟩ := S4.isSlice
  have hT6 := HT6.out
  have r0 := R.cell 0 _ rfl
  have r1 := R.cell 1 _ rfl
  go_wp2_with fail
  clear r0 r1
  refine (ti_impl _ _ _ S1 _ _ _ _ S2 S3 _ _ S4 _ rfl (by omega)).mono ?_
  rintro e w4 ⟨rfl, B4⟩
  replace S1 := S1.below B4
  replace S2 := S2.below B4
  replace S3 := S3.below B4
  replace S4 := S4.below B4
  replace R := R.below B4
  replace B := below_step B B4
  clear B4
  rw [HTI.out]
  clear HTI
  have r0 := R.cell 0 _ rfl
  have r1 := R.cell 1 _ rfl
  go_wp2_with fail
  clear r0 r1
  refine (td_impl _ _ _ S1 _ _ _ _ S2 S3 _ _ S4 _ rfl (by omega)).mono ?_
  rintro e w5 ⟨v5, rfl, O5, B5⟩
  replace S1 := S1.below B5
  replace S2 := S2.below B5
  replace S3 := S3.below B5
  replace S4 := S4.below B5
  replace R := R.below B5
  replace B := below_step B B5
  clear B5
  rw [HTD.out] at O5 ⊢
  clear HTD
  have HD := hd (rfl : showsT L H (rowsOf M) startT T1 = showsT L H (rowsOf M) startT T1)
  generalize hD : showsT L H (rowsOf M) startT T1 = D at O5 HDL ⊢
  replace HD := hd hD
  clear hD
  have S5 := O5.sl eI_len
  clear O5
  obtain ⟨A5, c5, rfl⟩ := S5.isSlice
  have e1 : ((D.length : Int) != (T1.length : Int)) = false := by rw [HDL.out]; simp
  have r0 := R.cell 0 _ rfl
  have r1 := R.cell 1 _ rfl
  go_wp2_with fail
  clear r0 r1
  refine (a2tour_yes _ _ _ S1 _ _ _ _ S2 S3 _ _ S4 _ _ S5 HOK.out BT1.out BT2.out HD.out.symm).mono ?_
  rintro e w6 ⟨rfl, B6⟩
  replace S1 := S1.below B6
  replace S2 := S2.below B6
  replace S3 := S3.below B6
  replace S4 := S4.below B6
  replace S5 := S5.below B6
  replace R := R.below B6
  replace B := below_step B B6
  clear B6
  clear e1 S5 HD HDL
  have r0 := R.cell 0 _ rfl
  have r1 := R.cell 1 _ rfl
  go_wp2_with fail
  clear r0 r1
  refine (long_impl _ _ _ S1 _ _ _ _ S2 S3 _ rfl).mono ?_
  rintro e w7 ⟨rfl, B7⟩
  replace S1 := S1.below B7
  replace S2 := S2.below B7
  replace S3 := S3.below B7
  replace S4 := S4.below B7
  replace R := R.below B7
  replace B := below_step B B7
  clear B7
  rw [HLG.out]
  clear HLG
  have hl1 := HLM.out
  obtain ⟨hl2, hl3⟩ := HLB.out
  generalize longT L H (rowsOf M) = long at hl1 hl2 hl3 HLM2 ⊢
  clear HLM HLB
  go_wp2_with fail
  refine (draw_a2tour _ _ _ (hM.below B) hm1 L.length hL6).mono ?_
  rintro e w8 ⟨v6, T2, rfl, O6, hT2l, hT2, B8⟩
  replace S1 := S1.below B8
  replace S2 := S2.below B8
  replace S3 := S3.below B8
  replace S4 := S4.below B8
  replace R := R.below B8
  replace B := below_step B B8
  clear B8
  have S6 := O6.sl eI_len
  clear O6
  obtain ⟨A6, c6, rfl⟩ := S6.isSlice
  have HT2 := hd hT2
  clear hT2
  have r0 := R.cell 0 _ rfl
  have r1 := R.cell 1 _ rfl
  go_wp2_with fail
  clear r0 r1
  refine (ti_impl _ _ _ S1 _ _ _ _ S2 S3 _ _ S6 _ rfl (by omega)).mono ?_
  rintro e w9 ⟨rfl, B9⟩
  replace S1 := S1.below B9
  replace S2 := S2.below B9
  replace S3 := S3.below B9
  replace S4 := S4.below B9
  replace S6 := S6.below B9
  replace R := R.below B9
  replace B := below_step B B9
  clear B9
  rw [tiR_two]
  have r0 := R.cell 0 _ rfl
  have r1 := R.cell 1 _ rfl
  go_wp2_with fail
  clear r0 r1
  refine (td_spec _ _ _ S1 _ _ _ _ S2 S3 _ rfl _ _ S6 (by omega)).mono ?_
  rintro e w10 ⟨v7, rfl, O7, B10⟩
  replace S1 := S1.below B10
  replace S2 := S2.below B10
  replace S3 := S3.below B10
  replace S4 := S4.below B10
  replace S6 := S6.below B10
  replace R := R.below B10
  replace B := below_step B B10
  clear B10
  obtain ⟨A7, c7, rfl⟩ := O7.slice
  clear O7
  rw [show (tdR L H (rowsOf M) T2).2 = tcode L H (rowsOf M) T2 from rfl]
  have f1 : decide (long < (T1.length : Int)) = false := by simp; omega
  have f2 : decide ((L.length : Int) < long) = false := by simp; omega
  by_cases hc : tcode L H (rowsOf M) T2 = 0
  case neg =>
    have f3 : (tcode L H (rowsOf M) T2 != 0) = true := by simpa using hc
    clear HBM HLM2
    generalize (tiR L H (rowsOf M) T2).1 = inc
    generalize tcode L H (rowsOf M) T2 = code at f3 ⊢
    clear hc
    go_wp2_with fail
    go_ret
    exact ⟨rfl, B⟩
  obtain ⟨-, -, hlate⟩ := tcode_zero hc
  have f4 : (tiR L H (rowsOf M) T2).1 ≤ most := by
    unfold tiR
    rw [if_pos hc]
    exact HBM.out T2 HT2.out hlate
  have f5 := HLM2.out T2 HT2.out hlate
  rw [hc]
  clear HBM HLM2 hc hlate
  generalize (tiR L H (rowsOf M) T2).1 = inc at f4 ⊢
  have f6 : decide (inc ≤ most) = true := by simpa using f4
  have f7 : decide ((T2.length : Int) ≤ long) = true := by simpa using f5
  go_wp2_with fail
  go_ret
  refine ⟨?_, B⟩
  show Ending.returned _ = _
  simp only [Array.getD]
  rfl

set_option maxRecDepth 100000 in
theorem FnTours_lifted (os : Os) (started : os.Started) (H : Type) (enc : TypeId × Value → H) :
    ReturnsInHanded {} Try.checked os 3 .any (Rows.fnToursSpec.pre6 enc Try.prog Try.f3 Rows.fnToursRow.domain false) (Rows.fnToursSpec.post enc Try.prog Try.f3 false true false false) := by
  refine returnsInHanded_of_change (C := Try.checked) own_knob started (by kernel_rfl) Try.func3
    (ChangeSpec.witness6 (enc := enc) (C := Try.checked) false ⟨#[], #[.slice none 0 0, .slice none 0 0], []⟩ 8 (by kernel_rfl) (by kernel_rfl) (by kernel_rfl) (by kernel_rfl)) ?_
  intro W base args ds gs before hval0 hW hcnd _
  have hval : ∀ (j : Nat) t v, Try.f3.params[j]? = some t → args[j]? = some v → Value.okWide Try.prog W .any base t v := hval0
  have hW' := hW
  obtain ⟨p, q, hA0, hV, rfl, hfz, hnd⟩ := hW
  have hA : DataW.TrodAll enc Try.prog W 0 (fun _ => true) true Try.f3.params.toList args.toList ds p := hA0
  rw [Try.params3] at hA hval
  obtain ⟨v0, vs0, d0, ds0, p0, q0, hargs, rfl, rfl, h0, r0⟩ := trodAll_cons hA
  obtain ⟨v1, vs1, d1, ds1, p1, q1, rfl, rfl, rfl, h1, r1⟩ := trodAll_cons r0
  obtain ⟨rfl, rfl, rfl⟩ := trodAll_nil r1
  obtain rfl : args = #[v0, v1] := by cases args; simp_all
  obtain ⟨rfl, rfl⟩ := trodVars_none hV
  have k0 := h0
  have lt0 : ∀ x ∈ p0, x.block < W.heap.size := by obtain ⟨m, hm⟩ := k0; exact DataW.trod_lt m _ _ _ hm
  have k1 := h1
  have lt1 : ∀ x ∈ p1, x.block < W.heap.size := by obtain ⟨m, hm⟩ := k1; exact DataW.trod_lt m _ _ _ hm
  obtain ⟨l0, sl0, wf0⟩ := sl_of_bytes Try.underlying22 Try.underlying5 (by kernel_rfl) (hval 0 22 v0 rfl rfl) h0
  obtain ⟨l1, sl1, wf1⟩ := sl_of_bytes Try.underlying22 Try.underlying5 (by kernel_rfl) (hval 1 22 v1 rfl rfl) h1
  refine (law_FnTours W v0 l0 sl0 wf0 v1 l1 sl1 wf1).mono fun e W' ⟨he, bel⟩ => ?_
  subst he
  exact ⟨_, rfl, _, _, _, [], _, [], hW', trodAll_mk1 (shut_bool Try.underlying4 _), (trodAll_cons_mk (Below.trod laid_out (by kernel_rfl) (of_decide_eq_true (by kernel_rfl)) k0 bel lt0) (trodAll_cons_mk (Below.trod laid_out (by kernel_rfl) (of_decide_eq_true (by kernel_rfl)) k1 bel lt1) trodAll_mk0)), rfl, bel.frame _, fun h => by cases h⟩

theorem FnTours_closed : joinedFacts Try.pinned.checked.prog 3 Try.f3 Rows.fnToursSpec Rows.fnToursRow = true := by
  unfold joinedFacts; rw [seat_enter, seat_lifts, seat_make]; kernel_rfl

theorem FnTours_named : Try.pinned.checked.prog.funcNamed Rows.fnToursRow.func = some 3 := by kernel_rfl

theorem FnTours_holds : Rows.FnToursSaid :=
  OpenClaim.holds_of_wide 3 Try.f3 rfl rfl rfl rfl rfl rfl rfl ⟨rfl, rfl, rfl, rfl, rfl⟩ rfl rfl rfl rfl rfl FnTours_named Try.func3 FnTours_closed
    (of_decide_eq_true (by kernel_rfl)) (by unfold Func.isWrapper; first | (rw [if_pos (by decide +kernel)]; kernel_rfl) | (rw [if_neg (by decide +kernel)]; exact ⟨rfl, rfl⟩))
    (fun os started H enc _ => FnTours_lifted os started H enc)
#print axioms FnTours_holds

end Go.Proofs.Ytidmpjlkdghmeaa
