/- FnExactDaysOut: for all arguments the program's DaysOut returns what the reference's returns, leaves its arguments as they are, and returns memory of its own. No condition. -/
import Derived.Test.YtccplbfafmclmaaDays
namespace Go.Proofs.Ytccplbfafmclmaa
open Go Go.RowKit Go.ChangeShapes Go.WideShapes
set_option linter.unusedSimpArgs false
set_option linter.unusedVariables false


set_option maxHeartbeats 2000000 in
theorem law_FnExactDaysOut (w : World) (vaStock : Value) (laStock : List Int) (SaStock : Sl w 1 vaStock eI laStock) (raStock : ∀ x ∈ laStock, -9223372036854775808 ≤ x ∧ x ≤ 9223372036854775807) (vaList : Value) (laList : List THire) (SaList : Sl w 3 vaList eHire laList) (raList : ∀ x ∈ laList, okHire x) :
    Calls Try.prog 4 #[vaStock, vaList] w fun e w' => e = .returned (.bool true) ∧ Below w.heap.size w w' := by
  have B := Below.refl w.heap.size w
  have maStock := SaStock.len
  obtain ⟨-, AaStock, caStock, rfl, -, -, -⟩ := id SaStock
  have maList := SaList.len
  obtain ⟨-, AaList, caList, rfl, -, -, -⟩ := id SaList
  by_cases z_aStock : laStock.length ≤ 1048576
  case neg =>
    go_enter Try.func4, Try.ntmps4
    go_wp2_with fail
    go_ret
    exact ⟨rfl, Below.refl _ _⟩
  by_cases z_aList : (laList.length : Int) ≤ 1048576
  case neg =>
    go_enter Try.func4, Try.ntmps4
    go_wp2_with fail
    refine (szHires_no _ _ _ SaList _ (by omega) (by omega) (by omega)).mono ?_; rintro e w' ⟨rfl, rfl⟩
    go_wp2_with fail
    go_ret
    exact ⟨rfl, Below.refl _ _⟩
  have q_len := daysR_len laStock laList
  go_enter Try.func4, Try.ntmps4
  go_wp2_with fail
  refine (szHires_yes _ _ _ SaList _ (by omega) (by omega) (by omega)).mono ?_; rintro e w' ⟨rfl, rfl⟩
  go_wp2_with fail
  refine (toInts _ _ _ (SaStock.below B) (by omega)).mono ?_
  rintro e w1 ⟨v_c1, rfl, O_c1, hb1⟩
  replace O_c1 := O_c1.base B.size
  replace B := below_step B hb1
  clear hb1
  go_wp2_with fail
  refine (toHires _ _ _ (SaList.below B) (by omega)).mono ?_
  rintro e w2 ⟨v_c2, rfl, O_c2, hb2⟩
  have ne_c1_c2 := own_ne O_c1 O_c2
  replace O_c1 := O_c1.below hb2 (Nat.le_refl _)
  replace O_c2 := O_c2.base B.size
  replace B := below_step B hb2
  clear hb2
  go_wp2_with fail
  refine (days_spec _ _ _ (O_c1.sl eI_len) _ _ (O_c2.sl eHire_len)).mono ?_
  rintro e w3 ⟨v_w0, rfl, O_w0, hb3⟩
  have ne_c1_w0 := own_ne O_c1 O_w0
  have ne_c2_w0 := own_ne O_c2 O_w0
  replace O_c1 := O_c1.below hb3 (Nat.le_refl _)
  replace O_c2 := O_c2.below hb3 (Nat.le_refl _)
  replace O_w0 := O_w0.base B.size
  replace B := below_step B hb3
  clear hb3
  clear O_c1 ne_c1_c2 ne_c1_w0
  clear O_c2 ne_c2_w0
  go_wp2_with fail
  refine (toInts _ _ _ (SaStock.below B) (by omega)).mono ?_
  rintro e w4 ⟨v_x0, rfl, O_x0, hb4⟩
  have ne_w0_x0 := own_ne O_w0 O_x0
  replace O_w0 := O_w0.below hb4 (Nat.le_refl _)
  replace O_x0 := O_x0.base B.size
  replace B := below_step B hb4
  clear hb4
  go_wp2_with fail
  refine (toHires _ _ _ (SaList.below B) (by omega)).mono ?_
  rintro e w5 ⟨v_x1, rfl, O_x1, hb5⟩
  have ne_w0_x1 := own_ne O_w0 O_x1
  have ne_x0_x1 := own_ne O_x0 O_x1
  replace O_w0 := O_w0.below hb5 (Nat.le_refl _)
  replace O_x0 := O_x0.below hb5 (Nat.le_refl _)
  replace O_x1 := O_x1.base B.size
  replace B := below_step B hb5
  clear hb5
  go_wp2_with fail
  refine (days_impl _ _ _ (O_x0.sl eI_len) _ _ (O_x1.sl eHire_len)).mono ?_
  rintro e w6 ⟨v_g0, rfl, O_g0, hb6⟩
  have ne_w0_g0 := own_ne O_w0 O_g0
  have ne_x0_g0 := own_ne O_x0 O_g0
  have ne_x1_g0 := own_ne O_x1 O_g0
  replace O_w0 := O_w0.below hb6 (Nat.le_refl _)
  replace O_x0 := O_x0.below hb6 (Nat.le_refl _)
  replace O_x1 := O_x1.below hb6 (Nat.le_refl _)
  replace O_g0 := O_g0.base B.size
  replace B := below_step B hb6
  clear hb6
  go_wp2_with fail
  refine (eqInts _ _ _ _ _ (O_g0.sl eI_len) (O_w0.sl eI_len)).mono ?_
  rintro e w7 ⟨rfl, n7, rfl⟩
  replace O_w0 := O_w0.drewN n7
  replace O_x0 := O_x0.drewN n7
  replace O_x1 := O_x1.drewN n7
  replace O_g0 := O_g0.drewN n7
  replace B := below_drewN B n7
  go_wp2_with fail
  refine (toInts _ _ _ (SaStock.below B) (by omega)).mono ?_
  rintro e w8 ⟨v_c8, rfl, O_c8, hb8⟩
  have ne_w0_c8 := own_ne O_w0 O_c8
  have ne_x0_c8 := own_ne O_x0 O_c8
  have ne_x1_c8 := own_ne O_x1 O_c8
  have ne_g0_c8 := own_ne O_g0 O_c8
  replace O_w0 := O_w0.below hb8 (Nat.le_refl _)
  replace O_x0 := O_x0.below hb8 (Nat.le_refl _)
  replace O_x1 := O_x1.below hb8 (Nat.le_refl _)
  replace O_g0 := O_g0.below hb8 (Nat.le_refl _)
  replace O_c8 := O_c8.base B.size
  replace B := below_step B hb8
  clear hb8
  go_wp2_with fail
  refine (eqInts _ _ _ _ _ (O_x0.sl eI_len) (O_c8.sl eI_len)).mono ?_
  rintro e w9 ⟨rfl, n9, rfl⟩
  replace O_w0 := O_w0.drewN n9
  replace O_x0 := O_x0.drewN n9
  replace O_x1 := O_x1.drewN n9
  replace O_g0 := O_g0.drewN n9
  replace O_c8 := O_c8.drewN n9
  replace B := below_drewN B n9
  clear O_c8 ne_w0_c8 ne_x0_c8 ne_x1_c8 ne_g0_c8
  go_wp2_with fail
  refine (toHires _ _ _ (SaList.below B) (by omega)).mono ?_
  rintro e w10 ⟨v_c10, rfl, O_c10, hb10⟩
  have ne_w0_c10 := own_ne O_w0 O_c10
  have ne_x0_c10 := own_ne O_x0 O_c10
  have ne_x1_c10 := own_ne O_x1 O_c10
  have ne_g0_c10 := own_ne O_g0 O_c10
  replace O_w0 := O_w0.below hb10 (Nat.le_refl _)
  replace O_x0 := O_x0.below hb10 (Nat.le_refl _)
  replace O_x1 := O_x1.below hb10 (Nat.le_refl _)
  replace O_g0 := O_g0.below hb10 (Nat.le_refl _)
  replace O_c10 := O_c10.base B.size
  replace B := below_step B hb10
  clear hb10
  go_wp2_with fail
  refine (eqHires _ _ _ _ _ (O_x1.sl eHire_len) (O_c10.sl eHire_len)).mono ?_
  rintro e w11 ⟨rfl, hb11⟩
  replace O_w0 := O_w0.below hb11 (Nat.le_refl _)
  replace O_x0 := O_x0.below hb11 (Nat.le_refl _)
  replace O_x1 := O_x1.below hb11 (Nat.le_refl _)
  replace O_g0 := O_g0.below hb11 (Nat.le_refl _)
  replace O_c10 := O_c10.below hb11 (Nat.le_refl _)
  replace B := below_step B hb11
  clear hb11
  clear O_c10 ne_w0_c10 ne_x0_c10 ne_x1_c10 ne_g0_c10
  go_wp2_with fail
  refine (markInts _ _ _ _ _ O_x0 _ (by omega) (by omega)).mono ?_
  rintro e w12 ⟨rfl, P12, hg12⟩
  have B12 := B.grown hg12 B.size (fun g hg => (O_x0.lt g hg).1)
  replace O_w0 := O_w0.grown hg12 ne_w0_x0
  replace O_x1 := O_x1.grown hg12 (ne_symm ne_x0_x1)
  replace O_g0 := O_g0.grown hg12 (ne_symm ne_x0_g0)
  clear O_x0 B hg12
  have O_x0 := P12
  have B := B12
  clear P12 B12
  go_wp2_with fail
  refine (markHires _ _ _ _ _ O_x1 _ (by omega) (by omega)).mono ?_
  rintro e w13 ⟨rfl, P13, hg13⟩
  have B13 := B.grown hg13 B.size (fun g hg => (O_x1.lt g hg).1)
  replace O_w0 := O_w0.grown hg13 ne_w0_x1
  replace O_x0 := O_x0.grown hg13 ne_x0_x1
  replace O_g0 := O_g0.grown hg13 (ne_symm ne_x1_g0)
  clear O_x1 B hg13
  have O_x1 := P13
  have B := B13
  clear P13 B13
  go_wp2_with fail
  refine (eqInts _ _ _ _ _ (O_g0.sl eI_len) (O_w0.sl eI_len)).mono ?_
  rintro e w14 ⟨rfl, n14, rfl⟩
  replace O_w0 := O_w0.drewN n14
  replace O_x0 := O_x0.drewN n14
  replace O_x1 := O_x1.drewN n14
  replace O_g0 := O_g0.drewN n14
  replace B := below_drewN B n14
  go_wp2_with fail
  refine (markInts _ _ _ _ _ O_g0 _ (by omega) (by omega)).mono ?_
  rintro e w15 ⟨rfl, P15, hg15⟩
  have B15 := B.grown hg15 B.size (fun g hg => (O_g0.lt g hg).1)
  replace O_w0 := O_w0.grown hg15 ne_w0_g0
  replace O_x0 := O_x0.grown hg15 ne_x0_g0
  replace O_x1 := O_x1.grown hg15 ne_x1_g0
  clear O_g0 B hg15
  have O_g0 := P15
  have B := B15
  clear P15 B15
  go_wp2_with fail
  refine (heldInts _ _ _ _ (O_g0.sl eI_len) (by omega) (by omega)).mono ?_
  rintro e w' ⟨rfl, rfl⟩
  go_wp2_with fail
  refine (toInts _ _ _ (SaStock.below B) (by omega)).mono ?_
  rintro e w16 ⟨v_c13, rfl, O_c13, hb16⟩
  have ne_w0_c13 := own_ne O_w0 O_c13
  have ne_x0_c13 := own_ne O_x0 O_c13
  have ne_x1_c13 := own_ne O_x1 O_c13
  have ne_g0_c13 := own_ne O_g0 O_c13
  replace O_w0 := O_w0.below hb16 (Nat.le_refl _)
  replace O_x0 := O_x0.below hb16 (Nat.le_refl _)
  replace O_x1 := O_x1.below hb16 (Nat.le_refl _)
  replace O_g0 := O_g0.below hb16 (Nat.le_refl _)
  replace O_c13 := O_c13.base B.size
  replace B := below_step B hb16
  clear hb16
  go_wp2_with fail
  refine (toHires _ _ _ (SaList.below B) (by omega)).mono ?_
  rintro e w17 ⟨v_c14, rfl, O_c14, hb17⟩
  have ne_w0_c14 := own_ne O_w0 O_c14
  have ne_x0_c14 := own_ne O_x0 O_c14
  have ne_x1_c14 := own_ne O_x1 O_c14
  have ne_g0_c14 := own_ne O_g0 O_c14
  have ne_c13_c14 := own_ne O_c13 O_c14
  replace O_w0 := O_w0.below hb17 (Nat.le_refl _)
  replace O_x0 := O_x0.below hb17 (Nat.le_refl _)
  replace O_x1 := O_x1.below hb17 (Nat.le_refl _)
  replace O_g0 := O_g0.below hb17 (Nat.le_refl _)
  replace O_c13 := O_c13.below hb17 (Nat.le_refl _)
  replace O_c14 := O_c14.base B.size
  replace B := below_step B hb17
  clear hb17
  go_wp2_with fail
  refine (days_impl _ _ _ (O_c13.sl eI_len) _ _ (O_c14.sl eHire_len)).mono ?_
  rintro e w18 ⟨v_h0, rfl, O_h0, hb18⟩
  have ne_w0_h0 := own_ne O_w0 O_h0
  have ne_x0_h0 := own_ne O_x0 O_h0
  have ne_x1_h0 := own_ne O_x1 O_h0
  have ne_g0_h0 := own_ne O_g0 O_h0
  have ne_c13_h0 := own_ne O_c13 O_h0
  have ne_c14_h0 := own_ne O_c14 O_h0
  replace O_w0 := O_w0.below hb18 (Nat.le_refl _)
  replace O_x0 := O_x0.below hb18 (Nat.le_refl _)
  replace O_x1 := O_x1.below hb18 (Nat.le_refl _)
  replace O_g0 := O_g0.below hb18 (Nat.le_refl _)
  replace O_c13 := O_c13.below hb18 (Nat.le_refl _)
  replace O_c14 := O_c14.below hb18 (Nat.le_refl _)
  replace O_h0 := O_h0.base B.size
  replace B := below_step B hb18
  clear hb18
  clear O_c13 ne_w0_c13 ne_x0_c13 ne_x1_c13 ne_g0_c13 ne_c13_c14 ne_c13_h0
  clear O_c14 ne_w0_c14 ne_x0_c14 ne_x1_c14 ne_g0_c14 ne_c14_h0
  go_wp2_with fail
  refine (eqInts _ _ _ _ _ (O_h0.sl eI_len) (O_w0.sl eI_len)).mono ?_
  rintro e w19 ⟨rfl, n19, rfl⟩
  replace O_w0 := O_w0.drewN n19
  replace O_x0 := O_x0.drewN n19
  replace O_x1 := O_x1.drewN n19
  replace O_g0 := O_g0.drewN n19
  replace O_h0 := O_h0.drewN n19
  replace B := below_drewN B n19
  go_wp2_with fail
  refine (heldInts _ _ _ _ (O_g0.sl eI_len) (by omega) (by omega)).mono ?_
  rintro e w' ⟨rfl, rfl⟩
  go_wp2_with fail
  go_ret
  exact ⟨rfl, B⟩

set_option maxRecDepth 100000 in
theorem FnExactDaysOut_lifted (os : Os) (started : os.Started) (H : Type) (enc : TypeId × Value → H) :
    ReturnsInHanded {} Try.checked os 4 .any (Rows.fnExactDaysOutSpec.pre6 enc Try.prog Try.f4 Rows.fnExactDaysOutRow.domain false) (Rows.fnExactDaysOutSpec.post enc Try.prog Try.f4 false true false false) := by
  refine returnsInHanded_of_change (C := Try.checked) own_knob started (by kernel_rfl) Try.func4
    (ChangeSpec.witness6 (enc := enc) (C := Try.checked) false ⟨#[], #[.slice none 0 0, .slice none 0 0], []⟩ 8 (by kernel_rfl) (by kernel_rfl) (by kernel_rfl) (by kernel_rfl)) ?_
  intro W base args ds gs before hval0 hW hcnd _
  have hval : ∀ (j : Nat) t v, Try.f4.params[j]? = some t → args[j]? = some v → Value.okWide Try.prog W .any base t v := hval0
  have hW' := hW
  obtain ⟨p, q, hA0, hV, rfl, hfz, hnd⟩ := hW
  have hA : DataW.TrodAll enc Try.prog W 0 (fun _ => true) true Try.f4.params.toList args.toList ds p := hA0
  rw [Try.params4] at hA hval
  obtain ⟨v0, vs0, d0, ds0, p0, q0, hargs, rfl, rfl, h0, r0⟩ := trodAll_cons hA
  obtain ⟨v1, vs1, d1, ds1, p1, q1, rfl, rfl, rfl, h1, r1⟩ := trodAll_cons r0
  obtain ⟨rfl, rfl, rfl⟩ := trodAll_nil r1
  obtain rfl : args = #[v0, v1] := by cases args; simp_all
  obtain ⟨rfl, rfl⟩ := trodVars_none hV
  have k0 := h0
  have lt0 : ∀ x ∈ p0, x.block < W.heap.size := by obtain ⟨m, hm⟩ := k0; exact DataW.trod_lt m _ _ _ hm
  have k1 := h1
  have lt1 : ∀ x ∈ p1, x.block < W.heap.size := by obtain ⟨m, hm⟩ := k1; exact DataW.trod_lt m _ _ _ hm
  obtain ⟨l0, sl0, wf0⟩ := sl_of_i64s Try.underlying25 Try.underlying2 (by kernel_rfl) (hval 0 25 v0 rfl rfl) h0
  obtain ⟨l1, sl1, wf1⟩ := sl_of_Hires (hval 1 40 v1 rfl rfl) h1
  refine (law_FnExactDaysOut W v0 l0 sl0 wf0 v1 l1 sl1 wf1).mono fun e W' ⟨he, bel⟩ => ?_
  subst he
  exact ⟨_, rfl, _, _, _, [], _, [], hW', trodAll_mk1 (shut_bool Try.underlying4 _), (trodAll_cons_mk (Below.trod laid_out (by kernel_rfl) (of_decide_eq_true (by kernel_rfl)) k0 bel lt0) (trodAll_cons_mk (Below.trod laid_out (by kernel_rfl) (of_decide_eq_true (by kernel_rfl)) k1 bel lt1) trodAll_mk0)), rfl, bel.frame _, fun h => by cases h⟩

theorem FnExactDaysOut_closed : joinedFacts Try.pinned.checked.prog 4 Try.f4 Rows.fnExactDaysOutSpec Rows.fnExactDaysOutRow = true := by
  unfold joinedFacts; rw [seat_enter, seat_lifts, seat_make]; kernel_rfl

theorem FnExactDaysOut_named : Try.pinned.checked.prog.funcNamed Rows.fnExactDaysOutRow.func = some 4 := by kernel_rfl

theorem FnExactDaysOut_holds : Rows.FnExactDaysOutSaid :=
  OpenClaim.holds_of_wide 4 Try.f4 rfl rfl rfl rfl rfl rfl rfl ⟨rfl, rfl, rfl, rfl, rfl⟩ rfl rfl rfl rfl rfl FnExactDaysOut_named Try.func4 FnExactDaysOut_closed
    (of_decide_eq_true (by kernel_rfl)) (by unfold Func.isWrapper; first | (rw [if_pos (by decide +kernel)]; kernel_rfl) | (rw [if_neg (by decide +kernel)]; exact ⟨rfl, rfl⟩))
    (fun os started H enc _ => FnExactDaysOut_lifted os started H enc)
#print axioms FnExactDaysOut_holds

end Go.Proofs.Ytccplbfafmclmaa
