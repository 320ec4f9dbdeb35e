/- FnExactShowWith: for all arguments the program's ShowWith returns what the reference's returns, leaves its arguments as they are, and returns memory of its own. No condition. -/
import Derived.Test.YtlgcehdklpbknaaShowS
namespace Go.Proofs.Ytlgcehdklpbknaa
open Go Go.RowKit Go.ChangeShapes Go.WideShapes
set_option linter.unusedSimpArgs false
set_option linter.unusedVariables false


set_option maxHeartbeats 2000000 in
theorem law_FnExactShowWith (w : World) (vaList : Value) (laList : List TTitle) (SaList : Sl w 4 vaList eTitle laList) (raList : ∀ x ∈ laList, okTitle x) (aGlasses : Int) (haGlasses : -9223372036854775808 ≤ aGlasses ∧ aGlasses ≤ 9223372036854775807) :
    Calls Try.prog 9 #[vaList, .int .i64 aGlasses] w fun e w' => e = .returned (.bool true) ∧ Below w.heap.size w w' := by
  have B := Below.refl w.heap.size w
  have maList := SaList.len
  obtain ⟨-, AaList, caList, rfl, -, -, -⟩ := id SaList
  by_cases z_aList : (totTitle laList : Int) ≤ 1048576
  case neg =>
    go_enter Try.func9, Try.ntmps9
    go_wp2_with fail
    refine (szTitles_no _ _ _ (SaList.below B) (fun x hx => (raList x hx).2.1) _ (by omega) (by omega) (by omega)).mono ?_; rintro e wz ⟨rfl, hbz⟩; replace B := below_step B hbz; clear hbz
    go_wp2_with fail
    go_ret
    exact ⟨rfl, B⟩
  have tt_aList : laList.length ≤ totTitle laList := Nat.le_add_right _ _
  have q_len := showR_len laList aGlasses
  go_enter Try.func9, Try.ntmps9
  go_wp2_with fail
  refine (szTitles_yes _ _ _ (SaList.below B) (fun x hx => (raList x hx).2.1) _ (by omega) (by omega) (by omega)).mono ?_; rintro e wz ⟨rfl, hbz⟩; replace B := below_step B hbz; clear hbz
  go_wp2_with fail
  refine (toTitles _ _ _ (SaList.below B) (by omega)).mono ?_
  rintro e w1 ⟨v_c1, rfl, O_c1, hb1⟩
  replace O_c1 := O_c1.base B.size
  replace B := below_step B hb1
  clear hb1
  go_wp2_with fail
  refine (show_spec _ _ _ (O_c1.sl eTitle_len) _ (by omega)).mono ?_
  rintro e w2 ⟨v_w0, rfl, O_w0, hb2⟩
  have ne_c1_w0 := own_ne O_c1 O_w0
  replace O_c1 := O_c1.below hb2 (Nat.le_refl _)
  replace O_w0 := O_w0.base B.size
  replace B := below_step B hb2
  clear hb2
  clear O_c1 ne_c1_w0
  go_wp2_with fail
  refine (toTitles _ _ _ (SaList.below B) (by omega)).mono ?_
  rintro e w3 ⟨v_x0, rfl, O_x0, hb3⟩
  have ne_w0_x0 := own_ne O_w0 O_x0
  replace O_w0 := O_w0.below hb3 (Nat.le_refl _)
  replace O_x0 := O_x0.base B.size
  replace B := below_step B hb3
  clear hb3
  go_wp2_with fail
  refine (show_impl _ _ _ (O_x0.sl eTitle_len) _ (by omega)).mono ?_
  rintro e w4 ⟨v_g0, rfl, O_g0, hb4⟩
  have ne_w0_g0 := own_ne O_w0 O_g0
  have ne_x0_g0 := own_ne O_x0 O_g0
  replace O_w0 := O_w0.below hb4 (Nat.le_refl _)
  replace O_x0 := O_x0.below hb4 (Nat.le_refl _)
  replace O_g0 := O_g0.base B.size
  replace B := below_step B hb4
  clear hb4
  go_wp2_with fail
  refine (eqInts _ _ _ _ _ (O_g0.sl eI_len) (O_w0.sl eI_len)).mono ?_
  rintro e w5 ⟨rfl, n5, rfl⟩
  replace O_w0 := O_w0.drewN n5
  replace O_x0 := O_x0.drewN n5
  replace O_g0 := O_g0.drewN n5
  replace B := below_drewN B n5
  go_wp2_with fail
  refine (toTitles _ _ _ (SaList.below B) (by omega)).mono ?_
  rintro e w6 ⟨v_c8, rfl, O_c8, hb6⟩
  have ne_w0_c8 := own_ne O_w0 O_c8
  have ne_x0_c8 := own_ne O_x0 O_c8
  have ne_g0_c8 := own_ne O_g0 O_c8
  replace O_w0 := O_w0.below hb6 (Nat.le_refl _)
  replace O_x0 := O_x0.below hb6 (Nat.le_refl _)
  replace O_g0 := O_g0.below hb6 (Nat.le_refl _)
  replace O_c8 := O_c8.base B.size
  replace B := below_step B hb6
  clear hb6
  go_wp2_with fail
  refine (eqTitles _ _ _ _ _ (O_x0.sl eTitle_len) (O_c8.sl eTitle_len)).mono ?_
  rintro e w7 ⟨rfl, hb7⟩
  replace O_w0 := O_w0.below hb7 (Nat.le_refl _)
  replace O_x0 := O_x0.below hb7 (Nat.le_refl _)
  replace O_g0 := O_g0.below hb7 (Nat.le_refl _)
  replace O_c8 := O_c8.below hb7 (Nat.le_refl _)
  replace B := below_step B hb7
  clear hb7
  clear O_c8 ne_w0_c8 ne_x0_c8 ne_g0_c8
  go_wp2_with fail
  refine (markTitles _ _ _ _ _ O_x0 1 (by omega)).mono ?_
  rintro e w8 ⟨rfl, P8, hg8⟩
  have B8 := B.grown hg8 B.size (fun g hg => (O_x0.lt g hg).1)
  replace O_w0 := O_w0.grown hg8 ne_w0_x0
  replace O_g0 := O_g0.grown hg8 (ne_symm ne_x0_g0)
  clear O_x0 B hg8
  have O_x0 := P8
  have B := B8
  clear P8 B8
  go_wp2_with fail
  refine (eqInts _ _ _ _ _ (O_g0.sl eI_len) (O_w0.sl eI_len)).mono ?_
  rintro e w9 ⟨rfl, n9, rfl⟩
  replace O_w0 := O_w0.drewN n9
  replace O_x0 := O_x0.drewN n9
  replace O_g0 := O_g0.drewN n9
  replace B := below_drewN B n9
  go_wp2_with fail
  refine (markInts _ _ _ _ _ O_g0 _ (by omega) (by omega)).mono ?_
  rintro e w10 ⟨rfl, P10, hg10⟩
  have B10 := B.grown hg10 B.size (fun g hg => (O_g0.lt g hg).1)
  replace O_w0 := O_w0.grown hg10 ne_w0_g0
  replace O_x0 := O_x0.grown hg10 ne_x0_g0
  clear O_g0 B hg10
  have O_g0 := P10
  have B := B10
  clear P10 B10
  go_wp2_with fail
  refine (heldInts _ _ _ _ (O_g0.sl eI_len) (by omega) (by omega)).mono ?_
  rintro e w' ⟨rfl, rfl⟩
  go_wp2_with fail
  refine (toTitles _ _ _ (SaList.below B) (by omega)).mono ?_
  rintro e w11 ⟨v_c11, rfl, O_c11, hb11⟩
  have ne_w0_c11 := own_ne O_w0 O_c11
  have ne_x0_c11 := own_ne O_x0 O_c11
  have ne_g0_c11 := own_ne O_g0 O_c11
  replace O_w0 := O_w0.below hb11 (Nat.le_refl _)
  replace O_x0 := O_x0.below hb11 (Nat.le_refl _)
  replace O_g0 := O_g0.below hb11 (Nat.le_refl _)
  replace O_c11 := O_c11.base B.size
  replace B := below_step B hb11
  clear hb11
  go_wp2_with fail
  refine (show_impl _ _ _ (O_c11.sl eTitle_len) _ (by omega)).mono ?_
  rintro e w12 ⟨v_h0, rfl, O_h0, hb12⟩
  have ne_w0_h0 := own_ne O_w0 O_h0
  have ne_x0_h0 := own_ne O_x0 O_h0
  have ne_g0_h0 := own_ne O_g0 O_h0
  have ne_c11_h0 := own_ne O_c11 O_h0
  replace O_w0 := O_w0.below hb12 (Nat.le_refl _)
  replace O_x0 := O_x0.below hb12 (Nat.le_refl _)
  replace O_g0 := O_g0.below hb12 (Nat.le_refl _)
  replace O_c11 := O_c11.below hb12 (Nat.le_refl _)
  replace O_h0 := O_h0.base B.size
  replace B := below_step B hb12
  clear hb12
  clear O_c11 ne_w0_c11 ne_x0_c11 ne_g0_c11 ne_c11_h0
  go_wp2_with fail
  refine (eqInts _ _ _ _ _ (O_h0.sl eI_len) (O_w0.sl eI_len)).mono ?_
  rintro e w13 ⟨rfl, n13, rfl⟩
  replace O_w0 := O_w0.drewN n13
  replace O_x0 := O_x0.drewN n13
  replace O_g0 := O_g0.drewN n13
  replace O_h0 := O_h0.drewN n13
  replace B := below_drewN B n13
  go_wp2_with fail
  refine (heldInts _ _ _ _ (O_g0.sl eI_len) (by omega) (by omega)).mono ?_
  rintro e w' ⟨rfl, rfl⟩
  go_wp2_with fail
  go_ret
  exact ⟨rfl, B⟩

set_option maxRecDepth 100000 in
theorem FnExactShowWith_lifted (os : Os) (started : os.Started) (H : Type) (enc : TypeId × Value → H) :
    ReturnsInHanded {} Try.checked os 9 .any (Rows.fnExactShowWithSpec.pre6 enc Try.prog Try.f9 Rows.fnExactShowWithRow.domain false) (Rows.fnExactShowWithSpec.post enc Try.prog Try.f9 false true false false) := by
  refine returnsInHanded_of_change (C := Try.checked) own_knob started (by kernel_rfl) Try.func9
    (ChangeSpec.witness6 (enc := enc) (C := Try.checked) false ⟨#[], #[.slice none 0 0, .int .i64 0], []⟩ 8 (by kernel_rfl) (by kernel_rfl) (by kernel_rfl) (by kernel_rfl)) ?_
  intro W base args ds gs before hval0 hW hcnd _
  have hval : ∀ (j : Nat) t v, Try.f9.params[j]? = some t → args[j]? = some v → Value.okWide Try.prog W .any base t v := hval0
  have hW' := hW
  obtain ⟨p, q, hA0, hV, rfl, hfz, hnd⟩ := hW
  have hA : DataW.TrodAll enc Try.prog W 0 (fun _ => true) true Try.f9.params.toList args.toList ds p := hA0
  rw [Try.params9] at hA hval
  obtain ⟨v0, vs0, d0, ds0, p0, q0, hargs, rfl, rfl, h0, r0⟩ := trodAll_cons hA
  obtain ⟨v1, vs1, d1, ds1, p1, q1, rfl, rfl, rfl, h1, r1⟩ := trodAll_cons r0
  obtain ⟨rfl, rfl, rfl⟩ := trodAll_nil r1
  obtain rfl : args = #[v0, v1] := by cases args; simp_all
  obtain ⟨rfl, rfl⟩ := trodVars_none hV
  have k0 := h0
  have lt0 : ∀ x ∈ p0, x.block < W.heap.size := by obtain ⟨m, hm⟩ := k0; exact DataW.trod_lt m _ _ _ hm
  have k1 := h1
  have lt1 : ∀ x ∈ p1, x.block < W.heap.size := by obtain ⟨m, hm⟩ := k1; exact DataW.trod_lt m _ _ _ hm
  obtain ⟨l0, sl0, wf0⟩ := sl_of_Titles (hval 0 46 v0 rfl rfl) h0
  obtain ⟨a1, rfl, _, _, wf1⟩ := open_int Try.underlying2 (hval 1 2 v1 rfl rfl) h1
  refine (law_FnExactShowWith W v0 l0 sl0 wf0 a1 (i64_range wf1)).mono fun e W' ⟨he, bel⟩ => ?_
  subst he
  exact ⟨_, rfl, _, _, _, [], _, [], hW', trodAll_mk1 (shut_bool Try.underlying4 _), (trodAll_cons_mk (Below.trod laid_out (by kernel_rfl) (of_decide_eq_true (by kernel_rfl)) k0 bel lt0) (trodAll_cons_mk (Below.trod laid_out (by kernel_rfl) (of_decide_eq_true (by kernel_rfl)) k1 bel lt1) trodAll_mk0)), rfl, bel.frame _, fun h => by cases h⟩

theorem FnExactShowWith_closed : joinedFacts Try.pinned.checked.prog 9 Try.f9 Rows.fnExactShowWithSpec Rows.fnExactShowWithRow = true := by
  unfold joinedFacts; rw [seat_enter, seat_lifts, seat_make]; kernel_rfl

theorem FnExactShowWith_named : Try.pinned.checked.prog.funcNamed Rows.fnExactShowWithRow.func = some 9 := by kernel_rfl

theorem FnExactShowWith_holds : Rows.FnExactShowWithSaid :=
  OpenClaim.holds_of_wide 9 Try.f9 rfl rfl rfl rfl rfl rfl rfl ⟨rfl, rfl, rfl, rfl, rfl⟩ rfl rfl rfl rfl rfl FnExactShowWith_named Try.func9 FnExactShowWith_closed
    (of_decide_eq_true (by kernel_rfl)) (by unfold Func.isWrapper; first | (rw [if_pos (by decide +kernel)]; kernel_rfl) | (rw [if_neg (by decide +kernel)]; exact ⟨rfl, rfl⟩))
    (fun os started H enc _ => FnExactShowWith_lifted os started H enc)
#print axioms FnExactShowWith_holds

end Go.Proofs.Ytlgcehdklpbknaa
