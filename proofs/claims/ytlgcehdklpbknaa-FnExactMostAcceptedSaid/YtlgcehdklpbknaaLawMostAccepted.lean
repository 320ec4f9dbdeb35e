/- FnExactMostAccepted: for all arguments the program's MostAccepted returns what the reference's returns, leaves its arguments as they are, and returns memory of its own. No condition. -/
import Derived.Test.YtlgcehdklpbknaaMostS
namespace Go.Proofs.Ytlgcehdklpbknaa
open Go Go.RowKit Go.ChangeShapes Go.WideShapes
set_option linter.unusedSimpArgs false
set_option linter.unusedVariables false


set_option maxHeartbeats 2000000 in
theorem law_FnExactMostAccepted (w : World) (vaStock : Value) (laStock : List Int) (SaStock : Sl w 1 vaStock eI laStock) (raStock : ∀ x ∈ laStock, -9223372036854775808 ≤ x ∧ x ≤ 9223372036854775807) (vaList : Value) (laList : List THire) (SaList : Sl w 3 vaList eHire laList) (raList : ∀ x ∈ laList, okHire x) (aItem : Int) (haItem : -9223372036854775808 ≤ aItem ∧ aItem ≤ 9223372036854775807) :
    Calls Try.prog 6 #[vaStock, vaList, .int .i64 aItem] w fun e w' => e = .returned (.bool true) ∧ Below w.heap.size w w' := by
  have B := Below.refl w.heap.size w
  have maStock := SaStock.len
  obtain ⟨-, AaStock, caStock, rfl, -, -, -⟩ := id SaStock
  have maList := SaList.len
  obtain ⟨-, AaList, caList, rfl, -, -, -⟩ := id SaList
  by_cases z_aStock : laStock.length ≤ 1048576
  case neg =>
    go_enter Try.func6, Try.ntmps6
    go_wp2_with fail
    go_ret
    exact ⟨rfl, B⟩
  by_cases z_aList : (laList.length : Int) ≤ 1048576
  case neg =>
    go_enter Try.func6, Try.ntmps6
    go_wp2_with fail
    refine (szHires_no _ _ _ (SaList.below B) _ (by omega) (by omega) (by omega)).mono ?_; rintro e w' ⟨rfl, rfl⟩
    go_wp2_with fail
    go_ret
    exact ⟨rfl, B⟩
  go_enter Try.func6, Try.ntmps6
  go_wp2_with fail
  refine (szHires_yes _ _ _ (SaList.below B) _ (by omega) (by omega) (by omega)).mono ?_; rintro e w' ⟨rfl, rfl⟩
  go_wp2_with fail
  refine (toInts _ _ _ (SaStock.below B) (by omega)).mono ?_
  rintro e w1 ⟨v_c1, rfl, O_c1, hb1⟩
  replace O_c1 := O_c1.base B.size
  replace B := below_step B hb1
  clear hb1
  go_wp2_with fail
  refine (toHires _ _ _ (SaList.below B) (by omega)).mono ?_
  rintro e w2 ⟨v_c2, rfl, O_c2, hb2⟩
  replace O_c1 := O_c1.below hb2 (Nat.le_refl _)
  replace O_c2 := O_c2.base B.size
  replace B := below_step B hb2
  clear hb2
  go_wp2_with fail
  refine (acc_spec _ _ _ (O_c1.sl eI_len) _ _ (O_c2.sl eHire_len) _).mono ?_
  rintro e w3 ⟨rfl, hb3⟩
  replace O_c1 := O_c1.below hb3 (Nat.le_refl _)
  replace O_c2 := O_c2.below hb3 (Nat.le_refl _)
  replace B := below_step B hb3
  clear hb3
  clear O_c1
  clear O_c2
  go_wp2_with fail
  refine (toInts _ _ _ (SaStock.below B) (by omega)).mono ?_
  rintro e w4 ⟨v_x0, rfl, O_x0, hb4⟩
  replace O_x0 := O_x0.base B.size
  replace B := below_step B hb4
  clear hb4
  go_wp2_with fail
  refine (toHires _ _ _ (SaList.below B) (by omega)).mono ?_
  rintro e w5 ⟨v_x1, rfl, O_x1, hb5⟩
  replace O_x0 := O_x0.below hb5 (Nat.le_refl _)
  replace O_x1 := O_x1.base B.size
  replace B := below_step B hb5
  clear hb5
  go_wp2_with fail
  refine (acc_impl _ _ _ (O_x0.sl eI_len) _ _ (O_x1.sl eHire_len) _).mono ?_
  rintro e w6 ⟨rfl, hb6⟩
  replace O_x0 := O_x0.below hb6 (Nat.le_refl _)
  replace O_x1 := O_x1.below hb6 (Nat.le_refl _)
  replace B := below_step B hb6
  clear hb6
  go_wp2_with fail
  refine (toInts _ _ _ (SaStock.below B) (by omega)).mono ?_
  rintro e w7 ⟨v_c8, rfl, O_c8, hb7⟩
  replace O_x0 := O_x0.below hb7 (Nat.le_refl _)
  replace O_x1 := O_x1.below hb7 (Nat.le_refl _)
  replace O_c8 := O_c8.base B.size
  replace B := below_step B hb7
  clear hb7
  go_wp2_with fail
  refine (eqInts _ _ _ _ _ (O_x0.sl eI_len) (O_c8.sl eI_len)).mono ?_
  rintro e w8 ⟨rfl, n8, rfl⟩
  replace O_x0 := O_x0.drewN n8
  replace O_x1 := O_x1.drewN n8
  replace O_c8 := O_c8.drewN n8
  replace B := below_drewN B n8
  clear O_c8
  go_wp2_with fail
  refine (toHires _ _ _ (SaList.below B) (by omega)).mono ?_
  rintro e w9 ⟨v_c10, rfl, O_c10, hb9⟩
  replace O_x0 := O_x0.below hb9 (Nat.le_refl _)
  replace O_x1 := O_x1.below hb9 (Nat.le_refl _)
  replace O_c10 := O_c10.base B.size
  replace B := below_step B hb9
  clear hb9
  go_wp2_with fail
  refine (eqHires _ _ _ _ _ (O_x1.sl eHire_len) (O_c10.sl eHire_len)).mono ?_
  rintro e w10 ⟨rfl, hb10⟩
  replace O_x0 := O_x0.below hb10 (Nat.le_refl _)
  replace O_x1 := O_x1.below hb10 (Nat.le_refl _)
  replace O_c10 := O_c10.below hb10 (Nat.le_refl _)
  replace B := below_step B hb10
  clear hb10
  clear O_c10
  go_wp2_with fail
  go_ret
  exact ⟨rfl, B⟩

set_option maxRecDepth 100000 in
theorem FnExactMostAccepted_lifted (os : Os) (started : os.Started) (H : Type) (enc : TypeId × Value → H) :
    ReturnsInHanded {} Try.checked os 6 .any (Rows.fnExactMostAcceptedSpec.pre6 enc Try.prog Try.f6 Rows.fnExactMostAcceptedRow.domain false) (Rows.fnExactMostAcceptedSpec.post enc Try.prog Try.f6 false true false false) := by
  refine returnsInHanded_of_change (C := Try.checked) own_knob started (by kernel_rfl) Try.func6
    (ChangeSpec.witness6 (enc := enc) (C := Try.checked) false ⟨#[], #[.slice none 0 0, .slice none 0 0, .int .i64 0], []⟩ 8 (by kernel_rfl) (by kernel_rfl) (by kernel_rfl) (by kernel_rfl)) ?_
  intro W base args ds gs before hval0 hW hcnd _
  have hval : ∀ (j : Nat) t v, Try.f6.params[j]? = some t → args[j]? = some v → Value.okWide Try.prog W .any base t v := hval0
  have hW' := hW
  obtain ⟨p, q, hA0, hV, rfl, hfz, hnd⟩ := hW
  have hA : DataW.TrodAll enc Try.prog W 0 (fun _ => true) true Try.f6.params.toList args.toList ds p := hA0
  rw [Try.params6] at hA hval
  obtain ⟨v0, vs0, d0, ds0, p0, q0, hargs, rfl, rfl, h0, r0⟩ := trodAll_cons hA
  obtain ⟨v1, vs1, d1, ds1, p1, q1, rfl, rfl, rfl, h1, r1⟩ := trodAll_cons r0
  obtain ⟨v2, vs2, d2, ds2, p2, q2, rfl, rfl, rfl, h2, r2⟩ := trodAll_cons r1
  obtain ⟨rfl, rfl, rfl⟩ := trodAll_nil r2
  obtain rfl : args = #[v0, v1, v2] := by cases args; simp_all
  obtain ⟨rfl, rfl⟩ := trodVars_none hV
  have k0 := h0
  have lt0 : ∀ x ∈ p0, x.block < W.heap.size := by obtain ⟨m, hm⟩ := k0; exact DataW.trod_lt m _ _ _ hm
  have k1 := h1
  have lt1 : ∀ x ∈ p1, x.block < W.heap.size := by obtain ⟨m, hm⟩ := k1; exact DataW.trod_lt m _ _ _ hm
  have k2 := h2
  have lt2 : ∀ x ∈ p2, x.block < W.heap.size := by obtain ⟨m, hm⟩ := k2; exact DataW.trod_lt m _ _ _ hm
  obtain ⟨l0, sl0, wf0⟩ := sl_of_i64s Try.underlying25 Try.underlying2 (by kernel_rfl) (hval 0 25 v0 rfl rfl) h0
  obtain ⟨l1, sl1, wf1⟩ := sl_of_Hires (hval 1 60 v1 rfl rfl) h1
  obtain ⟨a2, rfl, _, _, wf2⟩ := open_int Try.underlying2 (hval 2 2 v2 rfl rfl) h2
  refine (law_FnExactMostAccepted W v0 l0 sl0 wf0 v1 l1 sl1 wf1 a2 (i64_range wf2)).mono fun e W' ⟨he, bel⟩ => ?_
  subst he
  exact ⟨_, rfl, _, _, _, [], _, [], hW', trodAll_mk1 (shut_bool Try.underlying4 _), (trodAll_cons_mk (Below.trod laid_out (by kernel_rfl) (of_decide_eq_true (by kernel_rfl)) k0 bel lt0) (trodAll_cons_mk (Below.trod laid_out (by kernel_rfl) (of_decide_eq_true (by kernel_rfl)) k1 bel lt1) (trodAll_cons_mk (Below.trod laid_out (by kernel_rfl) (of_decide_eq_true (by kernel_rfl)) k2 bel lt2) trodAll_mk0))), rfl, bel.frame _, fun h => by cases h⟩

theorem FnExactMostAccepted_closed : joinedFacts Try.pinned.checked.prog 6 Try.f6 Rows.fnExactMostAcceptedSpec Rows.fnExactMostAcceptedRow = true := by
  unfold joinedFacts; rw [seat_enter, seat_lifts, seat_make]; kernel_rfl

theorem FnExactMostAccepted_named : Try.pinned.checked.prog.funcNamed Rows.fnExactMostAcceptedRow.func = some 6 := by kernel_rfl

theorem FnExactMostAccepted_holds : Rows.FnExactMostAcceptedSaid :=
  OpenClaim.holds_of_wide 6 Try.f6 rfl rfl rfl rfl rfl rfl rfl ⟨rfl, rfl, rfl, rfl, rfl⟩ rfl rfl rfl rfl rfl FnExactMostAccepted_named Try.func6 FnExactMostAccepted_closed
    (of_decide_eq_true (by kernel_rfl)) (by unfold Func.isWrapper; first | (rw [if_pos (by decide +kernel)]; kernel_rfl) | (rw [if_neg (by decide +kernel)]; exact ⟨rfl, rfl⟩))
    (fun os started H enc _ => FnExactMostAccepted_lifted os started H enc)
#print axioms FnExactMostAccepted_holds

end Go.Proofs.Ytlgcehdklpbknaa
