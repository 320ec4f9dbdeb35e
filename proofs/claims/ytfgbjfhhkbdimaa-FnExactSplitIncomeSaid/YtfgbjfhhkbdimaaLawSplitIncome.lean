/- FnExactSplitIncome: for all arguments the program's SplitIncome returns what the reference's returns, leaves its arguments as they are, and returns memory of its own. No condition. -/
import Derived.Test.YtfgbjfhhkbdimaaSplit
namespace Go.Proofs.Ytfgbjfhhkbdimaa
open Go Go.RowKit Go.ChangeShapes Go.WideShapes
set_option linter.unusedSimpArgs false
set_option linter.unusedVariables false


set_option maxHeartbeats 2000000 in
theorem law_FnExactSplitIncome (w : World) (aIncome : Int) (haIncome : -9223372036854775808 ≤ aIncome ∧ aIncome ≤ 9223372036854775807) (vaShares : Value) (laShares : List Int) (SaShares : Sl w 1 vaShares eI laShares) (raShares : ∀ x ∈ laShares, -9223372036854775808 ≤ x ∧ x ≤ 9223372036854775807) :
    Calls Try.prog 13 #[.int .i64 aIncome, vaShares] w fun e w' => e = .returned (.bool true) ∧ Below w.heap.size w w' := by
  have B := Below.refl w.heap.size w
  have maShares := SaShares.len
  obtain ⟨-, AaShares, caShares, rfl, -, -, -⟩ := id SaShares
  by_cases z_aShares : laShares.length ≤ 1048576
  case neg =>
    go_enter Try.func13, Try.ntmps13
    go_wp2_with fail
    go_ret
    exact ⟨rfl, Below.refl _ _⟩
  have q_len := spR_len aIncome laShares
  go_enter Try.func13, Try.ntmps13
  go_wp2_with fail
  refine (toInts _ _ _ (SaShares.below B) (by omega)).mono ?_
  rintro e w1 ⟨v_c2, rfl, O_c2, hb1⟩
  replace O_c2 := O_c2.base B.size
  replace B := below_step B hb1
  clear hb1
  go_wp2_with fail
  refine (split_spec _ _ _ _ (O_c2.sl eI_len)).mono ?_
  rintro e w2 ⟨v_w0, rfl, O_w0, hb2⟩
  have ne_c2_w0 := own_ne O_c2 O_w0
  replace O_c2 := O_c2.below hb2 (Nat.le_refl _)
  replace O_w0 := O_w0.base B.size
  replace B := below_step B hb2
  clear hb2
  clear O_c2 ne_c2_w0
  go_wp2_with fail
  refine (toInts _ _ _ (SaShares.below B) (by omega)).mono ?_
  rintro e w3 ⟨v_x1, rfl, O_x1, hb3⟩
  have ne_w0_x1 := own_ne O_w0 O_x1
  replace O_w0 := O_w0.below hb3 (Nat.le_refl _)
  replace O_x1 := O_x1.base B.size
  replace B := below_step B hb3
  clear hb3
  go_wp2_with fail
  refine (split_impl _ _ _ _ (O_x1.sl eI_len)).mono ?_
  rintro e w4 ⟨v_g0, rfl, O_g0, hb4⟩
  have ne_w0_g0 := own_ne O_w0 O_g0
  have ne_x1_g0 := own_ne O_x1 O_g0
  replace O_w0 := O_w0.below hb4 (Nat.le_refl _)
  replace O_x1 := O_x1.below hb4 (Nat.le_refl _)
  replace O_g0 := O_g0.base B.size
  replace B := below_step B hb4
  clear hb4
  go_wp2_with fail
  refine (eqInts _ _ _ _ _ (O_g0.sl eI_len) (O_w0.sl eI_len)).mono ?_
  rintro e w5 ⟨rfl, n5, rfl⟩
  replace O_w0 := O_w0.drewN n5
  replace O_x1 := O_x1.drewN n5
  replace O_g0 := O_g0.drewN n5
  replace B := below_drewN B n5
  go_wp2_with fail
  refine (toInts _ _ _ (SaShares.below B) (by omega)).mono ?_
  rintro e w6 ⟨v_c8, rfl, O_c8, hb6⟩
  have ne_w0_c8 := own_ne O_w0 O_c8
  have ne_x1_c8 := own_ne O_x1 O_c8
  have ne_g0_c8 := own_ne O_g0 O_c8
  replace O_w0 := O_w0.below hb6 (Nat.le_refl _)
  replace O_x1 := O_x1.below hb6 (Nat.le_refl _)
  replace O_g0 := O_g0.below hb6 (Nat.le_refl _)
  replace O_c8 := O_c8.base B.size
  replace B := below_step B hb6
  clear hb6
  go_wp2_with fail
  refine (eqInts _ _ _ _ _ (O_x1.sl eI_len) (O_c8.sl eI_len)).mono ?_
  rintro e w7 ⟨rfl, n7, rfl⟩
  replace O_w0 := O_w0.drewN n7
  replace O_x1 := O_x1.drewN n7
  replace O_g0 := O_g0.drewN n7
  replace O_c8 := O_c8.drewN n7
  replace B := below_drewN B n7
  clear O_c8 ne_w0_c8 ne_x1_c8 ne_g0_c8
  go_wp2_with fail
  refine (markInts _ _ _ _ _ O_x1 _ (by omega) (by omega)).mono ?_
  rintro e w8 ⟨rfl, P8, hg8⟩
  have B8 := B.grown hg8 B.size (fun g hg => (O_x1.lt g hg).1)
  replace O_w0 := O_w0.grown hg8 ne_w0_x1
  replace O_g0 := O_g0.grown hg8 (ne_symm ne_x1_g0)
  clear O_x1 B hg8
  have O_x1 := P8
  have B := B8
  clear P8 B8
  go_wp2_with fail
  refine (eqInts _ _ _ _ _ (O_g0.sl eI_len) (O_w0.sl eI_len)).mono ?_
  rintro e w9 ⟨rfl, n9, rfl⟩
  replace O_w0 := O_w0.drewN n9
  replace O_x1 := O_x1.drewN n9
  replace O_g0 := O_g0.drewN n9
  replace B := below_drewN B n9
  go_wp2_with fail
  refine (markInts _ _ _ _ _ O_g0 _ (by omega) (by omega)).mono ?_
  rintro e w10 ⟨rfl, P10, hg10⟩
  have B10 := B.grown hg10 B.size (fun g hg => (O_g0.lt g hg).1)
  replace O_w0 := O_w0.grown hg10 ne_w0_g0
  replace O_x1 := O_x1.grown hg10 ne_x1_g0
  clear O_g0 B hg10
  have O_g0 := P10
  have B := B10
  clear P10 B10
  go_wp2_with fail
  refine (heldInts _ _ _ _ (O_g0.sl eI_len) (by omega) (by omega)).mono ?_
  rintro e w' ⟨rfl, rfl⟩
  go_wp2_with fail
  refine (toInts _ _ _ (SaShares.below B) (by omega)).mono ?_
  rintro e w11 ⟨v_c12, rfl, O_c12, hb11⟩
  have ne_w0_c12 := own_ne O_w0 O_c12
  have ne_x1_c12 := own_ne O_x1 O_c12
  have ne_g0_c12 := own_ne O_g0 O_c12
  replace O_w0 := O_w0.below hb11 (Nat.le_refl _)
  replace O_x1 := O_x1.below hb11 (Nat.le_refl _)
  replace O_g0 := O_g0.below hb11 (Nat.le_refl _)
  replace O_c12 := O_c12.base B.size
  replace B := below_step B hb11
  clear hb11
  go_wp2_with fail
  refine (split_impl _ _ _ _ (O_c12.sl eI_len)).mono ?_
  rintro e w12 ⟨v_h0, rfl, O_h0, hb12⟩
  have ne_w0_h0 := own_ne O_w0 O_h0
  have ne_x1_h0 := own_ne O_x1 O_h0
  have ne_g0_h0 := own_ne O_g0 O_h0
  have ne_c12_h0 := own_ne O_c12 O_h0
  replace O_w0 := O_w0.below hb12 (Nat.le_refl _)
  replace O_x1 := O_x1.below hb12 (Nat.le_refl _)
  replace O_g0 := O_g0.below hb12 (Nat.le_refl _)
  replace O_c12 := O_c12.below hb12 (Nat.le_refl _)
  replace O_h0 := O_h0.base B.size
  replace B := below_step B hb12
  clear hb12
  clear O_c12 ne_w0_c12 ne_x1_c12 ne_g0_c12 ne_c12_h0
  go_wp2_with fail
  refine (eqInts _ _ _ _ _ (O_h0.sl eI_len) (O_w0.sl eI_len)).mono ?_
  rintro e w13 ⟨rfl, n13, rfl⟩
  replace O_w0 := O_w0.drewN n13
  replace O_x1 := O_x1.drewN n13
  replace O_g0 := O_g0.drewN n13
  replace O_h0 := O_h0.drewN n13
  replace B := below_drewN B n13
  go_wp2_with fail
  refine (heldInts _ _ _ _ (O_g0.sl eI_len) (by omega) (by omega)).mono ?_
  rintro e w' ⟨rfl, rfl⟩
  go_wp2_with fail
  go_ret
  exact ⟨rfl, B⟩

set_option maxRecDepth 100000 in
theorem FnExactSplitIncome_lifted (os : Os) (started : os.Started) (H : Type) (enc : TypeId × Value → H) :
    ReturnsInHanded {} Try.checked os 13 .any (Rows.fnExactSplitIncomeSpec.pre6 enc Try.prog Try.f13 Rows.fnExactSplitIncomeRow.domain false) (Rows.fnExactSplitIncomeSpec.post enc Try.prog Try.f13 false true false false) := by
  refine returnsInHanded_of_change (C := Try.checked) own_knob started (by kernel_rfl) Try.func13
    (ChangeSpec.witness6 (enc := enc) (C := Try.checked) false ⟨#[], #[.int .i64 0, .slice none 0 0], []⟩ 8 (by kernel_rfl) (by kernel_rfl) (by kernel_rfl) (by kernel_rfl)) ?_
  intro W base args ds gs before hval0 hW hcnd _
  have hval : ∀ (j : Nat) t v, Try.f13.params[j]? = some t → args[j]? = some v → Value.okWide Try.prog W .any base t v := hval0
  have hW' := hW
  obtain ⟨p, q, hA0, hV, rfl, hfz, hnd⟩ := hW
  have hA : DataW.TrodAll enc Try.prog W 0 (fun _ => true) true Try.f13.params.toList args.toList ds p := hA0
  rw [Try.params13] at hA hval
  obtain ⟨v0, vs0, d0, ds0, p0, q0, hargs, rfl, rfl, h0, r0⟩ := trodAll_cons hA
  obtain ⟨v1, vs1, d1, ds1, p1, q1, rfl, rfl, rfl, h1, r1⟩ := trodAll_cons r0
  obtain ⟨rfl, rfl, rfl⟩ := trodAll_nil r1
  obtain rfl : args = #[v0, v1] := by cases args; simp_all
  obtain ⟨rfl, rfl⟩ := trodVars_none hV
  have k0 := h0
  have lt0 : ∀ x ∈ p0, x.block < W.heap.size := by obtain ⟨m, hm⟩ := k0; exact DataW.trod_lt m _ _ _ hm
  have k1 := h1
  have lt1 : ∀ x ∈ p1, x.block < W.heap.size := by obtain ⟨m, hm⟩ := k1; exact DataW.trod_lt m _ _ _ hm
  obtain ⟨a0, rfl, _, _, wf0⟩ := open_int Try.underlying2 (hval 0 2 v0 rfl rfl) h0
  obtain ⟨l1, sl1, wf1⟩ := sl_of_i64s Try.underlying51 Try.underlying2 (by kernel_rfl) (hval 1 51 v1 rfl rfl) h1
  refine (law_FnExactSplitIncome W a0 (i64_range wf0) v1 l1 sl1 wf1).mono fun e W' ⟨he, bel⟩ => ?_
  subst he
  exact ⟨_, rfl, _, _, _, [], _, [], hW', trodAll_mk1 (shut_bool Try.underlying4 _), (trodAll_cons_mk (Below.trod laid_out (by kernel_rfl) (of_decide_eq_true (by kernel_rfl)) k0 bel lt0) (trodAll_cons_mk (Below.trod laid_out (by kernel_rfl) (of_decide_eq_true (by kernel_rfl)) k1 bel lt1) trodAll_mk0)), rfl, bel.frame _, fun h => by cases h⟩

theorem FnExactSplitIncome_holds : Rows.FnExactSplitIncomeSaid :=
  OpenClaim.holds_of_wide 13 Try.f13 rfl rfl rfl rfl rfl rfl rfl ⟨rfl, rfl, rfl, rfl, rfl⟩ rfl rfl rfl rfl rfl (by kernel_rfl) Try.func13 (by kernel_rfl)
    (of_decide_eq_true (by kernel_rfl)) (by unfold Func.isWrapper; first | (rw [if_pos (by decide +kernel)]; kernel_rfl) | (rw [if_neg (by decide +kernel)]; exact ⟨rfl, rfl⟩))
    (fun os started H enc _ => FnExactSplitIncome_lifted os started H enc)
#print axioms FnExactSplitIncome_holds

end Go.Proofs.Ytfgbjfhhkbdimaa
