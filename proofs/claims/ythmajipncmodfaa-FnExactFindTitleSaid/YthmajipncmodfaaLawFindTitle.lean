/- FnExactFindTitle: for all arguments the program's FindTitle returns what the reference's returns, leaves its arguments as they are, and returns memory of its own. No condition. -/
import Derived.Test.YthmajipncmodfaaFind
namespace Go.Proofs.Ythmajipncmodfaa
open Go Go.RowKit Go.ChangeShapes Go.WideShapes
set_option linter.unusedSimpArgs false
set_option linter.unusedVariables false


set_option maxHeartbeats 2000000 in
theorem law_FnExactFindTitle (w : World) (vaList : Value) (laList : List TTitle) (SaList : Sl w 4 vaList eTitle laList) (raList : ∀ x ∈ laList, okTitle x) (aNo : Int) (haNo : -9223372036854775808 ≤ aNo ∧ aNo ≤ 9223372036854775807) :
    Calls Try.prog 3 #[vaList, .int .i64 aNo] w fun e w' => e = .returned (.bool true) ∧ Below w.heap.size w w' := by
  have B := Below.refl w.heap.size w
  have maList := SaList.len
  obtain ⟨-, AaList, caList, rfl, -, -, -⟩ := id SaList
  by_cases z_aList : (totTitle laList : Int) ≤ 1048576
  case neg =>
    go_enter Try.func3, Try.ntmps3
    go_wp2_with fail
    refine (szTitles_no _ _ _ (SaList.below B) (fun x hx => (raList x hx).2.1) _ (by omega) (by omega) (by omega)).mono ?_; rintro e wz ⟨rfl, hbz⟩; replace B := below_step B hbz; clear hbz
    go_wp2_with fail
    go_ret
    exact ⟨rfl, B⟩
  have tt_aList : laList.length ≤ totTitle laList := Nat.le_add_right _ _
  go_enter Try.func3, Try.ntmps3
  go_wp2_with fail
  refine (szTitles_yes _ _ _ (SaList.below B) (fun x hx => (raList x hx).2.1) _ (by omega) (by omega) (by omega)).mono ?_; rintro e wz ⟨rfl, hbz⟩; replace B := below_step B hbz; clear hbz
  go_wp2_with fail
  refine (toTitles _ _ _ (SaList.below B) (by omega)).mono ?_
  rintro e w1 ⟨v_c1, rfl, O_c1, hb1⟩
  replace O_c1 := O_c1.base B.size
  replace B := below_step B hb1
  clear hb1
  go_wp2_with fail
  refine (find_spec _ _ _ (O_c1.sl eTitle_len) _).mono ?_
  rintro e w2 ⟨rfl, hb2⟩
  replace O_c1 := O_c1.below hb2 (Nat.le_refl _)
  replace B := below_step B hb2
  clear hb2
  clear O_c1
  go_wp2_with fail
  refine (toTitles _ _ _ (SaList.below B) (by omega)).mono ?_
  rintro e w3 ⟨v_x0, rfl, O_x0, hb3⟩
  replace O_x0 := O_x0.base B.size
  replace B := below_step B hb3
  clear hb3
  go_wp2_with fail
  refine (find_impl _ _ _ (O_x0.sl eTitle_len) _).mono ?_
  rintro e w4 ⟨rfl, hb4⟩
  replace O_x0 := O_x0.below hb4 (Nat.le_refl _)
  replace B := below_step B hb4
  clear hb4
  go_wp2_with fail
  refine (toTitles _ _ _ (SaList.below B) (by omega)).mono ?_
  rintro e w5 ⟨v_c6, rfl, O_c6, hb5⟩
  replace O_x0 := O_x0.below hb5 (Nat.le_refl _)
  replace O_c6 := O_c6.base B.size
  replace B := below_step B hb5
  clear hb5
  go_wp2_with fail
  refine (eqTitles _ _ _ _ _ (O_x0.sl eTitle_len) (O_c6.sl eTitle_len)).mono ?_
  rintro e w6 ⟨rfl, hb6⟩
  replace O_x0 := O_x0.below hb6 (Nat.le_refl _)
  replace O_c6 := O_c6.below hb6 (Nat.le_refl _)
  replace B := below_step B hb6
  clear hb6
  clear O_c6
  go_wp2_with fail
  go_ret
  exact ⟨rfl, B⟩

set_option maxRecDepth 100000 in
theorem FnExactFindTitle_lifted (os : Os) (started : os.Started) (H : Type) (enc : TypeId × Value → H) :
    ReturnsInHanded {} Try.checked os 3 .any (Rows.fnExactFindTitleSpec.pre6 enc Try.prog Try.f3 Rows.fnExactFindTitleRow.domain false) (Rows.fnExactFindTitleSpec.post enc Try.prog Try.f3 false true false false) := by
  refine returnsInHanded_of_change (C := Try.checked) own_knob started (by kernel_rfl) Try.func3
    (ChangeSpec.witness6 (enc := enc) (C := Try.checked) false ⟨#[], #[.slice none 0 0, .int .i64 0], []⟩ 8 (by kernel_rfl) (by kernel_rfl) (by kernel_rfl) (by kernel_rfl)) ?_
  intro W base args ds gs before hval0 hW hcnd _
  have hval : ∀ (j : Nat) t v, Try.f3.params[j]? = some t → args[j]? = some v → Value.okWide Try.prog W .any base t v := hval0
  have hW' := hW
  obtain ⟨p, q, hA0, hV, rfl, hfz, hnd⟩ := hW
  have hA : DataW.TrodAll enc Try.prog W 0 (fun _ => true) true Try.f3.params.toList args.toList ds p := hA0
  rw [Try.params3] at hA hval
  obtain ⟨v0, vs0, d0, ds0, p0, q0, hargs, rfl, rfl, h0, r0⟩ := trodAll_cons hA
  obtain ⟨v1, vs1, d1, ds1, p1, q1, rfl, rfl, rfl, h1, r1⟩ := trodAll_cons r0
  obtain ⟨rfl, rfl, rfl⟩ := trodAll_nil r1
  obtain rfl : args = #[v0, v1] := by cases args; simp_all
  obtain ⟨rfl, rfl⟩ := trodVars_none hV
  have k0 := h0
  have lt0 : ∀ x ∈ p0, x.block < W.heap.size := by obtain ⟨m, hm⟩ := k0; exact DataW.trod_lt m _ _ _ hm
  have k1 := h1
  have lt1 : ∀ x ∈ p1, x.block < W.heap.size := by obtain ⟨m, hm⟩ := k1; exact DataW.trod_lt m _ _ _ hm
  obtain ⟨l0, sl0, wf0⟩ := sl_of_Titles (hval 0 22 v0 rfl rfl) h0
  obtain ⟨a1, rfl, _, _, wf1⟩ := open_int Try.underlying2 (hval 1 2 v1 rfl rfl) h1
  refine (law_FnExactFindTitle W v0 l0 sl0 wf0 a1 (i64_range wf1)).mono fun e W' ⟨he, bel⟩ => ?_
  subst he
  exact ⟨_, rfl, _, _, _, [], _, [], hW', trodAll_mk1 (shut_bool Try.underlying4 _), (trodAll_cons_mk (Below.trod laid_out (by kernel_rfl) (of_decide_eq_true (by kernel_rfl)) k0 bel lt0) (trodAll_cons_mk (Below.trod laid_out (by kernel_rfl) (of_decide_eq_true (by kernel_rfl)) k1 bel lt1) trodAll_mk0)), rfl, bel.frame _, fun h => by cases h⟩

theorem FnExactFindTitle_closed : joinedFacts Try.pinned.checked.prog 3 Try.f3 Rows.fnExactFindTitleSpec Rows.fnExactFindTitleRow = true := by
  unfold joinedFacts; rw [seat_enter, seat_lifts, seat_make]; kernel_rfl

theorem FnExactFindTitle_named : Try.pinned.checked.prog.funcNamed Rows.fnExactFindTitleRow.func = some 3 := by kernel_rfl

theorem FnExactFindTitle_holds : Rows.FnExactFindTitleSaid :=
  OpenClaim.holds_of_wide 3 Try.f3 rfl rfl rfl rfl rfl rfl rfl ⟨rfl, rfl, rfl, rfl, rfl⟩ rfl rfl rfl rfl rfl FnExactFindTitle_named Try.func3 FnExactFindTitle_closed
    (of_decide_eq_true (by kernel_rfl)) (by unfold Func.isWrapper; first | (rw [if_pos (by decide +kernel)]; kernel_rfl) | (rw [if_neg (by decide +kernel)]; exact ⟨rfl, rfl⟩))
    (fun os started H enc _ => FnExactFindTitle_lifted os started H enc)
#print axioms FnExactFindTitle_holds

end Go.Proofs.Ythmajipncmodfaa
