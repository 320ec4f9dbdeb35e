/- FnExactDeskWords: the program's DeskWords returns what the reference's returns, and memory of its own. No condition. -/
import Derived.Test.YtfgbjfhhkbdimaaStrs
namespace Go.Proofs.Ytfgbjfhhkbdimaa
open Go Go.RowKit Go.ChangeShapes Go.WideShapes
set_option linter.unusedSimpArgs false
set_option linter.unusedVariables false

def deskWords : List ByteArray := [⟨#[98, 117, 114, 110]⟩, ⟨#[99, 117, 101]⟩, ⟨#[100, 105, 115, 99]⟩, ⟨#[101, 110, 116, 101, 114]⟩, ⟨#[102, 101, 119, 101, 115, 116]⟩, ⟨#[102, 111, 114]⟩, ⟨#[105, 109, 97, 103, 101]⟩, ⟨#[108, 111, 97, 100, 115]⟩, ⟨#[108, 111, 103]⟩, ⟨#[115, 101, 101, 110]⟩, ⟨#[115, 104, 105, 102, 116, 115]⟩, ⟨#[115, 104, 111, 119, 115]⟩, ⟨#[116, 105, 116, 108, 101]⟩, ⟨#[116, 105, 116, 108, 101, 115]⟩]
theorem deskWords_len : deskWords.length = 14 := rfl
theorem words_own (w : World) (E : TypeId) : Own (w.alloc (.cells (deskWords.map Value.string).toArray E)) w.heap.size E 1 (.slice (some ⟨w.heap.size, 0, none⟩) 14 14) eS deskWords :=
  ⟨rfl, .inr ⟨w.heap.size, 14, (deskWords.map Value.string).toArray, rfl, Nat.le_refl _, heap_alloc_new w _, Nat.le_refl _, by decide, rfl, rfl⟩⟩

theorem words_l28 (w : World) : Calls Try.prog 57 #[] w (GivesOwn w 9 1 eS deskWords) := by
  go_enter Try.func57, Try.ntmps57
  go_wp2_with (fail)
  go_ret
  exact ⟨_, rfl, words_own w _, (Below.refl _ _).alloc (Nat.le_refl _) _⟩

theorem words_impl (w : World) : Calls Try.prog 18 #[] w (GivesOwn w 9 1 eS deskWords) := by
  go_enter Try.func18, Try.ntmps18
  go_wp2_with (fail)
  go_ret
  exact ⟨_, rfl, words_own w _, (Below.refl _ _).alloc (Nat.le_refl _) _⟩

theorem words_spec (w : World) : Calls Try.prog 17 #[] w (GivesOwn w 9 1 eS deskWords) := by
  go_enter Try.func17, Try.ntmps17
  go_wp2_with (go_at_call 57; refine (words_l28 _).mono ?_; rintro e w1 ⟨v, rfl, O, hb⟩)
  go_ret
  exact ⟨_, rfl, O, hb⟩

set_option maxHeartbeats 1000000 in
theorem law_FnExactDeskWords (w : World) : Calls Try.prog 4 #[] w fun e w' => e = .returned (.bool true) ∧ Below w.heap.size w w' := by
  have B := Below.refl w.heap.size w
  go_enter Try.func4, Try.ntmps4
  go_wp2_with fail
  refine (words_spec _).mono ?_
  rintro e w1 ⟨v_w0, rfl, O_w0, hb1⟩
  replace B := below_step B hb1
  clear hb1
  go_wp2_with fail
  refine (words_impl _).mono ?_
  rintro e w2 ⟨v_g0, rfl, O_g0, hb2⟩
  have ne_w0_g0 := own_ne O_w0 O_g0
  replace O_w0 := O_w0.below hb2 (Nat.le_refl _)
  replace O_g0 := O_g0.base B.size
  replace B := below_step B hb2
  clear hb2
  go_wp2_with fail
  refine (eqStrs _ _ _ _ _ (O_g0.sl eS_len) (O_w0.sl eS_len)).mono ?_
  rintro e w3 ⟨rfl, n3, rfl⟩
  replace O_w0 := O_w0.drewN n3
  replace O_g0 := O_g0.drewN n3
  replace B := below_drewN B n3
  go_wp2_with fail
  refine (markStrs _ _ _ _ _ O_g0 1 (by rw [deskWords_len]; omega)).mono ?_
  rintro e w4 ⟨rfl, P4, hg4⟩
  have B4 := B.grown hg4 B.size (fun g hg => (O_g0.lt g hg).1)
  replace O_w0 := O_w0.grown hg4 ne_w0_g0
  clear O_g0 B hg4
  have O_g0 := P4
  have B := B4
  clear P4 B4
  rw [deskWords_len]
  go_wp2_with fail
  refine (heldStrs _ _ 1 14 (O_g0.sl eS_len) (by omega)).mono ?_
  rintro e w5 ⟨rfl, hb5⟩
  replace O_w0 := O_w0.below hb5 (Nat.le_refl _)
  replace O_g0 := O_g0.below hb5 (Nat.le_refl _)
  replace B := below_step B hb5
  clear hb5
  go_wp2_with fail
  refine (words_impl _).mono ?_
  rintro e w6 ⟨v_h0, rfl, O_h0, hb6⟩
  replace O_w0 := O_w0.below hb6 (Nat.le_refl _)
  replace O_g0 := O_g0.below hb6 (Nat.le_refl _)
  replace O_h0 := O_h0.base B.size
  replace B := below_step B hb6
  clear hb6
  go_wp2_with fail
  refine (eqStrs _ _ _ _ _ (O_h0.sl eS_len) (O_w0.sl eS_len)).mono ?_
  rintro e w7 ⟨rfl, n7, rfl⟩
  replace O_g0 := O_g0.drewN n7
  replace B := below_drewN B n7
  go_wp2_with fail
  refine (heldStrs _ _ 1 14 (O_g0.sl eS_len) (by omega)).mono ?_
  rintro e w8 ⟨rfl, hb8⟩
  replace B := below_step B hb8
  go_wp2_with fail
  go_ret
  exact ⟨rfl, B⟩

set_option maxRecDepth 100000 in
theorem FnExactDeskWords_lifted (os : Os) (started : os.Started) (H : Type) (enc : TypeId × Value → H) :
    ReturnsInHanded {} Try.checked os 4 .any (Rows.fnExactDeskWordsSpec.pre6 enc Try.prog Try.f4 Rows.fnExactDeskWordsRow.domain false) (Rows.fnExactDeskWordsSpec.post enc Try.prog Try.f4 false true false false) := by
  refine returnsInHanded_of_change (C := Try.checked) own_knob started (by kernel_rfl) Try.func4
    (ChangeSpec.witness6 (enc := enc) (C := Try.checked) false ⟨#[], #[], []⟩ 8 (by kernel_rfl) (by kernel_rfl) (by kernel_rfl) (by kernel_rfl)) ?_
  intro W base args ds gs before hval0 hW hcnd _
  have hval : ∀ (j : Nat) t v, Try.f4.params[j]? = some t → args[j]? = some v → Value.okWide Try.prog W .any base t v := hval0
  have hW' := hW
  obtain ⟨p, q, hA0, hV, rfl, hfz, hnd⟩ := hW
  have hA : DataW.TrodAll enc Try.prog W 0 (fun _ => true) true Try.f4.params.toList args.toList ds p := hA0
  rw [Try.params4] at hA hval
  obtain ⟨hargs, rfl, rfl⟩ := trodAll_nil hA
  obtain rfl : args = #[] := by cases args; simp_all
  obtain ⟨rfl, rfl⟩ := trodVars_none hV
  refine (law_FnExactDeskWords W ).mono fun e W' ⟨he, bel⟩ => ?_
  subst he
  exact ⟨_, rfl, _, _, _, [], _, [], hW', trodAll_mk1 (shut_bool Try.underlying4 _), trodAll_mk0, rfl, bel.frame _, fun h => by cases h⟩

theorem FnExactDeskWords_closed : joinedFacts Try.pinned.checked.prog 4 Try.f4 Rows.fnExactDeskWordsSpec Rows.fnExactDeskWordsRow = true := by
  unfold joinedFacts; rw [seat_enter, seat_lifts, seat_make]; kernel_rfl

theorem FnExactDeskWords_named : Try.pinned.checked.prog.funcNamed Rows.fnExactDeskWordsRow.func = some 4 := by kernel_rfl

theorem FnExactDeskWords_holds : Rows.FnExactDeskWordsSaid :=
  OpenClaim.holds_of_wide 4 Try.f4 rfl rfl rfl rfl rfl rfl rfl ⟨rfl, rfl, rfl, rfl, rfl⟩ rfl rfl rfl rfl rfl FnExactDeskWords_named Try.func4 FnExactDeskWords_closed
    (of_decide_eq_true (by kernel_rfl)) (by unfold Func.isWrapper; first | (rw [if_pos (by decide +kernel)]; kernel_rfl) | (rw [if_neg (by decide +kernel)]; exact ⟨rfl, rfl⟩))
    (fun os started H enc _ => FnExactDeskWords_lifted os started H enc)
#print axioms FnExactDeskWords_holds

end Go.Proofs.Ytfgbjfhhkbdimaa
