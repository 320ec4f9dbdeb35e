/- FnExactValidEntry: for all arguments the program's ValidEntry returns what the reference's returns, leaves its arguments as they are, and returns memory of its own. No condition. -/
import Derived.Test.YtfgbjfhhkbdimaaEntry
import Derived.Deep.RegionHeld3
namespace Go.Proofs.Ytfgbjfhhkbdimaa
open Go Go.RowKit Go.ChangeShapes Go.WideShapes
set_option linter.unusedSimpArgs false
set_option linter.unusedVariables false


set_option maxHeartbeats 2000000 in
theorem law_FnExactValidEntry (w : World) (xaE : TEntry) (gaE : okEntry xaE) :
    Calls Try.prog 5 #[(.agg (eEntry xaE).toArray)] w fun e w' => e = .returned (.bool true) ∧ Below w.heap.size w w' := by
  obtain ⟨xaE_0, xaE_1, xaE_2⟩ := xaE
  have hsaE : xaE_1.size ≤ 9223372036854775807 := by have := gaE.2.1; unfold maxLen at this; exact Nat.le_trans this (by decide)
  have hw0 := (Below.refl w.heap.size w).alloc (Nat.le_refl _) (.cells (eEntry (xaE_0, xaE_1, xaE_2)).toArray 31)
  have hlt0 : w.heap.size < (w.alloc (.cells (eEntry (xaE_0, xaE_1, xaE_2)).toArray 31)).heap.size := by simp
  have cellaE_0 := new_cell w (eEntry (xaE_0, xaE_1, xaE_2)).toArray 31 0 _ rfl
  have cellaE_1 := new_cell w (eEntry (xaE_0, xaE_1, xaE_2)).toArray 31 1 _ rfl
  have cellaE_2 := new_cell w (eEntry (xaE_0, xaE_1, xaE_2)).toArray 31 2 _ rfl
  by_cases z_aE : (xaE_1.size : Int) ≤ 1048576
  case neg =>
    go_enter Try.func5, Try.ntmps5
    go_wp2_with fail
    generalize w.alloc (.cells (eEntry (xaE_0, xaE_1, xaE_2)).toArray 31) = w0 at hw0 hlt0 cellaE_0 cellaE_1 cellaE_2 ⊢
    have B := Below.refl w0.heap.size w0
    refine (szEntry_no _ _ _ _ _ hsaE (by omega) (by omega) (by omega)).mono ?_; rintro e wz ⟨rfl, hbz⟩; replace B := below_step B hbz; clear hbz
    go_wp2_with fail
    go_ret
    exact ⟨rfl, below_step hw0 B⟩
  go_enter Try.func5, Try.ntmps5
  go_wp2_with fail
  generalize w.alloc (.cells (eEntry (xaE_0, xaE_1, xaE_2)).toArray 31) = w0 at hw0 hlt0 cellaE_0 cellaE_1 cellaE_2 ⊢
  have B := Below.refl w0.heap.size w0
  refine (szEntry_yes _ _ _ _ _ hsaE (by omega) (by omega) (by omega)).mono ?_; rintro e wz ⟨rfl, hbz⟩; replace B := below_step B hbz; clear hbz
  have now0 := (B.cell (p := ⟨w.heap.size, 0, none⟩) hlt0).trans cellaE_0
  have now1 := (B.cell (p := ⟨w.heap.size, 1, none⟩) hlt0).trans cellaE_1
  have now2 := (B.cell (p := ⟨w.heap.size, 2, none⟩) hlt0).trans cellaE_2
  go_wp2_with fail
  refine (toEntry _ _ _ _).mono ?_
  rintro e w1 ⟨rfl, hb1⟩
  replace B := below_step B hb1
  clear hb1
  clear now0 now1 now2
  go_wp2_with fail
  refine (entry_spec _ _ _ _).mono ?_
  rintro e w2 ⟨rfl, hb2⟩
  replace B := below_step B hb2
  clear hb2
  have now0 := (B.cell (p := ⟨w.heap.size, 0, none⟩) hlt0).trans cellaE_0
  have now1 := (B.cell (p := ⟨w.heap.size, 1, none⟩) hlt0).trans cellaE_1
  have now2 := (B.cell (p := ⟨w.heap.size, 2, none⟩) hlt0).trans cellaE_2
  go_wp2_with fail
  refine (toEntry _ _ _ _).mono ?_
  rintro e w3 ⟨rfl, hb3⟩
  replace B := below_step B hb3
  clear hb3
  clear now0 now1 now2
  go_wp2_with fail
  refine (entry_impl _ _ _ _).mono ?_
  rintro e w4 ⟨rfl, hb4⟩
  replace B := below_step B hb4
  clear hb4
  go_wp2_with fail
  go_ret
  exact ⟨rfl, below_step hw0 B⟩

set_option maxRecDepth 100000 in
theorem FnExactValidEntry_lifted (os : Os) (started : os.Started) (H : Type) (enc : TypeId × Value → H) :
    ReturnsInHanded {} Try.checked os 5 .any (Rows.fnExactValidEntrySpec.pre6 enc Try.prog Try.f5 Rows.fnExactValidEntryRow.domain false) (Rows.fnExactValidEntrySpec.post enc Try.prog Try.f5 false true false false) := by
  refine returnsInHanded_of_change (C := Try.checked) own_knob started (by kernel_rfl) Try.func5
    (ChangeSpec.witness6 (enc := enc) (C := Try.checked) false ⟨#[], #[.agg #[.int .i64 0, .string ByteArray.empty, .int .i64 0]], []⟩ 8 (by kernel_rfl) (by kernel_rfl) (by kernel_rfl) (by kernel_rfl)) ?_
  intro W base args ds gs before hval0 hW hcnd _
  have hval : ∀ (j : Nat) t v, Try.f5.params[j]? = some t → args[j]? = some v → Value.okWide Try.prog W .any base t v := hval0
  have hW' := hW
  obtain ⟨p, q, hA0, hV, rfl, hfz, hnd⟩ := hW
  have hA : DataW.TrodAll enc Try.prog W 0 (fun _ => true) true Try.f5.params.toList args.toList ds p := hA0
  rw [Try.params5] at hA hval
  obtain ⟨v0, vs0, d0, ds0, p0, q0, hargs, rfl, rfl, h0, r0⟩ := trodAll_cons hA
  obtain ⟨rfl, rfl, rfl⟩ := trodAll_nil r0
  obtain rfl : args = #[v0] := by cases args; simp_all
  obtain ⟨rfl, rfl⟩ := trodVars_none hV
  have k0 := h0
  have lt0 : ∀ x ∈ p0, x.block < W.heap.size := by obtain ⟨m, hm⟩ := k0; exact DataW.trod_lt m _ _ _ hm
  obtain ⟨x0, rfl, wf0⟩ := agg_of_Entry (hval 0 31 v0 rfl rfl) h0
  refine (law_FnExactValidEntry W x0 wf0).mono fun e W' ⟨he, bel⟩ => ?_
  subst he
  exact ⟨_, rfl, _, _, _, [], _, [], hW', trodAll_mk1 (shut_bool Try.underlying4 _), (trodAll_cons_mk (Below.trod laid_out (by kernel_rfl) (of_decide_eq_true (by kernel_rfl)) k0 bel lt0) trodAll_mk0), rfl, bel.frame _, fun h => by cases h⟩

theorem FnExactValidEntry_closed : joinedFacts Try.pinned.checked.prog 5 Try.f5 Rows.fnExactValidEntrySpec Rows.fnExactValidEntryRow = true := by
  unfold joinedFacts; rw [seat_enter, seat_lifts, seat_make]; kernel_rfl

theorem FnExactValidEntry_named : Try.pinned.checked.prog.funcNamed Rows.fnExactValidEntryRow.func = some 5 := by kernel_rfl

theorem FnExactValidEntry_holds : Rows.FnExactValidEntrySaid :=
  OpenClaim.holds_of_wide 5 Try.f5 rfl rfl rfl rfl rfl rfl rfl ⟨rfl, rfl, rfl, rfl, rfl⟩ rfl rfl rfl rfl rfl FnExactValidEntry_named Try.func5 FnExactValidEntry_closed
    (of_decide_eq_true (by kernel_rfl)) (by unfold Func.isWrapper; first | (rw [if_pos (by decide +kernel)]; kernel_rfl) | (rw [if_neg (by decide +kernel)]; exact ⟨rfl, rfl⟩))
    (fun os started H enc _ => FnExactValidEntry_lifted os started H enc)
#print axioms FnExactValidEntry_holds

end Go.Proofs.Ytfgbjfhhkbdimaa
