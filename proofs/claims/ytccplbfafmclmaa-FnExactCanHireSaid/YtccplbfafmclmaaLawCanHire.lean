/- FnExactCanHire: for all arguments the program's CanHire returns what the reference's returns, leaves its arguments as they are, and returns memory of its own. No condition. -/
import Derived.Test.YtccplbfafmclmaaOut2
import Derived.Deep.RegionHeld3
namespace Go.Proofs.Ytccplbfafmclmaa
open Go Go.RowKit Go.ChangeShapes Go.WideShapes
set_option linter.unusedSimpArgs false
set_option linter.unusedVariables false


set_option maxHeartbeats 2000000 in
theorem law_FnExactCanHire (w : World) (vaStock : Value) (laStock : List Int) (SaStock : Sl w 1 vaStock eI laStock) (raStock : ∀ x ∈ laStock, -9223372036854775808 ≤ x ∧ x ≤ 9223372036854775807) (vaList : Value) (laList : List THire) (SaList : Sl w 3 vaList eHire laList) (raList : ∀ x ∈ laList, okHire x) (xaX : THire) (gaX : okHire xaX) :
    Calls Try.prog 8 #[vaStock, vaList, (.agg (eHire xaX).toArray)] w fun e w' => e = .returned (.bool true) ∧ Below w.heap.size w w' := by
  have maStock := SaStock.len
  obtain ⟨-, AaStock, caStock, rfl, -, -, -⟩ := id SaStock
  have maList := SaList.len
  obtain ⟨-, AaList, caList, rfl, -, -, -⟩ := id SaList
  obtain ⟨xaX_0, xaX_1, xaX_2⟩ := xaX
  have hw0 := (Below.refl w.heap.size w).alloc (Nat.le_refl _) (.cells (eHire (xaX_0, xaX_1, xaX_2)).toArray 59)
  have hlt0 : w.heap.size < (w.alloc (.cells (eHire (xaX_0, xaX_1, xaX_2)).toArray 59)).heap.size := by simp
  have cellaX_0 := new_cell w (eHire (xaX_0, xaX_1, xaX_2)).toArray 59 0 _ rfl
  have cellaX_1 := new_cell w (eHire (xaX_0, xaX_1, xaX_2)).toArray 59 1 _ rfl
  have cellaX_2 := new_cell w (eHire (xaX_0, xaX_1, xaX_2)).toArray 59 2 _ rfl
  replace SaStock := SaStock.alloc (.cells (eHire (xaX_0, xaX_1, xaX_2)).toArray 59)
  replace SaList := SaList.alloc (.cells (eHire (xaX_0, xaX_1, xaX_2)).toArray 59)
  by_cases z_aStock : laStock.length ≤ 1048576
  case neg =>
    go_enter Try.func8, Try.ntmps8
    go_wp2_with fail
    generalize w.alloc (.cells (eHire (xaX_0, xaX_1, xaX_2)).toArray 59) = w0 at hw0 hlt0 cellaX_0 cellaX_1 cellaX_2 SaStock SaList ⊢
    have B := Below.refl w0.heap.size w0
    go_ret
    exact ⟨rfl, hw0⟩
  by_cases z_aList : (laList.length : Int) ≤ 1048576
  case neg =>
    go_enter Try.func8, Try.ntmps8
    go_wp2_with fail
    generalize w.alloc (.cells (eHire (xaX_0, xaX_1, xaX_2)).toArray 59) = w0 at hw0 hlt0 cellaX_0 cellaX_1 cellaX_2 SaStock SaList ⊢
    have B := Below.refl w0.heap.size w0
    refine (szHires_no _ _ _ SaList _ (by omega) (by omega) (by omega)).mono ?_; rintro e w' ⟨rfl, rfl⟩
    go_wp2_with fail
    go_ret
    exact ⟨rfl, hw0⟩
  go_enter Try.func8, Try.ntmps8
  go_wp2_with fail
  generalize w.alloc (.cells (eHire (xaX_0, xaX_1, xaX_2)).toArray 59) = w0 at hw0 hlt0 cellaX_0 cellaX_1 cellaX_2 SaStock SaList ⊢
  have B := Below.refl w0.heap.size w0
  refine (szHires_yes _ _ _ SaList _ (by omega) (by omega) (by omega)).mono ?_; rintro e w' ⟨rfl, rfl⟩
  go_wp2_with fail
  have s0_0 := (B.cell (p := ⟨w.heap.size, 0, none⟩) hlt0).trans cellaX_0
  have s0_1 := (B.cell (p := ⟨w.heap.size, 1, none⟩) hlt0).trans cellaX_1
  have s0_2 := (B.cell (p := ⟨w.heap.size, 2, none⟩) hlt0).trans cellaX_2
  go_region_held3 (fun ww => ww.cell? ⟨w.heap.size, 0, none⟩ = some (.int .i64 xaX_0) ∧ ww.cell? ⟨w.heap.size, 1, none⟩ = some (.int .i64 xaX_1) ∧ ww.cell? ⟨w.heap.size, 2, none⟩ = some (.int .i64 xaX_2)) (first | exact ⟨s4_0, s4_1, s4_2⟩ | exact ⟨s3_0, s3_1, s3_2⟩ | exact ⟨s2_0, s2_1, s2_2⟩ | exact ⟨s1_0, s1_1, s1_2⟩ | exact ⟨s0_0, s0_1, s0_2⟩)
    (first | (go_at_call 34; replace B := below_drewN B 1; refine (toInts _ _ _ (SaStock.below B) (by omega)).mono ?_; rintro e w1 ⟨v_c1, rfl, O_c1, hb1⟩; replace O_c1 := O_c1.base B.size; replace B := below_step B hb1; clear hb1; have s1_0 := (B.cell (p := ⟨w.heap.size, 0, none⟩) hlt0).trans cellaX_0; have s1_1 := (B.cell (p := ⟨w.heap.size, 1, none⟩) hlt0).trans cellaX_1; have s1_2 := (B.cell (p := ⟨w.heap.size, 2, none⟩) hlt0).trans cellaX_2) | (go_at_call 35; refine (toHires _ _ _ (SaList.below B) (by omega)).mono ?_; rintro e w2 ⟨v_c2, rfl, O_c2, hb2⟩; replace O_c1 := O_c1.below hb2 (Nat.le_refl _); replace O_c2 := O_c2.base B.size; replace B := below_step B hb2; clear hb2; have s2_0 := (B.cell (p := ⟨w.heap.size, 0, none⟩) hlt0).trans cellaX_0; have s2_1 := (B.cell (p := ⟨w.heap.size, 1, none⟩) hlt0).trans cellaX_1; have s2_2 := (B.cell (p := ⟨w.heap.size, 2, none⟩) hlt0).trans cellaX_2) | (go_at_call 54; refine (toHire _ _ _ _).mono ?_; rintro e w3 ⟨rfl, hb3⟩; replace O_c1 := O_c1.below hb3 (Nat.le_refl _); replace O_c2 := O_c2.below hb3 (Nat.le_refl _); replace B := below_step B hb3; clear hb3; have s3_0 := (B.cell (p := ⟨w.heap.size, 0, none⟩) hlt0).trans cellaX_0; have s3_1 := (B.cell (p := ⟨w.heap.size, 1, none⟩) hlt0).trans cellaX_1; have s3_2 := (B.cell (p := ⟨w.heap.size, 2, none⟩) hlt0).trans cellaX_2) | (go_at_call 53; refine (canHire_spec _ _ _ (O_c1.sl eI_len) _ _ (O_c2.sl eHire_len) _ _ _).mono ?_; rintro e w4 ⟨rfl, hb4⟩; replace O_c1 := O_c1.below hb4 (Nat.le_refl _); replace O_c2 := O_c2.below hb4 (Nat.le_refl _); replace B := below_step B hb4; clear hb4; have s4_0 := (B.cell (p := ⟨w.heap.size, 0, none⟩) hlt0).trans cellaX_0; have s4_1 := (B.cell (p := ⟨w.heap.size, 1, none⟩) hlt0).trans cellaX_1; have s4_2 := (B.cell (p := ⟨w.heap.size, 2, none⟩) hlt0).trans cellaX_2))
  clear s0_0 s0_1 s0_2 s1_0 s1_1 s1_2 s2_0 s2_1 s2_2 s3_0 s3_1 s3_2 s4_0 s4_1 s4_2
  clear O_c1
  clear O_c2
  go_wp2_with fail
  refine (toInts _ _ _ (SaStock.below B) (by omega)).mono ?_
  rintro e w5 ⟨v_x0, rfl, O_x0, hb5⟩
  replace O_x0 := O_x0.base B.size
  replace B := below_step B hb5
  clear hb5
  go_wp2_with fail
  refine (toHires _ _ _ (SaList.below B) (by omega)).mono ?_
  rintro e w6 ⟨v_x1, rfl, O_x1, hb6⟩
  replace O_x0 := O_x0.below hb6 (Nat.le_refl _)
  replace O_x1 := O_x1.base B.size
  replace B := below_step B hb6
  clear hb6
  have now0 := (B.cell (p := ⟨w.heap.size, 0, none⟩) hlt0).trans cellaX_0
  have now1 := (B.cell (p := ⟨w.heap.size, 1, none⟩) hlt0).trans cellaX_1
  have now2 := (B.cell (p := ⟨w.heap.size, 2, none⟩) hlt0).trans cellaX_2
  go_wp2_with fail
  refine (toHire _ _ _ _).mono ?_
  rintro e w7 ⟨rfl, hb7⟩
  replace O_x0 := O_x0.below hb7 (Nat.le_refl _)
  replace O_x1 := O_x1.below hb7 (Nat.le_refl _)
  replace B := below_step B hb7
  clear hb7
  clear now0 now1 now2
  go_wp2_with fail
  refine (canHire_impl _ _ _ (O_x0.sl eI_len) _ _ (O_x1.sl eHire_len) _ _ _).mono ?_
  rintro e w8 ⟨rfl, hb8⟩
  replace O_x0 := O_x0.below hb8 (Nat.le_refl _)
  replace O_x1 := O_x1.below hb8 (Nat.le_refl _)
  replace B := below_step B hb8
  clear hb8
  go_wp2_with fail
  refine (toInts _ _ _ (SaStock.below B) (by omega)).mono ?_
  rintro e w9 ⟨v_c8, rfl, O_c8, hb9⟩
  replace O_x0 := O_x0.below hb9 (Nat.le_refl _)
  replace O_x1 := O_x1.below hb9 (Nat.le_refl _)
  replace O_c8 := O_c8.base B.size
  replace B := below_step B hb9
  clear hb9
  go_wp2_with fail
  refine (eqInts _ _ _ _ _ (O_x0.sl eI_len) (O_c8.sl eI_len)).mono ?_
  rintro e w10 ⟨rfl, n10, rfl⟩
  replace O_x0 := O_x0.drewN n10
  replace O_x1 := O_x1.drewN n10
  replace O_c8 := O_c8.drewN n10
  replace B := below_drewN B n10
  clear O_c8
  go_wp2_with fail
  refine (toHires _ _ _ (SaList.below B) (by omega)).mono ?_
  rintro e w11 ⟨v_c10, rfl, O_c10, hb11⟩
  replace O_x0 := O_x0.below hb11 (Nat.le_refl _)
  replace O_x1 := O_x1.below hb11 (Nat.le_refl _)
  replace O_c10 := O_c10.base B.size
  replace B := below_step B hb11
  clear hb11
  go_wp2_with fail
  refine (eqHires _ _ _ _ _ (O_x1.sl eHire_len) (O_c10.sl eHire_len)).mono ?_
  rintro e w12 ⟨rfl, hb12⟩
  replace O_x0 := O_x0.below hb12 (Nat.le_refl _)
  replace O_x1 := O_x1.below hb12 (Nat.le_refl _)
  replace O_c10 := O_c10.below hb12 (Nat.le_refl _)
  replace B := below_step B hb12
  clear hb12
  clear O_c10
  go_wp2_with fail
  go_ret
  exact ⟨rfl, below_step hw0 B⟩

set_option maxRecDepth 100000 in
theorem FnExactCanHire_lifted (os : Os) (started : os.Started) (H : Type) (enc : TypeId × Value → H) :
    ReturnsInHanded {} Try.checked os 8 .any (Rows.fnExactCanHireSpec.pre6 enc Try.prog Try.f8 Rows.fnExactCanHireRow.domain false) (Rows.fnExactCanHireSpec.post enc Try.prog Try.f8 false true false false) := by
  refine returnsInHanded_of_change (C := Try.checked) own_knob started (by kernel_rfl) Try.func8
    (ChangeSpec.witness6 (enc := enc) (C := Try.checked) false ⟨#[], #[.slice none 0 0, .slice none 0 0, .agg #[.int .i64 0, .int .i64 0, .int .i64 0]], []⟩ 8 (by kernel_rfl) (by kernel_rfl) (by kernel_rfl) (by kernel_rfl)) ?_
  intro W base args ds gs before hval0 hW hcnd _
  have hval : ∀ (j : Nat) t v, Try.f8.params[j]? = some t → args[j]? = some v → Value.okWide Try.prog W .any base t v := hval0
  have hW' := hW
  obtain ⟨p, q, hA0, hV, rfl, hfz, hnd⟩ := hW
  have hA : DataW.TrodAll enc Try.prog W 0 (fun _ => true) true Try.f8.params.toList args.toList ds p := hA0
  rw [Try.params8] at hA hval
  obtain ⟨v0, vs0, d0, ds0, p0, q0, hargs, rfl, rfl, h0, r0⟩ := trodAll_cons hA
  obtain ⟨v1, vs1, d1, ds1, p1, q1, rfl, rfl, rfl, h1, r1⟩ := trodAll_cons r0
  obtain ⟨v2, vs2, d2, ds2, p2, q2, rfl, rfl, rfl, h2, r2⟩ := trodAll_cons r1
  obtain ⟨rfl, rfl, rfl⟩ := trodAll_nil r2
  obtain rfl : args = #[v0, v1, v2] := by cases args; simp_all
  obtain ⟨rfl, rfl⟩ := trodVars_none hV
  have k0 := h0
  have lt0 : ∀ x ∈ p0, x.block < W.heap.size := by obtain ⟨m, hm⟩ := k0; exact DataW.trod_lt m _ _ _ hm
  have k1 := h1
  have lt1 : ∀ x ∈ p1, x.block < W.heap.size := by obtain ⟨m, hm⟩ := k1; exact DataW.trod_lt m _ _ _ hm
  have k2 := h2
  have lt2 : ∀ x ∈ p2, x.block < W.heap.size := by obtain ⟨m, hm⟩ := k2; exact DataW.trod_lt m _ _ _ hm
  obtain ⟨l0, sl0, wf0⟩ := sl_of_i64s Try.underlying25 Try.underlying2 (by kernel_rfl) (hval 0 25 v0 rfl rfl) h0
  obtain ⟨l1, sl1, wf1⟩ := sl_of_Hires (hval 1 40 v1 rfl rfl) h1
  obtain ⟨x2, rfl, wf2⟩ := agg_of_Hire (hval 2 59 v2 rfl rfl) h2
  refine (law_FnExactCanHire W v0 l0 sl0 wf0 v1 l1 sl1 wf1 x2 wf2).mono fun e W' ⟨he, bel⟩ => ?_
  subst he
  exact ⟨_, rfl, _, _, _, [], _, [], hW', trodAll_mk1 (shut_bool Try.underlying4 _), (trodAll_cons_mk (Below.trod laid_out (by kernel_rfl) (of_decide_eq_true (by kernel_rfl)) k0 bel lt0) (trodAll_cons_mk (Below.trod laid_out (by kernel_rfl) (of_decide_eq_true (by kernel_rfl)) k1 bel lt1) (trodAll_cons_mk (Below.trod laid_out (by kernel_rfl) (of_decide_eq_true (by kernel_rfl)) k2 bel lt2) trodAll_mk0))), rfl, bel.frame _, fun h => by cases h⟩

theorem FnExactCanHire_closed : joinedFacts Try.pinned.checked.prog 8 Try.f8 Rows.fnExactCanHireSpec Rows.fnExactCanHireRow = true := by
  unfold joinedFacts; rw [seat_enter, seat_lifts, seat_make]; kernel_rfl

theorem FnExactCanHire_named : Try.pinned.checked.prog.funcNamed Rows.fnExactCanHireRow.func = some 8 := by kernel_rfl

theorem FnExactCanHire_holds : Rows.FnExactCanHireSaid :=
  OpenClaim.holds_of_wide 8 Try.f8 rfl rfl rfl rfl rfl rfl rfl ⟨rfl, rfl, rfl, rfl, rfl⟩ rfl rfl rfl rfl rfl FnExactCanHire_named Try.func8 FnExactCanHire_closed
    (of_decide_eq_true (by kernel_rfl)) (by unfold Func.isWrapper; first | (rw [if_pos (by decide +kernel)]; kernel_rfl) | (rw [if_neg (by decide +kernel)]; exact ⟨rfl, rfl⟩))
    (fun os started H enc _ => FnExactCanHire_lifted os started H enc)
#print axioms FnExactCanHire_holds

end Go.Proofs.Ytccplbfafmclmaa
