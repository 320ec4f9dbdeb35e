/- FnExactNamesIn: for all arguments the program's NamesIn returns what the reference's returns, leaves its arguments as they are, and returns memory of its own. No condition. -/
import Derived.Test.YtklepmeiaiihhaaDoorLNam
import Derived.Test.YtklepmeiaiihhaaDoorCards
import Derived.Test.YtklepmeiaiihhaaDoorTie
import Derived.LaidMore
import Derived.Lay
import Derived.LaidHandle
import Derived.Stop.LaidErr
import Derived.Stop.Joined
import Derived.SevenTiedAt
namespace Go.Proofs.YtklepmeiaiihhaaDoor
open Go Go.RowKit Go.ChangeShapes Go.WideShapes
set_option linter.unusedSimpArgs false
set_option linter.unusedVariables false


set_option maxRecDepth 100000 in
set_option maxHeartbeats 2000000 in
theorem law_FnExactNamesIn (w : World) (aLog : ByteArray) (haLog : aLog.size ≤ maxLen) (hsh : Shop w) :
    Calls Tryd.prog 9 #[.string aLog] w fun e w' => e = .returned (.bool true) ∧ Below w.heap.size w w' := by
  have B := Below.refl w.heap.size w
  have HSH := hd hsh
  clear hsh
  by_cases z_aLog : aLog.size ≤ 1048576
  case neg =>
    go_enter Tryd.func9, Tryd.ntmps9
    go_wp2_with fail
    go_ret
    exact ⟨rfl, B⟩
  have q_len := namesR_len aLog
  go_enter Tryd.func9, Tryd.ntmps9
  go_wp2_with fail
  refine (nam_spec _ _ (by omega)).mono ?_
  rintro e w1 ⟨v_w0, rfl, O_w0, hb1⟩
  replace O_w0 := O_w0.base B.size
  replace B := below_step B hb1
  clear hb1
  go_wp2_with fail
  refine (nam_impl _ _ (by omega) (HSH.out.below B)).mono ?_
  rintro e w2 ⟨v_g0, rfl, O_g0, hb2⟩
  have ne_w0_g0 := own_ne O_w0 O_g0
  replace O_w0 := O_w0.below hb2 (Nat.le_refl _)
  replace O_g0 := O_g0.base B.size
  replace B := below_step B hb2
  clear hb2
  go_wp2_with fail
  refine (eqStrs _ _ _ _ _ (O_g0.sl eS_len) (O_w0.sl eS_len)).mono ?_
  rintro e w3 ⟨rfl, n3, rfl⟩
  replace O_w0 := O_w0.drewN n3
  replace O_g0 := O_g0.drewN n3
  replace B := below_drewN B n3
  go_wp2_with fail
  refine (markStrs _ _ _ _ _ O_g0 1 (by omega)).mono ?_
  rintro e w4 ⟨rfl, P4, hg4⟩
  have B4 := B.grown hg4 B.size (fun g hg => (O_g0.lt g hg).1)
  replace O_w0 := O_w0.grown hg4 ne_w0_g0
  clear O_g0 B hg4
  have O_g0 := P4
  have B := B4
  clear P4 B4
  go_wp2_with fail
  refine (heldStrs _ _ 1 _ (O_g0.sl eS_len) (by omega)).mono ?_
  rintro e w5 ⟨rfl, hb5⟩
  replace O_w0 := O_w0.below hb5 (Nat.le_refl _)
  replace O_g0 := O_g0.below hb5 (Nat.le_refl _)
  replace B := below_step B hb5
  clear hb5
  go_wp2_with fail
  refine (nam_impl _ _ (by omega) (HSH.out.below B)).mono ?_
  rintro e w6 ⟨v_h0, rfl, O_h0, hb6⟩
  have ne_w0_h0 := own_ne O_w0 O_h0
  have ne_g0_h0 := own_ne O_g0 O_h0
  replace O_w0 := O_w0.below hb6 (Nat.le_refl _)
  replace O_g0 := O_g0.below hb6 (Nat.le_refl _)
  replace O_h0 := O_h0.base B.size
  replace B := below_step B hb6
  clear hb6
  go_wp2_with fail
  refine (eqStrs _ _ _ _ _ (O_h0.sl eS_len) (O_w0.sl eS_len)).mono ?_
  rintro e w7 ⟨rfl, n7, rfl⟩
  replace O_w0 := O_w0.drewN n7
  replace O_g0 := O_g0.drewN n7
  replace O_h0 := O_h0.drewN n7
  replace B := below_drewN B n7
  go_wp2_with fail
  refine (heldStrs _ _ 1 _ (O_g0.sl eS_len) (by omega)).mono ?_
  rintro e w8 ⟨rfl, hb8⟩
  replace O_w0 := O_w0.below hb8 (Nat.le_refl _)
  replace O_g0 := O_g0.below hb8 (Nat.le_refl _)
  replace O_h0 := O_h0.below hb8 (Nat.le_refl _)
  replace B := below_step B hb8
  clear hb8
  go_wp2_with fail
  go_ret
  exact ⟨rfl, B⟩


def FnExactNamesIn_laid : List (String × DataW Unit) := [("math/bits.deBruijn32tab", Rows.laid_math_bits_deBruijn32tab), ("math/bits.deBruijn64tab", Rows.laid_math_bits_deBruijn64tab), ("internal/strconv.uint64pow10", Rows.laid_internal_strconv_uint64pow10), ("unicode/utf8.acceptRanges", Rows.laid_unicode_utf8_acceptRanges), ("strconv.ErrRange", Rows.laid_strconv_ErrRange), ("strconv.ErrSyntax", Rows.laid_strconv_ErrSyntax), ("unicode/utf8.first", Rows.laid_unicode_utf8_first)]
set_option maxRecDepth 100000 in
theorem FnExactNamesIn_tab {W : World} (h0 : laidMetH Tryd.prog FnExactNamesIn_laid W) : Tab W := by
  rw [MakeChecks.laidMetH_plain _ _ _ (by kernel_rfl)] at h0
  have h : laidMet Tryd.prog FnExactNamesIn_laid W := h0
  exact Lib.tabIs_of_head (g := 3) (t := 143) (e := 116) (n := 20) (by kernel_rfl) (by kernel_rfl) Tryd.underlying143 Tryd.underlying116 (by kernel_rfl) (by kernel_rfl) (laidMet.tail (laidMet.tail h))
set_option maxRecDepth 100000 in
theorem FnExactNamesIn_errs {W : World} (h0 : laidMetH Tryd.prog FnExactNamesIn_laid W) : Errs W := by
  rw [MakeChecks.laidMetH_plain _ _ _ (by kernel_rfl)] at h0
  have h : laidMet Tryd.prog FnExactNamesIn_laid W := h0
  exact ⟨syntax_of_laid (laidMet.tail (laidMet.tail (laidMet.tail (laidMet.tail (laidMet.tail h))))), range_of_laid (laidMet.tail (laidMet.tail (laidMet.tail (laidMet.tail h))))⟩
set_option maxRecDepth 100000 in
theorem FnExactNamesIn_lifted (os : Os) (started : os.Started) (H : Type) (enc : TypeId × Value → H) :
    ReturnsInHanded {} Tryd.checked os 9 .any (fun w args => (Rows.fnExactNamesInSpec.pre enc Tryd.prog Tryd.f9 [] false w args ∧ laidMetH Tryd.prog FnExactNamesIn_laid w) ∧ sizedMet enc Tryd.prog Tryd.f9 (OpenSpec.ofChange Rows.fnExactNamesInSpec) false w args)
      (Rows.fnExactNamesInSpec.post enc Tryd.prog Tryd.f9 false true false false) := by
  refine handed_shop (C := Tryd.checked) (X := fun w _ => laidMetH Tryd.prog FnExactNamesIn_laid w) (fun _ _ _ hh h => h.of_heap hh) own_knob started (by kernel_rfl) Tryd.func9
    (ChangeSpec.witness_shaped (enc := enc) (C := Tryd.checked) (os := os) (X := fun w _ => laidMetH Tryd.prog FnExactNamesIn_laid w) false (World.laidAll Tryd.prog os FnExactNamesIn_laid) #[.string ByteArray.empty] 8 (World.laidAll_os _ _ _) (World.shaped_of_ZipB (by kernel_rfl) (by kernel_rfl)) (by kernel_rfl) (by kernel_rfl) (by kernel_rfl)
      (by rw [MakeChecks.laidMetH_plain _ _ _ (by kernel_rfl)]; exact laidMet_laidAll _ (by kernel_rfl) (by kernel_rfl))) ?_
  intro W base args ds gs before hval0 hW hL hsh
  have hval : ∀ (j : Nat) t v, Tryd.f9.params[j]? = some t → args[j]? = some v → Value.okWide Tryd.prog W .any base t v := hval0
  have hW' := hW
  obtain ⟨p, q, hA0, hV, rfl, hfz, hnd⟩ := hW
  have hA : DataW.TrodAll enc Tryd.prog W 0 (fun _ => true) true Tryd.f9.params.toList args.toList ds p := hA0
  rw [Tryd.params9] at hA hval
  obtain ⟨v0, vs0, d0, ds0, p0, q0, hargs, rfl, rfl, h0, r0⟩ := trodAll_cons hA
  obtain ⟨rfl, rfl, rfl⟩ := trodAll_nil r0
  obtain rfl : args = #[v0] := by cases args; simp_all
  obtain ⟨rfl, rfl⟩ := trodVars_none hV
  have k0 := h0
  have lt0 : ∀ x ∈ p0, x.block < W.heap.size := by obtain ⟨m, hm⟩ := k0; exact DataW.trod_lt m _ _ _ hm
  obtain ⟨s0, rfl, _, _, wf0⟩ := Go.ChangeMaps.open_string Tryd.underlying9 (hval 0 9 v0 rfl rfl) h0
  refine (law_FnExactNamesIn W s0 wf0 ⟨FnExactNamesIn_tab hL, FnExactNamesIn_errs hL, maxL_of_shape hsh⟩).mono fun e W' ⟨he, bel⟩ => ?_
  subst he
  exact ⟨_, rfl, _, _, _, [], _, [], hW', trodAll_mk1 (shut_bool Tryd.underlying4 _), (trodAll_cons_mk (Below.trod laid_out (by kernel_rfl) (of_decide_eq_true (by kernel_rfl)) k0 bel lt0) trodAll_mk0), rfl, bel.frame _, fun h => by cases h⟩

theorem FnExactNamesIn_closed : joinedFacts Tryd.pinned.checked.prog 9 Tryd.f9 Rows.fnExactNamesInSpec Rows.fnExactNamesInRow = true := by kernel_rfl

theorem FnExactNamesIn_named : Tryd.pinned.checked.prog.funcNamed Rows.fnExactNamesInRow.func = some 9 := by kernel_rfl

theorem FnExactNamesIn_row : Rows.FnExactNamesInSaid :=
  OpenClaim.holds_of_wide 9 Tryd.f9 rfl rfl rfl rfl rfl rfl rfl ⟨rfl, rfl, rfl, rfl, rfl⟩ rfl rfl rfl rfl rfl FnExactNamesIn_named Tryd.func9 FnExactNamesIn_closed
    (of_decide_eq_true (by kernel_rfl)) (by unfold Func.isWrapper; first | (rw [if_pos (by decide +kernel)]; kernel_rfl) | (rw [if_neg (by decide +kernel)]; exact ⟨rfl, rfl⟩))
    (fun os started H enc _ => FnExactNamesIn_lifted os started H enc)


theorem FnExactNamesIn_holds : Rows.FnExactNamesInCardSaid :=
  Claim7.holds_tied_plain_at .later [] [.data, .data, .data, .data, .sentinel, .sentinel, .pinned] true Rows.fnExactNamesInCard.stood.harness true
    FnExactNamesIn_row (fun _ h => by cases h) (by kernel_rfl) (fun _ h => by cases h) fnExactNamesIn_row_tie rfl ⟨rfl, rfl⟩ (by kernel_rfl) rfl
    (fun f fn hf hfn => by
      obtain rfl : f = 9 := (Option.some.inj (FnExactNamesIn_named.symm.trans hf)).symm
      obtain rfl : fn = Tryd.f9 := (Option.some.inj (Tryd.func9.symm.trans hfn)).symm
      exact ⟨by kernel_rfl, fun j t ht => by
        rw [Tryd.params9] at ht
        have hm : t ∈ [9] := by simpa using Array.mem_of_getElem? ht
        have hall : ([9].all fun u => !Tryd.prog.wantsStandIn u) = true := by kernel_rfl
        exact (show Tryd.prog.wantsStandIn t = false by simpa using List.all_eq_true.1 hall t hm)⟩)
    (by kernel_rfl)
#print axioms FnExactNamesIn_holds

end Go.Proofs.YtklepmeiaiihhaaDoor
