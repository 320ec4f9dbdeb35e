/- FnExactSumOfWhat: for all arguments the program's SumOfWhat returns what the reference's returns, leaves its arguments as they are, and returns memory of its own. No condition. -/
import Derived.Test.YtklepmeiaiihhaaDoorLSum
import Derived.Test.YtklepmeiaiihhaaDoorCards
import Derived.Test.YtklepmeiaiihhaaDoorTie
import Derived.LaidMore
import Derived.Lay
import Derived.LaidHandle
import Derived.Stop.LaidErr
import Derived.Stop.Joined
import Derived.SevenTiedAt
namespace Go.Proofs.YtklepmeiaiihhaaDoor
open Go Go.RowKit Go.ChangeShapes Go.WideShapes
set_option linter.unusedSimpArgs false
set_option linter.unusedVariables false


set_option maxRecDepth 100000 in
set_option maxHeartbeats 2000000 in
theorem law_FnExactSumOfWhat (w : World) (aLog : ByteArray) (haLog : aLog.size ≤ maxLen) (aWhat : ByteArray) (haWhat : aWhat.size ≤ maxLen) (aFrom : Int) (haFrom : -9223372036854775808 ≤ aFrom ∧ aFrom ≤ 9223372036854775807) (aTo : Int) (haTo : -9223372036854775808 ≤ aTo ∧ aTo ≤ 9223372036854775807) (hsh : Shop w) :
    Calls Tryd.prog 10 #[.string aLog, .string aWhat, .int .i64 aFrom, .int .i64 aTo] w fun e w' => e = .returned (.bool true) ∧ Below w.heap.size w w' := by
  have B := Below.refl w.heap.size w
  have HSH := hd hsh
  clear hsh
  by_cases z_aLog : aLog.size ≤ 1048576
  case neg =>
    go_enter Tryd.func10, Tryd.ntmps10
    go_wp2_with fail
    go_ret
    exact ⟨rfl, B⟩
  by_cases z_aWhat : aWhat.size ≤ 1048576
  case neg =>
    go_enter Tryd.func10, Tryd.ntmps10
    go_wp2_with fail
    go_ret
    exact ⟨rfl, B⟩
  go_enter Tryd.func10, Tryd.ntmps10
  go_wp2_with fail
  refine (sum_spec _ _ _ _ _ (by omega) (by omega)).mono ?_
  rintro e w1 ⟨rfl, hb1⟩
  replace B := below_step B hb1
  clear hb1
  go_wp2_with fail
  refine (sum_impl _ _ _ _ _ (by omega) (by omega) (HSH.out.below B)).mono ?_
  rintro e w2 ⟨rfl, hb2⟩
  replace B := below_step B hb2
  clear hb2
  go_wp2_with fail
  go_ret
  exact ⟨rfl, B⟩


def FnExactSumOfWhat_laid : List (String × DataW Unit) := [("math/bits.deBruijn32tab", Rows.laid_math_bits_deBruijn32tab), ("math/bits.deBruijn64tab", Rows.laid_math_bits_deBruijn64tab), ("internal/strconv.uint64pow10", Rows.laid_internal_strconv_uint64pow10), ("unicode/utf8.acceptRanges", Rows.laid_unicode_utf8_acceptRanges), ("strconv.ErrRange", Rows.laid_strconv_ErrRange), ("strconv.ErrSyntax", Rows.laid_strconv_ErrSyntax), ("unicode/utf8.first", Rows.laid_unicode_utf8_first)]
set_option maxRecDepth 100000 in
theorem FnExactSumOfWhat_tab {W : World} (h0 : laidMetH Tryd.prog FnExactSumOfWhat_laid W) : Tab W := by
  rw [MakeChecks.laidMetH_plain _ _ _ (by kernel_rfl)] at h0
  have h : laidMet Tryd.prog FnExactSumOfWhat_laid W := h0
  exact Lib.tabIs_of_head (g := 3) (t := 143) (e := 116) (n := 20) (by kernel_rfl) (by kernel_rfl) Tryd.underlying143 Tryd.underlying116 (by kernel_rfl) (by kernel_rfl) (laidMet.tail (laidMet.tail h))
set_option maxRecDepth 100000 in
theorem FnExactSumOfWhat_errs {W : World} (h0 : laidMetH Tryd.prog FnExactSumOfWhat_laid W) : Errs W := by
  rw [MakeChecks.laidMetH_plain _ _ _ (by kernel_rfl)] at h0
  have h : laidMet Tryd.prog FnExactSumOfWhat_laid W := h0
  exact ⟨syntax_of_laid (laidMet.tail (laidMet.tail (laidMet.tail (laidMet.tail (laidMet.tail h))))), range_of_laid (laidMet.tail (laidMet.tail (laidMet.tail (laidMet.tail h))))⟩
set_option maxRecDepth 100000 in
theorem FnExactSumOfWhat_lifted (os : Os) (started : os.Started) (H : Type) (enc : TypeId × Value → H) :
    ReturnsInHanded {} Tryd.checked os 10 .any (fun w args => (Rows.fnExactSumOfWhatSpec.pre enc Tryd.prog Tryd.f10 [] false w args ∧ laidMetH Tryd.prog FnExactSumOfWhat_laid w) ∧ sizedMet enc Tryd.prog Tryd.f10 (OpenSpec.ofChange Rows.fnExactSumOfWhatSpec) false w args)
      (Rows.fnExactSumOfWhatSpec.post enc Tryd.prog Tryd.f10 false true false false) := by
  refine handed_shop (C := Tryd.checked) (X := fun w _ => laidMetH Tryd.prog FnExactSumOfWhat_laid w) (fun _ _ _ hh h => h.of_heap hh) own_knob started (by kernel_rfl) Tryd.func10
    (ChangeSpec.witness_shaped (enc := enc) (C := Tryd.checked) (os := os) (X := fun w _ => laidMetH Tryd.prog FnExactSumOfWhat_laid w) false (World.laidAll Tryd.prog os FnExactSumOfWhat_laid) #[.string ByteArray.empty, .string ByteArray.empty, .int .i64 0, .int .i64 0] 8 (World.laidAll_os _ _ _) (World.shaped_of_ZipB (by kernel_rfl) (by kernel_rfl)) (by kernel_rfl) (by kernel_rfl) (by kernel_rfl)
      (by rw [MakeChecks.laidMetH_plain _ _ _ (by kernel_rfl)]; exact laidMet_laidAll _ (by kernel_rfl) (by kernel_rfl))) ?_
  intro W base args ds gs before hval0 hW hL hsh
  have hval : ∀ (j : Nat) t v, Tryd.f10.params[j]? = some t → args[j]? = some v → Value.okWide Tryd.prog W .any base t v := hval0
  have hW' := hW
  obtain ⟨p, q, hA0, hV, rfl, hfz, hnd⟩ := hW
  have hA : DataW.TrodAll enc Tryd.prog W 0 (fun _ => true) true Tryd.f10.params.toList args.toList ds p := hA0
  rw [Tryd.params10] at hA hval
  obtain ⟨v0, vs0, d0, ds0, p0, q0, hargs, rfl, rfl, h0, r0⟩ := trodAll_cons hA
  obtain ⟨v1, vs1, d1, ds1, p1, q1, rfl, rfl, rfl, h1, r1⟩ := trodAll_cons r0
  obtain ⟨v2, vs2, d2, ds2, p2, q2, rfl, rfl, rfl, h2, r2⟩ := trodAll_cons r1
  obtain ⟨v3, vs3, d3, ds3, p3, q3, rfl, rfl, rfl, h3, r3⟩ := trodAll_cons r2
  obtain ⟨rfl, rfl, rfl⟩ := trodAll_nil r3
  obtain rfl : args = #[v0, v1, v2, v3] := by cases args; simp_all
  obtain ⟨rfl, rfl⟩ := trodVars_none hV
  have k0 := h0
  have lt0 : ∀ x ∈ p0, x.block < W.heap.size := by obtain ⟨m, hm⟩ := k0; exact DataW.trod_lt m _ _ _ hm
  have k1 := h1
  have lt1 : ∀ x ∈ p1, x.block < W.heap.size := by obtain ⟨m, hm⟩ := k1; exact DataW.trod_lt m _ _ _ hm
  have k2 := h2
  have lt2 : ∀ x ∈ p2, x.block < W.heap.size := by obtain ⟨m, hm⟩ := k2; exact DataW.trod_lt m _ _ _ hm
  have k3 := h3
  have lt3 : ∀ x ∈ p3, x.block < W.heap.size := by obtain ⟨m, hm⟩ := k3; exact DataW.trod_lt m _ _ _ hm
  obtain ⟨s0, rfl, _, _, wf0⟩ := Go.ChangeMaps.open_string Tryd.underlying9 (hval 0 9 v0 rfl rfl) h0
  obtain ⟨s1, rfl, _, _, wf1⟩ := Go.ChangeMaps.open_string Tryd.underlying9 (hval 1 9 v1 rfl rfl) h1
  obtain ⟨a2, rfl, _, _, wf2⟩ := open_int Tryd.underlying2 (hval 2 2 v2 rfl rfl) h2
  obtain ⟨a3, rfl, _, _, wf3⟩ := open_int Tryd.underlying2 (hval 3 2 v3 rfl rfl) h3
  refine (law_FnExactSumOfWhat W s0 wf0 s1 wf1 a2 (i64_range wf2) a3 (i64_range wf3) ⟨FnExactSumOfWhat_tab hL, FnExactSumOfWhat_errs hL, maxL_of_shape hsh⟩).mono fun e W' ⟨he, bel⟩ => ?_
  subst he
  exact ⟨_, rfl, _, _, _, [], _, [], hW', trodAll_mk1 (shut_bool Tryd.underlying4 _), (trodAll_cons_mk (Below.trod laid_out (by kernel_rfl) (of_decide_eq_true (by kernel_rfl)) k0 bel lt0) (trodAll_cons_mk (Below.trod laid_out (by kernel_rfl) (of_decide_eq_true (by kernel_rfl)) k1 bel lt1) (trodAll_cons_mk (Below.trod laid_out (by kernel_rfl) (of_decide_eq_true (by kernel_rfl)) k2 bel lt2) (trodAll_cons_mk (Below.trod laid_out (by kernel_rfl) (of_decide_eq_true (by kernel_rfl)) k3 bel lt3) trodAll_mk0)))), rfl, bel.frame _, fun h => by cases h⟩

theorem FnExactSumOfWhat_closed : joinedFacts Tryd.pinned.checked.prog 10 Tryd.f10 Rows.fnExactSumOfWhatSpec Rows.fnExactSumOfWhatRow = true := by kernel_rfl

theorem FnExactSumOfWhat_named : Tryd.pinned.checked.prog.funcNamed Rows.fnExactSumOfWhatRow.func = some 10 := by kernel_rfl

theorem FnExactSumOfWhat_row : Rows.FnExactSumOfWhatSaid :=
  OpenClaim.holds_of_wide 10 Tryd.f10 rfl rfl rfl rfl rfl rfl rfl ⟨rfl, rfl, rfl, rfl, rfl⟩ rfl rfl rfl rfl rfl FnExactSumOfWhat_named Tryd.func10 FnExactSumOfWhat_closed
    (of_decide_eq_true (by kernel_rfl)) (by unfold Func.isWrapper; first | (rw [if_pos (by decide +kernel)]; kernel_rfl) | (rw [if_neg (by decide +kernel)]; exact ⟨rfl, rfl⟩))
    (fun os started H enc _ => FnExactSumOfWhat_lifted os started H enc)


theorem FnExactSumOfWhat_holds : Rows.FnExactSumOfWhatCardSaid :=
  Claim7.holds_tied_plain_at .later [] [.data, .data, .data, .data, .sentinel, .sentinel, .pinned] true Rows.fnExactSumOfWhatCard.stood.harness true
    FnExactSumOfWhat_row (fun _ h => by cases h) (by kernel_rfl) (fun _ h => by cases h) fnExactSumOfWhat_row_tie rfl ⟨rfl, rfl⟩ (by kernel_rfl) rfl
    (fun f fn hf hfn => by
      obtain rfl : f = 10 := (Option.some.inj (FnExactSumOfWhat_named.symm.trans hf)).symm
      obtain rfl : fn = Tryd.f10 := (Option.some.inj (Tryd.func10.symm.trans hfn)).symm
      exact ⟨by kernel_rfl, fun j t ht => by
        rw [Tryd.params10] at ht
        have hm : t ∈ [9, 9, 2, 2] := by simpa using Array.mem_of_getElem? ht
        have hall : ([9, 9, 2, 2].all fun u => !Tryd.prog.wantsStandIn u) = true := by kernel_rfl
        exact (show Tryd.prog.wantsStandIn t = false by simpa using List.all_eq_true.1 hall t hm)⟩)
    (by kernel_rfl)
#print axioms FnExactSumOfWhat_holds

end Go.Proofs.YtklepmeiaiihhaaDoor
