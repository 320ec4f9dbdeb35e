/- The law, by the joined texts. No condition. -/
import Derived.Test.YtgcodjkjdfahdaaGreatDoorJ50
import Derived.Test.YtgcodjkjdfahdaaGreatDoorJ16
import Derived.Test.YtgcodjkjdfahdaaGreatDoorCards
import Derived.Test.YtgcodjkjdfahdaaGreatDoorTie
import Derived.LaidMore
import Derived.Lay
import Derived.LaidHandle
import Derived.Stop.LaidErr
import Derived.Stop.Joined
import Derived.SevenTiedAt
/- FnExactRunDesk: for all arguments the program's RunDesk returns what the reference's returns. No condition. -/
namespace Go.Proofs.YtgcodjkjdfahdaaGreatDoor
open Go Go.RowKit Go.ChangeShapes Go.WideShapes
set_option linter.unusedSimpArgs false
set_option linter.unusedVariables false
set_option maxRecDepth 100000 in
set_option maxHeartbeats 4000000 in
theorem law_FnExactRunDesk (w : World) (s : ByteArray) (hs : s.size ≤ maxLen) (hsh : Shop w) (hnm : Names w) :
    Calls Tryz.prog 4 #[.string s] w fun e w' => e = .returned (.bool true) ∧ Below w.heap.size w w' := by
  have B := Below.refl w.heap.size w
  have HSH := hd hsh
  have HNM := hd hnm
  clear hsh hnm
  by_cases hz : s.size ≤ 1048576
  case neg =>
    have hz' : 1048576 < s.size := by omega
    unfold maxLen at hs
    go_enter Tryz.func4, Tryz.ntmps4
    go_wp2_with fail
    go_ret
    exact ⟨rfl, B⟩
  go_enter Tryz.func4, Tryz.ntmps4
  go_wp2_with fail
  refine (run_spec _ _ hz).mono ?_
  rintro e w1 ⟨rfl, hb1⟩
  replace B := below_step B hb1
  clear hb1
  go_wp2_with fail
  refine (run_impl _ _ hz (HSH.out.below B) (HNM.out.below B)).mono ?_
  rintro e w2 ⟨rfl, hb2⟩
  replace B := below_step B hb2
  clear hb2
  generalize runR s = t
  go_wp2_with fail
  go_ret
  exact ⟨by simp, B⟩


def FnExactRunDesk_laid : List (String × DataW Unit) := [("math/bits.deBruijn32tab", Rows.laid_math_bits_deBruijn32tab), ("math/bits.deBruijn64tab", Rows.laid_math_bits_deBruijn64tab), ("internal/strconv.uint64pow10", Rows.laid_internal_strconv_uint64pow10), ("unicode/utf8.acceptRanges", Rows.laid_unicode_utf8_acceptRanges), ("strconv.ErrRange", Rows.laid_strconv_ErrRange), ("strconv.ErrSyntax", Rows.laid_strconv_ErrSyntax), ("loop.example/g01063/impl.codeNames", Rows.laid_loop_example_g01063_impl_codeNames), ("unicode/utf8.first", Rows.laid_unicode_utf8_first)]
set_option maxRecDepth 100000 in
theorem FnExactRunDesk_tab {W : World} (h0 : laidMetH Tryz.prog FnExactRunDesk_laid W) : Tab W := by
  rw [MakeChecks.laidMetH_plain _ _ _ (by kernel_rfl)] at h0
  have h : laidMet Tryz.prog FnExactRunDesk_laid W := h0
  exact Lib.tabIs_of_head (g := 4) (t := 252) (e := 82) (n := 20) (by kernel_rfl) (by kernel_rfl) Tryz.underlying252 Tryz.underlying82 (by kernel_rfl) (by kernel_rfl) (laidMet.tail (laidMet.tail h))
set_option maxRecDepth 100000 in
theorem FnExactRunDesk_errs {W : World} (h0 : laidMetH Tryz.prog FnExactRunDesk_laid W) : Errs W := by
  rw [MakeChecks.laidMetH_plain _ _ _ (by kernel_rfl)] at h0
  have h : laidMet Tryz.prog FnExactRunDesk_laid W := h0
  exact ⟨syntax_of_laid (laidMet.tail (laidMet.tail (laidMet.tail (laidMet.tail (laidMet.tail h))))), range_of_laid (laidMet.tail (laidMet.tail (laidMet.tail (laidMet.tail h))))⟩
set_option maxRecDepth 100000 in
theorem FnExactRunDesk_names {W : World} (h0 : laidMetH Tryz.prog FnExactRunDesk_laid W) : Names W := by
  rw [MakeChecks.laidMetH_plain _ _ _ (by kernel_rfl)] at h0
  have h : laidMet Tryz.prog FnExactRunDesk_laid W := h0
  obtain ⟨ps, ⟨g', t', cs, fuel, p, q, hg', ht', hvar, hd, _, _⟩, _⟩ := (laidMet.tail (laidMet.tail (laidMet.tail (laidMet.tail (laidMet.tail (laidMet.tail h))))))
  obtain rfl : g' = 0 := (Option.some.inj (hg'.symm.trans (by kernel_rfl)))
  exact names_of_var (var_of_names hvar ht' hd)
set_option maxRecDepth 100000 in
theorem FnExactRunDesk_lifted (os : Os) (started : os.Started) (H : Type) (enc : TypeId × Value → H) :
    ReturnsInHanded {} Tryz.checked os 4 .any (fun w args => (Rows.fnExactRunDeskSpec.pre enc Tryz.prog Tryz.f4 [] false w args ∧ laidMetH Tryz.prog FnExactRunDesk_laid w) ∧ sizedMet enc Tryz.prog Tryz.f4 (OpenSpec.ofChange Rows.fnExactRunDeskSpec) false w args)
      (Rows.fnExactRunDeskSpec.post enc Tryz.prog Tryz.f4 false true false false) := by
  refine handed_shop (C := Tryz.checked) (X := fun w _ => laidMetH Tryz.prog FnExactRunDesk_laid w) (fun _ _ _ hh h => h.of_heap hh) own_knob started (by kernel_rfl) Tryz.func4
    (ChangeSpec.witness_shaped (enc := enc) (C := Tryz.checked) (os := os) (X := fun w _ => laidMetH Tryz.prog FnExactRunDesk_laid w) false (World.laidAll Tryz.prog os FnExactRunDesk_laid) #[.string ByteArray.empty] 8 (World.laidAll_os _ _ _) (World.shaped_of_ZipB (by kernel_rfl) (by kernel_rfl)) (by kernel_rfl) (by kernel_rfl) (by kernel_rfl)
      (by rw [MakeChecks.laidMetH_plain _ _ _ (by kernel_rfl)]; exact laidMet_laidAll _ (by kernel_rfl) (by kernel_rfl))) ?_
  intro W base args ds gs before hval0 hW hL hsh
  have hval : ∀ (j : Nat) t v, Tryz.f4.params[j]? = some t → args[j]? = some v → Value.okWide Tryz.prog W .any base t v := hval0
  have hW' := hW
  obtain ⟨p, q, hA0, hV, rfl, hfz, hnd⟩ := hW
  have hA : DataW.TrodAll enc Tryz.prog W 0 (fun _ => true) true Tryz.f4.params.toList args.toList ds p := hA0
  rw [Tryz.params4] at hA hval
  obtain ⟨v0, vs0, d0, ds0, p0, q0, hargs, rfl, rfl, h0, r0⟩ := trodAll_cons hA
  obtain ⟨rfl, rfl, rfl⟩ := trodAll_nil r0
  obtain rfl : args = #[v0] := by cases args; simp_all
  have k0 := h0
  have lt0 : ∀ x ∈ p0, x.block < W.heap.size := by obtain ⟨m, hm⟩ := k0; exact DataW.trod_lt m _ _ _ hm
  obtain ⟨s0, rfl, _, _, wf0⟩ := Go.ChangeMaps.open_string Tryz.underlying9 (hval 0 9 v0 rfl rfl) h0
  refine (law_FnExactRunDesk W s0 wf0 ⟨FnExactRunDesk_tab hL, FnExactRunDesk_errs hL, maxL_of_shape hsh⟩ (FnExactRunDesk_names hL)).mono fun e W' ⟨he, bel⟩ => ?_
  subst he
  obtain ⟨gv, rfl, pv, hpv⟩ := names_after hV bel
  exact ⟨_, rfl, _, _, _, [], _, pv, hW', trodAll_mk1 (shut_bool Tryz.underlying4 _), (trodAll_cons_mk (Below.trod laid_out (by kernel_rfl) (of_decide_eq_true (by kernel_rfl)) k0 bel lt0) trodAll_mk0), hpv, bel.frame _, fun h => by cases h⟩

theorem FnExactRunDesk_closed : joinedFacts Tryz.pinned.checked.prog 4 Tryz.f4 Rows.fnExactRunDeskSpec Rows.fnExactRunDeskRow = true := by kernel_rfl

theorem FnExactRunDesk_named : Tryz.pinned.checked.prog.funcNamed Rows.fnExactRunDeskRow.func = some 4 := by kernel_rfl

theorem FnExactRunDesk_row : Rows.FnExactRunDeskSaid :=
  OpenClaim.holds_of_wide 4 Tryz.f4 rfl rfl rfl rfl rfl rfl rfl ⟨rfl, rfl, rfl, rfl, rfl⟩ rfl rfl rfl rfl rfl FnExactRunDesk_named Tryz.func4 FnExactRunDesk_closed
    (of_decide_eq_true (by kernel_rfl)) (by unfold Func.isWrapper; first | (rw [if_pos (by decide +kernel)]; kernel_rfl) | (rw [if_neg (by decide +kernel)]; exact ⟨rfl, rfl⟩))
    (fun os started H enc _ => FnExactRunDesk_lifted os started H enc)


theorem FnExactRunDesk_holds : Rows.FnExactRunDeskCardSaid :=
  Claim7.holds_tied_plain_at .later [] [.data, .data, .data, .data, .sentinel, .sentinel, .data, .pinned] true Rows.fnExactRunDeskCard.stood.harness true
    FnExactRunDesk_row (fun _ h => by cases h) (by kernel_rfl) (fun _ h => by cases h) fnExactRunDesk_row_tie rfl ⟨rfl, rfl⟩ (by kernel_rfl) rfl
    (fun f fn hf hfn => by
      obtain rfl : f = 4 := (Option.some.inj (FnExactRunDesk_named.symm.trans hf)).symm
      obtain rfl : fn = Tryz.f4 := (Option.some.inj (Tryz.func4.symm.trans hfn)).symm
      exact ⟨by kernel_rfl, fun j t ht => by
        rw [Tryz.params4] at ht
        have hm : t ∈ [9] := by simpa using Array.mem_of_getElem? ht
        have hall : ([9].all fun u => !Tryz.prog.wantsStandIn u) = true := by kernel_rfl
        exact (show Tryz.prog.wantsStandIn t = false by simpa using List.all_eq_true.1 hall t hm)⟩)
    (by kernel_rfl)
#print axioms FnExactRunDesk_holds

end Go.Proofs.YtgcodjkjdfahdaaGreatDoor
