/- FnExactTitleText: for all arguments the program's TitleText returns what the reference's returns, leaves its arguments as they are, and returns memory of its own. No condition. -/
import Derived.Test.YtblbhemfpdgokaaDoorTText
import Derived.Test.YtblbhemfpdgokaaDoorCards
import Derived.Test.YtblbhemfpdgokaaDoorTie
import Derived.Deep.RegionHeld3
import Derived.LaidMore
import Derived.LaidHandle
import Derived.Stop.LaidErr
import Derived.Stop.Joined
import Derived.SevenTiedAt
namespace Go.Proofs.YtblbhemfpdgokaaDoor
open Go Go.RowKit Go.ChangeShapes Go.WideShapes
set_option linter.unusedSimpArgs false
set_option linter.unusedVariables false


set_option maxHeartbeats 2000000 in
theorem law_FnExactTitleText (w : World) (xaX : TTitle) (gaX : okTitle xaX) (htab : Tab w) :
    Calls Tryd.prog 3 #[(.agg (eTitle xaX).toArray)] w fun e w' => e = .returned (.bool true) ∧ Below w.heap.size w w' := by
  obtain ⟨xaX_0, xaX_1, xaX_2, xaX_3⟩ := xaX
  have hsaX : xaX_1.size ≤ 9223372036854775807 := by have := gaX.2.1; unfold maxLen at this; exact Nat.le_trans this (by decide)
  have hw0 := (Below.refl w.heap.size w).alloc (Nat.le_refl _) (.cells (eTitle (xaX_0, xaX_1, xaX_2, xaX_3)).toArray 23)
  have hlt0 : w.heap.size < (w.alloc (.cells (eTitle (xaX_0, xaX_1, xaX_2, xaX_3)).toArray 23)).heap.size := by simp
  have cellaX_0 := new_cell w (eTitle (xaX_0, xaX_1, xaX_2, xaX_3)).toArray 23 0 _ rfl
  have cellaX_1 := new_cell w (eTitle (xaX_0, xaX_1, xaX_2, xaX_3)).toArray 23 1 _ rfl
  have cellaX_2 := new_cell w (eTitle (xaX_0, xaX_1, xaX_2, xaX_3)).toArray 23 2 _ rfl
  have cellaX_3 := new_cell w (eTitle (xaX_0, xaX_1, xaX_2, xaX_3)).toArray 23 3 _ rfl
  by_cases z_aX : (xaX_1.size : Int) ≤ 1048576
  case neg =>
    go_enter Tryd.func3, Tryd.ntmps3
    go_wp2_with fail
    generalize w.alloc (.cells (eTitle (xaX_0, xaX_1, xaX_2, xaX_3)).toArray 23) = w0 at hw0 hlt0 cellaX_0 cellaX_1 cellaX_2 cellaX_3 ⊢
    have HTAB := hd (htab.below hw0)
    clear htab
    have B := Below.refl w0.heap.size w0
    refine (szTitle_no _ _ _ _ _ _ hsaX (by omega) (by omega) (by omega)).mono ?_; rintro e wz ⟨rfl, hbz⟩; replace B := below_step B hbz; clear hbz
    go_wp2_with fail
    go_ret
    exact ⟨rfl, below_step hw0 B⟩
  go_enter Tryd.func3, Tryd.ntmps3
  go_wp2_with fail
  generalize w.alloc (.cells (eTitle (xaX_0, xaX_1, xaX_2, xaX_3)).toArray 23) = w0 at hw0 hlt0 cellaX_0 cellaX_1 cellaX_2 cellaX_3 ⊢
  have HTAB := hd (htab.below hw0)
  clear htab
  have B := Below.refl w0.heap.size w0
  refine (szTitle_yes _ _ _ _ _ _ hsaX (by omega) (by omega) (by omega)).mono ?_; rintro e wz ⟨rfl, hbz⟩; replace B := below_step B hbz; clear hbz
  have now0 := (B.cell (p := ⟨w.heap.size, 0, none⟩) hlt0).trans cellaX_0
  have now1 := (B.cell (p := ⟨w.heap.size, 1, none⟩) hlt0).trans cellaX_1
  have now2 := (B.cell (p := ⟨w.heap.size, 2, none⟩) hlt0).trans cellaX_2
  have now3 := (B.cell (p := ⟨w.heap.size, 3, none⟩) hlt0).trans cellaX_3
  go_wp2_with fail
  refine (toTitle _ _ _ _ _).mono ?_
  rintro e w1 ⟨rfl, hb1⟩
  replace B := below_step B hb1
  clear hb1
  clear now0 now1 now2 now3
  go_wp2_with fail
  refine (ttext_spec _ _ _ _ _).mono ?_
  rintro e w2 ⟨rfl, hb2⟩
  replace B := below_step B hb2
  clear hb2
  have now0 := (B.cell (p := ⟨w.heap.size, 0, none⟩) hlt0).trans cellaX_0
  have now1 := (B.cell (p := ⟨w.heap.size, 1, none⟩) hlt0).trans cellaX_1
  have now2 := (B.cell (p := ⟨w.heap.size, 2, none⟩) hlt0).trans cellaX_2
  have now3 := (B.cell (p := ⟨w.heap.size, 3, none⟩) hlt0).trans cellaX_3
  go_wp2_with fail
  refine (toTitle _ _ _ _ _).mono ?_
  rintro e w3 ⟨rfl, hb3⟩
  replace B := below_step B hb3
  clear hb3
  clear now0 now1 now2 now3
  go_wp2_with fail
  refine (ttext_impl _ _ _ _ _ (HTAB.out.below B)).mono ?_
  rintro e w4 ⟨rfl, hb4⟩
  replace B := below_step B hb4
  clear hb4
  go_wp2_with fail
  go_ret
  exact ⟨rfl, below_step hw0 B⟩


def FnExactTitleText_laid : List (String × DataW Unit) := [("math/bits.deBruijn32tab", Rows.laid_math_bits_deBruijn32tab), ("math/bits.deBruijn64tab", Rows.laid_math_bits_deBruijn64tab), ("internal/strconv.uint64pow10", Rows.laid_internal_strconv_uint64pow10)]
set_option maxRecDepth 100000 in
theorem FnExactTitleText_door (os : Os) (args : Array Value) : laidMetH Tryd.prog FnExactTitleText_laid ((World.doorLaid Tryd.prog 24 os).forCall (fun _ _ => 0) ⟨#[], args, []⟩).memory :=
  laidMetH_of_parts3 (fuel := 8) (laidMet_of_run' 8 (by kernel_rfl) (by kernel_rfl)) (by kernel_rfl) (by kernel_rfl)
set_option maxRecDepth 100000 in
theorem FnExactTitleText_tab {W : World} (h0 : laidMetH Tryd.prog FnExactTitleText_laid W) : Tab W := by
  rw [MakeChecks.laidMetH_plain _ _ _ (by kernel_rfl)] at h0
  have h : laidMet Tryd.prog FnExactTitleText_laid W := h0
  exact Lib.tabIs_of_head (g := 0) (t := 77) (e := 70) (n := 20) (by kernel_rfl) (by kernel_rfl) Tryd.underlying77 Tryd.underlying70 (by kernel_rfl) (by kernel_rfl) (laidMet.tail (laidMet.tail h))
set_option maxRecDepth 100000 in
theorem FnExactTitleText_lifted (os : Os) (started : os.Started) (H : Type) (enc : TypeId × Value → H) :
    ReturnsInHanded {} Tryd.checked os 3 .any (fun w args => (Rows.fnExactTitleTextSpec.pre enc Tryd.prog Tryd.f3 [] false w args ∧ laidMetH Tryd.prog FnExactTitleText_laid w) ∧ sizedMet enc Tryd.prog Tryd.f3 (OpenSpec.ofChange Rows.fnExactTitleTextSpec) false w args)
      (Rows.fnExactTitleTextSpec.post enc Tryd.prog Tryd.f3 false true false false) := by
  refine returnsInHanded_of_change_and (C := Tryd.checked) (X := fun w _ => laidMetH Tryd.prog FnExactTitleText_laid w) (fun _ _ _ hh h => h.of_heap hh) own_knob started (by kernel_rfl) Tryd.func3
    (ChangeSpec.witness_shaped (enc := enc) (C := Tryd.checked) (os := os) (X := fun w _ => laidMetH Tryd.prog FnExactTitleText_laid w) false (World.doorLaid Tryd.prog 24 os) #[.agg #[.int .i64 0, .string ByteArray.empty, .int .i64 0, .int .i64 0]] 8 rfl (World.shaped_of_RefB (by kernel_rfl) (by kernel_rfl)) (by kernel_rfl) (by kernel_rfl) (by kernel_rfl) (FnExactTitleText_door os _)) ?_
  intro W base args ds gs before hval0 hW _ _ hL _
  have hval : ∀ (j : Nat) t v, Tryd.f3.params[j]? = some t → args[j]? = some v → Value.okWide Tryd.prog W .any base t v := hval0
  have hW' := hW
  obtain ⟨p, q, hA0, hV, rfl, hfz, hnd⟩ := hW
  have hA : DataW.TrodAll enc Tryd.prog W 0 (fun _ => true) true Tryd.f3.params.toList args.toList ds p := hA0
  rw [Tryd.params3] at hA hval
  obtain ⟨v0, vs0, d0, ds0, p0, q0, hargs, rfl, rfl, h0, r0⟩ := trodAll_cons hA
  obtain ⟨rfl, rfl, rfl⟩ := trodAll_nil r0
  obtain rfl : args = #[v0] := by cases args; simp_all
  obtain ⟨rfl, rfl⟩ := trodVars_none hV
  have k0 := h0
  have lt0 : ∀ x ∈ p0, x.block < W.heap.size := by obtain ⟨m, hm⟩ := k0; exact DataW.trod_lt m _ _ _ hm
  obtain ⟨x0, rfl, wf0⟩ := agg_of_Title (hval 0 23 v0 rfl rfl) h0
  refine (law_FnExactTitleText W x0 wf0 (FnExactTitleText_tab hL)).mono fun e W' ⟨he, bel⟩ => ?_
  subst he
  exact ⟨_, rfl, _, _, _, [], _, [], hW', trodAll_mk1 (shut_bool Tryd.underlying4 _), (trodAll_cons_mk (Below.trod laid_out (by kernel_rfl) (of_decide_eq_true (by kernel_rfl)) k0 bel lt0) trodAll_mk0), rfl, bel.frame _, fun h => by cases h⟩

theorem FnExactTitleText_closed : joinedFacts Tryd.pinned.checked.prog 3 Tryd.f3 Rows.fnExactTitleTextSpec Rows.fnExactTitleTextRow = true := by kernel_rfl

theorem FnExactTitleText_named : Tryd.pinned.checked.prog.funcNamed Rows.fnExactTitleTextRow.func = some 3 := by kernel_rfl

theorem FnExactTitleText_row : Rows.FnExactTitleTextSaid :=
  OpenClaim.holds_of_wide 3 Tryd.f3 rfl rfl rfl rfl rfl rfl rfl ⟨rfl, rfl, rfl, rfl, rfl⟩ rfl rfl rfl rfl rfl FnExactTitleText_named Tryd.func3 FnExactTitleText_closed
    (of_decide_eq_true (by kernel_rfl)) (by unfold Func.isWrapper; first | (rw [if_pos (by decide +kernel)]; kernel_rfl) | (rw [if_neg (by decide +kernel)]; exact ⟨rfl, rfl⟩))
    (fun os started H enc _ => FnExactTitleText_lifted os started H enc)


theorem FnExactTitleText_holds : Rows.FnExactTitleTextCardSaid :=
  Claim7.holds_tied_plain_at .later [] [.data, .data, .data] true Rows.fnExactTitleTextCard.stood.harness false
    FnExactTitleText_row (fun _ h => by cases h) (by kernel_rfl) (fun _ h => by cases h) fnExactTitleText_row_tie rfl ⟨rfl, rfl⟩ (by kernel_rfl) rfl
    (fun f fn hf hfn => by
      obtain rfl : f = 3 := (Option.some.inj (FnExactTitleText_named.symm.trans hf)).symm
      obtain rfl : fn = Tryd.f3 := (Option.some.inj (Tryd.func3.symm.trans hfn)).symm
      exact ⟨by kernel_rfl, fun j t ht => by
        rw [Tryd.params3] at ht
        have hm : t ∈ [23] := by simpa using Array.mem_of_getElem? ht
        have hall : ([23].all fun u => !Tryd.prog.wantsStandIn u) = true := by kernel_rfl
        exact (show Tryd.prog.wantsStandIn t = false by simpa using List.all_eq_true.1 hall t hm)⟩)
    (by kernel_rfl)
#print axioms FnExactTitleText_holds

end Go.Proofs.YtblbhemfpdgokaaDoor
