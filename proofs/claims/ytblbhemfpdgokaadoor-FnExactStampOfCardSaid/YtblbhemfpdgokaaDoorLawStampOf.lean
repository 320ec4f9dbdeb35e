/- FnExactStampOf: for all arguments the program's StampOf returns what the reference's returns, leaves its arguments as they are, and returns memory of its own. No condition. -/
import Derived.Test.YtblbhemfpdgokaaDoorWords
import Derived.Test.YtblbhemfpdgokaaDoorCards
import Derived.Test.YtblbhemfpdgokaaDoorTie
import Derived.Deep.RegionHeld3
import Derived.LaidMore
import Derived.LaidHandle
import Derived.Stop.LaidErr
import Derived.Stop.Joined
import Derived.SevenTiedAt
namespace Go.Proofs.YtblbhemfpdgokaaDoor
open Go Go.RowKit Go.ChangeShapes Go.WideShapes
set_option linter.unusedSimpArgs false
set_option linter.unusedVariables false


set_option maxHeartbeats 2000000 in
theorem law_FnExactStampOf (w : World) (aBefore : Int) (haBefore : -9223372036854775808 ≤ aBefore ∧ aBefore ≤ 9223372036854775807) (xaE : TEntry) (gaE : okEntry xaE) (htab : Tab w) :
    Calls Tryd.prog 4 #[.int .i64 aBefore, (.agg (eEntry xaE).toArray)] w fun e w' => e = .returned (.bool true) ∧ Below w.heap.size w w' := by
  obtain ⟨xaE_0, xaE_1, xaE_2⟩ := xaE
  have hsaE : xaE_1.size ≤ 9223372036854775807 := by have := gaE.2.1; unfold maxLen at this; exact Nat.le_trans this (by decide)
  have hw0 := (Below.refl w.heap.size w).alloc (Nat.le_refl _) (.cells (eEntry (xaE_0, xaE_1, xaE_2)).toArray 30)
  have hlt0 : w.heap.size < (w.alloc (.cells (eEntry (xaE_0, xaE_1, xaE_2)).toArray 30)).heap.size := by simp
  have cellaE_0 := new_cell w (eEntry (xaE_0, xaE_1, xaE_2)).toArray 30 0 _ rfl
  have cellaE_1 := new_cell w (eEntry (xaE_0, xaE_1, xaE_2)).toArray 30 1 _ rfl
  have cellaE_2 := new_cell w (eEntry (xaE_0, xaE_1, xaE_2)).toArray 30 2 _ rfl
  by_cases z_aE : (xaE_1.size : Int) ≤ 1048576
  case neg =>
    go_enter Tryd.func4, Tryd.ntmps4
    go_wp2_with fail
    generalize w.alloc (.cells (eEntry (xaE_0, xaE_1, xaE_2)).toArray 30) = w0 at hw0 hlt0 cellaE_0 cellaE_1 cellaE_2 ⊢
    have HTAB := hd (htab.below hw0)
    clear htab
    have B := Below.refl w0.heap.size w0
    refine (szEntry_no _ _ _ _ _ hsaE (by omega) (by omega) (by omega)).mono ?_; rintro e wz ⟨rfl, hbz⟩; replace B := below_step B hbz; clear hbz
    go_wp2_with fail
    go_ret
    exact ⟨rfl, below_step hw0 B⟩
  go_enter Tryd.func4, Tryd.ntmps4
  go_wp2_with fail
  generalize w.alloc (.cells (eEntry (xaE_0, xaE_1, xaE_2)).toArray 30) = w0 at hw0 hlt0 cellaE_0 cellaE_1 cellaE_2 ⊢
  have HTAB := hd (htab.below hw0)
  clear htab
  have B := Below.refl w0.heap.size w0
  refine (szEntry_yes _ _ _ _ _ hsaE (by omega) (by omega) (by omega)).mono ?_; rintro e wz ⟨rfl, hbz⟩; replace B := below_step B hbz; clear hbz
  have now0 := (B.cell (p := ⟨w.heap.size, 0, none⟩) hlt0).trans cellaE_0
  have now1 := (B.cell (p := ⟨w.heap.size, 1, none⟩) hlt0).trans cellaE_1
  have now2 := (B.cell (p := ⟨w.heap.size, 2, none⟩) hlt0).trans cellaE_2
  go_wp2_with fail
  refine (toEntry _ _ _ _).mono ?_
  rintro e w1 ⟨rfl, hb1⟩
  replace B := below_step B hb1
  clear hb1
  clear now0 now1 now2
  go_wp2_with fail
  refine (stamp_spec _ _ _ _ _).mono ?_
  rintro e w2 ⟨rfl, hb2⟩
  replace B := below_step B hb2
  clear hb2
  have now0 := (B.cell (p := ⟨w.heap.size, 0, none⟩) hlt0).trans cellaE_0
  have now1 := (B.cell (p := ⟨w.heap.size, 1, none⟩) hlt0).trans cellaE_1
  have now2 := (B.cell (p := ⟨w.heap.size, 2, none⟩) hlt0).trans cellaE_2
  go_wp2_with fail
  refine (toEntry _ _ _ _).mono ?_
  rintro e w3 ⟨rfl, hb3⟩
  replace B := below_step B hb3
  clear hb3
  clear now0 now1 now2
  go_wp2_with fail
  refine (stamp_impl _ _ _ _ _ (HTAB.out.below B)).mono ?_
  rintro e w4 ⟨rfl, hb4⟩
  replace B := below_step B hb4
  clear hb4
  go_wp2_with fail
  go_ret
  exact ⟨rfl, below_step hw0 B⟩


def FnExactStampOf_laid : List (String × DataW Unit) := [("math/bits.deBruijn32tab", Rows.laid_math_bits_deBruijn32tab), ("math/bits.deBruijn64tab", Rows.laid_math_bits_deBruijn64tab), ("internal/strconv.uint64pow10", Rows.laid_internal_strconv_uint64pow10)]
set_option maxRecDepth 100000 in
theorem FnExactStampOf_door (os : Os) (args : Array Value) : laidMetH Tryd.prog FnExactStampOf_laid ((World.doorLaid Tryd.prog 24 os).forCall (fun _ _ => 0) ⟨#[], args, []⟩).memory :=
  laidMetH_of_parts3 (fuel := 8) (laidMet_of_run' 8 (by kernel_rfl) (by kernel_rfl)) (by kernel_rfl) (by kernel_rfl)
set_option maxRecDepth 100000 in
theorem FnExactStampOf_tab {W : World} (h0 : laidMetH Tryd.prog FnExactStampOf_laid W) : Tab W := by
  rw [MakeChecks.laidMetH_plain _ _ _ (by kernel_rfl)] at h0
  have h : laidMet Tryd.prog FnExactStampOf_laid W := h0
  exact Lib.tabIs_of_head (g := 0) (t := 77) (e := 70) (n := 20) (by kernel_rfl) (by kernel_rfl) Tryd.underlying77 Tryd.underlying70 (by kernel_rfl) (by kernel_rfl) (laidMet.tail (laidMet.tail h))
set_option maxRecDepth 100000 in
theorem FnExactStampOf_lifted (os : Os) (started : os.Started) (H : Type) (enc : TypeId × Value → H) :
    ReturnsInHanded {} Tryd.checked os 4 .any (fun w args => (Rows.fnExactStampOfSpec.pre enc Tryd.prog Tryd.f4 [] false w args ∧ laidMetH Tryd.prog FnExactStampOf_laid w) ∧ sizedMet enc Tryd.prog Tryd.f4 (OpenSpec.ofChange Rows.fnExactStampOfSpec) false w args)
      (Rows.fnExactStampOfSpec.post enc Tryd.prog Tryd.f4 false true false false) := by
  refine returnsInHanded_of_change_and (C := Tryd.checked) (X := fun w _ => laidMetH Tryd.prog FnExactStampOf_laid w) (fun _ _ _ hh h => h.of_heap hh) own_knob started (by kernel_rfl) Tryd.func4
    (ChangeSpec.witness_shaped (enc := enc) (C := Tryd.checked) (os := os) (X := fun w _ => laidMetH Tryd.prog FnExactStampOf_laid w) false (World.doorLaid Tryd.prog 24 os) #[.int .i64 0, .agg #[.int .i64 0, .string ByteArray.empty, .int .i64 0]] 8 rfl (World.shaped_of_RefB (by kernel_rfl) (by kernel_rfl)) (by kernel_rfl) (by kernel_rfl) (by kernel_rfl) (FnExactStampOf_door os _)) ?_
  intro W base args ds gs before hval0 hW _ _ hL _
  have hval : ∀ (j : Nat) t v, Tryd.f4.params[j]? = some t → args[j]? = some v → Value.okWide Tryd.prog W .any base t v := hval0
  have hW' := hW
  obtain ⟨p, q, hA0, hV, rfl, hfz, hnd⟩ := hW
  have hA : DataW.TrodAll enc Tryd.prog W 0 (fun _ => true) true Tryd.f4.params.toList args.toList ds p := hA0
  rw [Tryd.params4] at hA hval
  obtain ⟨v0, vs0, d0, ds0, p0, q0, hargs, rfl, rfl, h0, r0⟩ := trodAll_cons hA
  obtain ⟨v1, vs1, d1, ds1, p1, q1, rfl, rfl, rfl, h1, r1⟩ := trodAll_cons r0
  obtain ⟨rfl, rfl, rfl⟩ := trodAll_nil r1
  obtain rfl : args = #[v0, v1] := by cases args; simp_all
  obtain ⟨rfl, rfl⟩ := trodVars_none hV
  have k0 := h0
  have lt0 : ∀ x ∈ p0, x.block < W.heap.size := by obtain ⟨m, hm⟩ := k0; exact DataW.trod_lt m _ _ _ hm
  have k1 := h1
  have lt1 : ∀ x ∈ p1, x.block < W.heap.size := by obtain ⟨m, hm⟩ := k1; exact DataW.trod_lt m _ _ _ hm
  obtain ⟨a0, rfl, _, _, wf0⟩ := open_int Tryd.underlying2 (hval 0 2 v0 rfl rfl) h0
  obtain ⟨x1, rfl, wf1⟩ := agg_of_Entry (hval 1 30 v1 rfl rfl) h1
  refine (law_FnExactStampOf W a0 (i64_range wf0) x1 wf1 (FnExactStampOf_tab hL)).mono fun e W' ⟨he, bel⟩ => ?_
  subst he
  exact ⟨_, rfl, _, _, _, [], _, [], hW', trodAll_mk1 (shut_bool Tryd.underlying4 _), (trodAll_cons_mk (Below.trod laid_out (by kernel_rfl) (of_decide_eq_true (by kernel_rfl)) k0 bel lt0) (trodAll_cons_mk (Below.trod laid_out (by kernel_rfl) (of_decide_eq_true (by kernel_rfl)) k1 bel lt1) trodAll_mk0)), rfl, bel.frame _, fun h => by cases h⟩

theorem FnExactStampOf_closed : joinedFacts Tryd.pinned.checked.prog 4 Tryd.f4 Rows.fnExactStampOfSpec Rows.fnExactStampOfRow = true := by kernel_rfl

theorem FnExactStampOf_named : Tryd.pinned.checked.prog.funcNamed Rows.fnExactStampOfRow.func = some 4 := by kernel_rfl

theorem FnExactStampOf_row : Rows.FnExactStampOfSaid :=
  OpenClaim.holds_of_wide 4 Tryd.f4 rfl rfl rfl rfl rfl rfl rfl ⟨rfl, rfl, rfl, rfl, rfl⟩ rfl rfl rfl rfl rfl FnExactStampOf_named Tryd.func4 FnExactStampOf_closed
    (of_decide_eq_true (by kernel_rfl)) (by unfold Func.isWrapper; first | (rw [if_pos (by decide +kernel)]; kernel_rfl) | (rw [if_neg (by decide +kernel)]; exact ⟨rfl, rfl⟩))
    (fun os started H enc _ => FnExactStampOf_lifted os started H enc)


theorem FnExactStampOf_holds : Rows.FnExactStampOfCardSaid :=
  Claim7.holds_tied_plain_at .later [] [.data, .data, .data] true Rows.fnExactStampOfCard.stood.harness false
    FnExactStampOf_row (fun _ h => by cases h) (by kernel_rfl) (fun _ h => by cases h) fnExactStampOf_row_tie rfl ⟨rfl, rfl⟩ (by kernel_rfl) rfl
    (fun f fn hf hfn => by
      obtain rfl : f = 4 := (Option.some.inj (FnExactStampOf_named.symm.trans hf)).symm
      obtain rfl : fn = Tryd.f4 := (Option.some.inj (Tryd.func4.symm.trans hfn)).symm
      exact ⟨by kernel_rfl, fun j t ht => by
        rw [Tryd.params4] at ht
        have hm : t ∈ [2, 30] := by simpa using Array.mem_of_getElem? ht
        have hall : ([2, 30].all fun u => !Tryd.prog.wantsStandIn u) = true := by kernel_rfl
        exact (show Tryd.prog.wantsStandIn t = false by simpa using List.all_eq_true.1 hall t hm)⟩)
    (by kernel_rfl)
#print axioms FnExactStampOf_holds

end Go.Proofs.YtblbhemfpdgokaaDoor
