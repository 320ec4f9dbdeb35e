/- FnExactAddEntry: for all arguments the program's AddEntry returns what the reference's returns, leaves its arguments as they are, and returns memory of its own. No condition. -/
import Derived.Test.YtklepmeiaiihhaaDoorLAdd
import Derived.Test.YtklepmeiaiihhaaDoorCards
import Derived.Test.YtklepmeiaiihhaaDoorTie
import Derived.Deep.RegionHeld3
import Derived.LaidMore
import Derived.Lay
import Derived.LaidHandle
import Derived.Stop.LaidErr
import Derived.Stop.Joined
import Derived.SevenTiedAt
namespace Go.Proofs.YtklepmeiaiihhaaDoor
open Go Go.RowKit Go.ChangeShapes Go.WideShapes
set_option linter.unusedSimpArgs false
set_option linter.unusedVariables false


set_option maxRecDepth 100000 in
set_option maxHeartbeats 2000000 in
theorem law_FnExactAddEntry (w : World) (aLog : ByteArray) (haLog : aLog.size ≤ maxLen) (xaE : TEntry) (gaE : okEntry xaE) (hsh : Shop w) :
    Calls Tryd.prog 11 #[.string aLog, (.agg (eEntry xaE).toArray)] w fun e w' => e = .returned (.bool true) ∧ Below w.heap.size w w' := by
  obtain ⟨xaE_0, xaE_1, xaE_2⟩ := xaE
  have hsaE : xaE_1.size ≤ 9223372036854775807 := by have := gaE.2.1; unfold maxLen at this; exact Nat.le_trans this (by decide)
  have hw0 := (Below.refl w.heap.size w).alloc (Nat.le_refl _) (.cells (eEntry (xaE_0, xaE_1, xaE_2)).toArray 53)
  have hlt0 : w.heap.size < (w.alloc (.cells (eEntry (xaE_0, xaE_1, xaE_2)).toArray 53)).heap.size := by simp
  have cellaE_0 := new_cell w (eEntry (xaE_0, xaE_1, xaE_2)).toArray 53 0 _ rfl
  have cellaE_1 := new_cell w (eEntry (xaE_0, xaE_1, xaE_2)).toArray 53 1 _ rfl
  have cellaE_2 := new_cell w (eEntry (xaE_0, xaE_1, xaE_2)).toArray 53 2 _ rfl
  by_cases z_aLog : aLog.size ≤ 1048576
  case neg =>
    go_enter Tryd.func11, Tryd.ntmps11
    go_wp2_with fail
    generalize w.alloc (.cells (eEntry (xaE_0, xaE_1, xaE_2)).toArray 53) = w0 at hw0 hlt0 cellaE_0 cellaE_1 cellaE_2 ⊢
    have HSH := hd (hsh.below hw0)
    clear hsh
    have B := Below.refl w0.heap.size w0
    go_ret
    exact ⟨rfl, below_step hw0 B⟩
  by_cases z_aE : (xaE_1.size : Int) ≤ 1048576
  case neg =>
    go_enter Tryd.func11, Tryd.ntmps11
    go_wp2_with fail
    generalize w.alloc (.cells (eEntry (xaE_0, xaE_1, xaE_2)).toArray 53) = w0 at hw0 hlt0 cellaE_0 cellaE_1 cellaE_2 ⊢
    have HSH := hd (hsh.below hw0)
    clear hsh
    have B := Below.refl w0.heap.size w0
    refine (szEntry_no _ _ _ _ _ hsaE (by omega) (by omega) (by omega)).mono ?_; rintro e wz ⟨rfl, hbz⟩; replace B := below_step B hbz; clear hbz
    go_wp2_with fail
    go_ret
    exact ⟨rfl, below_step hw0 B⟩
  go_enter Tryd.func11, Tryd.ntmps11
  go_wp2_with fail
  generalize w.alloc (.cells (eEntry (xaE_0, xaE_1, xaE_2)).toArray 53) = w0 at hw0 hlt0 cellaE_0 cellaE_1 cellaE_2 ⊢
  have HSH := hd (hsh.below hw0)
  clear hsh
  have B := Below.refl w0.heap.size w0
  refine (szEntry_yes _ _ _ _ _ hsaE (by omega) (by omega) (by omega)).mono ?_; rintro e wz ⟨rfl, hbz⟩; replace B := below_step B hbz; clear hbz
  have now0 := (B.cell (p := ⟨w.heap.size, 0, none⟩) hlt0).trans cellaE_0
  have now1 := (B.cell (p := ⟨w.heap.size, 1, none⟩) hlt0).trans cellaE_1
  have now2 := (B.cell (p := ⟨w.heap.size, 2, none⟩) hlt0).trans cellaE_2
  go_wp2_with fail
  refine (toEntry _ _ _ _).mono ?_
  rintro e w1 ⟨rfl, hb1⟩
  replace B := below_step B hb1
  clear hb1
  clear now0 now1 now2
  go_wp2_with fail
  refine (add_spec _ _ _ _ _ (by omega)).mono ?_
  rintro e w2 ⟨rfl, hb2⟩
  replace B := below_step B hb2
  clear hb2
  have now0 := (B.cell (p := ⟨w.heap.size, 0, none⟩) hlt0).trans cellaE_0
  have now1 := (B.cell (p := ⟨w.heap.size, 1, none⟩) hlt0).trans cellaE_1
  have now2 := (B.cell (p := ⟨w.heap.size, 2, none⟩) hlt0).trans cellaE_2
  go_wp2_with fail
  refine (toEntry _ _ _ _).mono ?_
  rintro e w3 ⟨rfl, hb3⟩
  replace B := below_step B hb3
  clear hb3
  clear now0 now1 now2
  go_wp2_with fail
  refine (add_impl _ _ _ _ _ (by omega) (HSH.out.below B)).mono ?_
  rintro e w4 ⟨rfl, hb4⟩
  replace B := below_step B hb4
  clear hb4
  go_wp2_with fail
  go_ret
  exact ⟨rfl, below_step hw0 B⟩


def FnExactAddEntry_laid : List (String × DataW Unit) := [("math/bits.deBruijn32tab", Rows.laid_math_bits_deBruijn32tab), ("math/bits.deBruijn64tab", Rows.laid_math_bits_deBruijn64tab), ("internal/strconv.uint64pow10", Rows.laid_internal_strconv_uint64pow10), ("unicode/utf8.acceptRanges", Rows.laid_unicode_utf8_acceptRanges), ("strconv.ErrRange", Rows.laid_strconv_ErrRange), ("strconv.ErrSyntax", Rows.laid_strconv_ErrSyntax), ("unicode/utf8.first", Rows.laid_unicode_utf8_first)]
set_option maxRecDepth 100000 in
theorem FnExactAddEntry_tab {W : World} (h0 : laidMetH Tryd.prog FnExactAddEntry_laid W) : Tab W := by
  rw [MakeChecks.laidMetH_plain _ _ _ (by kernel_rfl)] at h0
  have h : laidMet Tryd.prog FnExactAddEntry_laid W := h0
  exact Lib.tabIs_of_head (g := 3) (t := 143) (e := 116) (n := 20) (by kernel_rfl) (by kernel_rfl) Tryd.underlying143 Tryd.underlying116 (by kernel_rfl) (by kernel_rfl) (laidMet.tail (laidMet.tail h))
set_option maxRecDepth 100000 in
theorem FnExactAddEntry_errs {W : World} (h0 : laidMetH Tryd.prog FnExactAddEntry_laid W) : Errs W := by
  rw [MakeChecks.laidMetH_plain _ _ _ (by kernel_rfl)] at h0
  have h : laidMet Tryd.prog FnExactAddEntry_laid W := h0
  exact ⟨syntax_of_laid (laidMet.tail (laidMet.tail (laidMet.tail (laidMet.tail (laidMet.tail h))))), range_of_laid (laidMet.tail (laidMet.tail (laidMet.tail (laidMet.tail h))))⟩
set_option maxRecDepth 100000 in
theorem FnExactAddEntry_lifted (os : Os) (started : os.Started) (H : Type) (enc : TypeId × Value → H) :
    ReturnsInHanded {} Tryd.checked os 11 .any (fun w args => (Rows.fnExactAddEntrySpec.pre enc Tryd.prog Tryd.f11 [] false w args ∧ laidMetH Tryd.prog FnExactAddEntry_laid w) ∧ sizedMet enc Tryd.prog Tryd.f11 (OpenSpec.ofChange Rows.fnExactAddEntrySpec) false w args)
      (Rows.fnExactAddEntrySpec.post enc Tryd.prog Tryd.f11 false true false false) := by
  refine handed_shop (C := Tryd.checked) (X := fun w _ => laidMetH Tryd.prog FnExactAddEntry_laid w) (fun _ _ _ hh h => h.of_heap hh) own_knob started (by kernel_rfl) Tryd.func11
    (ChangeSpec.witness_shaped (enc := enc) (C := Tryd.checked) (os := os) (X := fun w _ => laidMetH Tryd.prog FnExactAddEntry_laid w) false (World.laidAll Tryd.prog os FnExactAddEntry_laid) #[.string ByteArray.empty, .agg #[.int .i64 0, .string ByteArray.empty, .int .i64 0]] 8 (World.laidAll_os _ _ _) (World.shaped_of_ZipB (by kernel_rfl) (by kernel_rfl)) (by kernel_rfl) (by kernel_rfl) (by kernel_rfl)
      (by rw [MakeChecks.laidMetH_plain _ _ _ (by kernel_rfl)]; exact laidMet_laidAll _ (by kernel_rfl) (by kernel_rfl))) ?_
  intro W base args ds gs before hval0 hW hL hsh
  have hval : ∀ (j : Nat) t v, Tryd.f11.params[j]? = some t → args[j]? = some v → Value.okWide Tryd.prog W .any base t v := hval0
  have hW' := hW
  obtain ⟨p, q, hA0, hV, rfl, hfz, hnd⟩ := hW
  have hA : DataW.TrodAll enc Tryd.prog W 0 (fun _ => true) true Tryd.f11.params.toList args.toList ds p := hA0
  rw [Tryd.params11] at hA hval
  obtain ⟨v0, vs0, d0, ds0, p0, q0, hargs, rfl, rfl, h0, r0⟩ := trodAll_cons hA
  obtain ⟨v1, vs1, d1, ds1, p1, q1, rfl, rfl, rfl, h1, r1⟩ := trodAll_cons r0
  obtain ⟨rfl, rfl, rfl⟩ := trodAll_nil r1
  obtain rfl : args = #[v0, v1] := by cases args; simp_all
  obtain ⟨rfl, rfl⟩ := trodVars_none hV
  have k0 := h0
  have lt0 : ∀ x ∈ p0, x.block < W.heap.size := by obtain ⟨m, hm⟩ := k0; exact DataW.trod_lt m _ _ _ hm
  have k1 := h1
  have lt1 : ∀ x ∈ p1, x.block < W.heap.size := by obtain ⟨m, hm⟩ := k1; exact DataW.trod_lt m _ _ _ hm
  obtain ⟨s0, rfl, _, _, wf0⟩ := Go.ChangeMaps.open_string Tryd.underlying9 (hval 0 9 v0 rfl rfl) h0
  obtain ⟨x1, rfl, wf1⟩ := agg_of_Entry (hval 1 53 v1 rfl rfl) h1
  refine (law_FnExactAddEntry W s0 wf0 x1 wf1 ⟨FnExactAddEntry_tab hL, FnExactAddEntry_errs hL, maxL_of_shape hsh⟩).mono fun e W' ⟨he, bel⟩ => ?_
  subst he
  exact ⟨_, rfl, _, _, _, [], _, [], hW', trodAll_mk1 (shut_bool Tryd.underlying4 _), (trodAll_cons_mk (Below.trod laid_out (by kernel_rfl) (of_decide_eq_true (by kernel_rfl)) k0 bel lt0) (trodAll_cons_mk (Below.trod laid_out (by kernel_rfl) (of_decide_eq_true (by kernel_rfl)) k1 bel lt1) trodAll_mk0)), rfl, bel.frame _, fun h => by cases h⟩

theorem FnExactAddEntry_closed : joinedFacts Tryd.pinned.checked.prog 11 Tryd.f11 Rows.fnExactAddEntrySpec Rows.fnExactAddEntryRow = true := by kernel_rfl

theorem FnExactAddEntry_named : Tryd.pinned.checked.prog.funcNamed Rows.fnExactAddEntryRow.func = some 11 := by kernel_rfl

theorem FnExactAddEntry_row : Rows.FnExactAddEntrySaid :=
  OpenClaim.holds_of_wide 11 Tryd.f11 rfl rfl rfl rfl rfl rfl rfl ⟨rfl, rfl, rfl, rfl, rfl⟩ rfl rfl rfl rfl rfl FnExactAddEntry_named Tryd.func11 FnExactAddEntry_closed
    (of_decide_eq_true (by kernel_rfl)) (by unfold Func.isWrapper; first | (rw [if_pos (by decide +kernel)]; kernel_rfl) | (rw [if_neg (by decide +kernel)]; exact ⟨rfl, rfl⟩))
    (fun os started H enc _ => FnExactAddEntry_lifted os started H enc)


theorem FnExactAddEntry_holds : Rows.FnExactAddEntryCardSaid :=
  Claim7.holds_tied_plain_at .later [] [.data, .data, .data, .data, .sentinel, .sentinel, .pinned] true Rows.fnExactAddEntryCard.stood.harness true
    FnExactAddEntry_row (fun _ h => by cases h) (by kernel_rfl) (fun _ h => by cases h) fnExactAddEntry_row_tie rfl ⟨rfl, rfl⟩ (by kernel_rfl) rfl
    (fun f fn hf hfn => by
      obtain rfl : f = 11 := (Option.some.inj (FnExactAddEntry_named.symm.trans hf)).symm
      obtain rfl : fn = Tryd.f11 := (Option.some.inj (Tryd.func11.symm.trans hfn)).symm
      exact ⟨by kernel_rfl, fun j t ht => by
        rw [Tryd.params11] at ht
        have hm : t ∈ [9, 53] := by simpa using Array.mem_of_getElem? ht
        have hall : ([9, 53].all fun u => !Tryd.prog.wantsStandIn u) = true := by kernel_rfl
        exact (show Tryd.prog.wantsStandIn t = false by simpa using List.all_eq_true.1 hall t hm)⟩)
    (by kernel_rfl)
#print axioms FnExactAddEntry_holds

end Go.Proofs.YtklepmeiaiihhaaDoor
