/- FnExactLogOf: for all arguments the program's LogOf returns what the reference's returns, leaves its arguments as they are, and returns memory of its own. No condition. -/
import Derived.Test.YtblbhemfpdgokaaDoorLogI
import Derived.Test.YtblbhemfpdgokaaDoorCards
import Derived.Test.YtblbhemfpdgokaaDoorTie
import Derived.LaidMore
import Derived.LaidHandle
import Derived.Stop.LaidErr
import Derived.Stop.Joined
import Derived.SevenTiedAt
namespace Go.Proofs.YtblbhemfpdgokaaDoor
open Go Go.RowKit Go.ChangeShapes Go.WideShapes
set_option linter.unusedSimpArgs false
set_option linter.unusedVariables false


set_option maxHeartbeats 2000000 in
theorem law_FnExactLogOf (w : World) (vaList : Value) (laList : List TEntry) (SaList : Sl w 3 vaList eEntry laList) (raList : ∀ x ∈ laList, okEntry x) (htab : Tab w) :
    Calls Tryd.prog 6 #[vaList] w fun e w' => e = .returned (.bool true) ∧ Below w.heap.size w w' := by
  have B := Below.refl w.heap.size w
  have HTAB := hd htab
  clear htab
  have maList := SaList.len
  obtain ⟨-, AaList, caList, rfl, -, -, -⟩ := id SaList
  by_cases z_aList : (totEntry laList : Int) ≤ 1048576
  case neg =>
    go_enter Tryd.func6, Tryd.ntmps6
    go_wp2_with fail
    refine (szEntrys_no _ _ _ (SaList.below B) (fun x hx => (raList x hx).2.1) _ (by omega) (by omega) (by omega)).mono ?_; rintro e wz ⟨rfl, hbz⟩; replace B := below_step B hbz; clear hbz
    go_wp2_with fail
    go_ret
    exact ⟨rfl, B⟩
  have tt_aList : laList.length ≤ totEntry laList := Nat.le_add_right _ _
  go_enter Tryd.func6, Tryd.ntmps6
  go_wp2_with fail
  refine (szEntrys_yes _ _ _ (SaList.below B) (fun x hx => (raList x hx).2.1) _ (by omega) (by omega) (by omega)).mono ?_; rintro e wz ⟨rfl, hbz⟩; replace B := below_step B hbz; clear hbz
  go_wp2_with fail
  refine (toEntrys _ _ _ (SaList.below B) (by omega)).mono ?_
  rintro e w1 ⟨v_c1, rfl, O_c1, hb1⟩
  replace O_c1 := O_c1.base B.size
  replace B := below_step B hb1
  clear hb1
  go_wp2_with fail
  refine (logof_spec _ _ _ (O_c1.sl eEntry_len) (by omega)).mono ?_
  rintro e w2 ⟨rfl, hb2⟩
  replace O_c1 := O_c1.below hb2 (Nat.le_refl _)
  replace B := below_step B hb2
  clear hb2
  clear O_c1
  go_wp2_with fail
  refine (toEntrys _ _ _ (SaList.below B) (by omega)).mono ?_
  rintro e w3 ⟨v_x0, rfl, O_x0, hb3⟩
  replace O_x0 := O_x0.base B.size
  replace B := below_step B hb3
  clear hb3
  go_wp2_with fail
  refine (logof_impl _ _ _ (O_x0.sl eEntry_len) (by omega) (HTAB.out.below B)).mono ?_
  rintro e w4 ⟨rfl, hb4⟩
  replace O_x0 := O_x0.below hb4 (Nat.le_refl _)
  replace B := below_step B hb4
  clear hb4
  go_wp2_with fail
  refine (toEntrys _ _ _ (SaList.below B) (by omega)).mono ?_
  rintro e w5 ⟨v_c4, rfl, O_c4, hb5⟩
  replace O_x0 := O_x0.below hb5 (Nat.le_refl _)
  replace O_c4 := O_c4.base B.size
  replace B := below_step B hb5
  clear hb5
  go_wp2_with fail
  refine (eqEntrys _ _ _ _ _ (O_x0.sl eEntry_len) (O_c4.sl eEntry_len)).mono ?_
  rintro e w6 ⟨rfl, hb6⟩
  replace O_x0 := O_x0.below hb6 (Nat.le_refl _)
  replace O_c4 := O_c4.below hb6 (Nat.le_refl _)
  replace B := below_step B hb6
  clear hb6
  clear O_c4
  go_wp2_with fail
  go_ret
  exact ⟨rfl, B⟩


def FnExactLogOf_laid : List (String × DataW Unit) := [("math/bits.deBruijn32tab", Rows.laid_math_bits_deBruijn32tab), ("math/bits.deBruijn64tab", Rows.laid_math_bits_deBruijn64tab), ("internal/strconv.uint64pow10", Rows.laid_internal_strconv_uint64pow10)]
set_option maxRecDepth 100000 in
theorem FnExactLogOf_door (os : Os) (args : Array Value) : laidMetH Tryd.prog FnExactLogOf_laid ((World.doorLaid Tryd.prog 24 os).forCall (fun _ _ => 0) ⟨#[], args, []⟩).memory :=
  laidMetH_of_parts3 (fuel := 8) (laidMet_of_run' 8 (by kernel_rfl) (by kernel_rfl)) (by kernel_rfl) (by kernel_rfl)
set_option maxRecDepth 100000 in
theorem FnExactLogOf_tab {W : World} (h0 : laidMetH Tryd.prog FnExactLogOf_laid W) : Tab W := by
  rw [MakeChecks.laidMetH_plain _ _ _ (by kernel_rfl)] at h0
  have h : laidMet Tryd.prog FnExactLogOf_laid W := h0
  exact Lib.tabIs_of_head (g := 0) (t := 77) (e := 70) (n := 20) (by kernel_rfl) (by kernel_rfl) Tryd.underlying77 Tryd.underlying70 (by kernel_rfl) (by kernel_rfl) (laidMet.tail (laidMet.tail h))
set_option maxRecDepth 100000 in
theorem FnExactLogOf_lifted (os : Os) (started : os.Started) (H : Type) (enc : TypeId × Value → H) :
    ReturnsInHanded {} Tryd.checked os 6 .any (fun w args => (Rows.fnExactLogOfSpec.pre enc Tryd.prog Tryd.f6 [] false w args ∧ laidMetH Tryd.prog FnExactLogOf_laid w) ∧ sizedMet enc Tryd.prog Tryd.f6 (OpenSpec.ofChange Rows.fnExactLogOfSpec) false w args)
      (Rows.fnExactLogOfSpec.post enc Tryd.prog Tryd.f6 false true false false) := by
  refine returnsInHanded_of_change_and (C := Tryd.checked) (X := fun w _ => laidMetH Tryd.prog FnExactLogOf_laid w) (fun _ _ _ hh h => h.of_heap hh) own_knob started (by kernel_rfl) Tryd.func6
    (ChangeSpec.witness_shaped (enc := enc) (C := Tryd.checked) (os := os) (X := fun w _ => laidMetH Tryd.prog FnExactLogOf_laid w) false (World.doorLaid Tryd.prog 24 os) #[.slice none 0 0] 8 rfl (World.shaped_of_RefB (by kernel_rfl) (by kernel_rfl)) (by kernel_rfl) (by kernel_rfl) (by kernel_rfl) (FnExactLogOf_door os _)) ?_
  intro W base args ds gs before hval0 hW _ _ hL _
  have hval : ∀ (j : Nat) t v, Tryd.f6.params[j]? = some t → args[j]? = some v → Value.okWide Tryd.prog W .any base t v := hval0
  have hW' := hW
  obtain ⟨p, q, hA0, hV, rfl, hfz, hnd⟩ := hW
  have hA : DataW.TrodAll enc Tryd.prog W 0 (fun _ => true) true Tryd.f6.params.toList args.toList ds p := hA0
  rw [Tryd.params6] at hA hval
  obtain ⟨v0, vs0, d0, ds0, p0, q0, hargs, rfl, rfl, h0, r0⟩ := trodAll_cons hA
  obtain ⟨rfl, rfl, rfl⟩ := trodAll_nil r0
  obtain rfl : args = #[v0] := by cases args; simp_all
  obtain ⟨rfl, rfl⟩ := trodVars_none hV
  have k0 := h0
  have lt0 : ∀ x ∈ p0, x.block < W.heap.size := by obtain ⟨m, hm⟩ := k0; exact DataW.trod_lt m _ _ _ hm
  obtain ⟨l0, sl0, wf0⟩ := sl_of_Entrys (hval 0 39 v0 rfl rfl) h0
  refine (law_FnExactLogOf W v0 l0 sl0 wf0 (FnExactLogOf_tab hL)).mono fun e W' ⟨he, bel⟩ => ?_
  subst he
  exact ⟨_, rfl, _, _, _, [], _, [], hW', trodAll_mk1 (shut_bool Tryd.underlying4 _), (trodAll_cons_mk (Below.trod laid_out (by kernel_rfl) (of_decide_eq_true (by kernel_rfl)) k0 bel lt0) trodAll_mk0), rfl, bel.frame _, fun h => by cases h⟩

theorem FnExactLogOf_closed : joinedFacts Tryd.pinned.checked.prog 6 Tryd.f6 Rows.fnExactLogOfSpec Rows.fnExactLogOfRow = true := by kernel_rfl

theorem FnExactLogOf_named : Tryd.pinned.checked.prog.funcNamed Rows.fnExactLogOfRow.func = some 6 := by kernel_rfl

theorem FnExactLogOf_row : Rows.FnExactLogOfSaid :=
  OpenClaim.holds_of_wide 6 Tryd.f6 rfl rfl rfl rfl rfl rfl rfl ⟨rfl, rfl, rfl, rfl, rfl⟩ rfl rfl rfl rfl rfl FnExactLogOf_named Tryd.func6 FnExactLogOf_closed
    (of_decide_eq_true (by kernel_rfl)) (by unfold Func.isWrapper; first | (rw [if_pos (by decide +kernel)]; kernel_rfl) | (rw [if_neg (by decide +kernel)]; exact ⟨rfl, rfl⟩))
    (fun os started H enc _ => FnExactLogOf_lifted os started H enc)


theorem FnExactLogOf_holds : Rows.FnExactLogOfCardSaid :=
  Claim7.holds_tied_plain_at .later [] [.data, .data, .data] true Rows.fnExactLogOfCard.stood.harness false
    FnExactLogOf_row (fun _ h => by cases h) (by kernel_rfl) (fun _ h => by cases h) fnExactLogOf_row_tie rfl ⟨rfl, rfl⟩ (by kernel_rfl) rfl
    (fun f fn hf hfn => by
      obtain rfl : f = 6 := (Option.some.inj (FnExactLogOf_named.symm.trans hf)).symm
      obtain rfl : fn = Tryd.f6 := (Option.some.inj (Tryd.func6.symm.trans hfn)).symm
      exact ⟨by kernel_rfl, fun j t ht => by
        rw [Tryd.params6] at ht
        have hm : t ∈ [39] := by simpa using Array.mem_of_getElem? ht
        have hall : ([39].all fun u => !Tryd.prog.wantsStandIn u) = true := by kernel_rfl
        exact (show Tryd.prog.wantsStandIn t = false by simpa using List.all_eq_true.1 hall t hm)⟩)
    (by kernel_rfl)
#print axioms FnExactLogOf_holds

end Go.Proofs.YtblbhemfpdgokaaDoor
