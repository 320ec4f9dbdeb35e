/- FnExactDeskText: for all arguments the program's DeskText returns what the reference's returns, leaves its arguments as they are, and returns memory of its own. No condition. -/
import Derived.Test.YtfldalhojebblaaGreatDoorVText
import Derived.Test.YtfldalhojebblaaGreatDoorCards
import Derived.Test.YtfldalhojebblaaGreatDoorTie
import Derived.Deep.RegionHeld3
import Derived.LaidMore
import Derived.Lay
import Derived.LaidHandle
import Derived.Stop.LaidErr
import Derived.Stop.Joined
import Derived.SevenTiedAt
namespace Go.Proofs.YtfldalhojebblaaGreatDoor
open Go Go.RowKit Go.ChangeShapes Go.WideShapes
set_option linter.unusedSimpArgs false
set_option linter.unusedVariables false
theorem eqDesk_same (w : World) (p q : ByteArray) (v1 v2 t1 t2 : Value) (C : List TCue) (T : List TTitle) (hC : Sl w 4 v1 eCue C) (hT : Sl w 4 v2 eTitle T) (kC : Sl w 4 t1 eCue C) (kT : Sl w 4 t2 eTitle T) :
    Calls Tryz.prog 9 #[.agg #[.string p, v1, v2, .string q], .agg #[.string p, t1, t2, .string q]] w fun e w' => e = .returned (.bool true) ∧ Below w.heap.size w w' := by
  have := eqDesk w p q p q v1 v2 t1 t2 C C T T hC hT kC kT
  rw [sameD_self] at this
  exact this
set_option maxRecDepth 100000 in
set_option maxHeartbeats 8000000 in
theorem law_FnExactDeskText (w : World) (pa : ByteArray) (va1 va2 : Value) (Ca : List TCue) (Ta : List TTitle) (qa : ByteArray) (zpa : pa.size ≤ maxLen) (Sa1 : Sl w 4 va1 eCue Ca) (Sa2 : Sl w 4 va2 eTitle Ta) (ga : ∀ x ∈ Ta, okTitle x) (zqa : qa.size ≤ maxLen) (hsh : Shop w) :
    Calls Tryz.prog 4 #[.agg #[.string pa, va1, va2, .string qa]] w fun e w' => e = .returned (.bool true) ∧ Below w.heap.size w w' := by
  obtain ⟨Aa1, ca1, rfl⟩ := Sa1.sliceD
  obtain ⟨Aa2, ca2, rfl⟩ := Sa2.sliceD
  have hD := desk_new w pa (.slice Aa1 Ca.length ca1) (.slice Aa2 Ta.length ca2) qa 25
  have hb := (Below.refl w.heap.size w).alloc (Nat.le_refl _) (.cells #[.string pa, .slice Aa1 Ca.length ca1, .slice Aa2 Ta.length ca2, .string qa] 25)
  obtain ⟨-, a0, a1, a2, a3⟩ := id hD
  have Ga := hd ga
  have HSH := hd (hsh.below hb)
  have HSL := hd (Sa1.below hb)
  have HSL2 := hd (Sa2.below hb)
  have HB := hd hb
  have HDD := hd hD
  clear ga hsh Sa1 Sa2 hb hD
  by_cases ya : (totDesk pa Ca Ta qa : Int) ≤ 1048576
  case neg =>
    go_enter Tryz.func4, Tryz.ntmps4
    go_wp2_with fail
    refine (szDesk_no _ _ _ _ _ _ _ zpa zqa HSL.out HSL2.out Ga.out _ (by omega) (by omega) (by omega)).mono ?_
    rintro e w1 ⟨rfl, hb1⟩
    go_wp2_with fail
    go_ret
    exact ⟨rfl, below_step HB.out hb1⟩
  have ba1 : Ca.length ≤ 1048576 := by unfold totDesk at ya; omega
  have ba2 : Ta.length ≤ 1048576 := by unfold totDesk totTitle at ya; omega
  have hpz : pa.size ≤ 1048576 := by unfold totDesk at ya; omega
  have hqz : qa.size ≤ 1048576 := by unfold totDesk at ya; omega
  go_enter Tryz.func4, Tryz.ntmps4
  go_wp2_with fail
  generalize w.alloc (.cells #[.string pa, .slice Aa1 Ca.length ca1, .slice Aa2 Ta.length ca2, .string qa] 25) = W at a0 a1 a2 a3 HSH HSL HSL2 HB HDD ⊢
  have K := Below.refl W.heap.size W
  generalize w.heap.size = G0 at a0 a1 a2 a3 HDD ⊢
  refine (szDesk_yes _ _ _ _ _ _ _ zpa zqa HSL.out HSL2.out Ga.out _ (by omega) (by omega) (by omega)).mono ?_
  rintro e w1 ⟨rfl, hb1⟩
  replace K := below_step K hb1
  clear a0 a1 a2 a3 hb1
  obtain ⟨-, a0, a1, a2, a3⟩ := HDD.out.below K
  go_wp2_with fail
  clear a0 a1 a2 a3
  refine (toDesk _ _ _ _ _ _ _ (HSL.out.below K) (HSL2.out.below K) ba1 ba2).mono ?_
  rintro e w3 ⟨A31, c31, A32, c32, rfl, SC3, ST3, hb3⟩
  replace K := below_step K hb3
  clear hb3
  go_wp2_with fail
  refine (text_spec _ _ _ _ _ _ _ SC3 ST3 hpz hqz).mono ?_
  rintro e w4 ⟨rfl, hb4⟩
  replace K := below_step K hb4
  clear hb4 SC3 ST3
  obtain ⟨-, a0, a1, a2, a3⟩ := HDD.out.below K
  go_wp2_with fail
  clear a0 a1 a2 a3
  refine (toDesk _ _ _ _ _ _ _ (HSL.out.below K) (HSL2.out.below K) ba1 ba2).mono ?_
  rintro e w5 ⟨A51, c51, A52, c52, rfl, SC5, ST5, hb5⟩
  replace K := below_step K hb5
  clear hb5
  have hX := desk_new w5 pa (.slice A51 Ca.length c51) (.slice A52 Ta.length c52) qa 31
  have bx := (Below.refl w5.heap.size w5).alloc (Nat.le_refl _) (.cells #[.string pa, .slice A51 Ca.length c51, .slice A52 Ta.length c52, .string qa] 31)
  replace K := below_step K bx
  replace SC5 := SC5.below bx
  replace ST5 := ST5.below bx
  have HX := hd hX
  clear bx hX
  obtain ⟨-, x0, x1, x2, x3⟩ := HX.out
  go_wp2_with fail
  clear x0 x1 x2 x3
  generalize w5.alloc (.cells #[.string pa, .slice A51 Ca.length c51, .slice A52 Ta.length c52, .string qa] 31) = W5 at K SC5 ST5 HX ⊢
  generalize w5.heap.size = G5 at HX ⊢
  refine (text_impl _ _ _ _ _ _ _ SC5 ST5 hpz hqz (HSH.out.below K)).mono ?_
  rintro e w6 ⟨rfl, hb6⟩
  replace K := below_step K hb6
  replace SC5 := SC5.below hb6
  replace ST5 := ST5.below hb6
  have HX6 := hd (HX.out.below hb6)
  clear hb6 HX
  go_wp2_with fail
  have HD6 := hd (HDD.out.below K)
  have HS := hd (show ∀ ww, Below w6.heap.size w6 ww → ww.cell? ⟨G0, 0, none⟩ = some (.string pa) ∧ ww.cell? ⟨G0, 1, none⟩ = some (.slice Aa1 Ca.length ca1) ∧ ww.cell? ⟨G0, 2, none⟩ = some (.slice Aa2 Ta.length ca2) ∧ ww.cell? ⟨G0, 3, none⟩ = some (.string qa) ∧ ww.cell? ⟨G5, 0, none⟩ = some (.string pa) ∧ ww.cell? ⟨G5, 1, none⟩ = some (.slice A51 Ca.length c51) ∧ ww.cell? ⟨G5, 2, none⟩ = some (.slice A52 Ta.length c52) ∧ ww.cell? ⟨G5, 3, none⟩ = some (.string qa) from fun ww k => ⟨(HD6.out.below k).2.1, (HD6.out.below k).2.2.1, (HD6.out.below k).2.2.2.1, (HD6.out.below k).2.2.2.2, (HX6.out.below k).2⟩)
  have KW := K
  replace K := Below.refl w6.heap.size w6
  have HSA := hd (show ∀ ww, Below w6.heap.size w6 ww → Sl ww 4 (.slice Aa1 Ca.length ca1) eCue Ca ∧ Sl ww 4 (.slice Aa2 Ta.length ca2) eTitle Ta from fun ww k => ⟨HSL.out.below (below_step KW k), HSL2.out.below (below_step KW k)⟩)
  have HKW := hd KW
  clear KW
  go_region_held3 (fun ww => ww.cell? ⟨G0, 0, none⟩ = some (.string pa) ∧ ww.cell? ⟨G0, 1, none⟩ = some (.slice Aa1 Ca.length ca1) ∧ ww.cell? ⟨G0, 2, none⟩ = some (.slice Aa2 Ta.length ca2) ∧ ww.cell? ⟨G0, 3, none⟩ = some (.string qa) ∧ ww.cell? ⟨G5, 0, none⟩ = some (.string pa) ∧ ww.cell? ⟨G5, 1, none⟩ = some (.slice A51 Ca.length c51) ∧ ww.cell? ⟨G5, 2, none⟩ = some (.slice A52 Ta.length c52) ∧ ww.cell? ⟨G5, 3, none⟩ = some (.string qa)) (first | with_reducible exact HS.out _ K | with_reducible exact HS.out _ (Below.drew K))
    (first | (go_at_call 7; replace K := Below.drew K; with_reducible refine (toDesk _ _ _ _ _ _ _ (HSA.out _ K).1 (HSA.out _ K).2 ba1 ba2).mono ?_; rintro e w7 ⟨A71, c71, A72, c72, rfl, SC7, ST7, hb7⟩; replace K := below_step K hb7; clear hb7) | (go_at_call 9; with_reducible refine (eqDesk_same _ _ _ _ _ _ _ _ _ (SC5.below K) (ST5.below K) SC7 ST7).mono ?_; rintro e w8 ⟨rfl, hb8⟩; replace K := below_step K hb8; clear hb8))
  all_goals
    go_wp2_with fail
    go_ret
    exact ⟨rfl, below_step HB.out (below_step HKW.out K)⟩


def FnExactDeskText_laid : List (String × DataW Unit) := [("math/bits.deBruijn32tab", Rows.laid_math_bits_deBruijn32tab), ("math/bits.deBruijn64tab", Rows.laid_math_bits_deBruijn64tab), ("internal/strconv.uint64pow10", Rows.laid_internal_strconv_uint64pow10), ("unicode/utf8.acceptRanges", Rows.laid_unicode_utf8_acceptRanges), ("strconv.ErrRange", Rows.laid_strconv_ErrRange), ("strconv.ErrSyntax", Rows.laid_strconv_ErrSyntax), ("unicode/utf8.first", Rows.laid_unicode_utf8_first)]
set_option maxRecDepth 100000 in
theorem FnExactDeskText_tab {W : World} (h0 : laidMetH Tryz.prog FnExactDeskText_laid W) : Tab W := by
  rw [MakeChecks.laidMetH_plain _ _ _ (by kernel_rfl)] at h0
  have h : laidMet Tryz.prog FnExactDeskText_laid W := h0
  exact Lib.tabIs_of_head (g := 0) (t := 113) (e := 92) (n := 20) (by kernel_rfl) (by kernel_rfl) Tryz.underlying113 Tryz.underlying92 (by kernel_rfl) (by kernel_rfl) (laidMet.tail (laidMet.tail h))
set_option maxRecDepth 100000 in
theorem FnExactDeskText_errs {W : World} (h0 : laidMetH Tryz.prog FnExactDeskText_laid W) : Errs W := by
  rw [MakeChecks.laidMetH_plain _ _ _ (by kernel_rfl)] at h0
  have h : laidMet Tryz.prog FnExactDeskText_laid W := h0
  exact ⟨syntax_of_laid (laidMet.tail (laidMet.tail (laidMet.tail (laidMet.tail (laidMet.tail h))))), range_of_laid (laidMet.tail (laidMet.tail (laidMet.tail (laidMet.tail h))))⟩
set_option maxRecDepth 100000 in
theorem FnExactDeskText_lifted (os : Os) (started : os.Started) (H : Type) (enc : TypeId × Value → H) :
    ReturnsInHanded {} Tryz.checked os 4 .any (fun w args => (Rows.fnExactDeskTextSpec.pre enc Tryz.prog Tryz.f4 [] false w args ∧ laidMetH Tryz.prog FnExactDeskText_laid w) ∧ sizedMet enc Tryz.prog Tryz.f4 (OpenSpec.ofChange Rows.fnExactDeskTextSpec) false w args)
      (Rows.fnExactDeskTextSpec.post enc Tryz.prog Tryz.f4 false true false false) := by
  refine handed_shop (C := Tryz.checked) (X := fun w _ => laidMetH Tryz.prog FnExactDeskText_laid w) (fun _ _ _ hh h => h.of_heap hh) own_knob started (by kernel_rfl) Tryz.func4
    (ChangeSpec.witness_shaped (enc := enc) (C := Tryz.checked) (os := os) (X := fun w _ => laidMetH Tryz.prog FnExactDeskText_laid w) false (World.laidAll Tryz.prog os FnExactDeskText_laid) #[.agg #[.string ByteArray.empty, .slice none 0 0, .slice none 0 0, .string ByteArray.empty]] 8 (World.laidAll_os _ _ _) (World.shaped_of_ZipB (by kernel_rfl) (by kernel_rfl)) (by kernel_rfl) (by kernel_rfl) (by kernel_rfl)
      (by rw [MakeChecks.laidMetH_plain _ _ _ (by kernel_rfl)]; exact laidMet_laidAll _ (by kernel_rfl) (by kernel_rfl))) ?_
  intro W base args ds gs before hval0 hW hL hsh
  have hval : ∀ (j : Nat) t v, Tryz.f4.params[j]? = some t → args[j]? = some v → Value.okWide Tryz.prog W .any base t v := hval0
  have hW' := hW
  obtain ⟨p, q, hA0, hV, rfl, hfz, hnd⟩ := hW
  have hA : DataW.TrodAll enc Tryz.prog W 0 (fun _ => true) true Tryz.f4.params.toList args.toList ds p := hA0
  rw [Tryz.params4] at hA hval
  obtain ⟨v0, vs0, d0, ds0, p0, q0, hargs, rfl, rfl, h0, r0⟩ := trodAll_cons hA
  obtain ⟨rfl, rfl, rfl⟩ := trodAll_nil r0
  obtain rfl : args = #[v0] := by cases args; simp_all
  obtain ⟨rfl, rfl⟩ := trodVars_none hV
  have k0 := h0
  have lt0 : ∀ x ∈ p0, x.block < W.heap.size := by obtain ⟨m, hm⟩ := k0; exact DataW.trod_lt m _ _ _ hm
  obtain ⟨p0, va0, vb0, C0, T0, q0, rfl, zp0, sc0, st0, gt0, zq0⟩ := agg_of_Desk (hval 0 25 v0 rfl rfl) h0
  refine (law_FnExactDeskText W p0 va0 vb0 C0 T0 q0 zp0 sc0 st0 gt0 zq0 ⟨FnExactDeskText_tab hL, FnExactDeskText_errs hL, maxL_of_shape hsh⟩).mono fun e W' ⟨he, bel⟩ => ?_
  subst he
  exact ⟨_, rfl, _, _, _, [], _, [], hW', trodAll_mk1 (shut_bool Tryz.underlying4 _), (trodAll_cons_mk (Below.trod laid_out (by kernel_rfl) (of_decide_eq_true (by kernel_rfl)) k0 bel lt0) trodAll_mk0), rfl, bel.frame _, fun h => by cases h⟩

theorem FnExactDeskText_closed : joinedFacts Tryz.pinned.checked.prog 4 Tryz.f4 Rows.fnExactDeskTextSpec Rows.fnExactDeskTextRow = true := by kernel_rfl

theorem FnExactDeskText_named : Tryz.pinned.checked.prog.funcNamed Rows.fnExactDeskTextRow.func = some 4 := by kernel_rfl

theorem FnExactDeskText_row : Rows.FnExactDeskTextSaid :=
  OpenClaim.holds_of_wide 4 Tryz.f4 rfl rfl rfl rfl rfl rfl rfl ⟨rfl, rfl, rfl, rfl, rfl⟩ rfl rfl rfl rfl rfl FnExactDeskText_named Tryz.func4 FnExactDeskText_closed
    (of_decide_eq_true (by kernel_rfl)) (by unfold Func.isWrapper; first | (rw [if_pos (by decide +kernel)]; kernel_rfl) | (rw [if_neg (by decide +kernel)]; exact ⟨rfl, rfl⟩))
    (fun os started H enc _ => FnExactDeskText_lifted os started H enc)


theorem FnExactDeskText_holds : Rows.FnExactDeskTextCardSaid :=
  Claim7.holds_tied_plain_at .later [] [.data, .data, .data, .data, .sentinel, .sentinel, .pinned] true Rows.fnExactDeskTextCard.stood.harness true
    FnExactDeskText_row (fun _ h => by cases h) (by kernel_rfl) (fun _ h => by cases h) fnExactDeskText_row_tie rfl ⟨rfl, rfl⟩ (by kernel_rfl) rfl
    (fun f fn hf hfn => by
      obtain rfl : f = 4 := (Option.some.inj (FnExactDeskText_named.symm.trans hf)).symm
      obtain rfl : fn = Tryz.f4 := (Option.some.inj (Tryz.func4.symm.trans hfn)).symm
      exact ⟨by kernel_rfl, fun j t ht => by
        rw [Tryz.params4] at ht
        have hm : t ∈ [25] := by simpa using Array.mem_of_getElem? ht
        have hall : ([25].all fun u => !Tryz.prog.wantsStandIn u) = true := by kernel_rfl
        exact (show Tryz.prog.wantsStandIn t = false by simpa using List.all_eq_true.1 hall t hm)⟩)
    (by kernel_rfl)
#print axioms FnExactDeskText_holds

end Go.Proofs.YtfldalhojebblaaGreatDoor
