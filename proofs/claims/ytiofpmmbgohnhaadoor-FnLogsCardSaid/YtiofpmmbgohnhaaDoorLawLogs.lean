/- FnLogs: a log gives back its entries, and what is cut off is lost from its line on. No condition. -/
import Derived.Test.YtiofpmmbgohnhaaDoorEDraw
import Derived.Test.YtiofpmmbgohnhaaDoorLogsP
import Derived.Test.YtiofpmmbgohnhaaDoorA2
import Derived.Test.YtiofpmmbgohnhaaDoorLAdd
import Derived.Test.YtiofpmmbgohnhaaDoorLogI
import Derived.Test.YtiofpmmbgohnhaaDoorCards
import Derived.Test.YtiofpmmbgohnhaaDoorTie
import Derived.LaidMore
import Derived.Lay
import Derived.LaidHandle
import Derived.Stop.LaidErr
import Derived.Stop.Joined
import Derived.SevenTiedAt
namespace Go.Proofs.YtiofpmmbgohnhaaDoor
open Go Go.RowKit Go.ChangeShapes Go.WideShapes
set_option linter.unusedSimpArgs false
set_option linter.unusedVariables false
set_option maxRecDepth 100000 in
set_option maxHeartbeats 8000000 in
theorem law_FnLogs (w : World) (v : Value) (l0 : List Int) (h0 : Sl w 1 v eB l0) (hr : ∀ x ∈ l0, 0 ≤ x ∧ x ≤ 255) (u : Value) (m0 : List Int) (g0 : Sl w 1 u eB m0) (gr : ∀ x ∈ m0, 0 ≤ x ∧ x ≤ 255) (hsh : Shop w) :
    Calls Tryd.prog 4 #[v, u] w fun e w' => e = .returned (.bool true) ∧ Below w.heap.size w w' := by
  have hS := h0.bytes hr
  have hM := g0.bytes gr
  generalize toU l0 = l at hS
  generalize toU m0 = m at hM
  clear h0 hr g0 gr
  have B := Below.refl w.heap.size w
  have HSH := hd hsh
  clear hsh
  by_cases hl : l.length ≤ 3000 ∧ m.length ≤ 3000
  case neg =>
    go_enter Tryd.func4, Tryd.ntmps4
    go_wp2_with fail
    refine (a2long_yes _ _ _ _ _ hS hM hl).mono ?_
    rintro e w1 ⟨rfl, rfl⟩
    go_wp2_with fail
    go_ret
    exact ⟨rfl, Below.refl _ _⟩
  obtain ⟨hl, hm⟩ := hl
  have hl1 : l.length ≤ 1048576 := by omega
  go_enter Tryd.func4, Tryd.ntmps4
  go_wp2_with fail
  refine (a2long_no _ _ _ _ _ hS hM hl hm).mono ?_
  rintro e w1 ⟨rfl, hw⟩
  obtain rfl : w = w1 := hw.symm
  go_wp2_with fail
  refine (draw_log _ _ _ hS hl1).mono ?_
  rintro e w1 ⟨u1, L, rfl, O1, HF, hL7, B1⟩
  have hL50 : L.length ≤ 50 := by omega
  have HLZ := logAll_size HF
  have HR := logR_fine HF hL50
  have HE := ent_fine HF hL50
  have HADD := hd (fun i (hi : i < L.length) => add_step HF hL50 hi)
  have HTK := hd (fun k (hk : k ≤ L.length) => log_take (l := L) hk)
  have HCUT := hd (fun (cut : Nat) (hc : cut ≤ (logAll L).size) => cut_law HF hL50 hc)
  have HLE := hd (show (logTo L L.length).1 = logAll L from rfl)
  have HF0 := hd (show (logTo L 0).1 = ⟨#[]⟩ from rfl)
  clear HF
  have S1 := O1.sl eEntry_len
  obtain ⟨A1, c1, rfl⟩ := S1.isSlice
  clear O1
  replace B := below_step B B1
  go_wp2_with fail
  refine (logof_impl _ _ _ S1 (by omega) (HSH.out.below B).1).mono ?_
  rintro e w2 ⟨rfl, B2⟩
  rw [HR]
  clear HR
  replace S1 := S1.below B2
  replace B := below_step B B2
  clear B1 B2
  generalize logAll L = log at HLZ HE HTK HCUT HLE ⊢
  go_wp2_with fail
  refine (ent_impl _ _ (by omega) (HSH.out.below B)).mono ?_
  rintro e w3 ⟨u3, rfl, O3, B3⟩
  rw [HE] at O3 ⊢
  have S3 := O3.sl eEntry_len
  replace S1 := S1.below B3
  replace B := below_step B B3
  clear B3 O3 HE
  obtain ⟨A3, c3, rfl⟩ := S3.isSlice
  go_wp2_with fail
  have BB := B
  go_loopw [10, 11] (fun sv i wr => ∃ k : Nat, k ≤ L.length ∧ i = .int .i64 k ∧ sv = .string (logTo L k).1 ∧ Below w3.heap.size w3 wr) (fun _ i _ => L.length - (intOf i).toNat)
  case atStart => exact ⟨0, Nat.zero_le _, rfl, by rw [HF0.out], Below.refl _ _⟩
  case round =>
    obtain ⟨k, hk, rfl, rfl, B4⟩ := hrel
    replace B := below_step BB B4
    clear BB
    by_cases hlt : k < L.length
    · have HX := HADD.out k hlt
      obtain ⟨t1, t2⟩ := HTK.out (k + 1) hlt
      obtain ⟨t3, -⟩ := HTK.out k (by omega)
      obtain ⟨b1, o1, rfl, n1, p0, p1, p2⟩ := (S1.below B4).Entry_at hlt
      obtain ⟨b3, o3, rfl, n3, q0, q1, q2⟩ := (S3.below B4).Entry_at hlt
      have HK := hd (show ∀ nx, (logTo L (k + 1)).1 = nx → (logTo L (k + 1)).1 = nx from fun _ h => h)
      generalize (logTo L k).1 = st at HX t3 ⊢
      obtain ⟨nx, hnx⟩ : ∃ nx, (logTo L (k + 1)).1 = nx := ⟨_, rfl⟩
      have HNX := hd hnx
      rw [hnx] at HX t1 t2
      clear hnx HK
      generalize L[k] = x at HX p0 p1 p2 q0 q1 q2
      obtain ⟨a, b, c⟩ := x
      dsimp only at p0 p1 p2 q0 q1 q2
      have kk : (nx.toList == (log.extract 0 nx.size).toList) = true := by rw [t2]; simp
      go_upto_region 12 with fail
      go_quiet (fail)
      go_upto_region 14 with fail
      replace B := below_drewN B nq
      replace B4 := below_drewN B4 nq
      go_wp2_with fail
      refine (add_impl _ _ _ _ _ (by omega) (HSH.out.below B)).mono ?_
      rintro e w5 ⟨rfl, B5⟩
      rw [HX]
      replace B := below_step B B5
      replace B4 := below_step B4 B5
      clear B5 HX p0 p1 p2 q0 q1 q2 t2
      go_wp2_with fail
      go_roundw
      case rel => exact ⟨k + 1, by omega, by go_num, by rw [HNX.out], B4⟩
      case measure => simp [intOf]; omega
    · obtain rfl : k = L.length := by omega
      replace S1 := S1.below B4
      replace hM := hM.below B
      clear S3 B4 HADD HTK
      rw [HLE.out]
      go_wp2_with fail
      refine (a2at _ _ _ hM 0 256 (by omega) (by omega) (by omega)).mono ?_
      rintro e w5 ⟨x, ⟨x1, x2⟩, rfl, hw⟩
      obtain rfl : wr = w5 := hw.symm
      go_wp2_with fail
      refine (a2at _ _ _ hM 1 256 (by omega) (by omega) (by omega)).mono ?_
      rintro e w5 ⟨y, ⟨y1, y2⟩, rfl, hw⟩
      obtain rfl : wr = w5 := hw.symm
      go_upto_region 19 with fail
      obtain ⟨cut, hcut⟩ : ∃ c : Nat, min (x + y) ((log.size : Nat) : Int) = (c : Int) := ⟨(min (x + y) ((log.size : Nat) : Int)).toNat, by omega⟩
      have hcl : cut ≤ log.size := by omega
      rw [hcut]
      clear hcut x1 x2 y1 y2
      obtain ⟨z0, at_, z1, z2, z3, z4, z5, z6⟩ := HCUT.out cut hcl
      have hal : at_ ≤ log.size := by omega
      clear HCUT
      go_wp2_with fail
      refine (recover_impl _ _ (by omega) (HSH.out.below B)).mono ?_
      rintro e w6 ⟨rfl, B6⟩
      rw [z3]
      replace S1 := S1.below B6
      replace B := below_step B B6
      clear B6 z3
      go_wp2_with fail
      refine (check_impl _ _ (by omega) (HSH.out.below B)).mono ?_
      rintro e w7 ⟨rfl, B7⟩
      rw [z2]
      replace S1 := S1.below B7
      replace B := below_step B B7
      clear B7 z2 z0
      go_wp2_with fail
      refine (ent_spec _ _ (by omega)).mono ?_
      rintro e w8 ⟨u8, rfl, O8, B8⟩
      replace B := below_step B B8
      have S8 := O8.sl eEntry_len
      obtain ⟨A8, c8, rfl⟩ := S8.isSlice
      rw [z5]
      clear O8 B8
      go_wp2_with fail
      go_ret
      exact ⟨rfl, B⟩


def FnLogs_laid : List (String × DataW Unit) := [("math/bits.deBruijn32tab", Rows.laid_math_bits_deBruijn32tab), ("math/bits.deBruijn64tab", Rows.laid_math_bits_deBruijn64tab), ("internal/strconv.uint64pow10", Rows.laid_internal_strconv_uint64pow10), ("unicode/utf8.acceptRanges", Rows.laid_unicode_utf8_acceptRanges), ("strconv.ErrRange", Rows.laid_strconv_ErrRange), ("strconv.ErrSyntax", Rows.laid_strconv_ErrSyntax), ("unicode/utf8.first", Rows.laid_unicode_utf8_first)]
set_option maxRecDepth 100000 in
theorem FnLogs_tab {W : World} (h0 : laidMetH Tryd.prog FnLogs_laid W) : Tab W := by
  rw [MakeChecks.laidMetH_plain _ _ _ (by kernel_rfl)] at h0
  have h : laidMet Tryd.prog FnLogs_laid W := h0
  exact Lib.tabIs_of_head (g := 1) (t := 181) (e := 128) (n := 20) (by kernel_rfl) (by kernel_rfl) Tryd.underlying181 Tryd.underlying128 (by kernel_rfl) (by kernel_rfl) (laidMet.tail (laidMet.tail h))
set_option maxRecDepth 100000 in
theorem FnLogs_errs {W : World} (h0 : laidMetH Tryd.prog FnLogs_laid W) : Errs W := by
  rw [MakeChecks.laidMetH_plain _ _ _ (by kernel_rfl)] at h0
  have h : laidMet Tryd.prog FnLogs_laid W := h0
  exact ⟨syntax_of_laid (laidMet.tail (laidMet.tail (laidMet.tail (laidMet.tail (laidMet.tail h))))), range_of_laid (laidMet.tail (laidMet.tail (laidMet.tail (laidMet.tail h))))⟩
set_option maxRecDepth 100000 in
theorem FnLogs_lifted (os : Os) (started : os.Started) (H : Type) (enc : TypeId × Value → H) :
    ReturnsInHanded {} Tryd.checked os 4 .any (fun w args => (Rows.fnLogsSpec.pre enc Tryd.prog Tryd.f4 [] false w args ∧ laidMetH Tryd.prog FnLogs_laid w) ∧ sizedMet enc Tryd.prog Tryd.f4 (OpenSpec.ofChange Rows.fnLogsSpec) false w args)
      (Rows.fnLogsSpec.post enc Tryd.prog Tryd.f4 false true false false) := by
  refine handed_shop (C := Tryd.checked) (X := fun w _ => laidMetH Tryd.prog FnLogs_laid w) (fun _ _ _ hh h => h.of_heap hh) own_knob started (by kernel_rfl) Tryd.func4
    (ChangeSpec.witness_shaped (enc := enc) (C := Tryd.checked) (os := os) (X := fun w _ => laidMetH Tryd.prog FnLogs_laid w) false (World.laidAll Tryd.prog os FnLogs_laid) #[.slice none 0 0, .slice none 0 0] 8 (World.laidAll_os _ _ _) (World.shaped_of_ZipB (by kernel_rfl) (by kernel_rfl)) (by kernel_rfl) (by kernel_rfl) (by kernel_rfl)
      (by rw [MakeChecks.laidMetH_plain _ _ _ (by kernel_rfl)]; exact laidMet_laidAll _ (by kernel_rfl) (by kernel_rfl))) ?_
  intro W base args ds gs before hval0 hW hL hsh
  have hval : ∀ (j : Nat) t v, Tryd.f4.params[j]? = some t → args[j]? = some v → Value.okWide Tryd.prog W .any base t v := hval0
  have hW' := hW
  obtain ⟨p, q, hA0, hV, rfl, hfz, hnd⟩ := hW
  have hA : DataW.TrodAll enc Tryd.prog W 0 (fun _ => true) true Tryd.f4.params.toList args.toList ds p := hA0
  rw [Tryd.params4] at hA hval
  obtain ⟨v0, vs0, d0, ds0, p0, q0, hargs, rfl, rfl, h0, r0⟩ := trodAll_cons hA
  obtain ⟨v1, vs1, d1, ds1, p1, q1, rfl, rfl, rfl, h1, r1⟩ := trodAll_cons r0
  obtain ⟨rfl, rfl, rfl⟩ := trodAll_nil r1
  obtain rfl : args = #[v0, v1] := by cases args; simp_all
  obtain ⟨rfl, rfl⟩ := trodVars_none hV
  have k0 := h0
  have lt0 : ∀ x ∈ p0, x.block < W.heap.size := by obtain ⟨m, hm⟩ := k0; exact DataW.trod_lt m _ _ _ hm
  have k1 := h1
  have lt1 : ∀ x ∈ p1, x.block < W.heap.size := by obtain ⟨m, hm⟩ := k1; exact DataW.trod_lt m _ _ _ hm
  obtain ⟨l0, sl0, wf0⟩ := sl_of_bytes Tryd.underlying22 Tryd.underlying5 (by kernel_rfl) (hval 0 22 v0 rfl rfl) h0
  obtain ⟨l1, sl1, wf1⟩ := sl_of_bytes Tryd.underlying22 Tryd.underlying5 (by kernel_rfl) (hval 1 22 v1 rfl rfl) h1
  refine (law_FnLogs W v0 l0 sl0 wf0 v1 l1 sl1 wf1 ⟨FnLogs_tab hL, FnLogs_errs hL, maxL_of_shape hsh⟩).mono fun e W' ⟨he, bel⟩ => ?_
  subst he
  exact ⟨_, rfl, _, _, _, [], _, [], hW', trodAll_mk1 (shut_bool Tryd.underlying4 _), (trodAll_cons_mk (Below.trod laid_out (by kernel_rfl) (of_decide_eq_true (by kernel_rfl)) k0 bel lt0) (trodAll_cons_mk (Below.trod laid_out (by kernel_rfl) (of_decide_eq_true (by kernel_rfl)) k1 bel lt1) trodAll_mk0)), rfl, bel.frame _, fun h => by cases h⟩

theorem FnLogs_closed : joinedFacts Tryd.pinned.checked.prog 4 Tryd.f4 Rows.fnLogsSpec Rows.fnLogsRow = true := by kernel_rfl

theorem FnLogs_named : Tryd.pinned.checked.prog.funcNamed Rows.fnLogsRow.func = some 4 := by kernel_rfl

theorem FnLogs_row : Rows.FnLogsSaid :=
  OpenClaim.holds_of_wide 4 Tryd.f4 rfl rfl rfl rfl rfl rfl rfl ⟨rfl, rfl, rfl, rfl, rfl⟩ rfl rfl rfl rfl rfl FnLogs_named Tryd.func4 FnLogs_closed
    (of_decide_eq_true (by kernel_rfl)) (by unfold Func.isWrapper; first | (rw [if_pos (by decide +kernel)]; kernel_rfl) | (rw [if_neg (by decide +kernel)]; exact ⟨rfl, rfl⟩))
    (fun os started H enc _ => FnLogs_lifted os started H enc)


theorem FnLogs_holds : Rows.FnLogsCardSaid :=
  Claim7.holds_tied_plain_at .later [] [.data, .data, .data, .data, .sentinel, .sentinel, .pinned] true Rows.fnLogsCard.stood.harness true
    FnLogs_row (fun _ h => by cases h) (by kernel_rfl) (fun _ h => by cases h) fnLogs_row_tie rfl ⟨rfl, rfl⟩ (by kernel_rfl) rfl
    (fun f fn hf hfn => by
      obtain rfl : f = 4 := (Option.some.inj (FnLogs_named.symm.trans hf)).symm
      obtain rfl : fn = Tryd.f4 := (Option.some.inj (Tryd.func4.symm.trans hfn)).symm
      exact ⟨by kernel_rfl, fun j t ht => by
        rw [Tryd.params4] at ht
        have hm : t ∈ [22, 22] := by simpa using Array.mem_of_getElem? ht
        have hall : ([22, 22].all fun u => !Tryd.prog.wantsStandIn u) = true := by kernel_rfl
        exact (show Tryd.prog.wantsStandIn t = false by simpa using List.all_eq_true.1 hall t hm)⟩)
    (by kernel_rfl)
#print axioms FnLogs_holds

end Go.Proofs.YtiofpmmbgohnhaaDoor
