/- FnLogSums: sums over all names are the sum of all numbers. No condition. -/
import Derived.Test.YtiofpmmbgohnhaaDoorEDraw
import Derived.Test.YtiofpmmbgohnhaaDoorLSumP
import Derived.Test.YtiofpmmbgohnhaaDoorA2
import Derived.Test.YtiofpmmbgohnhaaDoorCards
import Derived.Test.YtiofpmmbgohnhaaDoorTie
import Derived.LaidMore
import Derived.Lay
import Derived.LaidHandle
import Derived.Stop.LaidErr
import Derived.Stop.Joined
import Derived.SevenTiedAt
namespace Go.Proofs.YtiofpmmbgohnhaaDoor
open Go Go.RowKit Go.ChangeShapes Go.WideShapes
set_option linter.unusedSimpArgs false
set_option linter.unusedVariables false
def sumsTo (l : List TEntry) (N : List ByteArray) (k : Nat) : Int := ((N.take k).map fun t => (vals l t).sum).sum
def manyTo (l : List TEntry) (N : List ByteArray) (k : Nat) : Int := ((N.take k).map fun t => ((vals l t).length : Int)).sum
theorem sum_snoc (f : ByteArray → Int) (N : List ByteArray) (k : Nat) (h : k < N.length) : ((N.take (k + 1)).map f).sum = ((N.take k).map f).sum + f N[k] := by
  rw [List.take_succ_eq_append_getElem h, List.map_append, List.sum_append]
  simp
def wantTo (l : List TEntry) (k : Nat) : Int := ((l.take k).map fun x => x.2.2).sum
theorem wantTo_snoc (l : List TEntry) (k : Nat) (h : k < l.length) : wantTo l (k + 1) = wantTo l k + l[k].2.2 := by
  unfold wantTo
  rw [List.take_succ_eq_append_getElem h, List.map_append, List.sum_append]
  simp
theorem wantTo_bd {l : List TEntry} (h : ∀ x ∈ l, okEntryB x = true) : ∀ k, k ≤ l.length → -1000000 * (k : Int) ≤ wantTo l k ∧ wantTo l k ≤ 1000000 * (k : Int)
  | 0, _ => by simp [wantTo]
  | k + 1, hk => by
    obtain ⟨i1, i2⟩ := wantTo_bd h k (by omega)
    obtain ⟨-, -, b1, b2⟩ := okEntryB_bd (a := l[k].1) (b := l[k].2.1) (c := l[k].2.2) (h _ (List.getElem_mem (by omega)))
    rw [wantTo_snoc l k (by omega)]
    omega
set_option maxRecDepth 100000 in
set_option maxHeartbeats 8000000 in
theorem law_FnLogSums (w : World) (v : Value) (l0 : List Int) (h0 : Sl w 1 v eB l0) (hr : ∀ x ∈ l0, 0 ≤ x ∧ x ≤ 255) (hsh : Shop w) :
    Calls Tryd.prog 3 #[v] w fun e w' => e = .returned (.bool true) ∧ Below w.heap.size w w' := by
  have hS := h0.bytes hr
  generalize toU l0 = l at hS
  clear h0 hr
  have B := Below.refl w.heap.size w
  have HSH := hd hsh
  clear hsh
  by_cases hl : l.length ≤ 3000
  case neg =>
    go_enter Tryd.func3, Tryd.ntmps3
    go_wp2_with fail
    refine (a2long_yes _ _ _ _ _ hS (Sl.nil w 1 eU) (fun h => hl h.1)).mono ?_
    rintro e w1 ⟨rfl, rfl⟩
    go_wp2_with fail
    go_ret
    exact ⟨rfl, Below.refl _ _⟩
  have hl1 : l.length ≤ 1048576 := by omega
  go_enter Tryd.func3, Tryd.ntmps3
  go_wp2_with fail
  refine (a2long_no _ _ _ _ _ hS (Sl.nil w 1 eU) hl (by simp)).mono ?_
  rintro e w1 ⟨rfl, hw⟩
  obtain rfl : w = w1 := hw.symm
  go_wp2_with fail
  refine (draw_log _ _ _ hS hl1).mono ?_
  rintro e w1 ⟨u, L, rfl, O1, HF, hL7, B1⟩
  obtain ⟨W1, W2, W3, W4, W5, W6⟩ := sums_law HF (show L.length ≤ 50 by omega)
  have HN := (nmTo_law L L.length (Nat.le_refl _)).2.2
  have HT : ∀ t ∈ nmTo L L.length, t.size ≤ 9223372036854775807 := fun t ht => by
    obtain ⟨x, hx, rfl⟩ := HN t ht
    have := name_size (okEntryB_bd (a := x.1) (b := x.2.1) (c := x.2.2) (HF.1 x hx)).2.1
    omega
  have HB := hd (wantTo_bd HF.1)
  have HLZ := logAll_size HF
  have HR := logR_fine HF (show L.length ≤ 50 by omega)
  replace HF := hd HF
  have S1 := O1.sl eEntry_len
  obtain ⟨A1, c1, rfl⟩ := S1.isSlice
  clear O1 HN
  go_wp2_with fail
  refine (logof_spec _ _ _ S1 (by omega)).mono ?_
  rintro e w2 ⟨rfl, B2⟩
  rw [HR]
  clear HR
  replace S1 := S1.below B2
  replace B := below_step (below_step B B1) B2
  clear B1 B2
  generalize logAll L = log at HLZ W1 W4 ⊢
  go_wp2_with fail
  refine (nam_impl _ _ (by omega) (HSH.out.below B)).mono ?_
  rintro e w3 ⟨u2, rfl, O2, B3⟩
  rw [W1] at O2 ⊢
  clear W1
  have S2 := O2.sl eS_len
  replace S1 := S1.below B3
  replace B := below_step B B3
  clear B3 O2
  have HTO := hd (show ∀ k, k ≤ (nmTo L L.length).length → (-50000000 * (k : Int) ≤ sumsTo L (nmTo L L.length) k ∧ sumsTo L (nmTo L L.length) k ≤ 50000000 * (k : Int)) ∧ (0 ≤ manyTo L (nmTo L L.length) k ∧ manyTo L (nmTo L L.length) k ≤ 7 * (k : Int)) from fun k => by
    induction k with
    | zero => intro _; simp [sumsTo, manyTo]
    | succ k ih =>
      intro hk
      obtain ⟨i1, i2⟩ := ih (by omega)
      obtain ⟨-, -, -, z1, -, z2, z3⟩ := W4 _ (List.getElem_mem (show k < (nmTo L L.length).length by omega))
      unfold sumsTo manyTo at *
      rw [sum_snoc _ _ _ (by omega), sum_snoc _ _ _ (by omega)]
      omega)
  have E5 := hd (show sumsTo L (nmTo L L.length) (nmTo L L.length).length = wantTo L L.length by unfold sumsTo wantTo; rw [List.take_length, List.take_length]; exact W5)
  have E6 := hd (show manyTo L (nmTo L L.length) (nmTo L L.length).length = (L.length : Int) by unfold manyTo; rw [List.take_length]; exact W6)
  replace W4 := hd W4
  replace HT := hd HT
  clear W5 W6
  generalize nmTo L L.length = N at *
  obtain ⟨b, e1, e2⟩ : ∃ b : Bool, (((N.length : Nat) : Int) == 0) = b ∧ (((L.length : Nat) : Int) == 0) = b := by
    by_cases h : L.length = 0
    · exact ⟨true, by rw [W3.2 h]; rfl, by rw [h]; rfl⟩
    · exact ⟨false, by simp; exact fun e => h (W3.1 (by simpa using e)), by simpa using h⟩
  clear W3
  obtain ⟨A2, c2, rfl⟩ := S2.isSlice
  go_wp2_with fail
  have BB := B
  go_loopw [8, 9, 10] (fun sv mv i wr => ∃ k : Nat, k ≤ N.length ∧ i = .int .i64 k ∧ sv = .int .i64 (sumsTo L N k) ∧ mv = .int .i64 (manyTo L N k) ∧ Below w3.heap.size w3 wr) (fun _ _ i _ => N.length - (intOf i).toNat)
  case atStart => exact ⟨0, Nat.zero_le _, rfl, rfl, rfl, Below.refl _ _⟩
  case round =>
    obtain ⟨k, hk, rfl, rfl, rfl, B4⟩ := hrel
    replace B := below_step BB B4
    clear BB
    obtain ⟨⟨r1, r2⟩, r3, r4⟩ := HTO.out k hk
    by_cases hlt : k < N.length
    · have HS := hd (sum_snoc (fun t => (vals L t).sum) N k hlt)
      have HM := hd (sum_snoc (fun t => ((vals L t).length : Int)) N k hlt)
      have HX := hd (W4.out _ (List.getElem_mem hlt))
      have htz := HT.out _ (List.getElem_mem hlt)
      obtain ⟨b2, o2, rfl, hbl, hc⟩ := (S2.below B4).str_at hlt
      generalize N[k] = t at HS HM HX htz hc
      obtain ⟨q1, q2, q3, q4, q5, q6, q7⟩ := HX.out
      go_wp2_with fail
      refine (sum_impl _ _ _ _ _ (by omega) htz (HSH.out.below B)).mono ?_
      rintro e w5 ⟨rfl, B5⟩
      rw [q1]
      have hc5 := (B5.cell (p := ⟨b2, o2 + k, none⟩) hbl).trans hc
      replace B := below_step B B5
      replace B4 := below_step B4 B5
      clear B5 q1 hc
      go_wp2_with fail
      refine (val_impl _ _ _ (by omega) htz (HSH.out.below B)).mono ?_
      rintro e w6 ⟨u4, rfl, O4, B6⟩
      rw [q2] at O4 ⊢
      have S4 := O4.sl eI_len
      replace B4 := below_step B4 B6
      clear B6 q2 hc5 O4 HX
      have e4 : (((vals L t).length : Int) == 0) = false := beq_eq_false_iff_ne.2 (by omega)
      generalize vals L t = V at *
      obtain ⟨A4, c4, rfl⟩ := S4.isSlice
      go_wp2_with fail
      refine (a2sum _ _ _ S4).mono ?_
      rintro e w7 ⟨rfl, hw⟩
      obtain rfl : w6 = w7 := hw.symm
      rw [q5]
      go_wp2_with fail
      go_roundw
      case rel => exact ⟨k + 1, by omega, by go_num, by rw [show sumsTo L N (k + 1) = sumsTo L N k + V.sum from HS.out], by rw [show manyTo L N (k + 1) = manyTo L N k + (V.length : Int) from HM.out], B4⟩
      case measure => simp [intOf]; omega
    · obtain rfl : k = N.length := by omega
      replace S1 := S1.below B4
      clear S2 B4
      have E5' := E5.out
      have E6' := E6.out
      rw [E5', E6'] at *
      obtain ⟨y1, y2⟩ := HB.out L.length (Nat.le_refl _)
      go_wp2_with fail
      go_loopw [15, 16] (fun sv i wx => ∃ k : Nat, k ≤ L.length ∧ i = .int .i64 k ∧ sv = .int .i64 (wantTo L k) ∧ wx = wr) (fun _ i _ => L.length - (intOf i).toNat)
      case atStart => exact ⟨0, Nat.zero_le _, rfl, rfl, by first | rfl | trivial⟩
      case round =>
        obtain ⟨k, hk, rfl, rfl, rfl⟩ := hrel
        obtain ⟨x1, x2⟩ := HB.out k hk
        by_cases hlt : k < L.length
        · have HS := hd (wantTo_snoc L k hlt)
          obtain ⟨-, -, z1, z2⟩ := okEntryB_bd (a := L[k].1) (b := L[k].2.1) (c := L[k].2.2) (HF.out.1 _ (List.getElem_mem hlt))
          obtain ⟨b2, o2, rfl, hbl, -, -, hc⟩ := S1.Entry_at hlt
          generalize L[k].2.2 = x at hc z1 z2 HS
          go_wp2_with fail
          go_roundw
          case rel => exact ⟨k + 1, by omega, by go_num, by rw [HS.out], by first | rfl | trivial⟩
          case measure => simp [intOf]; omega
        · obtain rfl : k = L.length := by omega
          go_wp2_with fail
          go_ret
          exact ⟨rfl, B⟩


def FnLogSums_laid : List (String × DataW Unit) := [("math/bits.deBruijn32tab", Rows.laid_math_bits_deBruijn32tab), ("math/bits.deBruijn64tab", Rows.laid_math_bits_deBruijn64tab), ("internal/strconv.uint64pow10", Rows.laid_internal_strconv_uint64pow10), ("unicode/utf8.acceptRanges", Rows.laid_unicode_utf8_acceptRanges), ("strconv.ErrRange", Rows.laid_strconv_ErrRange), ("strconv.ErrSyntax", Rows.laid_strconv_ErrSyntax), ("unicode/utf8.first", Rows.laid_unicode_utf8_first)]
set_option maxRecDepth 100000 in
theorem FnLogSums_tab {W : World} (h0 : laidMetH Tryd.prog FnLogSums_laid W) : Tab W := by
  rw [MakeChecks.laidMetH_plain _ _ _ (by kernel_rfl)] at h0
  have h : laidMet Tryd.prog FnLogSums_laid W := h0
  exact Lib.tabIs_of_head (g := 1) (t := 181) (e := 128) (n := 20) (by kernel_rfl) (by kernel_rfl) Tryd.underlying181 Tryd.underlying128 (by kernel_rfl) (by kernel_rfl) (laidMet.tail (laidMet.tail h))
set_option maxRecDepth 100000 in
theorem FnLogSums_errs {W : World} (h0 : laidMetH Tryd.prog FnLogSums_laid W) : Errs W := by
  rw [MakeChecks.laidMetH_plain _ _ _ (by kernel_rfl)] at h0
  have h : laidMet Tryd.prog FnLogSums_laid W := h0
  exact ⟨syntax_of_laid (laidMet.tail (laidMet.tail (laidMet.tail (laidMet.tail (laidMet.tail h))))), range_of_laid (laidMet.tail (laidMet.tail (laidMet.tail (laidMet.tail h))))⟩
set_option maxRecDepth 100000 in
theorem FnLogSums_lifted (os : Os) (started : os.Started) (H : Type) (enc : TypeId × Value → H) :
    ReturnsInHanded {} Tryd.checked os 3 .any (fun w args => (Rows.fnLogSumsSpec.pre enc Tryd.prog Tryd.f3 [] false w args ∧ laidMetH Tryd.prog FnLogSums_laid w) ∧ sizedMet enc Tryd.prog Tryd.f3 (OpenSpec.ofChange Rows.fnLogSumsSpec) false w args)
      (Rows.fnLogSumsSpec.post enc Tryd.prog Tryd.f3 false true false false) := by
  refine handed_shop (C := Tryd.checked) (X := fun w _ => laidMetH Tryd.prog FnLogSums_laid w) (fun _ _ _ hh h => h.of_heap hh) own_knob started (by kernel_rfl) Tryd.func3
    (ChangeSpec.witness_shaped (enc := enc) (C := Tryd.checked) (os := os) (X := fun w _ => laidMetH Tryd.prog FnLogSums_laid w) false (World.laidAll Tryd.prog os FnLogSums_laid) #[.slice none 0 0] 8 (World.laidAll_os _ _ _) (World.shaped_of_ZipB (by kernel_rfl) (by kernel_rfl)) (by kernel_rfl) (by kernel_rfl) (by kernel_rfl)
      (by rw [MakeChecks.laidMetH_plain _ _ _ (by kernel_rfl)]; exact laidMet_laidAll _ (by kernel_rfl) (by kernel_rfl))) ?_
  intro W base args ds gs before hval0 hW hL hsh
  have hval : ∀ (j : Nat) t v, Tryd.f3.params[j]? = some t → args[j]? = some v → Value.okWide Tryd.prog W .any base t v := hval0
  have hW' := hW
  obtain ⟨p, q, hA0, hV, rfl, hfz, hnd⟩ := hW
  have hA : DataW.TrodAll enc Tryd.prog W 0 (fun _ => true) true Tryd.f3.params.toList args.toList ds p := hA0
  rw [Tryd.params3] at hA hval
  obtain ⟨v0, vs0, d0, ds0, p0, q0, hargs, rfl, rfl, h0, r0⟩ := trodAll_cons hA
  obtain ⟨rfl, rfl, rfl⟩ := trodAll_nil r0
  obtain rfl : args = #[v0] := by cases args; simp_all
  obtain ⟨rfl, rfl⟩ := trodVars_none hV
  have k0 := h0
  have lt0 : ∀ x ∈ p0, x.block < W.heap.size := by obtain ⟨m, hm⟩ := k0; exact DataW.trod_lt m _ _ _ hm
  obtain ⟨l0, sl0, wf0⟩ := sl_of_bytes Tryd.underlying22 Tryd.underlying5 (by kernel_rfl) (hval 0 22 v0 rfl rfl) h0
  refine (law_FnLogSums W v0 l0 sl0 wf0 ⟨FnLogSums_tab hL, FnLogSums_errs hL, maxL_of_shape hsh⟩).mono fun e W' ⟨he, bel⟩ => ?_
  subst he
  exact ⟨_, rfl, _, _, _, [], _, [], hW', trodAll_mk1 (shut_bool Tryd.underlying4 _), (trodAll_cons_mk (Below.trod laid_out (by kernel_rfl) (of_decide_eq_true (by kernel_rfl)) k0 bel lt0) trodAll_mk0), rfl, bel.frame _, fun h => by cases h⟩

theorem FnLogSums_closed : joinedFacts Tryd.pinned.checked.prog 3 Tryd.f3 Rows.fnLogSumsSpec Rows.fnLogSumsRow = true := by kernel_rfl

theorem FnLogSums_named : Tryd.pinned.checked.prog.funcNamed Rows.fnLogSumsRow.func = some 3 := by kernel_rfl

theorem FnLogSums_row : Rows.FnLogSumsSaid :=
  OpenClaim.holds_of_wide 3 Tryd.f3 rfl rfl rfl rfl rfl rfl rfl ⟨rfl, rfl, rfl, rfl, rfl⟩ rfl rfl rfl rfl rfl FnLogSums_named Tryd.func3 FnLogSums_closed
    (of_decide_eq_true (by kernel_rfl)) (by unfold Func.isWrapper; first | (rw [if_pos (by decide +kernel)]; kernel_rfl) | (rw [if_neg (by decide +kernel)]; exact ⟨rfl, rfl⟩))
    (fun os started H enc _ => FnLogSums_lifted os started H enc)


theorem FnLogSums_holds : Rows.FnLogSumsCardSaid :=
  Claim7.holds_tied_plain_at .later [] [.data, .data, .data, .data, .sentinel, .sentinel, .pinned] true Rows.fnLogSumsCard.stood.harness true
    FnLogSums_row (fun _ h => by cases h) (by kernel_rfl) (fun _ h => by cases h) fnLogSums_row_tie rfl ⟨rfl, rfl⟩ (by kernel_rfl) rfl
    (fun f fn hf hfn => by
      obtain rfl : f = 3 := (Option.some.inj (FnLogSums_named.symm.trans hf)).symm
      obtain rfl : fn = Tryd.f3 := (Option.some.inj (Tryd.func3.symm.trans hfn)).symm
      exact ⟨by kernel_rfl, fun j t ht => by
        rw [Tryd.params3] at ht
        have hm : t ∈ [22] := by simpa using Array.mem_of_getElem? ht
        have hall : ([22].all fun u => !Tryd.prog.wantsStandIn u) = true := by kernel_rfl
        exact (show Tryd.prog.wantsStandIn t = false by simpa using List.all_eq_true.1 hall t hm)⟩)
    (by kernel_rfl)
#print axioms FnLogSums_holds

end Go.Proofs.YtiofpmmbgohnhaaDoor
