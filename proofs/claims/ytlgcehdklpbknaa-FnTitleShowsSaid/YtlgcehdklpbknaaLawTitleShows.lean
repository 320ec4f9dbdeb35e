/- FnTitleShows: the told titles have enough whole glasses and without the one with the fewest they have not, and titles are found by how they begin. No condition. -/
import Derived.Test.YtlgcehdklpbknaaTtDraw
import Derived.Test.YtlgcehdklpbknaaShowL
namespace Go.Proofs.Ytlgcehdklpbknaa
open Go Go.RowKit Go.ChangeShapes Go.WideShapes
set_option linter.unusedSimpArgs false
set_option linter.unusedVariables false
def six : Array Value := #[.string ⟨#[]⟩, .string ⟨#[97]⟩, .string ⟨#[97, 108, 112]⟩, .string ⟨#[97, 108, 112, 115]⟩, .string ⟨#[109, 111, 111, 110]⟩, .string ⟨#[98]⟩]
theorem name_z {s : ByteArray} (h : isNameB s = true) : s.size ≤ 12 := by
  by_cases q : s.size ≤ 12
  · exact q
  · rw [isName_long q] at h; cases h
theorem six_at {n : Nat} (h : n < 6) : ∃ p : ByteArray, six[n]? = some (.string p) ∧ p.size ≤ 4 := by
  rcases (show n = 0 ∨ n = 1 ∨ n = 2 ∨ n = 3 ∨ n = 4 ∨ n = 5 by omega) with rfl | rfl | rfl | rfl | rfl | rfl <;> exact ⟨_, rfl, by decide⟩
theorem step_six (d : Nat) (pos : String) (a : Act) (w : World) (K : Act → World → Prop) (Q : Exit → Act → World → Prop) (h : K (a.put d (.slice (some ⟨w.heap.size, 0, none⟩) 6 6)) (w.alloc (.cells six 9))) :
    Oper.wp Try.prog ⟨some d,
        Op.buildSlice 81 6
          #[(0, Operand.const (Value.string { data := #[] })), (1, Operand.const (Value.string { data := #[97] })),
            (2, Operand.const (Value.string { data := #[97, 108, 112] })),
            (3, Operand.const (Value.string { data := #[97, 108, 112, 115] })),
            (4, Operand.const (Value.string { data := #[109, 111, 111, 110] })),
            (5, Operand.const (Value.string { data := #[98] }))],
      81, pos, #[], none⟩ a w K Q := by
  simp [go_sem]
  exact h
set_option maxRecDepth 100000 in
set_option maxHeartbeats 16000000 in
theorem law_FnTitleShows (w : World) (v : Value) (l0 : List Int) (h0 : Sl w 1 v eB l0) (hr : ∀ x ∈ l0, 0 ≤ x ∧ x ≤ 255) (u : Value) (m0 : List Int) (g0 : Sl w 1 u eB m0) (gr : ∀ x ∈ m0, 0 ≤ x ∧ x ≤ 255) :
    Calls Try.prog 8 #[v, u] w fun e w' => e = .returned (.bool true) ∧ Below w.heap.size w w' := by
  have hS := h0.bytes hr
  have hM := g0.bytes gr
  generalize toU l0 = l at hS
  generalize toU m0 = m at hM
  clear h0 hr g0 gr
  by_cases hl : l.length ≤ 3000 ∧ m.length ≤ 3000
  case neg =>
    go_enter Try.func8, Try.ntmps8
    go_wp2_with fail
    refine (a2long_yes _ _ _ _ _ hS hM hl).mono ?_
    rintro e w1 ⟨rfl, rfl⟩
    go_wp2_with fail
    go_ret
    exact ⟨rfl, Below.refl _ _⟩
  obtain ⟨hl, hm⟩ := hl
  have hl1 : l.length ≤ 1048576 := by omega
  obtain ⟨AM, cM, rfl⟩ := hM.isSlice
  go_enter Try.func8, Try.ntmps8
  go_wp2_with fail
  refine (a2long_no _ _ _ _ _ hS hM hl hm).mono ?_
  rintro e w1 ⟨rfl, hw⟩
  obtain rfl : w = w1 := hw.symm
  go_wp2_with fail
  refine (draw_a2titles _ _ _ hS hl1).mono ?_
  rintro e w1 ⟨u1, L, rfl, O1, hok, hL6, B⟩
  have S1 := O1.sl eTitle_len
  clear O1 hS hl hl1
  obtain ⟨A1, c1, rfl⟩ := S1.isSlice
  replace hM := hM.below B
  go_wp2_with fail
  refine (a2at _ _ _ hM 0 40 (by omega) (by omega) (by omega)).mono ?_
  rintro e w2 ⟨g, ⟨hg0, hg1⟩, rfl, hw⟩
  obtain rfl : w1 = w2 := hw.symm
  go_wp2_with fail
  refine (show_impl _ _ _ S1 g (by omega)).mono ?_
  rintro e w2 ⟨u2, rfl, O2, B2⟩
  have HY := hd (show_yes (g := g) hok hg0 (by omega))
  have HN := hd (show_no (g := g) hok hg0 (by omega))
  have HOK := hd hok
  clear hok
  generalize showR L g = r at O2 HY HN ⊢
  obtain ⟨T, code⟩ := r
  dsimp only at O2 ⊢
  replace S1 := S1.below B2
  replace hM := hM.below B2
  replace B := below_step B B2
  have S2 := O2.sl eI_len
  clear O2 B2
  obtain ⟨A2, c2, rfl⟩ := S2.isSlice
  go_wp2_with fail
  as_aux_lemma =>
  go_loopw [9, 10] (fun a i wr => ∃ k : Nat, k ≤ L.length ∧ i = .int .i64 k ∧ a = .int .i64 (whTo L k) ∧ Hid (Below w2.heap.size w2 wr)) (fun _ i _ => L.length - (intOf i).toNat)
  case atStart => exact ⟨0, Nat.zero_le _, rfl, rfl, hd (Below.refl _ _)⟩
  case round =>
    obtain ⟨k, hk, rfl, rfl, BW⟩ := hrel
    by_cases hkl : k < L.length
    · as_aux_lemma =>
      have HW := hd (wh_at hkl)
      have HS := hd (whTo_succ L k)
      have hwb := wh_bd HOK.out k
      have hsb := whTo_bd HOK.out k
      obtain ⟨b, o, rfl, -, p0, p1, p2, p3⟩ := (S1.below BW.out).Title_at hkl
      have hb2 := okTitleB_bd (okTitles_at HOK.out k hkl)
      generalize L[k] = x at p0 p1 p2 p3 hb2 HW
      obtain ⟨x0, x1, x2, x3⟩ := x
      obtain ⟨-, -, q2, q3⟩ := hb2
      dsimp only at p0 p1 p2 p3 q2 q3
      clear p0 p1
      generalize whTo L k = s at hsb HS ⊢
      go_wp2_with fail
      go_quiet (fail)
      have HX := hd (show s + (x2 - x3) = whTo L (k + 1) by rw [HS.out, HW.out])
      go_wp2_with fail
      go_roundw
      case rel => exact ⟨k + 1, by omega, by go_num, by rw [HX.out], hd (below_drewN BW.out _)⟩
      case measure => simp [intOf]; omega
    · as_aux_lemma =>
      obtain rfl : k = L.length := by omega
      have hwa := whTo_bd HOK.out L.length
      generalize hA : whTo L L.length = all at hwa HY HN
      clear hA
      by_cases hgs : g ≤ all
      · obtain ⟨K, hK, eT, hT1, hT2⟩ := HY.out hgs
        injection eT with eT ec
        subst ec
        have HLK := hd hT1
        have HLT := hd hT2
        have HT := hd eT
        have hTL : Hid (T.length ≤ 6) := hd (by rw [eT, sortedI_len, cast_take_len _ hK]; omega)
        clear hT1 hT2 eT HY HN
        go_wp2_with fail
        refine (a2rises_ok _ _ T (S2.below BW.out) L.length (by omega) (by rw [HT.out]; exact set_rises _ _)).mono ?_
        rintro e w3 ⟨rfl, D3⟩
        have B3 := hd (BW.out.trans (D3.below.mono BW.out.size))
        clear D3 BW
        go_wp2_with fail
        as_aux_lemma =>
        go_loopw [11, 12, 13] (fun s m i wr => ∃ p : Nat, p ≤ T.length ∧ i = .int .i64 p ∧ s = .int .i64 (sumF L (T.take p)) ∧ m = .int .i64 (leastF L (T.take p)) ∧ Hid (Below w2.heap.size w2 wr)) (fun _ _ i _ => T.length - (intOf i).toNat)
        case atStart => exact ⟨0, Nat.zero_le _, rfl, rfl, rfl, B3⟩
        case round =>
          obtain ⟨p, hp, rfl, rfl, rfl, BW⟩ := hrel
          clear B3
          by_cases hpl : p < T.length
          · as_aux_lemma =>
            obtain ⟨i, hi, ei⟩ : ∃ i : Nat, i < L.length ∧ T[p] = (i : Int) := by
              have h := HT.out
              subst h
              exact set_at hpl
            have HS := hd (sumF_snoc L T hpl)
            have HM := hd (leastF_snoc L T hpl)
            have hsb := sumF_bd HOK.out (T.take p)
            have hmb := leastF_bd HOK.out (T.take p)
            have htz := hTL.out
            have hpz : (T.take p).length ≤ 6 := by have := hTL.out; simp; omega
            obtain ⟨b2, o2, rfl, -, r0⟩ := (S2.below BW.out).int_at hpl
            rw [ei] at r0 HS HM
            have HW := hd (wh_at hi)
            have hwb := wh_bd HOK.out i
            obtain ⟨b, o, rfl, -, p0, p1, p2, p3⟩ := (S1.below BW.out).Title_at hi
            have hb2 := okTitleB_bd (okTitles_at HOK.out i hi)
            generalize L[i] = x at p0 p1 p2 p3 hb2 HW
            obtain ⟨x0, x1, x2, x3⟩ := x
            obtain ⟨-, -, q2, q3⟩ := hb2
            dsimp only at p0 p1 p2 p3 q2 q3
            clear p0 p1 ei
            generalize sumF L (T.take p) = s at hsb HS ⊢
            generalize leastF L (T.take p) = lm at hmb HM ⊢
            generalize (T.take p).length = pl at hsb hpz
            go_wp2_with fail
            go_quiet (fail)
            have HW' := hd (show fI L (i : Int) = x2 - x3 from HW.out)
            have hy : 0 ≤ x2 - x3 ∧ x2 - x3 ≤ 30 := by omega
            replace BW := hd (below_drewN BW.out nq)
            clear hwb q2 q3 p2 p3 r0 HW
            rw [HW'.out] at HS HM
            clear HW'
            generalize x2 - x3 = y at HS HM hy ⊢
            go_wp2_with fail
            go_roundw
            case rel => exact ⟨p + 1, by omega, by go_num, by rw [HS.out], by rw [HM.out], BW⟩
            case measure => simp [intOf]; omega
          · obtain rfl : p = T.length := by omega
            rw [List.take_length]
            have hsb := sumF_bd HOK.out T
            have hmb := leastF_bd HOK.out T
            have HSS := hd (show sumF L T = sumW L K by rw [HT.out]; exact sumF_set L K)
            have hge : g ≤ sumF L T := by rw [HSS.out]; exact HLK.out
            have HFEW := hd (fun (hpos : 0 < T.length) => show sumF L T - leastF L T < g by
              rw [HSS.out]
              have h := HT.out
              subst h
              exact set_few HOK.out hK HLT.out hpos)
            have HOUT := hd (fun (hpos : 0 < T.length) (i : Nat) (hi : i < L.length) (hn : isIn T i = false) => show wh L i ≤ leastF L T by
              have h := HT.out
              subst h
              exact set_out HOK.out hK hi hn hpos)
            have htz := hTL.out
            clear HT HSS
            generalize sumF L T = s at hsb hge HFEW ⊢
            generalize leastF L T = lm at hmb HFEW HOUT ⊢
            by_cases hT0 : 0 < T.length
            · have hfew := HFEW.out hT0
              clear HFEW
              go_wp2_with fail
              clear hfew hge hsb
              as_aux_lemma =>
              go_loopw [15] (fun i wr => ∃ k : Nat, k ≤ L.length ∧ i = .int .i64 k ∧ Hid (Below w2.heap.size w2 wr)) (fun i _ => L.length - (intOf i).toNat)
              case atStart => exact ⟨0, Nat.zero_le _, rfl, BW⟩
              case round =>
                obtain ⟨k, hk, rfl, BV⟩ := hrel
                clear BW
                by_cases hkl : k < L.length
                · as_aux_lemma =>
                  have HLE := hd (HOUT.out hT0 k hkl)
                  have HW := hd (wh_at hkl)
                  obtain ⟨b, o, rfl, -, p0, p1, p2, p3⟩ := (S1.below BV.out).Title_at hkl
                  have hb2 := okTitleB_bd (okTitles_at HOK.out k hkl)
                  generalize L[k] = x at p0 p1 p2 p3 hb2 HW
                  obtain ⟨x0, x1, x2, x3⟩ := x
                  obtain ⟨-, -, q2, q3⟩ := hb2
                  dsimp only at p0 p1 p2 p3 q2 q3
                  clear p0 p1
                  rcases hn : isIn T (k : Int) with _ | _
                  · have HA := hd (show ∀ n, Calls Try.prog 20 #[.slice A2 T.length c2, .int .i64 (k : Int)] (wr.drewN n) (fun e w' => e = .returned (.bool false) ∧ w' = wr.drewN n) from fun n => by
                      have h := a2in (wr.drewN n) _ T ((S2.below BV.out).drewN n) (k : Int)
                      rw [hn] at h
                      exact h)
                    have hle : x2 - x3 ≤ lm := by rw [← HW.out]; exact HLE.out hn
                    clear HLE HW hn HOUT
                    go_wp2_with fail
                    go_quiet (first | (go_at_call 20; exact Calls.quiet_of_same (HA.out _)))
                    go_wp2_with fail
                    go_roundw
                    case rel => exact ⟨k + 1, by omega, by go_num, hd (below_drewN BV.out _)⟩
                    case measure => simp [intOf]; omega
                  · have HA := hd (show ∀ n, Calls Try.prog 20 #[.slice A2 T.length c2, .int .i64 (k : Int)] (wr.drewN n) (fun e w' => e = .returned (.bool true) ∧ w' = wr.drewN n) from fun n => by
                      have h := a2in (wr.drewN n) _ T ((S2.below BV.out).drewN n) (k : Int)
                      rw [hn] at h
                      exact h)
                    clear HLE HW hn HOUT p2 p3
                    go_wp2_with fail
                    go_quiet (first | (go_at_call 20; exact Calls.quiet_of_same (HA.out _)))
                    go_wp2_with fail
                    go_roundw
                    case rel => exact ⟨k + 1, by omega, by go_num, hd (below_drewN BV.out _)⟩
                    case measure => simp [intOf]; omega
                · obtain rfl : k = L.length := by omega
                  clear hkl hk
                  replace BW := BV
                  clear BV
                  go_upto_region 31 with fail
                  have hMr := hM.below BW.out
                  have S1r := S1.below BW.out
                  have Br := hd (below_step B BW.out)
                  clear BW
                  iterate 2 (first | go_values | go_skip | go_guarded | go_step | go_upon | go_back)
                  refine step_six _ _ _ _ _ _ ?_
                  go_wp2_with fail
                  refine (a2at _ _ _ (hMr.alloc (.cells six 9)) 1 6 (by omega) (by omega) (by omega)).mono ?_
                  rintro e w5 ⟨x, ⟨hx0, hx1⟩, rfl, rfl⟩
                  obtain ⟨n, rfl⟩ : ∃ n : Nat, x = (n : Int) := ⟨x.toNat, by omega⟩
                  obtain ⟨p, hp, hpz⟩ := six_at (n := n) (by omega)
                  have q := new_cell wr six 9 n _ hp
                  have Bz := (Below.refl wr.heap.size wr).alloc (Nat.le_refl _) (.cells six 9)
                  replace S1r := S1r.below Bz
                  replace Br := hd (below_step Br.out Bz)
                  clear hMr hp Bz
                  generalize wr.heap.size = gz at q ⊢
                  generalize wr.alloc (.cells six 9) = W at q S1r Br ⊢
                  go_wp2_with fail
                  refine (with_impl _ _ _ S1r p (by omega)).mono ?_
                  rintro e w6 ⟨u6, rfl, O6, B6⟩
                  have eW : withR L p = (withTo L p L.length, 0) := by unfold withR; rw [if_pos HOK.out]
                  rw [eW] at O6 ⊢
                  clear eW q
                  replace S1r := S1r.below B6
                  replace Br := hd (below_step Br.out B6)
                  have S6 := O6.sl eI_len
                  clear O6 B6
                  have HM := hd (fun (i : Nat) (hi : i < L.length) => with_mem (p := p) hi)
                  have HR := hd (with_rises L p)
                  generalize withTo L p L.length = F at S6 HM HR ⊢
                  obtain ⟨A6, c6, rfl⟩ := S6.isSlice
                  go_wp2_with fail
                  refine (a2rises_ok _ _ F S6 L.length (by omega) HR.out).mono ?_
                  rintro e w7 ⟨rfl, D7⟩
                  replace S1r := S1r.below D7.below
                  replace S6 := S6.below D7.below
                  replace Br := hd (below_step Br.out D7.below)
                  clear D7 HR
                  go_wp2_with fail
                  as_aux_lemma =>
                  go_loopw [19] (fun i wr => ∃ k : Nat, k ≤ L.length ∧ i = .int .i64 k ∧ Hid (Below w7.heap.size w7 wr)) (fun i _ => L.length - (intOf i).toNat)
                  case atStart => exact ⟨0, Nat.zero_le _, rfl, hd (Below.refl _ _)⟩
                  case round =>
                    obtain ⟨k, hk, rfl, BW⟩ := hrel
                    by_cases hkl : k < L.length
                    · as_aux_lemma =>
                      have HB := hd (HM.out k hkl)
                      have HG := hd (show L.getD k noT = L[k] by rw [List.getD_eq_getElem?_getD, List.getElem?_eq_getElem hkl]; rfl)
                      have hnz := hd (name_z (okTitleB_bd (okTitles_at HOK.out k hkl)).2.1)
                      obtain ⟨b, o, rfl, -, p0, p1, p2, p3⟩ := (S1r.below BW.out).Title_at hkl
                      generalize L[k] = x at p0 p1 p2 p3 HG hnz
                      obtain ⟨x0, x1, x2, x3⟩ := x
                      dsimp only at p0 p1 p2 p3
                      have hx1 : x1.size ≤ 100 := by have := hnz.out; dsimp only at this; omega
                      replace HB := hd (HB.out.trans (by rw [HG.out]))
                      dsimp only at HB
                      have S6w := S6.below BW.out
                      clear p0 p2 p3 HG hnz
                      by_cases q : p.size ≤ x1.size
                      · have HE := hd (show isIn F (k : Int) = ((x1.extract 0 p.size).toList == p.toList) by rw [HB.out]; unfold beginsB; rw [decide_eq_true q, Bool.true_and])
                        rcases hq : ((x1.extract 0 p.size).toList == p.toList) with _ | _
                        all_goals rw [hq] at HE
                        all_goals go_wp2_with fail
                        all_goals refine (a2in _ _ F S6w _).mono ?_
                        all_goals rintro e w8 ⟨rfl, hw⟩
                        all_goals obtain rfl : wr = w8 := hw.symm
                        all_goals rw [HE.out]
                        all_goals go_wp2_with fail
                        all_goals go_roundw
                        all_goals first
                          | (case rel => exact ⟨k + 1, by omega, by go_num, BW⟩)
                          | (case measure => simp [intOf]; omega)
                      · have HE := hd (show isIn F (k : Int) = false by rw [HB.out]; unfold beginsB; rw [decide_eq_false q, Bool.false_and])
                        have q' : x1.size < p.size := by omega
                        clear q
                        go_wp2_with fail
                        refine (a2in _ _ F S6w _).mono ?_
                        rintro e w8 ⟨rfl, hw⟩
                        obtain rfl : wr = w8 := hw.symm
                        rw [HE.out]
                        go_wp2_with fail
                        go_roundw
                        case rel => exact ⟨k + 1, by omega, by go_num, BW⟩
                        case measure => simp [intOf]; omega
                    · go_wp2_with fail
                      go_ret
                      exact ⟨rfl, below_step Br.out BW.out⟩
            · have hT1 : T.length = 0 := by omega
              have hT2 : T = [] := List.eq_nil_of_length_eq_zero hT1
              clear HFEW HOUT hT0 hT1 htz hTL
              subst hT2
              go_wp2_with fail
              clear hge hsb
              as_aux_lemma =>
              go_loopw [15] (fun i wr => ∃ k : Nat, k ≤ L.length ∧ i = .int .i64 k ∧ Hid (Below w2.heap.size w2 wr)) (fun i _ => L.length - (intOf i).toNat)
              case atStart => exact ⟨0, Nat.zero_le _, rfl, BW⟩
              case round =>
                obtain ⟨k, hk, rfl, BV⟩ := hrel
                clear BW
                by_cases hkl : k < L.length
                · as_aux_lemma =>
                  go_wp2_with fail
                  go_quiet (fail)
                  go_wp2_with fail
                  go_roundw
                  case rel => exact ⟨k + 1, by omega, by go_num, hd (below_drewN BV.out _)⟩
                  case measure => simp [intOf]; omega
                · obtain rfl : k = L.length := by omega
                  clear hkl hk
                  replace BW := BV
                  clear BV
                  go_upto_region 31 with fail
                  have hMr := hM.below BW.out
                  have S1r := S1.below BW.out
                  have Br := hd (below_step B BW.out)
                  clear BW
                  iterate 2 (first | go_values | go_skip | go_guarded | go_step | go_upon | go_back)
                  refine step_six _ _ _ _ _ _ ?_
                  go_wp2_with fail
                  refine (a2at _ _ _ (hMr.alloc (.cells six 9)) 1 6 (by omega) (by omega) (by omega)).mono ?_
                  rintro e w5 ⟨x, ⟨hx0, hx1⟩, rfl, rfl⟩
                  obtain ⟨n, rfl⟩ : ∃ n : Nat, x = (n : Int) := ⟨x.toNat, by omega⟩
                  obtain ⟨p, hp, hpz⟩ := six_at (n := n) (by omega)
                  have q := new_cell wr six 9 n _ hp
                  have Bz := (Below.refl wr.heap.size wr).alloc (Nat.le_refl _) (.cells six 9)
                  replace S1r := S1r.below Bz
                  replace Br := hd (below_step Br.out Bz)
                  clear hMr hp Bz
                  generalize wr.heap.size = gz at q ⊢
                  generalize wr.alloc (.cells six 9) = W at q S1r Br ⊢
                  go_wp2_with fail
                  refine (with_impl _ _ _ S1r p (by omega)).mono ?_
                  rintro e w6 ⟨u6, rfl, O6, B6⟩
                  have eW : withR L p = (withTo L p L.length, 0) := by unfold withR; rw [if_pos HOK.out]
                  rw [eW] at O6 ⊢
                  clear eW q
                  replace S1r := S1r.below B6
                  replace Br := hd (below_step Br.out B6)
                  have S6 := O6.sl eI_len
                  clear O6 B6
                  have HM := hd (fun (i : Nat) (hi : i < L.length) => with_mem (p := p) hi)
                  have HR := hd (with_rises L p)
                  generalize withTo L p L.length = F at S6 HM HR ⊢
                  obtain ⟨A6, c6, rfl⟩ := S6.isSlice
                  go_wp2_with fail
                  refine (a2rises_ok _ _ F S6 L.length (by omega) HR.out).mono ?_
                  rintro e w7 ⟨rfl, D7⟩
                  replace S1r := S1r.below D7.below
                  replace S6 := S6.below D7.below
                  replace Br := hd (below_step Br.out D7.below)
                  clear D7 HR
                  go_wp2_with fail
                  as_aux_lemma =>
                  go_loopw [19] (fun i wr => ∃ k : Nat, k ≤ L.length ∧ i = .int .i64 k ∧ Hid (Below w7.heap.size w7 wr)) (fun i _ => L.length - (intOf i).toNat)
                  case atStart => exact ⟨0, Nat.zero_le _, rfl, hd (Below.refl _ _)⟩
                  case round =>
                    obtain ⟨k, hk, rfl, BW⟩ := hrel
                    by_cases hkl : k < L.length
                    · as_aux_lemma =>
                      have HB := hd (HM.out k hkl)
                      have HG := hd (show L.getD k noT = L[k] by rw [List.getD_eq_getElem?_getD, List.getElem?_eq_getElem hkl]; rfl)
                      have hnz := hd (name_z (okTitleB_bd (okTitles_at HOK.out k hkl)).2.1)
                      obtain ⟨b, o, rfl, -, p0, p1, p2, p3⟩ := (S1r.below BW.out).Title_at hkl
                      generalize L[k] = x at p0 p1 p2 p3 HG hnz
                      obtain ⟨x0, x1, x2, x3⟩ := x
                      dsimp only at p0 p1 p2 p3
                      have hx1 : x1.size ≤ 100 := by have := hnz.out; dsimp only at this; omega
                      replace HB := hd (HB.out.trans (by rw [HG.out]))
                      dsimp only at HB
                      have S6w := S6.below BW.out
                      clear p0 p2 p3 HG hnz
                      by_cases q : p.size ≤ x1.size
                      · have HE := hd (show isIn F (k : Int) = ((x1.extract 0 p.size).toList == p.toList) by rw [HB.out]; unfold beginsB; rw [decide_eq_true q, Bool.true_and])
                        rcases hq : ((x1.extract 0 p.size).toList == p.toList) with _ | _
                        all_goals rw [hq] at HE
                        all_goals go_wp2_with fail
                        all_goals refine (a2in _ _ F S6w _).mono ?_
                        all_goals rintro e w8 ⟨rfl, hw⟩
                        all_goals obtain rfl : wr = w8 := hw.symm
                        all_goals rw [HE.out]
                        all_goals go_wp2_with fail
                        all_goals go_roundw
                        all_goals first
                          | (case rel => exact ⟨k + 1, by omega, by go_num, BW⟩)
                          | (case measure => simp [intOf]; omega)
                      · have HE := hd (show isIn F (k : Int) = false by rw [HB.out]; unfold beginsB; rw [decide_eq_false q, Bool.false_and])
                        have q' : x1.size < p.size := by omega
                        clear q
                        go_wp2_with fail
                        refine (a2in _ _ F S6w _).mono ?_
                        rintro e w8 ⟨rfl, hw⟩
                        obtain rfl : wr = w8 := hw.symm
                        rw [HE.out]
                        go_wp2_with fail
                        go_roundw
                        case rel => exact ⟨k + 1, by omega, by go_num, BW⟩
                        case measure => simp [intOf]; omega
                    · go_wp2_with fail
                      go_ret
                      exact ⟨rfl, below_step Br.out BW.out⟩
      · have hgs' : all < g := by omega
        have eT := HN.out hgs'
        injection eT with eT ec
        subst ec
        clear HY HN eT hgs
        go_upto_region 31 with fail
        have hMr := hM.below BW.out
        have S1r := S1.below BW.out
        have Br := hd (below_step B BW.out)
        clear BW
        iterate 2 (first | go_values | go_skip | go_guarded | go_step | go_upon | go_back)
        refine step_six _ _ _ _ _ _ ?_
        go_wp2_with fail
        refine (a2at _ _ _ (hMr.alloc (.cells six 9)) 1 6 (by omega) (by omega) (by omega)).mono ?_
        rintro e w5 ⟨x, ⟨hx0, hx1⟩, rfl, rfl⟩
        obtain ⟨n, rfl⟩ : ∃ n : Nat, x = (n : Int) := ⟨x.toNat, by omega⟩
        obtain ⟨p, hp, hpz⟩ := six_at (n := n) (by omega)
        have q := new_cell wr six 9 n _ hp
        have Bz := (Below.refl wr.heap.size wr).alloc (Nat.le_refl _) (.cells six 9)
        replace S1r := S1r.below Bz
        replace Br := hd (below_step Br.out Bz)
        clear hMr hp Bz
        generalize wr.heap.size = gz at q ⊢
        generalize wr.alloc (.cells six 9) = W at q S1r Br ⊢
        go_wp2_with fail
        refine (with_impl _ _ _ S1r p (by omega)).mono ?_
        rintro e w6 ⟨u6, rfl, O6, B6⟩
        have eW : withR L p = (withTo L p L.length, 0) := by unfold withR; rw [if_pos HOK.out]
        rw [eW] at O6 ⊢
        clear eW q
        replace S1r := S1r.below B6
        replace Br := hd (below_step Br.out B6)
        have S6 := O6.sl eI_len
        clear O6 B6
        have HM := hd (fun (i : Nat) (hi : i < L.length) => with_mem (p := p) hi)
        have HR := hd (with_rises L p)
        generalize withTo L p L.length = F at S6 HM HR ⊢
        obtain ⟨A6, c6, rfl⟩ := S6.isSlice
        go_wp2_with fail
        refine (a2rises_ok _ _ F S6 L.length (by omega) HR.out).mono ?_
        rintro e w7 ⟨rfl, D7⟩
        replace S1r := S1r.below D7.below
        replace S6 := S6.below D7.below
        replace Br := hd (below_step Br.out D7.below)
        clear D7 HR
        go_wp2_with fail
        as_aux_lemma =>
        go_loopw [19] (fun i wr => ∃ k : Nat, k ≤ L.length ∧ i = .int .i64 k ∧ Hid (Below w7.heap.size w7 wr)) (fun i _ => L.length - (intOf i).toNat)
        case atStart => exact ⟨0, Nat.zero_le _, rfl, hd (Below.refl _ _)⟩
        case round =>
          obtain ⟨k, hk, rfl, BW⟩ := hrel
          by_cases hkl : k < L.length
          · as_aux_lemma =>
            have HB := hd (HM.out k hkl)
            have HG := hd (show L.getD k noT = L[k] by rw [List.getD_eq_getElem?_getD, List.getElem?_eq_getElem hkl]; rfl)
            have hnz := hd (name_z (okTitleB_bd (okTitles_at HOK.out k hkl)).2.1)
            obtain ⟨b, o, rfl, -, p0, p1, p2, p3⟩ := (S1r.below BW.out).Title_at hkl
            generalize L[k] = x at p0 p1 p2 p3 HG hnz
            obtain ⟨x0, x1, x2, x3⟩ := x
            dsimp only at p0 p1 p2 p3
            have hx1 : x1.size ≤ 100 := by have := hnz.out; dsimp only at this; omega
            replace HB := hd (HB.out.trans (by rw [HG.out]))
            dsimp only at HB
            have S6w := S6.below BW.out
            clear p0 p2 p3 HG hnz
            by_cases q : p.size ≤ x1.size
            · have HE := hd (show isIn F (k : Int) = ((x1.extract 0 p.size).toList == p.toList) by rw [HB.out]; unfold beginsB; rw [decide_eq_true q, Bool.true_and])
              rcases hq : ((x1.extract 0 p.size).toList == p.toList) with _ | _
              all_goals rw [hq] at HE
              all_goals go_wp2_with fail
              all_goals refine (a2in _ _ F S6w _).mono ?_
              all_goals rintro e w8 ⟨rfl, hw⟩
              all_goals obtain rfl : wr = w8 := hw.symm
              all_goals rw [HE.out]
              all_goals go_wp2_with fail
              all_goals go_roundw
              all_goals first
                | (case rel => exact ⟨k + 1, by omega, by go_num, BW⟩)
                | (case measure => simp [intOf]; omega)
            · have HE := hd (show isIn F (k : Int) = false by rw [HB.out]; unfold beginsB; rw [decide_eq_false q, Bool.false_and])
              have q' : x1.size < p.size := by omega
              clear q
              go_wp2_with fail
              refine (a2in _ _ F S6w _).mono ?_
              rintro e w8 ⟨rfl, hw⟩
              obtain rfl : wr = w8 := hw.symm
              rw [HE.out]
              go_wp2_with fail
              go_roundw
              case rel => exact ⟨k + 1, by omega, by go_num, BW⟩
              case measure => simp [intOf]; omega
          · go_wp2_with fail
            go_ret
            exact ⟨rfl, below_step Br.out BW.out⟩
set_option maxRecDepth 100000 in
theorem FnTitleShows_lifted (os : Os) (started : os.Started) (H : Type) (enc : TypeId × Value → H) :
    ReturnsInHanded {} Try.checked os 8 .any (Rows.fnTitleShowsSpec.pre6 enc Try.prog Try.f8 Rows.fnTitleShowsRow.domain false) (Rows.fnTitleShowsSpec.post enc Try.prog Try.f8 false true false false) := by
  refine returnsInHanded_of_change (C := Try.checked) own_knob started (by kernel_rfl) Try.func8
    (ChangeSpec.witness6 (enc := enc) (C := Try.checked) false ⟨#[], #[.slice none 0 0, .slice none 0 0], []⟩ 8 (by kernel_rfl) (by kernel_rfl) (by kernel_rfl) (by kernel_rfl)) ?_
  intro W base args ds gs before hval0 hW hcnd _
  have hval : ∀ (j : Nat) t v, Try.f8.params[j]? = some t → args[j]? = some v → Value.okWide Try.prog W .any base t v := hval0
  have hW' := hW
  obtain ⟨p, q, hA0, hV, rfl, hfz, hnd⟩ := hW
  have hA : DataW.TrodAll enc Try.prog W 0 (fun _ => true) true Try.f8.params.toList args.toList ds p := hA0
  rw [Try.params8] at hA hval
  obtain ⟨v0, vs0, d0, ds0, p0, q0, hargs, rfl, rfl, h0, r0⟩ := trodAll_cons hA
  obtain ⟨v1, vs1, d1, ds1, p1, q1, rfl, rfl, rfl, h1, r1⟩ := trodAll_cons r0
  obtain ⟨rfl, rfl, rfl⟩ := trodAll_nil r1
  obtain rfl : args = #[v0, v1] := by cases args; simp_all
  obtain ⟨rfl, rfl⟩ := trodVars_none hV
  have k0 := h0
  have lt0 : ∀ x ∈ p0, x.block < W.heap.size := by obtain ⟨m, hm⟩ := k0; exact DataW.trod_lt m _ _ _ hm
  have k1 := h1
  have lt1 : ∀ x ∈ p1, x.block < W.heap.size := by obtain ⟨m, hm⟩ := k1; exact DataW.trod_lt m _ _ _ hm
  obtain ⟨l0, sl0, wf0⟩ := sl_of_bytes Try.underlying22 Try.underlying5 (by kernel_rfl) (hval 0 22 v0 rfl rfl) h0
  obtain ⟨l1, sl1, wf1⟩ := sl_of_bytes Try.underlying22 Try.underlying5 (by kernel_rfl) (hval 1 22 v1 rfl rfl) h1
  refine (law_FnTitleShows W v0 l0 sl0 wf0 v1 l1 sl1 wf1).mono fun e W' ⟨he, bel⟩ => ?_
  subst he
  exact ⟨_, rfl, _, _, _, [], _, [], hW', trodAll_mk1 (shut_bool Try.underlying4 _), (trodAll_cons_mk (Below.trod laid_out (by kernel_rfl) (of_decide_eq_true (by kernel_rfl)) k0 bel lt0) (trodAll_cons_mk (Below.trod laid_out (by kernel_rfl) (of_decide_eq_true (by kernel_rfl)) k1 bel lt1) trodAll_mk0)), rfl, bel.frame _, fun h => by cases h⟩

theorem FnTitleShows_closed : joinedFacts Try.pinned.checked.prog 8 Try.f8 Rows.fnTitleShowsSpec Rows.fnTitleShowsRow = true := by
  unfold joinedFacts; rw [seat_enter, seat_lifts, seat_make]; kernel_rfl

theorem FnTitleShows_named : Try.pinned.checked.prog.funcNamed Rows.fnTitleShowsRow.func = some 8 := by kernel_rfl

theorem FnTitleShows_holds : Rows.FnTitleShowsSaid :=
  OpenClaim.holds_of_wide 8 Try.f8 rfl rfl rfl rfl rfl rfl rfl ⟨rfl, rfl, rfl, rfl, rfl⟩ rfl rfl rfl rfl rfl FnTitleShows_named Try.func8 FnTitleShows_closed
    (of_decide_eq_true (by kernel_rfl)) (by unfold Func.isWrapper; first | (rw [if_pos (by decide +kernel)]; kernel_rfl) | (rw [if_neg (by decide +kernel)]; exact ⟨rfl, rfl⟩))
    (fun os started H enc _ => FnTitleShows_lifted os started H enc)
#print axioms FnTitleShows_holds

end Go.Proofs.Ytlgcehdklpbknaa
