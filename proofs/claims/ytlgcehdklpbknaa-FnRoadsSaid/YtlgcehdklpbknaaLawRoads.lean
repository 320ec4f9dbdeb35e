/- FnRoads: shorter roads are not longer than the roads, no way over another hall is shorter, and halls that can follow make a tour that is possible. No condition. -/
import Derived.Test.YtlgcehdklpbknaaRoadA
import Derived.Test.YtlgcehdklpbknaaTourA
import Derived.Test.YtlgcehdklpbknaaLongS
import Derived.Test.YtlgcehdklpbknaaTourD
import Derived.Test.YtlgcehdklpbknaaTourT
import Derived.Test.YtlgcehdklpbknaaNextI
import Derived.Test.YtlgcehdklpbknaaA2
import Derived.Deep.RegionHeld3
namespace Go.Proofs.Ytlgcehdklpbknaa
open Go Go.RowKit Go.ChangeShapes Go.WideShapes Go.ChangeAt
set_option linter.unusedSimpArgs false
set_option linter.unusedVariables false
set_option maxRecDepth 100000 in
set_option maxHeartbeats 32000000 in
theorem law_FnRoads (w : World) (v : Value) (l0 : List Int) (h0 : Sl w 1 v eB l0) (hr : ∀ x ∈ l0, 0 ≤ x ∧ x ≤ 255) (u : Value) (m0 : List Int) (g0 : Sl w 1 u eB m0) (gr : ∀ x ∈ m0, 0 ≤ x ∧ x ≤ 255) :
    Calls Try.prog 3 #[v, u] w fun e w' => e = .returned (.bool true) ∧ Below w.heap.size w w' := by
  have hS := h0.bytes hr
  have hM := g0.bytes gr
  generalize toU l0 = l at hS
  generalize toU m0 = m at hM
  clear h0 hr g0 gr
  have B := Below.refl w.heap.size w
  by_cases hl : l.length ≤ 3000 ∧ m.length ≤ 3000
  case neg =>
    go_enter Try.func3, Try.ntmps3
    go_wp2_with fail
    refine (a2long_yes _ _ _ _ _ hS hM hl).mono ?_
    rintro e w1 ⟨rfl, rfl⟩
    go_wp2_with fail
    go_ret
    exact ⟨rfl, Below.refl _ _⟩
  obtain ⟨hl, hm⟩ := hl
  have hl1 : l.length ≤ 1048576 := by omega
  have hm1 : m.length ≤ 1048576 := by omega
  go_enter Try.func3, Try.ntmps3
  go_wp2_with fail
  refine (a2long_no _ _ _ _ _ hS hM hl hm).mono ?_
  rintro e w1 ⟨rfl, hw⟩
  obtain rfl : w = w1 := hw.symm
  go_wp2_with fail
  refine (draw_a2halls _ _ _ (hS.below B) hl1).mono ?_
  rintro e w2 ⟨lv, hv, dv, L, H, M, rfl, O1, O2, O3, hL6, hok, B2⟩
  replace B := below_step B B2
  clear B2
  have HOK := hallsOk_of hok
  have hHn := HOK.homes
  have hMn : M.length = L.length := by rw [← rowsOf_len]; exact HOK.rows
  have hRl : ∀ r ∈ rowsOf M, r.length = L.length := fun r hr => by
    obtain ⟨i, hi, rfl⟩ := List.getElem_of_mem hr
    have h1 := HOK.row i (by rw [rowsOf_len] at hi; omega)
    rw [show (rowsOf M).getD i [] = (rowsOf M)[i] by simp [List.getD, hi]] at h1
    exact h1
  have hVH : H = vec L.length (hfn H) := (vec_hfn hHn).symm
  have hVM : rowsOf M = mat L.length (dfn (rowsOf M)) := (mat_dfn HOK.rows hRl).symm
  have hval : validR H (rowsOf M) L.length = true := by
    unfold okHalls at hok
    rw [Bool.and_eq_true, Bool.and_eq_true] at hok
    exact hok.2.2
  have HRD := hd (valid_rd hval)
  have HSR := hd (show shortR H (rowsOf M) = ((vec L.length (fh (hfn H) (dfn (rowsOf M)) L.length), mat L.length (fw (dfn (rowsOf M)) L.length)), 0) by unfold shortR; rw [hHn, if_pos ⟨hL6, hval⟩])
  have S1 := O1.sl eHall_len
  have S2 := O2.sl eI_len
  have S3 := O3.slr
  obtain ⟨A1, c1, rfl⟩ := S1.isSlice
  obtain ⟨A2, c2, rfl⟩ := S2.isSlice
  obtain ⟨A3, c3, rfl⟩ := S3.1.isSlice
  rw [hHn] at S2 ⊢
  rw [hMn] at S3 ⊢
  clear O1 O2 O3 hRl hval
  have R := rec_new w2 w2.heap.size 28 [.slice A2 L.length c2, .slice A3 L.length c3] (Nat.le_refl _)
  replace S1 := S1.alloc (.cells #[.slice A2 L.length c2, .slice A3 L.length c3] 28)
  replace S2 := S2.alloc (.cells #[.slice A2 L.length c2, .slice A3 L.length c3] 28)
  replace S3 := S3.alloc (.cells #[.slice A2 L.length c2, .slice A3 L.length c3] 28)
  replace B := B.alloc B.size (.cells #[.slice A2 L.length c2, .slice A3 L.length c3] 28)
  go_upto_region 4 with fail
  generalize w2.alloc (.cells #[.slice A2 L.length c2, .slice A3 L.length c3] 28) = W at R S1 S2 S3 B ⊢
  generalize w2.heap.size = g at R ⊢
  have hH1 : H.length ≤ 1048576 := by omega
  replace hHn := hd hHn
  replace hMn := hd hMn
  replace hVH := hd hVH
  replace hVM := hd hVM
  replace hok := hd hok
  replace HOK := hd HOK
  have r0 := R.cell 0 _ rfl
  have r1 := R.cell 1 _ rfl
  go_wp2_with fail
  clear r0 r1
  refine (short_impl _ _ _ _ _ S2 S3 _ rfl hH1).mono ?_
  rintro e w3 ⟨u1, u2, Ms, rfl, hMs, Os, B3⟩
  rw [HSR.out] at hMs Os ⊢
  replace S1 := S1.below B3
  replace S2 := S2.below B3
  replace S3 := S3.below B3
  replace R := R.below B3
  replace B := below_step B B3
  clear B3
  have T2 := Os.1.sl eI_len
  have T3 := Os.2.1.slr
  clear Os
  have hMsl : Ms.length = L.length := by rw [← rowsOf_len, hMs]; exact mat_len _ _
  obtain ⟨A4, c4, rfl⟩ := T2.isSlice
  obtain ⟨A5, c5, rfl⟩ := T3.1.isSlice
  rw [vec_len] at T2 ⊢
  rw [hMsl] at T3 ⊢
  replace hMs := hd hMs
  have Q := rec_new w3 w3.heap.size 28 [.slice A4 L.length c4, .slice A5 L.length c5] (Nat.le_refl _)
  replace S1 := S1.alloc (.cells #[.slice A4 L.length c4, .slice A5 L.length c5] 28)
  replace S2 := S2.alloc (.cells #[.slice A4 L.length c4, .slice A5 L.length c5] 28)
  replace S3 := S3.alloc (.cells #[.slice A4 L.length c4, .slice A5 L.length c5] 28)
  replace T2 := T2.alloc (.cells #[.slice A4 L.length c4, .slice A5 L.length c5] 28)
  replace T3 := T3.alloc (.cells #[.slice A4 L.length c4, .slice A5 L.length c5] 28)
  replace R := R.alloc (.cells #[.slice A4 L.length c4, .slice A5 L.length c5] 28)
  replace B := B.alloc B.size (.cells #[.slice A4 L.length c4, .slice A5 L.length c5] 28)
  clear hMsl
  have e1 : ((L.length : Int) != (L.length : Int)) = false := by simp
  go_upto_region 6 with fail
  generalize w3.alloc (.cells #[.slice A4 L.length c4, .slice A5 L.length c5] 28) = W at R Q S1 S2 S3 T2 T3 B ⊢
  generalize w3.heap.size = gs at Q ⊢
  obtain ⟨b1, o1, b2, o2, gr1, og1, cr1, RR⟩ := rdx_of R S2 S3 hVH.out hVM.out
  obtain ⟨b3, o3, b4, o4, gr2, og2, cr2, RS⟩ := rdx_of Q T2 T3 rfl hMs.out
  have q0 := Q.cell 0 _ rfl
  have q1 := Q.cell 1 _ rfl
  go_wp2_with fail
  clear q0 q1
  replace RR := hd RR
  replace RS := hd RS
  as_aux_lemma =>
  go_loop [10] (fun iv => ∃ k : Nat, k ≤ L.length ∧ iv = .int .i64 k) (fun iv => L.length - (intOf iv).toNat)
  case atStart => exact ⟨0, Nat.zero_le _, rfl⟩
  case round =>
    obtain ⟨k, hk, rfl⟩ := hrel
    by_cases hlt : k < L.length
    · as_aux_lemma =>
      have x1 := RS.out.p1
      have x2 := RS.out.row k hlt
      obtain rfl := RS.out.a2 (by omega)
      go_wp2_with fail
      go_round
      case rel => exact ⟨k + 1, by omega, by go_num⟩
      case measure => simp [intOf]; omega
    · as_aux_lemma =>
      go_wp2_with fail
      go_loopw [11] (fun iv wr => ∃ i : Nat, i ≤ L.length ∧ iv = .int .i64 i ∧ Hid (Dr W wr)) (fun iv _ => L.length - (intOf iv).toNat)
      case atStart => exact ⟨0, Nat.zero_le _, rfl, hd (Dr.refl W)⟩
      case round =>
        obtain ⟨i, hi, rfl, DW⟩ := hrel
        by_cases hil : i < L.length
        · as_aux_lemma =>
          obtain rfl := RS.out.a1 (by omega)
          obtain rfl := RS.out.a2 (by omega)
          obtain rfl := RR.out.a1 (by omega)
          obtain rfl := RR.out.a2 (by omega)
          have ZS := RS.out.dr DW.out
          have ZR := RR.out.dr DW.out
          have y0 := ZS.p0
          have y1 := ZS.home i hil
          have y2 := ZR.p0
          have y3 := ZR.home i hil
          have HB := HRD.out
          obtain ⟨HRd, hb1, hb2, -⟩ := HB
          have f1 := (fh_bd HRd hb1 L.length i).1
          have f2 := fh_le0 (H := hfn H) (D := dfn (rowsOf M)) L.length i
          clear HRd hb1 hb2
          generalize hfn H i = a at y3 f2
          generalize fh (hfn H) (dfn (rowsOf M)) L.length i = b at y1 f1 f2
          have e2 : decide (b < 0) = false := by simpa using f1
          have e3 : decide (a < b) = false := by simpa using f2
          clear f1 f2 ZS ZR
          go_wp2_with fail
          go_quiet (fail)
          have DW2 := hd (DW.out.drewN nq)
          clear y0 y1 y2 y3 e2 e3 DW
          generalize wr.drewN nq = W2 at DW2 ⊢
          as_aux_lemma =>
          go_wp2_with fail
          go_loopw [12] (fun iv wr => ∃ k : Nat, k ≤ L.length ∧ iv = .int .i64 k ∧ Hid (Dr W wr)) (fun iv _ => L.length - (intOf iv).toNat)
          case atStart => exact ⟨0, Nat.zero_le _, rfl, DW2⟩
          case round =>
            obtain ⟨k2, hk2, rfl, DW⟩ := hrel
            clear DW2
            by_cases hkl : k2 < L.length
            · as_aux_lemma =>
              have ZS := RS.out.dr DW.out
              have ZR := RR.out.dr DW.out
              have y0 := ZS.p0
              have y1 := ZS.p1
              have y2 := ZR.p1
              have y3 := ZS.home i hil
              have y4 := ZS.home k2 hkl
              have y5 := ZS.row i hil
              have y6 := ZS.day i k2 hil hkl
              have y7 := ZR.row i hil
              have y8 := ZR.day i k2 hil hkl
              obtain ⟨HRd, hb1, hb2, -⟩ := HRD.out
              have f1 := fw_bd HRd hb2 L.length i k2
              have f2 := fw_le (D := dfn (rowsOf M)) L.length i k2
              have f3 := fh_tri HRd L.length i k2 hil
              have f4 := fh_bd HRd hb1 L.length i
              clear HRd hb1 hb2
              generalize dfn (rowsOf M) i k2 = a at y8 f2
              generalize fw (dfn (rowsOf M)) L.length i k2 = b at y6 f1 f2 f3
              generalize fh (hfn H) (dfn (rowsOf M)) L.length k2 = c at y4 f3
              generalize fh (hfn H) (dfn (rowsOf M)) L.length i = d at y3 f3 f4
              obtain ⟨f1a, f1b⟩ := f1
              obtain ⟨f4a, f4b⟩ := f4
              have e2 : decide (b < 0) = false := by simpa using f1a
              have e3 : decide (a < b) = false := by simpa using f2
              have e4 : decide (d + b < c) = false := by simpa using f3
              clear f2 f3 ZS ZR
              go_wp2_with fail
              go_quiet (fail)
              have DW2 := hd (DW.out.drewN nq)
              clear y0 y1 y2 y3 y4 y5 y6 y7 y8 e2 e3 e4 f1a f1b f4a f4b DW
              generalize wr.drewN nq = W3 at DW2 ⊢
              as_aux_lemma =>
              go_wp2_with fail
              go_loopw [13] (fun iv wr => ∃ j : Nat, j ≤ L.length ∧ iv = .int .i64 j ∧ Hid (Dr W wr)) (fun iv _ => L.length - (intOf iv).toNat)
              case atStart => exact ⟨0, Nat.zero_le _, rfl, DW2⟩
              case round =>
                obtain ⟨j, hj, rfl, DW⟩ := hrel
                clear DW2
                by_cases hjl : j < L.length
                · as_aux_lemma =>
                  have ZS := RS.out.dr DW.out
                  have y1 := ZS.p1
                  have y2 := ZS.row i hil
                  have y3 := ZS.row j hjl
                  have y4 := ZS.day i k2 hil hkl
                  have y5 := ZS.day i j hil hjl
                  have y6 := ZS.day j k2 hjl hkl
                  obtain ⟨HRd, hb1, hb2, -⟩ := HRD.out
                  have f1 := fw_bd HRd hb2 L.length i j
                  have f2 := fw_bd HRd hb2 L.length j k2
                  have f3 := fw_tri HRd.d0 HRd.dd L.length i k2 j hjl
                  clear HRd hb1 hb2
                  generalize fw (dfn (rowsOf M)) L.length i k2 = a at y4 f3
                  generalize fw (dfn (rowsOf M)) L.length i j = b at y5 f1 f3
                  generalize fw (dfn (rowsOf M)) L.length j k2 = c at y6 f2 f3
                  obtain ⟨f1a, f1b⟩ := f1
                  obtain ⟨f2a, f2b⟩ := f2
                  have e2 : decide (b + c < a) = false := by simpa using f3
                  clear f3 ZS
                  go_wp2_with fail
                  go_quiet (fail)
                  have DW2 := hd (DW.out.drewN nq)
                  clear y1 y2 y3 y4 y5 y6 e2 f1a f1b f2a f2b DW
                  generalize wr.drewN nq = W4 at DW2 ⊢
                  as_aux_lemma =>
                  go_wp2_with fail
                  go_roundw
                  case rel => exact ⟨j + 1, by omega, by go_num, DW2⟩
                  case measure => simp [intOf]; omega
                · as_aux_lemma =>
                  go_wp2_with fail
                  go_roundw
                  case rel => exact ⟨k2 + 1, by omega, by go_num, DW⟩
                  case measure => simp [intOf]; omega
            · as_aux_lemma =>
              go_wp2_with fail
              go_roundw
              case rel => exact ⟨i + 1, by omega, by go_num, DW⟩
              case measure => simp [intOf]; omega
        · as_aux_lemma =>
          replace S1 := S1.below DW.out.below
          replace S2 := S2.below DW.out.below
          replace S3 := S3.below DW.out.below
          replace T2 := T2.below DW.out.below
          replace R := R.below DW.out.below
          replace Q := Q.below DW.out.below
          replace B := below_step B DW.out.below
          clear DW RR RS T3
          have r0 := R.cell 0 _ rfl
          have r1 := R.cell 1 _ rfl
          go_wp2_with fail
          clear r0 r1
          refine (short_spec _ _ _ _ _ S2 S3 _ rfl hH1).mono ?_
          rintro e w4 ⟨u3, u4, Mt, rfl, hMt, Ot, B4⟩
          rw [HSR.out] at hMt Ot ⊢
          have P2 := Ot.1.sl eI_len
          have P3 := Ot.2.1.slr
          clear Ot hMt
          obtain ⟨A6, c6, rfl⟩ := P2.isSlice
          obtain ⟨A7, c7, rfl⟩ := P3.1.isSlice
          clear P3
          rw [vec_len] at P2 ⊢
          replace S1 := S1.below B4
          replace S2 := S2.below B4
          replace S3 := S3.below B4
          replace T2 := T2.below B4
          replace R := R.below B4
          replace Q := Q.below B4
          replace B := below_step B B4
          clear B4
          have Z := rec_new w4 w4.heap.size 28 [.slice A6 L.length c6, .slice A7 Mt.length c7] (Nat.le_refl _)
          replace S1 := S1.alloc (.cells #[.slice A6 L.length c6, .slice A7 Mt.length c7] 28)
          replace S2 := S2.alloc (.cells #[.slice A6 L.length c6, .slice A7 Mt.length c7] 28)
          replace S3 := S3.alloc (.cells #[.slice A6 L.length c6, .slice A7 Mt.length c7] 28)
          replace T2 := T2.alloc (.cells #[.slice A6 L.length c6, .slice A7 Mt.length c7] 28)
          replace P2 := P2.alloc (.cells #[.slice A6 L.length c6, .slice A7 Mt.length c7] 28)
          replace R := R.alloc (.cells #[.slice A6 L.length c6, .slice A7 Mt.length c7] 28)
          replace Q := Q.alloc (.cells #[.slice A6 L.length c6, .slice A7 Mt.length c7] 28)
          replace B := B.alloc B.size (.cells #[.slice A6 L.length c6, .slice A7 Mt.length c7] 28)
          go_upto_region 29 with fail
          generalize w4.alloc (.cells #[.slice A6 L.length c6, .slice A7 Mt.length c7] 28) = W5 at R Q Z S1 S2 S3 T2 P2 B ⊢
          generalize w4.heap.size = gz at Z ⊢
          have q0 := Q.cell 0 _ rfl
          have z0 := Z.cell 0 _ rfl
          go_wp2_with fail
          refine (a2same_self _ _ _ _ T2 P2).mono ?_
          rintro e w5 ⟨rfl, DW⟩
          replace DW := DW.below
          clear T2 P2 q0 z0 Q Z HSR
          replace S1 := S1.below DW
          replace S2 := S2.below DW
          replace S3 := S3.below DW
          replace R := R.below DW
          replace B := below_step B DW
          clear DW
          go_wp2_with fail
          refine (draw_a2tour _ _ _ (hM.below B) hm1 L.length hL6).mono ?_
          rintro e w8 ⟨v6, T, rfl, O6, hTl, hT, B8⟩
          replace S1 := S1.below B8
          replace S2 := S2.below B8
          replace S3 := S3.below B8
          replace R := R.below B8
          replace B := below_step B B8
          clear B8
          have S6 := O6.sl eI_len
          clear O6
          obtain ⟨A6, c6, rfl⟩ := S6.isSlice
          as_aux_lemma =>
          by_cases hc : tcode L H (rowsOf M) T = 0
          case neg =>
            as_aux_lemma =>
            have h9 : tcode L H (rowsOf M) T = 9 := by
              rcases code_or hok.out hT with h | h
              · exact absurd h hc
              · exact h
            have HX1 := hd (show nextR L H (rowsOf M) T = ([], 9) by rw [nextR_two _ _ _ _ hc, h9])
            have HX2 := hd (show twR L H (rowsOf M) T = (0, 9) by rw [twR_two _ _ _ _ hc, h9])
            have HX3 := hd (show tdR L H (rowsOf M) T = ([], 9) by unfold tdR showsR; rw [if_neg hc, h9])
            clear hc h9 hT
            have r0 := R.cell 0 _ rfl
            have r1 := R.cell 1 _ rfl
            go_wp2_with fail
            clear r0 r1
            refine (nh_impl _ _ _ S1 _ _ _ _ S2 S3 _ rfl _ _ S6 (by omega)).mono ?_
            rintro e w9 ⟨v7, rfl, O7, B9⟩
            rw [HX1.out] at O7 ⊢
            replace S1 := S1.below B9
            replace S2 := S2.below B9
            replace S3 := S3.below B9
            replace S6 := S6.below B9
            replace R := R.below B9
            replace B := below_step B B9
            clear B9
            obtain ⟨A7, c7, rfl⟩ := O7.slice
            clear O7
            have r0 := R.cell 0 _ rfl
            have r1 := R.cell 1 _ rfl
            go_wp2_with fail
            clear r0 r1
            refine (tw_impl _ _ _ S1 _ _ _ _ S2 S3 _ _ S6 _ rfl (by omega)).mono ?_
            rintro e w10 ⟨rfl, B10⟩
            rw [HX2.out]
            replace S1 := S1.below B10
            replace S2 := S2.below B10
            replace S3 := S3.below B10
            replace S6 := S6.below B10
            replace R := R.below B10
            replace B := below_step B B10
            clear B10
            have r0 := R.cell 0 _ rfl
            have r1 := R.cell 1 _ rfl
            go_wp2_with fail
            clear r0 r1
            refine (td_spec _ _ _ S1 _ _ _ _ S2 S3 _ rfl _ _ S6 (by omega)).mono ?_
            rintro e w11 ⟨v8, rfl, O8, B11⟩
            rw [HX3.out] at O8 ⊢
            replace B := below_step B B11
            clear B11
            obtain ⟨A8, c8, rfl⟩ := O8.slice
            clear O8
            go_wp2_with fail
            go_ret
            exact ⟨rfl, B⟩
          obtain ⟨-, -, hlate⟩ := tcode_zero hc
          have HX1 := hd (show nextR L H (rowsOf M) T = (nextTo L H (rowsOf M) T L.length, 0) by unfold nextR; rw [if_pos hc])
          have HX2 := hd (show twR L H (rowsOf M) T = (waitTo L H (rowsOf M) T T.length, 0) by unfold twR waitTo; rw [if_pos hc, List.take_length])
          have HX3 := hd (show tdR L H (rowsOf M) T = (showsT L H (rowsOf M) startT T, 0) by unfold tdR showsR; rw [hc, if_pos rfl])
          clear hc
          replace hlate := hd hlate
          replace hT := hd hT
          have r0 := R.cell 0 _ rfl
          have r1 := R.cell 1 _ rfl
          go_wp2_with fail
          clear r0 r1
          refine (nh_impl _ _ _ S1 _ _ _ _ S2 S3 _ rfl _ _ S6 (by omega)).mono ?_
          rintro e w9 ⟨v7, rfl, O7, B9⟩
          rw [HX1.out] at O7 ⊢
          clear HX1
          replace S1 := S1.below B9
          replace S2 := S2.below B9
          replace S3 := S3.below B9
          replace S6 := S6.below B9
          replace R := R.below B9
          replace B := below_step B B9
          clear B9
          have S7 := O7.sl eI_len
          clear O7
          obtain ⟨A7, c7, rfl⟩ := S7.isSlice
          have r0 := R.cell 0 _ rfl
          have r1 := R.cell 1 _ rfl
          go_wp2_with fail
          clear r0 r1
          refine (tw_impl _ _ _ S1 _ _ _ _ S2 S3 _ _ S6 _ rfl (by omega)).mono ?_
          rintro e w10 ⟨rfl, B10⟩
          rw [HX2.out]
          clear HX2
          replace S1 := S1.below B10
          replace S2 := S2.below B10
          replace S3 := S3.below B10
          replace S6 := S6.below B10
          replace S7 := S7.below B10
          replace R := R.below B10
          replace B := below_step B B10
          clear B10
          have r0 := R.cell 0 _ rfl
          have r1 := R.cell 1 _ rfl
          go_wp2_with fail
          clear r0 r1
          refine (td_spec _ _ _ S1 _ _ _ _ S2 S3 _ rfl _ _ S6 (by omega)).mono ?_
          rintro e w11 ⟨v8, rfl, O8, B11⟩
          rw [HX3.out] at O8 ⊢
          clear HX3
          replace S1 := S1.below B11
          replace S2 := S2.below B11
          replace S3 := S3.below B11
          replace S6 := S6.below B11
          replace S7 := S7.below B11
          replace R := R.below B11
          replace B := below_step B B11
          clear B11
          have S8 := O8.sl eI_len
          clear O8
          obtain ⟨A8, c8, rfl⟩ := S8.isSlice
          rw [showsT_len] at S8 ⊢
          obtain ⟨b1, o1, b2, o2, gr1, og1, cr1, RR⟩ := rdx_of R S2 S3 hVH.out hVM.out
          replace RR := hd RR
          go_wp2_with fail
          as_aux_lemma =>
          go_loopw [23, 24] (fun wv iv wr => ∃ k : Nat, k ≤ T.length ∧ iv = .int .i64 k ∧ wv = .int .i64 (waitTo L H (rowsOf M) T k) ∧ Hid (Dr w11 wr)) (fun _ iv _ => T.length - (intOf iv).toNat)
          case atStart => exact ⟨0, Nat.zero_le _, rfl, rfl, hd (Dr.refl _)⟩
          case round =>
            obtain ⟨k, hk, rfl, rfl, DW⟩ := hrel
            by_cases hkl : k < T.length
            · as_aux_lemma =>
              have hkd : k < (showsT L H (rowsOf M) startT T).length := by rw [showsT_len]; exact hkl
              have hwb := wait_bd HOK.out hT.out hlate.out k hk
              have hws := wait_step (H := H) (R := rowsOf M) hkl hkd
              obtain ⟨j, e1, hj, -, h5, h6, h7, h8⟩ := tour_day HOK.out hT.out hlate.out hkl hkd
              have h9 := (HOK.out.hall j hj).1
              rw [show hallAt L T[k] = L.getD j (0, 0, 0) by rw [e1]; unfold hallAt; simp] at h5 h6
              have h10 : 0 ≤ thereT H (rowsOf M) (runT L H (rowsOf M) startT (T.take k)) T[k] ∧ thereT H (rowsOf M) (runT L H (rowsOf M) startT (T.take k)) T[k] ≤ 365 := by
                refine ⟨?_, by omega⟩
                by_cases h0 : k = 0
                · rw [h7 h0]; exact (HOK.out.home j hj).1
                · obtain ⟨q, e3, hq, e4⟩ := h8 (k - 1) (by omega) (by rw [showsT_len]; omega) (by omega)
                  rw [e4]
                  have h11 := (HOK.out.day q j hq hj).1
                  obtain ⟨j', e5, hj', -, h12, -, -, -⟩ := tour_day HOK.out hT.out hlate.out (i := k - 1) (by omega) (by rw [showsT_len]; omega)
                  have e6 : hallAt L T[k - 1] = L.getD j' (0, 0, 0) := by rw [e5]; unfold hallAt; simp
                  rw [e6] at h12
                  have h13 := (HOK.out.hall j' hj').1
                  omega
              obtain ⟨bt, ot, rfl, -, ct⟩ := (S6.below DW.out.below).int_at hkl
              have S8' : Sl w11 1 (.slice A8 (showsT L H (rowsOf M) startT T).length c8) eI (showsT L H (rowsOf M) startT T) := by rw [showsT_len]; exact S8
              obtain ⟨bd, od, rfl, -, cd⟩ := (S8'.below DW.out.below).int_at hkd
              rw [e1] at ct
              have hd0 : 0 ≤ (showsT L H (rowsOf M) startT T)[k] ∧ (showsT L H (rowsOf M) startT T)[k] ≤ 365 := by omega
              clear h5 h6 h9
              obtain rfl := RR.out.a1 (by omega)
              obtain rfl := RR.out.a2 (by omega)
              have ZR := RR.out.dr DW.out
              have y0 := ZR.p0
              have y1 := ZR.home j hj
              by_cases h0 : k = 0
              · as_aux_lemma =>
                subst h0
                have h7' := h7 rfl
                clear h7 h8 ZR e1 S8'
                have ct2 : wr.cell? ⟨bt, ot, none⟩ = some (.int .i64 (j : Int)) := ct
                have cd2 : wr.cell? ⟨bd, od, none⟩ = some (.int .i64 (showsT L H (rowsOf M) startT T)[0]) := cd
                clear ct cd
                rw [show H.getD j 0 = hfn H j from rfl] at h7'
                rw [h7'] at hws h10
                clear h7'
                generalize (showsT L H (rowsOf M) startT T)[0] = d at cd2 hd0 hws
                generalize hfn H j = a at y1 hws h10
                obtain ⟨i1, i2⟩ := hd0
                obtain ⟨i3, i4⟩ := h10
                obtain ⟨i5, i6⟩ := hwb
                replace hws := hd hws
                generalize waitTo L H (rowsOf M) T 0 = x at hws i5 i6 ⊢
                go_wp2_with fail
                go_quiet (fail)
                have DW2 := hd (DW.out.drewN nq)
                have cd3 : (wr.drewN nq).cell? ⟨bd, od, none⟩ = some (.int .i64 d) := cd2
                clear y0 y1 ct2 cd2 DW
                generalize wr.drewN nq = W2 at DW2 cd3 ⊢
                go_wp2_with fail
                go_roundw
                case rel => exact ⟨0 + 1, by omega, by go_num, by rw [hws.out]; congr 1; omega, DW2⟩
                case measure => simp [intOf]; omega
              · as_aux_lemma =>
                obtain ⟨m, rfl⟩ : ∃ m, k = m + 1 := ⟨k - 1, by omega⟩
                have hml : m < T.length := by omega
                have hmd : m < (showsT L H (rowsOf M) startT T).length := by rw [showsT_len]; omega
                obtain ⟨q, e3, hq, e4⟩ := h8 m hml hmd rfl
                have h11 := HOK.out.day q j hq hj
                obtain ⟨j', e5, hj', -, h12, h13, -, -⟩ := tour_day HOK.out hT.out hlate.out (i := m) hml hmd
                have e6 : hallAt L T[m] = L.getD j' (0, 0, 0) := by rw [e5]; unfold hallAt; simp
                rw [e6] at h12 h13
                have h14 := (HOK.out.hall j' hj').1
                have hd1 : 0 ≤ (showsT L H (rowsOf M) startT T)[m] ∧ (showsT L H (rowsOf M) startT T)[m] ≤ 365 := by omega
                clear h12 h13 h14 e5 e6 h7 h8 h0
                obtain ⟨bt2, ot2, ea, -, ct2⟩ := (S6.below DW.out.below).int_at hml
                injection ea with ea
                injection ea with ea1 ea2 _
                subst ea1 ea2
                obtain ⟨bd2, od2, eb, -, cd2⟩ := (S8'.below DW.out.below).int_at hmd
                injection eb with eb
                injection eb with eb1 eb2 _
                subst eb1 eb2
                rw [e3] at ct2
                have y2 := ZR.p1
                have y3 := ZR.row q hq
                have y4 := ZR.day q j hq hj
                rw [show ((rowsOf M).getD q []).getD j 0 = dfn (rowsOf M) q j from rfl] at e4 h11
                rw [e4] at hws h10
                clear e1 e3 e4 ZR S8'
                generalize (showsT L H (rowsOf M) startT T)[m + 1] = d at cd hd0 hws
                generalize (showsT L H (rowsOf M) startT T)[m] = d2 at cd2 hd1 hws h10
                generalize dfn (rowsOf M) q j = a at y4 hws h10 h11
                obtain ⟨i1, i2⟩ := hd0
                obtain ⟨i3, i4⟩ := h10
                obtain ⟨i5, i6⟩ := hwb
                obtain ⟨i7, i8⟩ := hd1
                obtain ⟨i9, i10⟩ := h11
                replace hws := hd hws
                generalize waitTo L H (rowsOf M) T (m + 1) = x at hws i5 i6 ⊢
                go_wp2_with fail
                go_quiet (fail)
                have DW2 := hd (DW.out.drewN nq)
                have cd3 : (wr.drewN nq).cell? ⟨bd, od + (m + 1), none⟩ = some (.int .i64 d) := cd
                have cd4 : (wr.drewN nq).cell? ⟨bd, od + m, none⟩ = some (.int .i64 d2) := cd2
                have ct3 : (wr.drewN nq).cell? ⟨bt, ot + (m + 1), none⟩ = some (.int .i64 (j : Int)) := ct
                have ct4 : (wr.drewN nq).cell? ⟨bt, ot + m, none⟩ = some (.int .i64 (q : Int)) := ct2
                have z2 : (wr.drewN nq).cell? ⟨g, 1, none⟩ = some (.slice (some ⟨b2, o2, none⟩) L.length c3) := y2
                have z3 : (wr.drewN nq).cell? ⟨b2, o2 + q, none⟩ = some (.slice (some ⟨gr1 q, og1 q, none⟩) L.length (cr1 q)) := y3
                have z4 : (wr.drewN nq).cell? ⟨gr1 q, og1 q + j, none⟩ = some (.int .i64 a) := y4
                clear y0 y1 y2 y3 y4 cd cd2 ct ct2 DW
                generalize wr.drewN nq = W2 at DW2 cd3 cd4 ct3 ct4 z2 z3 z4 ⊢
                go_wp2_with fail
                go_quiet (fail)
                have DW3 := hd (DW2.out.drewN nq)
                have cd5 : (W2.drewN nq).cell? ⟨bd, od + (m + 1), none⟩ = some (.int .i64 d) := cd3
                clear z2 z3 z4 cd3 cd4 ct3 ct4 DW2
                generalize W2.drewN nq = W3 at DW3 cd5 ⊢
                go_wp2_with fail
                go_roundw
                case rel => exact ⟨m + 1 + 1, by omega, by go_num, by rw [hws.out]; congr 1; omega, DW3⟩
                case measure => simp [intOf]; omega
            · as_aux_lemma =>
              obtain rfl : k = T.length := by omega
              have DV := DW.out.below
              replace S1 := S1.below DV
              replace S2 := S2.below DV
              replace S3 := S3.below DV
              replace S6 := S6.below DV
              replace S7 := S7.below DV
              replace R := R.below DV
              replace B := below_step B DV
              clear DV
              clear DW S8 RR
              generalize waitTo L H (rowsOf M) T T.length = x
              have ex : (x != x) = false := by simp
              go_wp2_with fail
              refine (a2rises_yes _ _ _ S7 L.length (by omega) (next_rises T L.length)).mono ?_
              rintro e w12 ⟨rfl, DW⟩
              replace DW := DW.below
              replace S1 := S1.below DW
              replace S2 := S2.below DW
              replace S3 := S3.below DW
              replace S6 := S6.below DW
              replace S7 := S7.below DW
              replace R := R.below DW
              replace B := below_step B DW
              clear DW
              clear ex
              go_wp2_with fail
              as_aux_lemma =>
              go_loopw [26] (fun iv wr => ∃ k : Nat, k ≤ L.length ∧ iv = .int .i64 k ∧ Hid (Below w12.heap.size w12 wr)) (fun iv _ => L.length - (intOf iv).toNat)
              case atStart => exact ⟨0, Nat.zero_le _, rfl, hd (Below.refl _ _)⟩
              case round =>
                obtain ⟨k, hk, rfl, BW⟩ := hrel
                by_cases hkl : k < L.length
                · have S6W := S6.below BW.out
                  have S7W := S7.below BW.out
                  have HNX := hd (next_has (l := L) (H := H) (R := rowsOf M) (T := T) hkl)
                  rcases r1 : hasI T (k : Int) with _ | _
                  · as_aux_lemma =>
                    have HCD := hd (next_code hok.out hT.out hkl r1)
                    have c0 := (R.below BW.out).cell 0 _ rfl
                    have c1' := (R.below BW.out).cell 1 _ rfl
                    have hgr := (R.below BW.out).lt.2
                    have HS := hd (show ∀ w' : World, Below wr.heap.size wr w' → w'.cell? ⟨g, 0, none⟩ = some (.slice A2 L.length c2) ∧ w'.cell? ⟨g, 1, none⟩ = some (.slice A3 L.length c3) from fun w' hb' => ⟨(hb'.cell (p := ⟨g, 0, none⟩) hgr).trans c0, (hb'.cell (p := ⟨g, 1, none⟩) hgr).trans c1'⟩)
                    have hT1 := S6W.drew
                    have B0 : Below wr.heap.size wr wr.drew := below_drewN (Below.refl _ _) 1
                    have HO2 : Hid (Own ((wr.drew.alloc (.cells #[.int .i64 (k : Int)] 2)).alloc (.cells #[] 2)) wr.heap.size 2 1 (.slice (some ⟨wr.heap.size + 1, 0, none⟩) 0 0) eI []) := hd (by
                      have h := Own.made0 (wr.drew.alloc (.cells #[.int .i64 (k : Int)] 2)) wr.heap.size 2 1 eI (B0.alloc B0.size (.cells #[.int .i64 (k : Int)] 2)).size
                      rw [show (wr.drew.alloc (.cells #[.int .i64 (k : Int)] 2)).heap.size = wr.heap.size + 1 from by simp] at h
                      exact h)
                    obtain ⟨i0, hi, hz0, hz1, hz2⟩ := info_parts info_i64
                    go_wp2_with fail
                    refine (a2has _ _ _ S6W _).mono ?_
                    rintro e w5 ⟨rfl, hw⟩
                    have hw := hw.symm
                    subst hw
                    rw [r1]
                    clear r1
                    go_upto_region 55 with fail
                    go_region_held3 (fun ww => ww.cell? ⟨g, 0, none⟩ = some (.slice A2 L.length c2) ∧ ww.cell? ⟨g, 1, none⟩ = some (.slice A3 L.length c3)) (exact HS.out _ (by first | exact B6 | exact B4 | exact BA | exact B3 | exact B0 | exact B0.alloc B0.size _ | exact (B0.alloc B0.size _).alloc (B0.alloc B0.size _).size _))
                      (first | (refine step_append_sl (wr.drew.alloc (.cells #[] 2)) rfl (.tmp 303) (.tmp 304) 25 rfl i0 (.int .i64 0) 8 Try.underlying25 hi hz0 hz1 hz2 rfl (by decide) eI_len (by intro y u hu; simp [eI] at hu; subst hu; rfl) _ [] rfl (Own.made0 wr.drew wr.heap.size 2 1 eI (Nat.le_refl _)) _ T rfl (hT1.alloc _) (by unfold maxLen; simp; omega) (by simp; omega) (B0.alloc B0.size (.cells #[] 2)).size ?_; intro v3 w3 O3 hg3; have B3 : Below wr.heap.size wr w3 := (B0.alloc B0.size (.cells #[] 2)).grown hg3 (B0.alloc B0.size (.cells #[] 2)).size (fun g hg => (Option.some.inj (show some wr.drew.heap.size = some g from hg)) ▸ B0.size); have O3 : Own w3 wr.heap.size 2 1 v3 eI T := O3; have OA := O3.alloc (.cells #[.int .i64 (k : Int)] 2); have BA := B3.alloc B3.size (.cells #[.int .i64 (k : Int)] 2); have HX := (show Sl (w3.alloc (.cells #[.int .i64 (k : Int)] 2)) 1 _ eI [(k : Int)] from sl_one _ w3.heap.size _ _ (heap_alloc_new _ _) _ rfl)) | (refine step_append_sl ((wr.drew.alloc (.cells #[.int .i64 (k : Int)] 2)).alloc (.cells #[] 2)) rfl (.tmp 303) (.tmp 304) 25 rfl i0 (.int .i64 0) 8 Try.underlying25 hi hz0 hz1 hz2 rfl (by decide) eI_len (by intro y u hu; simp [eI] at hu; subst hu; rfl) _ [] rfl HO2.out _ T rfl ((hT1.alloc _).alloc _) (by unfold maxLen; simp; omega) (by simp; omega) ((B0.alloc B0.size (.cells #[.int .i64 (k : Int)] 2)).alloc (B0.alloc B0.size (.cells #[.int .i64 (k : Int)] 2)).size (.cells #[] 2)).size ?_; intro v3 w3 O3 hg3; have BX0 := B0.alloc B0.size (.cells #[.int .i64 (k : Int)] 2); have BA : Below wr.heap.size wr w3 := (BX0.alloc BX0.size (.cells #[] 2)).grown hg3 (BX0.alloc BX0.size (.cells #[] 2)).size (fun g hg => (Option.some.inj (show some (wr.heap.size + 1) = some g from hg)) ▸ (show wr.heap.size ≤ wr.heap.size + 1 from Nat.le_succ _)); have BD : Below (wr.drew.alloc (.cells #[.int .i64 (k : Int)] 2)).heap.size (wr.drew.alloc (.cells #[.int .i64 (k : Int)] 2)) w3 := ((Below.refl _ (wr.drew.alloc (.cells #[.int .i64 (k : Int)] 2))).alloc (Nat.le_refl _) (.cells #[] 2)).grown hg3 (by simp) (fun g hg => (Option.some.inj (show some (wr.heap.size + 1) = some g from hg)) ▸ (show (wr.drew.alloc (.cells #[.int .i64 (k : Int)] 2)).heap.size ≤ wr.heap.size + 1 from by simp)); have O3 : Own w3 wr.heap.size 2 1 v3 eI T := O3; have OA := O3; have B3 := BA; have HX := (show Sl w3 1 _ eI [(k : Int)] from (sl_one (k := 1) (enc := eI) _ wr.drew.heap.size _ _ (heap_alloc_new _ _) (k : Int) rfl).below BD)) | (refine step_append_sl ((wr.drew.alloc (.cells #[] 2)).alloc (.cells #[.int .i64 (k : Int)] 2)) rfl (.tmp 303) (.tmp 304) 25 rfl i0 (.int .i64 0) 8 Try.underlying25 hi hz0 hz1 hz2 rfl (by decide) eI_len (by intro y u hu; simp [eI] at hu; subst hu; rfl) _ [] rfl ((Own.made0 wr.drew wr.heap.size 2 1 eI (Nat.le_refl _)).alloc (.cells #[.int .i64 (k : Int)] 2)) _ T rfl ((hT1.alloc _).alloc _) (by unfold maxLen; simp; omega) (by simp; omega) ((B0.alloc B0.size (.cells #[] 2)).alloc (B0.alloc B0.size (.cells #[] 2)).size (.cells #[.int .i64 (k : Int)] 2)).size ?_; intro v3 w3 O3 hg3; have BX0 := B0.alloc B0.size (.cells #[] 2); have BA : Below wr.heap.size wr w3 := (BX0.alloc BX0.size (.cells #[.int .i64 (k : Int)] 2)).grown hg3 (BX0.alloc BX0.size (.cells #[.int .i64 (k : Int)] 2)).size (fun g hg => (Option.some.inj (show some wr.drew.heap.size = some g from hg)) ▸ B0.size); have O3 : Own w3 wr.heap.size 2 1 v3 eI T := O3; have OA := O3; have B3 := BA; have HX := (show Sl w3 1 (.slice (some ⟨wr.heap.size + 1, 0, none⟩) 1 1) eI [(k : Int)] from by rw [show wr.heap.size + 1 = (wr.drew.alloc (.cells #[] 2)).heap.size from by simp]; exact sl_one _ (wr.drew.alloc (.cells #[] 2)).heap.size _ _ ((hg3.block _ (by simp) (show ¬ some (wr.drew.alloc (.cells #[] 2)).heap.size = some wr.drew.heap.size from by simp)).trans (heap_alloc_new _ _)) _ rfl)) | (refine step_append_sl _ rfl (.tmp 305) (.tmp 307) 25 rfl i0 (.int .i64 0) 8 Try.underlying25 hi hz0 hz1 hz2 rfl (by decide) eI_len (by intro y u hu; simp [eI] at hu; subst hu; rfl) v3 T rfl OA _ [(k : Int)] rfl HX (by unfold maxLen; simp; omega) (by simp; omega) BA.size ?_; intro v4 w4 O4 hg4; have B4 := BA.grown hg4 BA.size (fun g hg => (OA.lt g hg).1); have W4 := below_step BW.out B4) | (go_at_call 18; refine (td_spec _ _ _ (S1.below W4) _ _ _ _ (S2.below W4) (S3.below W4) _ rfl _ _ (O4.sl eI_len) (by simp; omega)).mono ?_; rintro e w5 ⟨v5, rfl, O5, B5⟩; obtain ⟨A9, c9, rfl⟩ := O5.slice; have B6 := below_step B4 B5))
                    all_goals
                      as_aux_lemma =>
                      rw [show (tdR L H (rowsOf M) (T ++ [(k : Int)])).2 = tcode L H (rowsOf M) (T ++ [(k : Int)]) from rfl]
                      have BN := hd (below_step BW.out B6)
                      have S7N := S7.below BN.out
                      have hcd := HCD.out
                      have HNX2 := hd HNX.out
                      clear O3 hg3 OA BA HX O4 hg4 B4 W4 O5 B5 B6 B0 hT1 HO2 HS c0 c1' S6W S7W BW HCD HNX
                      generalize tcode L H (rowsOf M) (T ++ [(k : Int)]) = code at hcd ⊢
                      go_wp2_with fail
                      refine (a2has _ _ _ S7N _).mono ?_
                      rintro e w13 ⟨rfl, hw⟩
                      have hw := hw.symm
                      subst hw
                      rw [HNX2.out]
                      clear HNX2
                      generalize nextOk L H (rowsOf M) T k = ok at hcd ⊢
                      rcases ok with _ | _
                      all_goals
                        go_wp2_with fail
                        go_roundw
                        case rel => exact ⟨k + 1, by omega, by go_num, BN⟩
                        case measure => simp [intOf]; omega
                  · as_aux_lemma =>
                    have HN := hd (HNX.out.trans (next_not r1))
                    clear HNX
                    go_wp2_with fail
                    refine (a2has _ _ _ S6W _).mono ?_
                    rintro e w5 ⟨rfl, hw⟩
                    have hw := hw.symm
                    subst hw
                    rw [r1]
                    clear r1
                    go_wp2_with fail
                    refine (a2has _ _ _ S7W _).mono ?_
                    rintro e w5 ⟨rfl, hw⟩
                    have hw := hw.symm
                    subst hw
                    rw [HN.out]
                    clear HN
                    go_wp2_with fail
                    go_roundw
                    case rel => exact ⟨k + 1, by omega, by go_num, BW⟩
                    case measure => simp [intOf]; omega
                · as_aux_lemma =>
                  go_wp2_with fail
                  go_ret
                  exact ⟨rfl, below_step B BW.out⟩

set_option maxRecDepth 100000 in
theorem FnRoads_lifted (os : Os) (started : os.Started) (H : Type) (enc : TypeId × Value → H) :
    ReturnsInHanded {} Try.checked os 3 .any (Rows.fnRoadsSpec.pre6 enc Try.prog Try.f3 Rows.fnRoadsRow.domain false) (Rows.fnRoadsSpec.post enc Try.prog Try.f3 false true false false) := by
  refine returnsInHanded_of_change (C := Try.checked) own_knob started (by kernel_rfl) Try.func3
    (ChangeSpec.witness6 (enc := enc) (C := Try.checked) false ⟨#[], #[.slice none 0 0, .slice none 0 0], []⟩ 8 (by kernel_rfl) (by kernel_rfl) (by kernel_rfl) (by kernel_rfl)) ?_
  intro W base args ds gs before hval0 hW hcnd _
  have hval : ∀ (j : Nat) t v, Try.f3.params[j]? = some t → args[j]? = some v → Value.okWide Try.prog W .any base t v := hval0
  have hW' := hW
  obtain ⟨p, q, hA0, hV, rfl, hfz, hnd⟩ := hW
  have hA : DataW.TrodAll enc Try.prog W 0 (fun _ => true) true Try.f3.params.toList args.toList ds p := hA0
  rw [Try.params3] at hA hval
  obtain ⟨v0, vs0, d0, ds0, p0, q0, hargs, rfl, rfl, h0, r0⟩ := trodAll_cons hA
  obtain ⟨v1, vs1, d1, ds1, p1, q1, rfl, rfl, rfl, h1, r1⟩ := trodAll_cons r0
  obtain ⟨rfl, rfl, rfl⟩ := trodAll_nil r1
  obtain rfl : args = #[v0, v1] := by cases args; simp_all
  obtain ⟨rfl, rfl⟩ := trodVars_none hV
  have k0 := h0
  have lt0 : ∀ x ∈ p0, x.block < W.heap.size := by obtain ⟨m, hm⟩ := k0; exact DataW.trod_lt m _ _ _ hm
  have k1 := h1
  have lt1 : ∀ x ∈ p1, x.block < W.heap.size := by obtain ⟨m, hm⟩ := k1; exact DataW.trod_lt m _ _ _ hm
  obtain ⟨l0, sl0, wf0⟩ := sl_of_bytes Try.underlying22 Try.underlying5 (by kernel_rfl) (hval 0 22 v0 rfl rfl) h0
  obtain ⟨l1, sl1, wf1⟩ := sl_of_bytes Try.underlying22 Try.underlying5 (by kernel_rfl) (hval 1 22 v1 rfl rfl) h1
  refine (law_FnRoads W v0 l0 sl0 wf0 v1 l1 sl1 wf1).mono fun e W' ⟨he, bel⟩ => ?_
  subst he
  exact ⟨_, rfl, _, _, _, [], _, [], hW', trodAll_mk1 (shut_bool Try.underlying4 _), (trodAll_cons_mk (Below.trod laid_out (by kernel_rfl) (of_decide_eq_true (by kernel_rfl)) k0 bel lt0) (trodAll_cons_mk (Below.trod laid_out (by kernel_rfl) (of_decide_eq_true (by kernel_rfl)) k1 bel lt1) trodAll_mk0)), rfl, bel.frame _, fun h => by cases h⟩

theorem FnRoads_closed : joinedFacts Try.pinned.checked.prog 3 Try.f3 Rows.fnRoadsSpec Rows.fnRoadsRow = true := by
  unfold joinedFacts; rw [seat_enter, seat_lifts, seat_make]; kernel_rfl

theorem FnRoads_named : Try.pinned.checked.prog.funcNamed Rows.fnRoadsRow.func = some 3 := by kernel_rfl

theorem FnRoads_holds : Rows.FnRoadsSaid :=
  OpenClaim.holds_of_wide 3 Try.f3 rfl rfl rfl rfl rfl rfl rfl ⟨rfl, rfl, rfl, rfl, rfl⟩ rfl rfl rfl rfl rfl FnRoads_named Try.func3 FnRoads_closed
    (of_decide_eq_true (by kernel_rfl)) (by unfold Func.isWrapper; first | (rw [if_pos (by decide +kernel)]; kernel_rfl) | (rw [if_neg (by decide +kernel)]; exact ⟨rfl, rfl⟩))
    (fun os started H enc _ => FnRoads_lifted os started H enc)
#print axioms FnRoads_holds

end Go.Proofs.Ytlgcehdklpbknaa
