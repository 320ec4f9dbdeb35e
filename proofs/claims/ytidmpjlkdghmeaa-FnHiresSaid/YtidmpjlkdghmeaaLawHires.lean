/- FnHires: a hire that is added leaves no lack, the first free days are free, accepted hires are as many as there may be. No condition. -/
import Derived.Test.YtidmpjlkdghmeaaHSame
import Derived.Test.YtidmpjlkdghmeaaHireP
import Derived.Test.YtidmpjlkdghmeaaF6
import Derived.Deep.Cut
namespace Go.Proofs.Ytidmpjlkdghmeaa
open Go Go.RowKit Go.ChangeShapes Go.WideShapes Go.ChangeAt
set_option linter.unusedSimpArgs false
set_option linter.unusedVariables false
set_option maxRecDepth 100000 in
set_option maxHeartbeats 16000000 in
theorem law_FnHires (w : World) (v : Value) (l0 : List Int) (h0 : Sl w 1 v eB l0) (hr : ∀ x ∈ l0, 0 ≤ x ∧ x ≤ 255) :
    Calls Try.prog 8 #[v] w fun e w' => e = .returned (.bool true) ∧ Below w.heap.size w w' := by
  have hS := h0.bytes hr
  generalize toU l0 = l at hS
  clear h0 hr
  have B := Below.refl w.heap.size w
  by_cases hl : 4096 < l.length
  · go_enter Try.func8, Try.ntmps8
    go_wp2_with fail
    refine (f6big _ _ _ hS).mono ?_
    rintro e w1 ⟨rfl, rfl⟩
    go_wp2_with fail
    go_ret
    exact ⟨rfl, Below.refl _ _⟩
  have hl1 : l.length ≤ 1048576 := by omega
  go_enter Try.func8, Try.ntmps8
  go_wp2_with fail
  refine (f6big _ _ _ hS).mono ?_
  rintro e w1 ⟨rfl, hw⟩
  obtain rfl : w = w1 := hw.symm
  go_wp2_with fail
  refine (draw_addh _ _ _ (hS.below B) hl1).mono ?_
  rintro e w2 ⟨SL, HL, a, b, c, u1, u2, rfl, O1, O2, -, -, B2⟩
  replace B := below_step B B2
  clear B2
  have S1 := O1.sl eI_len
  have S2 := O2.sl eHire_len
  obtain ⟨A1, c1, rfl⟩ := S1.isSlice
  obtain ⟨A2, c2, rfl⟩ := S2.isSlice
  clear O1 O2
  have R := rec_new w2 w2.heap.size 74 [.int .i64 a, .int .i64 b, .int .i64 c] (Nat.le_refl _)
  replace S1 := S1.alloc (.cells #[.int .i64 a, .int .i64 b, .int .i64 c] 74)
  replace S2 := S2.alloc (.cells #[.int .i64 a, .int .i64 b, .int .i64 c] 74)
  replace B := B.alloc B.size (.cells #[.int .i64 a, .int .i64 b, .int .i64 c] 74)
  go_upto_region 4 with fail
  generalize w2.alloc (.cells #[.int .i64 a, .int .i64 b, .int .i64 c] 74) = W at R S1 S2 B ⊢
  generalize w2.heap.size = g at R ⊢
  have r0 := R.cell 0 _ rfl
  have r1 := R.cell 1 _ rfl
  have r2 := R.cell 2 _ rfl
  go_wp2_with fail
  clear r0 r1 r2
  refine (add_impl _ _ _ S1 _ _ S2 _ _ _).mono ?_
  rintro e w3 ⟨u3, rfl, O3, B3⟩
  replace S1 := S1.below B3
  replace S2 := S2.below B3
  replace R := R.below B3
  replace B := below_step B B3
  clear B3
  have S3 := O3.sl eHire_len
  clear O3
  obtain ⟨A3, c3, rfl⟩ := S3.isSlice
  have r0 := R.cell 0 _ rfl
  have r1 := R.cell 1 _ rfl
  have r2 := R.cell 2 _ rfl
  go_wp2_with fail
  clear r0 r1 r2
  refine (add_spec _ _ _ S1 _ _ S2 _ _ _).mono ?_
  rintro e w4 ⟨u4, rfl, O4, B4⟩
  replace S1 := S1.below B4
  replace S2 := S2.below B4
  replace S3 := S3.below B4
  replace R := R.below B4
  replace B := below_step B B4
  clear B4
  have S4 := O4.sl eHire_len
  clear O4
  obtain ⟨A4, c4, rfl⟩ := S4.isSlice
  have r0 := R.cell 0 _ rfl
  have r1 := R.cell 1 _ rfl
  have r2 := R.cell 2 _ rfl
  go_wp2_with fail
  clear r0 r1 r2
  refine (canHire_impl _ _ _ S1 _ _ S2 _ _ _).mono ?_
  rintro e w5 ⟨rfl, B5⟩
  replace S1 := S1.below B5
  replace S2 := S2.below B5
  replace S3 := S3.below B5
  replace S4 := S4.below B5
  replace R := R.below B5
  replace B := below_step B B5
  clear B5
  have r0 := R.cell 0 _ rfl
  have r1 := R.cell 1 _ rfl
  have r2 := R.cell 2 _ rfl
  go_wp2_with fail
  clear r0 r1 r2
  refine (canHire_spec _ _ _ S1 _ _ S2 _ _ _).mono ?_
  rintro e w6 ⟨rfl, B6⟩
  replace S1 := S1.below B6
  replace S2 := S2.below B6
  replace S3 := S3.below B6
  replace S4 := S4.below B6
  replace R := R.below B6
  replace B := below_step B B6
  clear B6
  have HA := hd (add_law SL HL (a, b, c))
  generalize (addR SL HL (a, b, c)).1 = Y at HA S3 S4 ⊢
  generalize (addR SL HL (a, b, c)).2 = bad at HA ⊢
  generalize (canR SL HL (a, b, c)).1 = can at HA ⊢
  generalize (canR SL HL (a, b, c)).2 = one at HA ⊢
  go_wp2_with fail
  refine (draw_free _ _ _ (hS.below B) hl1).mono ?_
  rintro e w7 ⟨SM, HM, item, fr, days, u5, u6, rfl, O5, O6, -, -, B7⟩
  replace S1 := S1.below B7
  replace S2 := S2.below B7
  replace S3 := S3.below B7
  replace S4 := S4.below B7
  replace R := R.below B7
  replace B := below_step B B7
  clear B7
  have S5 := O5.sl eI_len
  have S6 := O6.sl eHire_len
  clear O5 O6
  obtain ⟨A5, c5, rfl⟩ := S5.isSlice
  obtain ⟨A6, c6, rfl⟩ := S6.isSlice
  go_wp2_with fail
  refine (ff_impl _ _ _ S5 _ _ S6 _ _ _).mono ?_
  rintro e w8 ⟨rfl, B8⟩
  replace S1 := S1.below B8
  replace S2 := S2.below B8
  replace S3 := S3.below B8
  replace S4 := S4.below B8
  replace S5 := S5.below B8
  replace S6 := S6.below B8
  replace R := R.below B8
  replace B := below_step B B8
  clear B8
  go_wp2_with fail
  refine (ff_spec _ _ _ S5 _ _ S6 _ _ _).mono ?_
  rintro e w9 ⟨rfl, B9⟩
  replace S1 := S1.below B9
  replace S2 := S2.below B9
  replace S3 := S3.below B9
  replace S4 := S4.below B9
  replace S5 := S5.below B9
  replace S6 := S6.below B9
  replace R := R.below B9
  replace B := below_step B B9
  clear B9
  have HF := hd (show (ffR SM HM item fr days).2 = 0 → _ from fun h => ff_law SM HM item fr days h)
  generalize (ffR SM HM item fr days).1 = first at HF ⊢
  generalize (ffR SM HM item fr days).2 = three at HF ⊢
  go_wp2_with fail
  refine (draw_lack _ _ _ (hS.below B) hl1).mono ?_
  rintro e w10 ⟨SN, HN, u7, u8, rfl, O7, O8, -, -, B10⟩
  replace S1 := S1.below B10
  replace S2 := S2.below B10
  replace S3 := S3.below B10
  replace S4 := S4.below B10
  replace S5 := S5.below B10
  replace S6 := S6.below B10
  replace R := R.below B10
  replace B := below_step B B10
  clear B10
  have S7 := O7.sl eI_len
  have S8 := O8.sl eHire_len
  clear O7 O8
  obtain ⟨A7, c7, rfl⟩ := S7.isSlice
  obtain ⟨A8, c8, rfl⟩ := S8.isSlice
  go_wp2_with fail
  refine (lack_impl _ _ _ S7 _ _ S8).mono ?_
  rintro e w11 ⟨rfl, B11⟩
  replace S1 := S1.below B11
  replace S2 := S2.below B11
  replace S3 := S3.below B11
  replace S4 := S4.below B11
  replace S5 := S5.below B11
  replace S6 := S6.below B11
  replace S7 := S7.below B11
  replace S8 := S8.below B11
  replace R := R.below B11
  replace B := below_step B B11
  clear B11
  go_wp2_with fail
  refine (lack_spec _ _ _ S7 _ _ S8).mono ?_
  rintro e w12 ⟨rfl, B12⟩
  replace S1 := S1.below B12
  replace S2 := S2.below B12
  replace S3 := S3.below B12
  replace S4 := S4.below B12
  replace S5 := S5.below B12
  replace S6 := S6.below B12
  replace S7 := S7.below B12
  replace S8 := S8.below B12
  replace R := R.below B12
  replace B := below_step B B12
  clear B12
  have HK := hd (show (lackR SN HN).2.2 = 0 → _ from fun h => lack_law SN HN h)
  generalize (lackR SN HN).1 = day at HK ⊢
  generalize (lackR SN HN).2.1 = lack at HK ⊢
  generalize (lackR SN HN).2.2 = five at HK ⊢
  go_wp2_with fail
  refine (draw_same _ _ _ (hS.below B) hl1).mono ?_
  rintro e w13 ⟨P, Q, u9, u10, rfl, S9, S10, -, -, B13⟩
  replace S1 := S1.below B13
  replace S2 := S2.below B13
  replace S3 := S3.below B13
  replace S4 := S4.below B13
  replace S5 := S5.below B13
  replace S6 := S6.below B13
  replace S7 := S7.below B13
  replace S8 := S8.below B13
  replace R := R.below B13
  replace B := below_step B B13
  clear B13
  obtain ⟨A9, c9, rfl⟩ := S9.isSlice
  obtain ⟨A10, c10, rfl⟩ := S10.isSlice
  go_wp2_with fail
  refine (sameHires_spec _ _ _ _ _ S3 S4).mono ?_
  rintro e w14 ⟨rfl, B14⟩
  replace S1 := S1.below B14
  replace S2 := S2.below B14
  replace S3 := S3.below B14
  replace S4 := S4.below B14
  replace S5 := S5.below B14
  replace S6 := S6.below B14
  replace S7 := S7.below B14
  replace S8 := S8.below B14
  replace S9 := S9.below B14
  replace S10 := S10.below B14
  replace R := R.below B14
  replace B := below_step B B14
  clear B14
  rw [decide_eq_true (rfl : Y = Y)]
  go_wp2_with fail
  refine (sameHires_impl _ _ _ _ _ S9 S10).mono ?_
  rintro e w15 ⟨rfl, B15⟩
  replace S1 := S1.below B15
  replace S2 := S2.below B15
  replace S3 := S3.below B15
  replace S4 := S4.below B15
  replace S5 := S5.below B15
  replace S6 := S6.below B15
  replace S7 := S7.below B15
  replace S8 := S8.below B15
  replace S9 := S9.below B15
  replace S10 := S10.below B15
  replace R := R.below B15
  replace B := below_step B B15
  clear B15
  go_wp2_with fail
  refine (sameHires_spec _ _ _ _ _ S9 S10).mono ?_
  rintro e w16 ⟨rfl, B16⟩
  replace S1 := S1.below B16
  replace S2 := S2.below B16
  replace S3 := S3.below B16
  replace S4 := S4.below B16
  replace S5 := S5.below B16
  replace S6 := S6.below B16
  replace S7 := S7.below B16
  replace S8 := S8.below B16
  replace S9 := S9.below B16
  replace S10 := S10.below B16
  replace R := R.below B16
  replace B := below_step B B16
  clear B16
  clear S9 S10
  generalize decide (P = Q) = sm
  go_wp2_with fail
  refine (hires_impl _ _ _ S1 _ _ S2).mono ?_
  rintro e w17 ⟨rfl, B17⟩
  replace S1 := S1.below B17
  replace S2 := S2.below B17
  replace S3 := S3.below B17
  replace S4 := S4.below B17
  replace S5 := S5.below B17
  replace S6 := S6.below B17
  replace S7 := S7.below B17
  replace S8 := S8.below B17
  replace R := R.below B17
  replace B := below_step B B17
  clear B17
  go_wp2_with fail
  refine (hires_spec _ _ _ S1 _ _ S2).mono ?_
  rintro e w18 ⟨rfl, B18⟩
  replace S1 := S1.below B18
  replace S2 := S2.below B18
  replace S3 := S3.below B18
  replace S4 := S4.below B18
  replace S5 := S5.below B18
  replace S6 := S6.below B18
  replace S7 := S7.below B18
  replace S8 := S8.below B18
  replace R := R.below B18
  replace B := below_step B B18
  clear B18
  generalize okHires SL HL = ok
  by_cases hthree : three = 0
  case neg =>
    have et : (three == 0) = false := by simpa using hthree
    clear HF hthree S5 S6
    by_cases hfive : five = 0
    case neg =>
      have ef : (five == 0) = false := by simpa using hfive
      clear HK S7 S8
      by_cases hbad : bad = 0
      case neg =>
        have eb : (bad != 0) = true := by simpa using hbad
        have E9 := HA.out.1 hbad
        clear HA hbad S1 S2 S3 S4 R
        have E9 := hd E9
        rcases q9 : (bad != 9) with _ | _
        case false =>
          have qc : can = false := by have := E9.out; rw [q9] at this; simpa using this
          subst qc
          clear E9
          go_wp2_with fail
          go_ret
          exact ⟨rfl, B⟩
        case true =>
          clear E9
          go_wp2_with fail
          go_ret
          exact ⟨rfl, B⟩
      obtain ⟨y1, y2, ⟨y3, y4⟩, y5, y6, y7⟩ := HA.out.2 hbad
      subst hbad
      clear HA
      subst y2
      have hY : (Y.length : Int) = (HL.length : Int) + 1 := by rw [y1]; simp
      obtain ⟨m, rfl⟩ := Int.eq_ofNat_of_zero_le y3
      have hm : m < SL.length := by omega
      clear y3 y4
      rw [← y1] at y5 y6 y7
      clear y1
      rw [stk_at SL m hm] at y7
      replace y5 := hd y5
      replace y6 := hd y6
      replace y7 := hd y7
      have r0 := R.cell 0 _ rfl
      have r1 := R.cell 1 _ rfl
      have r2 := R.cell 2 _ rfl
      go_wp2_with fail
      clear r0 r1 r2
      refine (outOn_impl _ _ _ S1 _ _ S3 _ _).mono ?_
      rintro e w19 ⟨rfl, B19⟩
      replace S1 := S1.below B19
      replace S2 := S2.below B19
      replace S3 := S3.below B19
      replace S4 := S4.below B19
      replace R := R.below B19
      replace B := below_step B B19
      clear B19
      rw [y5.out]
      clear y5
      generalize (outR SL Y (m : Int) b).1 = out at y6 y7 ⊢
      have ml := S2.len
      have ml3 := S3.len
      obtain ⟨b1, o1, rfl, -, cS⟩ := S1.int_at hm
      generalize SL[m] = s at cS y7
      have hmi : (m : Int) < (SL.length : Int) := by omega
      have r0 := R.cell 0 _ rfl
      have y6 := y6.out
      have y7 := y7.out
      have e1 : decide (1 ≤ out) = true := by simpa using y6
      have e2 : decide (out ≤ s) = true := by simpa using y7
      go_wp2_with fail
      go_ret
      refine ⟨?_, B⟩
      simp
    obtain ⟨⟨x1, x2⟩, x3, x4⟩ := HK.out hfive
    subst hfive
    clear HK
    obtain ⟨k, rfl⟩ := Int.eq_ofNat_of_zero_le x1
    have hk : k < SN.length := by omega
    clear x1 x2
    rw [stk_at SN k hk] at x4
    replace x3 := hd x3
    replace x4 := hd x4
    go_wp2_with fail
    refine (outOn_impl _ _ _ S7 _ _ S8 _ _).mono ?_
    rintro e w19 ⟨rfl, B19⟩
    replace S1 := S1.below B19
    replace S2 := S2.below B19
    replace S3 := S3.below B19
    replace S4 := S4.below B19
    replace S7 := S7.below B19
    replace S8 := S8.below B19
    replace R := R.below B19
    replace B := below_step B B19
    clear B19
    rw [x3.out]
    clear x3 S8
    generalize (outR SN HN (k : Int) day).1 = lo at x4 ⊢
    obtain ⟨b7, o7, rfl, -, c7'⟩ := S7.int_at hk
    generalize SN[k] = s7 at c7' x4
    have hki : (k : Int) < (SN.length : Int) := by omega
    have x4 := x4.out
    have e7 : decide (lo ≤ s7) = false := by simp; omega
    go_upto_region 30 with fail
    clear c7' S7 x4 e7 hki hk
    by_cases hbad : bad = 0
    case neg =>
      have eb : (bad != 0) = true := by simpa using hbad
      have E9 := HA.out.1 hbad
      clear HA hbad S1 S2 S3 S4 R
      have E9 := hd E9
      rcases q9 : (bad != 9) with _ | _
      case false =>
        have qc : can = false := by have := E9.out; rw [q9] at this; simpa using this
        subst qc
        clear E9
        go_wp2_with fail
        go_ret
        exact ⟨rfl, B⟩
      case true =>
        clear E9
        go_wp2_with fail
        go_ret
        exact ⟨rfl, B⟩
    obtain ⟨y1, y2, ⟨y3, y4⟩, y5, y6, y7⟩ := HA.out.2 hbad
    subst hbad
    clear HA
    subst y2
    have hY : (Y.length : Int) = (HL.length : Int) + 1 := by rw [y1]; simp
    obtain ⟨m, rfl⟩ := Int.eq_ofNat_of_zero_le y3
    have hm : m < SL.length := by omega
    clear y3 y4
    rw [← y1] at y5 y6 y7
    clear y1
    rw [stk_at SL m hm] at y7
    replace y5 := hd y5
    replace y6 := hd y6
    replace y7 := hd y7
    have r0 := R.cell 0 _ rfl
    have r1 := R.cell 1 _ rfl
    have r2 := R.cell 2 _ rfl
    go_wp2_with fail
    clear r0 r1 r2
    refine (outOn_impl _ _ _ S1 _ _ S3 _ _).mono ?_
    rintro e w20 ⟨rfl, B20⟩
    replace S1 := S1.below B20
    replace S2 := S2.below B20
    replace S3 := S3.below B20
    replace S4 := S4.below B20
    replace R := R.below B20
    replace B := below_step B B20
    clear B20
    rw [y5.out]
    clear y5
    generalize (outR SL Y (m : Int) b).1 = out at y6 y7 ⊢
    have ml := S2.len
    have ml3 := S3.len
    obtain ⟨b1, o1, rfl, -, cS⟩ := S1.int_at hm
    generalize SL[m] = s at cS y7
    have hmi : (m : Int) < (SL.length : Int) := by omega
    have r0 := R.cell 0 _ rfl
    have y6 := y6.out
    have y7 := y7.out
    have e1 : decide (1 ≤ out) = true := by simpa using y6
    have e2 : decide (out ≤ s) = true := by simpa using y7
    go_wp2_with fail
    go_ret
    refine ⟨?_, B⟩
    simp
  obtain ⟨⟨z1, z2⟩, ⟨z3, z4⟩, z5, z6, z7, z8⟩ := HF.out hthree
  subst hthree
  clear HF
  obtain ⟨q, rfl⟩ := Int.eq_ofNat_of_zero_le z3
  have hq : q < SM.length := by omega
  clear z3 z4
  rw [stk_at SM q hq] at z8
  replace z8 := hd z8
  go_wp2_with fail
  go_loopw [33] (fun iv wr => ∃ i : Int, 0 ≤ i ∧ i ≤ days ∧ iv = .int .i64 i ∧ Below w18.heap.size w18 wr) (fun iv _ => (days - intOf iv).toNat)
  case atStart => exact ⟨0, by omega, by omega, rfl, Below.refl _ _⟩
  case round =>
    obtain ⟨i, i0, i1, rfl, BB⟩ := hrel
    by_cases hlt : i < days
    case pos =>
      obtain ⟨t1, t2⟩ := z8.out i i0 hlt
      have S5' := S5.below BB
      replace t1 := hd t1
      replace t2 := hd t2
      go_wp2_with fail
      refine (outOn_impl _ _ _ S5' _ _ (S6.below BB) _ _).mono ?_
      rintro e wz ⟨rfl, BZ⟩
      rw [t1.out]
      clear t1
      generalize (outR SM HM (q : Int) (first + i)).1 = ou at t2 ⊢
      replace BB := below_step BB BZ
      replace S5' := S5'.below BZ
      clear BZ
      obtain ⟨b5, o5, rfl, -, c5'⟩ := S5'.int_at hq
      generalize SM[q] = s5 at c5' t2
      have hqi : (q : Int) < (SM.length : Int) := by omega
      have t2 := t2.out
      have e5 : decide (s5 ≤ ou) = false := by simp; omega
      go_wp2_with fail
      go_roundw
      case rel => exact ⟨i + 1, by omega, by omega, rfl, BB⟩
      case measure => simp [intOf]; omega
    case neg =>
      clear z8 S5 S6
      replace S1 := S1.below BB
      replace S2 := S2.below BB
      replace S3 := S3.below BB
      replace S4 := S4.below BB
      replace S7 := S7.below BB
      replace S8 := S8.below BB
      replace R := R.below BB
      replace B := below_step B BB
      clear BB
      go_upto_region 26 with fail
      by_cases hfive : five = 0
      case neg =>
        have ef : (five == 0) = false := by simpa using hfive
        clear HK S7 S8
        by_cases hbad : bad = 0
        case neg =>
          have eb : (bad != 0) = true := by simpa using hbad
          have E9 := HA.out.1 hbad
          clear HA hbad S1 S2 S3 S4 R
          have E9 := hd E9
          rcases q9 : (bad != 9) with _ | _
          case false =>
            have qc : can = false := by have := E9.out; rw [q9] at this; simpa using this
            subst qc
            clear E9
            go_wp2_with fail
            go_ret
            exact ⟨rfl, B⟩
          case true =>
            clear E9
            go_wp2_with fail
            go_ret
            exact ⟨rfl, B⟩
        obtain ⟨y1, y2, ⟨y3, y4⟩, y5, y6, y7⟩ := HA.out.2 hbad
        subst hbad
        clear HA
        subst y2
        have hY : (Y.length : Int) = (HL.length : Int) + 1 := by rw [y1]; simp
        obtain ⟨m, rfl⟩ := Int.eq_ofNat_of_zero_le y3
        have hm : m < SL.length := by omega
        clear y3 y4
        rw [← y1] at y5 y6 y7
        clear y1
        rw [stk_at SL m hm] at y7
        replace y5 := hd y5
        replace y6 := hd y6
        replace y7 := hd y7
        have r0 := R.cell 0 _ rfl
        have r1 := R.cell 1 _ rfl
        have r2 := R.cell 2 _ rfl
        go_wp2_with fail
        clear r0 r1 r2
        refine (outOn_impl _ _ _ S1 _ _ S3 _ _).mono ?_
        rintro e w19 ⟨rfl, B19⟩
        replace S1 := S1.below B19
        replace S2 := S2.below B19
        replace S3 := S3.below B19
        replace S4 := S4.below B19
        replace R := R.below B19
        replace B := below_step B B19
        clear B19
        rw [y5.out]
        clear y5
        generalize (outR SL Y (m : Int) b).1 = out at y6 y7 ⊢
        have ml := S2.len
        have ml3 := S3.len
        obtain ⟨b1, o1, rfl, -, cS⟩ := S1.int_at hm
        generalize SL[m] = s at cS y7
        have hmi : (m : Int) < (SL.length : Int) := by omega
        have r0 := R.cell 0 _ rfl
        have y6 := y6.out
        have y7 := y7.out
        have e1 : decide (1 ≤ out) = true := by simpa using y6
        have e2 : decide (out ≤ s) = true := by simpa using y7
        go_wp2_with fail
        go_ret
        refine ⟨?_, B⟩
        simp
      obtain ⟨⟨x1, x2⟩, x3, x4⟩ := HK.out hfive
      subst hfive
      clear HK
      obtain ⟨k, rfl⟩ := Int.eq_ofNat_of_zero_le x1
      have hk : k < SN.length := by omega
      clear x1 x2
      rw [stk_at SN k hk] at x4
      replace x3 := hd x3
      replace x4 := hd x4
      go_wp2_with fail
      refine (outOn_impl _ _ _ S7 _ _ S8 _ _).mono ?_
      rintro e w19 ⟨rfl, B19⟩
      replace S1 := S1.below B19
      replace S2 := S2.below B19
      replace S3 := S3.below B19
      replace S4 := S4.below B19
      replace S7 := S7.below B19
      replace S8 := S8.below B19
      replace R := R.below B19
      replace B := below_step B B19
      clear B19
      rw [x3.out]
      clear x3 S8
      generalize (outR SN HN (k : Int) day).1 = lo at x4 ⊢
      obtain ⟨b7, o7, rfl, -, c7'⟩ := S7.int_at hk
      generalize SN[k] = s7 at c7' x4
      have hki : (k : Int) < (SN.length : Int) := by omega
      have x4 := x4.out
      have e7 : decide (lo ≤ s7) = false := by simp; omega
      go_upto_region 30 with fail
      clear c7' S7 x4 e7 hki hk
      by_cases hbad : bad = 0
      case neg =>
        have eb : (bad != 0) = true := by simpa using hbad
        have E9 := HA.out.1 hbad
        clear HA hbad S1 S2 S3 S4 R
        have E9 := hd E9
        rcases q9 : (bad != 9) with _ | _
        case false =>
          have qc : can = false := by have := E9.out; rw [q9] at this; simpa using this
          subst qc
          clear E9
          go_wp2_with fail
          go_ret
          exact ⟨rfl, B⟩
        case true =>
          clear E9
          go_wp2_with fail
          go_ret
          exact ⟨rfl, B⟩
      obtain ⟨y1, y2, ⟨y3, y4⟩, y5, y6, y7⟩ := HA.out.2 hbad
      subst hbad
      clear HA
      subst y2
      have hY : (Y.length : Int) = (HL.length : Int) + 1 := by rw [y1]; simp
      obtain ⟨m, rfl⟩ := Int.eq_ofNat_of_zero_le y3
      have hm : m < SL.length := by omega
      clear y3 y4
      rw [← y1] at y5 y6 y7
      clear y1
      rw [stk_at SL m hm] at y7
      replace y5 := hd y5
      replace y6 := hd y6
      replace y7 := hd y7
      have r0 := R.cell 0 _ rfl
      have r1 := R.cell 1 _ rfl
      have r2 := R.cell 2 _ rfl
      go_wp2_with fail
      clear r0 r1 r2
      refine (outOn_impl _ _ _ S1 _ _ S3 _ _).mono ?_
      rintro e w20 ⟨rfl, B20⟩
      replace S1 := S1.below B20
      replace S2 := S2.below B20
      replace S3 := S3.below B20
      replace S4 := S4.below B20
      replace R := R.below B20
      replace B := below_step B B20
      clear B20
      rw [y5.out]
      clear y5
      generalize (outR SL Y (m : Int) b).1 = out at y6 y7 ⊢
      have ml := S2.len
      have ml3 := S3.len
      obtain ⟨b1, o1, rfl, -, cS⟩ := S1.int_at hm
      generalize SL[m] = s at cS y7
      have hmi : (m : Int) < (SL.length : Int) := by omega
      have r0 := R.cell 0 _ rfl
      have y6 := y6.out
      have y7 := y7.out
      have e1 : decide (1 ≤ out) = true := by simpa using y6
      have e2 : decide (out ≤ s) = true := by simpa using y7
      go_wp2_with fail
      go_ret
      refine ⟨?_, B⟩
      simp

set_option maxRecDepth 100000 in
theorem FnHires_lifted (os : Os) (started : os.Started) (H : Type) (enc : TypeId × Value → H) :
    ReturnsInHanded {} Try.checked os 8 .any (Rows.fnHiresSpec.pre6 enc Try.prog Try.f8 Rows.fnHiresRow.domain false) (Rows.fnHiresSpec.post enc Try.prog Try.f8 false true false false) := by
  refine returnsInHanded_of_change (C := Try.checked) own_knob started (by kernel_rfl) Try.func8
    (ChangeSpec.witness6 (enc := enc) (C := Try.checked) false ⟨#[], #[.slice none 0 0], []⟩ 8 (by kernel_rfl) (by kernel_rfl) (by kernel_rfl) (by kernel_rfl)) ?_
  intro W base args ds gs before hval0 hW hcnd _
  have hval : ∀ (j : Nat) t v, Try.f8.params[j]? = some t → args[j]? = some v → Value.okWide Try.prog W .any base t v := hval0
  have hW' := hW
  obtain ⟨p, q, hA0, hV, rfl, hfz, hnd⟩ := hW
  have hA : DataW.TrodAll enc Try.prog W 0 (fun _ => true) true Try.f8.params.toList args.toList ds p := hA0
  rw [Try.params8] at hA hval
  obtain ⟨v0, vs0, d0, ds0, p0, q0, hargs, rfl, rfl, h0, r0⟩ := trodAll_cons hA
  obtain ⟨rfl, rfl, rfl⟩ := trodAll_nil r0
  obtain rfl : args = #[v0] := by cases args; simp_all
  obtain ⟨rfl, rfl⟩ := trodVars_none hV
  have k0 := h0
  have lt0 : ∀ x ∈ p0, x.block < W.heap.size := by obtain ⟨m, hm⟩ := k0; exact DataW.trod_lt m _ _ _ hm
  obtain ⟨l0, sl0, wf0⟩ := sl_of_bytes Try.underlying22 Try.underlying5 (by kernel_rfl) (hval 0 22 v0 rfl rfl) h0
  refine (law_FnHires W v0 l0 sl0 wf0).mono fun e W' ⟨he, bel⟩ => ?_
  subst he
  exact ⟨_, rfl, _, _, _, [], _, [], hW', trodAll_mk1 (shut_bool Try.underlying4 _), (trodAll_cons_mk (Below.trod laid_out (by kernel_rfl) (of_decide_eq_true (by kernel_rfl)) k0 bel lt0) trodAll_mk0), rfl, bel.frame _, fun h => by cases h⟩

theorem FnHires_closed : joinedFacts Try.pinned.checked.prog 8 Try.f8 Rows.fnHiresSpec Rows.fnHiresRow = true := by
  unfold joinedFacts; rw [seat_enter, seat_lifts, seat_make]; kernel_rfl

theorem FnHires_named : Try.pinned.checked.prog.funcNamed Rows.fnHiresRow.func = some 8 := by kernel_rfl

theorem FnHires_holds : Rows.FnHiresSaid :=
  OpenClaim.holds_of_wide 8 Try.f8 rfl rfl rfl rfl rfl rfl rfl ⟨rfl, rfl, rfl, rfl, rfl⟩ rfl rfl rfl rfl rfl FnHires_named Try.func8 FnHires_closed
    (of_decide_eq_true (by kernel_rfl)) (by unfold Func.isWrapper; first | (rw [if_pos (by decide +kernel)]; kernel_rfl) | (rw [if_neg (by decide +kernel)]; exact ⟨rfl, rfl⟩))
    (fun os started H enc _ => FnHires_lifted os started H enc)
#print axioms FnHires_holds

end Go.Proofs.Ytidmpjlkdghmeaa
