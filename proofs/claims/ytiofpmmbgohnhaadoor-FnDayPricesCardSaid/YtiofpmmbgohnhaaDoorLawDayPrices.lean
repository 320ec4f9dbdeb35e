/- FnDayPrices: a number of days that costs least costs no more than the asked ones, as many days as told cost no more than the money, and money is read back from its text. No condition. -/
import Derived.Test.YtiofpmmbgohnhaaDoorRDraw
import Derived.Test.YtiofpmmbgohnhaaDoorA2
import Derived.Test.YtiofpmmbgohnhaaDoorCards
import Derived.Test.YtiofpmmbgohnhaaDoorTie
import Derived.LaidMore
import Derived.Lay
import Derived.LaidHandle
import Derived.Stop.LaidErr
import Derived.Stop.Joined
import Derived.SevenTiedAt
namespace Go.Proofs.YtiofpmmbgohnhaaDoor
open Go Go.RowKit Go.ChangeShapes Go.WideShapes
set_option linter.unusedSimpArgs false
set_option linter.unusedVariables false
set_option maxRecDepth 100000 in
set_option maxHeartbeats 16000000 in
theorem law_FnDayPrices (w : World) (v : Value) (l0 : List Int) (h0 : Sl w 1 v eB l0) (hr : ∀ x ∈ l0, 0 ≤ x ∧ x ≤ 255) (hsh : Shop w) :
    Calls Tryd.prog 5 #[v] w fun e w' => e = .returned (.bool true) ∧ Below w.heap.size w w' := by
  have hS := h0.bytes hr
  generalize toU l0 = l at hS
  clear h0 hr
  have B := Below.refl w.heap.size w
  have HSH := hd hsh
  clear hsh
  by_cases hl : 4096 < l.length
  · go_enter Tryd.func5, Tryd.ntmps5
    go_wp2_with fail
    refine (f6big _ _ _ hS).mono ?_
    rintro e w1 ⟨rfl, rfl⟩
    go_wp2_with fail
    go_ret
    exact ⟨rfl, Below.refl _ _⟩
  have hl1 : l.length ≤ 1048576 := by omega
  go_enter Tryd.func5, Tryd.ntmps5
  go_wp2_with fail
  refine (f6big _ _ _ hS).mono ?_
  rintro e w1 ⟨rfl, hw⟩
  obtain rfl : w = w1 := hw.symm
  go_wp2_with fail
  refine (draw_cheapest _ _ _ (hS.below B) hl1).mono ?_
  rintro e w2 ⟨L1, d1, u1, rfl, O1, -, B2⟩
  replace B := below_step B B2
  clear B2
  have S1 := O1.sl eRate_len
  obtain ⟨A1, c1, rfl⟩ := S1.isSlice
  clear O1
  go_wp2_with fail
  refine (cheapest_impl _ _ _ S1 _).mono ?_
  rintro e w3 ⟨rfl, B3⟩
  replace S1 := S1.below B3
  replace B := below_step B B3
  clear B3
  go_wp2_with fail
  refine (cheapest_spec _ _ _ S1 _).mono ?_
  rintro e w4 ⟨rfl, B4⟩
  replace S1 := S1.below B4
  replace B := below_step B B4
  clear B4
  have HC := hd (show (chR L1 d1).2.2 = 0 → _ from fun h => chR_law h)
  generalize (chR L1 d1).1 = n at HC ⊢
  generalize (chR L1 d1).2.1 = cost at HC ⊢
  generalize (chR L1 d1).2.2 = bad at HC ⊢
  go_wp2_with fail
  refine (draw_within _ _ _ (hS.below B) hl1).mono ?_
  rintro e w5 ⟨L2, c2, u2, rfl, O2, -, B5⟩
  replace S1 := S1.below B5
  replace B := below_step B B5
  clear B5
  have S2 := O2.sl eRate_len
  obtain ⟨A2, cc2, rfl⟩ := S2.isSlice
  clear O2
  go_wp2_with fail
  refine (within_impl _ _ _ S2 _).mono ?_
  rintro e w6 ⟨rfl, B6⟩
  replace S1 := S1.below B6
  replace S2 := S2.below B6
  replace B := below_step B B6
  clear B6
  go_wp2_with fail
  refine (within_spec _ _ _ S2 _).mono ?_
  rintro e w7 ⟨rfl, B7⟩
  replace S1 := S1.below B7
  replace S2 := S2.below B7
  replace B := below_step B B7
  clear B7
  have HW := hd (show (dwR L2 c2).2 = 0 → _ from fun h => dwR_law h)
  generalize (dwR L2 c2).1 = m at HW ⊢
  generalize (dwR L2 c2).2 = one at HW ⊢
  go_wp2_with fail
  refine (draw_price _ _ _ (hS.below B) hl1).mono ?_
  rintro e w8 ⟨L3, d3, u3, rfl, O3, -, B8⟩
  replace S1 := S1.below B8
  replace S2 := S2.below B8
  replace B := below_step B B8
  clear B8
  have S3 := O3.sl eRate_len
  obtain ⟨A3, cc3, rfl⟩ := S3.isSlice
  clear O3
  go_wp2_with fail
  refine (priceFor_impl _ _ _ S3 _).mono ?_
  rintro e w9 ⟨rfl, B9⟩
  replace S1 := S1.below B9
  replace S2 := S2.below B9
  replace S3 := S3.below B9
  replace B := below_step B B9
  clear B9
  go_wp2_with fail
  refine (priceFor_spec _ _ _ S3 _).mono ?_
  rintro e w10 ⟨rfl, B10⟩
  replace S1 := S1.below B10
  replace S2 := S2.below B10
  replace B := below_step B B10
  clear B10
  clear S3
  generalize (priceR L3 d3).1 = p
  generalize (priceR L3 d3).2 = three
  go_wp2_with fail
  refine (draw_cents _ _ _ (hS.below B) hl1).mono ?_
  rintro e w11 ⟨d, rfl, B11⟩
  replace S1 := S1.below B11
  replace S2 := S2.below B11
  replace B := below_step B B11
  clear B11
  go_wp2_with fail
  refine (cents_impl _ _ (HSH.out.below B).1).mono ?_
  rintro e w12 ⟨rfl, B12⟩
  replace S1 := S1.below B12
  replace S2 := S2.below B12
  replace B := below_step B B12
  clear B12
  have hz : (centsR d).size ≤ 20 := by
    rcases readC_back d with ⟨h1, h2, -, -⟩ | ⟨h1, -⟩
    · rw [h2]; exact (moneyS_size (inB_true h1)).1
    · rw [h1]; decide
  go_wp2_with fail
  refine (readC_impl _ _ (by omega) (HSH.out.below B)).mono ?_
  rintro e w13 ⟨rfl, B13⟩
  replace S1 := S1.below B13
  replace S2 := S2.below B13
  replace B := below_step B B13
  clear B13
  rw [rc_eq]
  rcases readC_back d with ⟨hb1, hb2, hb3, hb4⟩ | ⟨hb1, hb4⟩
  case inl =>
    rw [hb4]
    clear hb4 hb1 hb2
    have HCE := hd (fun w => cents_spec w d)
    generalize centsR d = tx at hz hb3 HCE ⊢
    go_wp2_with fail
    refine (draw_text _ _ _ (hS.below B) hl1).mono ?_
    rintro e w14 ⟨s, hs, rfl, B14⟩
    replace S1 := S1.below B14
    replace S2 := S2.below B14
    replace B := below_step B B14
    clear B14
    go_wp2_with fail
    refine (readC_impl _ _ (by omega) (HSH.out.below B)).mono ?_
    rintro e w15 ⟨rfl, B15⟩
    replace S1 := S1.below B15
    replace S2 := S2.below B15
    replace B := below_step B B15
    clear B15
    go_wp2_with fail
    refine (readC_spec _ _ (by omega)).mono ?_
    rintro e w16 ⟨rfl, B16⟩
    replace S1 := S1.below B16
    replace S2 := S2.below B16
    replace B := below_step B B16
    clear B16
    generalize rcV s = uu
    generalize rcB s = vv
    go_wp2_with fail
    refine (draw_same _ _ _ (hS.below B) hl1).mono ?_
    rintro e w17 ⟨L4, M4, u4, u5, rfl, S4, S5, -, -, B17⟩
    replace S1 := S1.below B17
    replace S2 := S2.below B17
    replace B := below_step B B17
    clear B17
    obtain ⟨A4, cc4, rfl⟩ := S4.isSlice
    obtain ⟨A5, cc5, rfl⟩ := S5.isSlice
    go_wp2_with fail
    refine (HCE.out _).mono ?_
    rintro e w18 ⟨rfl, B18⟩
    replace S1 := S1.below B18
    replace S2 := S2.below B18
    replace S4 := S4.below B18
    replace S5 := S5.below B18
    replace B := below_step B B18
    clear B18
    go_wp2_with fail
    refine (sameRates_impl _ _ _ _ _ S4 S5).mono ?_
    rintro e w19 ⟨rfl, B19⟩
    replace S1 := S1.below B19
    replace S2 := S2.below B19
    replace S4 := S4.below B19
    replace S5 := S5.below B19
    replace B := below_step B B19
    clear B19
    go_wp2_with fail
    refine (sameRates_spec _ _ _ _ _ S4 S5).mono ?_
    rintro e w20 ⟨rfl, B20⟩
    replace S1 := S1.below B20
    replace S2 := S2.below B20
    replace S4 := S4.below B20
    replace S5 := S5.below B20
    replace B := below_step B B20
    clear B20
    clear S4 S5
    generalize decide (L4 = M4) = sm
    go_wp2_with fail
    refine (rates_impl _ _ _ S1).mono ?_
    rintro e w21 ⟨rfl, B21⟩
    replace S1 := S1.below B21
    replace S2 := S2.below B21
    replace B := below_step B B21
    clear B21
    go_wp2_with fail
    refine (rates_spec _ _ _ S1).mono ?_
    rintro e w22 ⟨rfl, B22⟩
    replace S1 := S1.below B22
    replace S2 := S2.below B22
    replace B := below_step B B22
    clear B22
    generalize okRates L1 = ok1
    by_cases hone : one = 0
    case neg =>
      have e1 : (one == 0) = false := by simpa using hone
      clear HW hone S2
      by_cases hbad : bad = 0
      case neg =>
        have eb : (bad != 0) = true := by simpa using hbad
        clear HC hbad
        go_wp2_with fail
        go_ret
        exact ⟨rfl, B⟩
      obtain ⟨⟨q1, q2⟩, ⟨q3, q4⟩, q5, q6, q7, q8⟩ := HC.out hbad
      subst hbad
      clear HC
      go_wp2_with fail
      refine (priceFor_impl _ _ _ S1 _).mono ?_
      rintro e w23 ⟨rfl, B23⟩
      replace S1 := S1.below B23
      replace B := below_step B B23
      clear B23
      rw [q5]
      clear q5
      go_wp2_with fail
      refine (priceFor_impl _ _ _ S1 _).mono ?_
      rintro e w24 ⟨rfl, B24⟩
      replace S1 := S1.below B24
      replace B := below_step B B24
      clear B24
      rw [q6]
      generalize (priceR L1 d1).1 = ask at q7 ⊢
      clear q6
      go_wp2_with fail
      go_ret
      refine ⟨?_, B⟩
      show Ending.returned _ = _
      simp only [Array.getD]
      rfl
    obtain ⟨⟨p1, p2⟩, p3, p4, p5⟩ := HW.out hone
    subst hone
    clear HW
    go_wp2_with fail
    refine (priceFor_impl _ _ _ S2 _).mono ?_
    rintro e w23 ⟨rfl, B23⟩
    replace S1 := S1.below B23
    replace S2 := S2.below B23
    replace B := below_step B B23
    clear B23
    rw [p3]
    generalize (priceR L2 m).1 = own at p4 ⊢
    clear p3
    by_cases hm : m < 1000
    case neg =>
      clear p5 S2
      by_cases hbad : bad = 0
      case neg =>
        have eb : (bad != 0) = true := by simpa using hbad
        clear HC hbad
        go_wp2_with fail
        go_ret
        exact ⟨rfl, B⟩
      obtain ⟨⟨q1, q2⟩, ⟨q3, q4⟩, q5, q6, q7, q8⟩ := HC.out hbad
      subst hbad
      clear HC
      go_wp2_with fail
      refine (priceFor_impl _ _ _ S1 _).mono ?_
      rintro e w24 ⟨rfl, B24⟩
      replace S1 := S1.below B24
      replace B := below_step B B24
      clear B24
      rw [q5]
      clear q5
      go_wp2_with fail
      refine (priceFor_impl _ _ _ S1 _).mono ?_
      rintro e w25 ⟨rfl, B25⟩
      replace S1 := S1.below B25
      replace B := below_step B B25
      clear B25
      rw [q6]
      generalize (priceR L1 d1).1 = ask at q7 ⊢
      clear q6
      go_wp2_with fail
      go_ret
      refine ⟨?_, B⟩
      show Ending.returned _ = _
      simp only [Array.getD]
      rfl
    obtain ⟨p6, p7⟩ := p5 hm
    clear p5
    go_wp2_with fail
    refine (priceFor_impl _ _ _ S2 _).mono ?_
    rintro e w24 ⟨rfl, B24⟩
    replace S1 := S1.below B24
    replace S2 := S2.below B24
    replace B := below_step B B24
    clear B24
    rw [p6]
    generalize (priceR L2 (m + 1)).1 = mr at p7 ⊢
    clear p6 S2
    by_cases hbad : bad = 0
    case neg =>
      have eb : (bad != 0) = true := by simpa using hbad
      clear HC hbad
      go_wp2_with fail
      go_ret
      exact ⟨rfl, B⟩
    obtain ⟨⟨q1, q2⟩, ⟨q3, q4⟩, q5, q6, q7, q8⟩ := HC.out hbad
    subst hbad
    clear HC
    go_wp2_with fail
    refine (priceFor_impl _ _ _ S1 _).mono ?_
    rintro e w25 ⟨rfl, B25⟩
    replace S1 := S1.below B25
    replace B := below_step B B25
    clear B25
    rw [q5]
    clear q5
    go_wp2_with fail
    refine (priceFor_impl _ _ _ S1 _).mono ?_
    rintro e w26 ⟨rfl, B26⟩
    replace S1 := S1.below B26
    replace B := below_step B B26
    clear B26
    rw [q6]
    generalize (priceR L1 d1).1 = ask at q7 ⊢
    clear q6
    go_wp2_with fail
    go_ret
    refine ⟨?_, B⟩
    show Ending.returned _ = _
    simp only [Array.getD]
    rfl
  case inr =>
    rw [hb4]
    have hb3 : (centsR d).toList.isEmpty = true := by rw [hb1, ByteArray.toList_eq]; rfl
    clear hb4 hb1
    have HCE := hd (fun w => cents_spec w d)
    generalize centsR d = tx at hz hb3 HCE ⊢
    go_wp2_with fail
    refine (draw_text _ _ _ (hS.below B) hl1).mono ?_
    rintro e w14 ⟨s, hs, rfl, B14⟩
    replace S1 := S1.below B14
    replace S2 := S2.below B14
    replace B := below_step B B14
    clear B14
    go_wp2_with fail
    refine (readC_impl _ _ (by omega) (HSH.out.below B)).mono ?_
    rintro e w15 ⟨rfl, B15⟩
    replace S1 := S1.below B15
    replace S2 := S2.below B15
    replace B := below_step B B15
    clear B15
    go_wp2_with fail
    refine (readC_spec _ _ (by omega)).mono ?_
    rintro e w16 ⟨rfl, B16⟩
    replace S1 := S1.below B16
    replace S2 := S2.below B16
    replace B := below_step B B16
    clear B16
    generalize rcV s = uu
    generalize rcB s = vv
    go_wp2_with fail
    refine (draw_same _ _ _ (hS.below B) hl1).mono ?_
    rintro e w17 ⟨L4, M4, u4, u5, rfl, S4, S5, -, -, B17⟩
    replace S1 := S1.below B17
    replace S2 := S2.below B17
    replace B := below_step B B17
    clear B17
    obtain ⟨A4, cc4, rfl⟩ := S4.isSlice
    obtain ⟨A5, cc5, rfl⟩ := S5.isSlice
    go_wp2_with fail
    refine (HCE.out _).mono ?_
    rintro e w18 ⟨rfl, B18⟩
    replace S1 := S1.below B18
    replace S2 := S2.below B18
    replace S4 := S4.below B18
    replace S5 := S5.below B18
    replace B := below_step B B18
    clear B18
    go_wp2_with fail
    refine (sameRates_impl _ _ _ _ _ S4 S5).mono ?_
    rintro e w19 ⟨rfl, B19⟩
    replace S1 := S1.below B19
    replace S2 := S2.below B19
    replace S4 := S4.below B19
    replace S5 := S5.below B19
    replace B := below_step B B19
    clear B19
    go_wp2_with fail
    refine (sameRates_spec _ _ _ _ _ S4 S5).mono ?_
    rintro e w20 ⟨rfl, B20⟩
    replace S1 := S1.below B20
    replace S2 := S2.below B20
    replace S4 := S4.below B20
    replace S5 := S5.below B20
    replace B := below_step B B20
    clear B20
    clear S4 S5
    generalize decide (L4 = M4) = sm
    go_wp2_with fail
    refine (rates_impl _ _ _ S1).mono ?_
    rintro e w21 ⟨rfl, B21⟩
    replace S1 := S1.below B21
    replace S2 := S2.below B21
    replace B := below_step B B21
    clear B21
    go_wp2_with fail
    refine (rates_spec _ _ _ S1).mono ?_
    rintro e w22 ⟨rfl, B22⟩
    replace S1 := S1.below B22
    replace S2 := S2.below B22
    replace B := below_step B B22
    clear B22
    generalize okRates L1 = ok1
    by_cases hone : one = 0
    case neg =>
      have e1 : (one == 0) = false := by simpa using hone
      clear HW hone S2
      by_cases hbad : bad = 0
      case neg =>
        have eb : (bad != 0) = true := by simpa using hbad
        clear HC hbad
        go_wp2_with fail
        go_ret
        exact ⟨rfl, B⟩
      obtain ⟨⟨q1, q2⟩, ⟨q3, q4⟩, q5, q6, q7, q8⟩ := HC.out hbad
      subst hbad
      clear HC
      go_wp2_with fail
      refine (priceFor_impl _ _ _ S1 _).mono ?_
      rintro e w23 ⟨rfl, B23⟩
      replace S1 := S1.below B23
      replace B := below_step B B23
      clear B23
      rw [q5]
      clear q5
      go_wp2_with fail
      refine (priceFor_impl _ _ _ S1 _).mono ?_
      rintro e w24 ⟨rfl, B24⟩
      replace S1 := S1.below B24
      replace B := below_step B B24
      clear B24
      rw [q6]
      generalize (priceR L1 d1).1 = ask at q7 ⊢
      clear q6
      go_wp2_with fail
      go_ret
      refine ⟨?_, B⟩
      show Ending.returned _ = _
      simp only [Array.getD]
      rfl
    obtain ⟨⟨p1, p2⟩, p3, p4, p5⟩ := HW.out hone
    subst hone
    clear HW
    go_wp2_with fail
    refine (priceFor_impl _ _ _ S2 _).mono ?_
    rintro e w23 ⟨rfl, B23⟩
    replace S1 := S1.below B23
    replace S2 := S2.below B23
    replace B := below_step B B23
    clear B23
    rw [p3]
    generalize (priceR L2 m).1 = own at p4 ⊢
    clear p3
    by_cases hm : m < 1000
    case neg =>
      clear p5 S2
      by_cases hbad : bad = 0
      case neg =>
        have eb : (bad != 0) = true := by simpa using hbad
        clear HC hbad
        go_wp2_with fail
        go_ret
        exact ⟨rfl, B⟩
      obtain ⟨⟨q1, q2⟩, ⟨q3, q4⟩, q5, q6, q7, q8⟩ := HC.out hbad
      subst hbad
      clear HC
      go_wp2_with fail
      refine (priceFor_impl _ _ _ S1 _).mono ?_
      rintro e w24 ⟨rfl, B24⟩
      replace S1 := S1.below B24
      replace B := below_step B B24
      clear B24
      rw [q5]
      clear q5
      go_wp2_with fail
      refine (priceFor_impl _ _ _ S1 _).mono ?_
      rintro e w25 ⟨rfl, B25⟩
      replace S1 := S1.below B25
      replace B := below_step B B25
      clear B25
      rw [q6]
      generalize (priceR L1 d1).1 = ask at q7 ⊢
      clear q6
      go_wp2_with fail
      go_ret
      refine ⟨?_, B⟩
      show Ending.returned _ = _
      simp only [Array.getD]
      rfl
    obtain ⟨p6, p7⟩ := p5 hm
    clear p5
    go_wp2_with fail
    refine (priceFor_impl _ _ _ S2 _).mono ?_
    rintro e w24 ⟨rfl, B24⟩
    replace S1 := S1.below B24
    replace S2 := S2.below B24
    replace B := below_step B B24
    clear B24
    rw [p6]
    generalize (priceR L2 (m + 1)).1 = mr at p7 ⊢
    clear p6 S2
    by_cases hbad : bad = 0
    case neg =>
      have eb : (bad != 0) = true := by simpa using hbad
      clear HC hbad
      go_wp2_with fail
      go_ret
      exact ⟨rfl, B⟩
    obtain ⟨⟨q1, q2⟩, ⟨q3, q4⟩, q5, q6, q7, q8⟩ := HC.out hbad
    subst hbad
    clear HC
    go_wp2_with fail
    refine (priceFor_impl _ _ _ S1 _).mono ?_
    rintro e w25 ⟨rfl, B25⟩
    replace S1 := S1.below B25
    replace B := below_step B B25
    clear B25
    rw [q5]
    clear q5
    go_wp2_with fail
    refine (priceFor_impl _ _ _ S1 _).mono ?_
    rintro e w26 ⟨rfl, B26⟩
    replace S1 := S1.below B26
    replace B := below_step B B26
    clear B26
    rw [q6]
    generalize (priceR L1 d1).1 = ask at q7 ⊢
    clear q6
    go_wp2_with fail
    go_ret
    refine ⟨?_, B⟩
    show Ending.returned _ = _
    simp only [Array.getD]
    rfl


def FnDayPrices_laid : List (String × DataW Unit) := [("math/bits.deBruijn32tab", Rows.laid_math_bits_deBruijn32tab), ("math/bits.deBruijn64tab", Rows.laid_math_bits_deBruijn64tab), ("internal/strconv.uint64pow10", Rows.laid_internal_strconv_uint64pow10), ("strconv.ErrRange", Rows.laid_strconv_ErrRange), ("strconv.ErrSyntax", Rows.laid_strconv_ErrSyntax)]
set_option maxRecDepth 100000 in
theorem FnDayPrices_door (os : Os) (args : Array Value) : laidMetH Tryd.prog FnDayPrices_laid ((World.doorLaid Tryd.prog 72 os).forCall (fun _ _ => 0) ⟨#[], args, []⟩).memory :=
  laidMetH_of_parts3 (fuel := 8) (laidMet_of_run' 8 (by kernel_rfl) (by kernel_rfl)) (by kernel_rfl) (by kernel_rfl)
set_option maxRecDepth 100000 in
theorem FnDayPrices_tab {W : World} (h0 : laidMetH Tryd.prog FnDayPrices_laid W) : Tab W := by
  rw [MakeChecks.laidMetH_plain _ _ _ (by kernel_rfl)] at h0
  have h : laidMet Tryd.prog FnDayPrices_laid W := h0
  exact Lib.tabIs_of_head (g := 1) (t := 181) (e := 128) (n := 20) (by kernel_rfl) (by kernel_rfl) Tryd.underlying181 Tryd.underlying128 (by kernel_rfl) (by kernel_rfl) (laidMet.tail (laidMet.tail h))
set_option maxRecDepth 100000 in
theorem FnDayPrices_errs {W : World} (h0 : laidMetH Tryd.prog FnDayPrices_laid W) : Errs W := by
  rw [MakeChecks.laidMetH_plain _ _ _ (by kernel_rfl)] at h0
  have h : laidMet Tryd.prog FnDayPrices_laid W := h0
  exact ⟨syntax_of_laid (laidMet.tail (laidMet.tail (laidMet.tail (laidMet.tail h)))), range_of_laid (laidMet.tail (laidMet.tail (laidMet.tail h)))⟩
set_option maxRecDepth 100000 in
theorem FnDayPrices_lifted (os : Os) (started : os.Started) (H : Type) (enc : TypeId × Value → H) :
    ReturnsInHanded {} Tryd.checked os 5 .any (fun w args => (Rows.fnDayPricesSpec.pre enc Tryd.prog Tryd.f5 [] false w args ∧ laidMetH Tryd.prog FnDayPrices_laid w) ∧ sizedMet enc Tryd.prog Tryd.f5 (OpenSpec.ofChange Rows.fnDayPricesSpec) false w args)
      (Rows.fnDayPricesSpec.post enc Tryd.prog Tryd.f5 false true false false) := by
  refine handed_shop (C := Tryd.checked) (X := fun w _ => laidMetH Tryd.prog FnDayPrices_laid w) (fun _ _ _ hh h => h.of_heap hh) own_knob started (by kernel_rfl) Tryd.func5
    (ChangeSpec.witness_shaped (enc := enc) (C := Tryd.checked) (os := os) (X := fun w _ => laidMetH Tryd.prog FnDayPrices_laid w) false (World.doorLaid Tryd.prog 72 os) #[.slice none 0 0] 8 rfl (World.shaped_of_RefB (by kernel_rfl) (by kernel_rfl)) (by kernel_rfl) (by kernel_rfl) (by kernel_rfl) (FnDayPrices_door os _)) ?_
  intro W base args ds gs before hval0 hW hL hsh
  have hval : ∀ (j : Nat) t v, Tryd.f5.params[j]? = some t → args[j]? = some v → Value.okWide Tryd.prog W .any base t v := hval0
  have hW' := hW
  obtain ⟨p, q, hA0, hV, rfl, hfz, hnd⟩ := hW
  have hA : DataW.TrodAll enc Tryd.prog W 0 (fun _ => true) true Tryd.f5.params.toList args.toList ds p := hA0
  rw [Tryd.params5] at hA hval
  obtain ⟨v0, vs0, d0, ds0, p0, q0, hargs, rfl, rfl, h0, r0⟩ := trodAll_cons hA
  obtain ⟨rfl, rfl, rfl⟩ := trodAll_nil r0
  obtain rfl : args = #[v0] := by cases args; simp_all
  obtain ⟨rfl, rfl⟩ := trodVars_none hV
  have k0 := h0
  have lt0 : ∀ x ∈ p0, x.block < W.heap.size := by obtain ⟨m, hm⟩ := k0; exact DataW.trod_lt m _ _ _ hm
  obtain ⟨l0, sl0, wf0⟩ := sl_of_bytes Tryd.underlying22 Tryd.underlying5 (by kernel_rfl) (hval 0 22 v0 rfl rfl) h0
  refine (law_FnDayPrices W v0 l0 sl0 wf0 ⟨FnDayPrices_tab hL, FnDayPrices_errs hL, maxL_of_shape hsh⟩).mono fun e W' ⟨he, bel⟩ => ?_
  subst he
  exact ⟨_, rfl, _, _, _, [], _, [], hW', trodAll_mk1 (shut_bool Tryd.underlying4 _), (trodAll_cons_mk (Below.trod laid_out (by kernel_rfl) (of_decide_eq_true (by kernel_rfl)) k0 bel lt0) trodAll_mk0), rfl, bel.frame _, fun h => by cases h⟩

theorem FnDayPrices_closed : joinedFacts Tryd.pinned.checked.prog 5 Tryd.f5 Rows.fnDayPricesSpec Rows.fnDayPricesRow = true := by kernel_rfl

theorem FnDayPrices_named : Tryd.pinned.checked.prog.funcNamed Rows.fnDayPricesRow.func = some 5 := by kernel_rfl

theorem FnDayPrices_row : Rows.FnDayPricesSaid :=
  OpenClaim.holds_of_wide 5 Tryd.f5 rfl rfl rfl rfl rfl rfl rfl ⟨rfl, rfl, rfl, rfl, rfl⟩ rfl rfl rfl rfl rfl FnDayPrices_named Tryd.func5 FnDayPrices_closed
    (of_decide_eq_true (by kernel_rfl)) (by unfold Func.isWrapper; first | (rw [if_pos (by decide +kernel)]; kernel_rfl) | (rw [if_neg (by decide +kernel)]; exact ⟨rfl, rfl⟩))
    (fun os started H enc _ => FnDayPrices_lifted os started H enc)


theorem FnDayPrices_holds : Rows.FnDayPricesCardSaid :=
  Claim7.holds_tied_plain_at .later [] [.data, .data, .data, .sentinel, .sentinel] true Rows.fnDayPricesCard.stood.harness true
    FnDayPrices_row (fun _ h => by cases h) (by kernel_rfl) (fun _ h => by cases h) fnDayPrices_row_tie rfl ⟨rfl, rfl⟩ (by kernel_rfl) rfl
    (fun f fn hf hfn => by
      obtain rfl : f = 5 := (Option.some.inj (FnDayPrices_named.symm.trans hf)).symm
      obtain rfl : fn = Tryd.f5 := (Option.some.inj (Tryd.func5.symm.trans hfn)).symm
      exact ⟨by kernel_rfl, fun j t ht => by
        rw [Tryd.params5] at ht
        have hm : t ∈ [22] := by simpa using Array.mem_of_getElem? ht
        have hall : ([22].all fun u => !Tryd.prog.wantsStandIn u) = true := by kernel_rfl
        exact (show Tryd.prog.wantsStandIn t = false by simpa using List.all_eq_true.1 hall t hm)⟩)
    (by kernel_rfl)
#print axioms FnDayPrices_holds

end Go.Proofs.YtiofpmmbgohnhaaDoor
