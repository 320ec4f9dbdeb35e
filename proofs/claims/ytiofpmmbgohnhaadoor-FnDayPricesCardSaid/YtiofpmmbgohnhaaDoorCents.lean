/- Money as text: the program's function and the reference's. No condition but the library's table. -/
import Derived.Test.YtiofpmmbgohnhaaDoorDec
namespace Go.Proofs.YtiofpmmbgohnhaaDoor
open Go Go.RowKit Go.ChangeShapes Go.WideShapes
set_option linter.unusedSimpArgs false
set_option linter.unusedVariables false

def centsS (c : Int) : ByteArray := decS (c / 100) ++ ⟨#[46]⟩ ++ decS (c / 10 % 10) ++ decS (c % 10)
def moneyS (n : Int) : ByteArray := if n < 0 then ⟨#[45]⟩ ++ centsS (-n) else centsS n
def centsR (n : Int) : ByteArray := if inB n (-10000000) 10000000 = true then moneyS n else ByteArray.empty

theorem money_spec (n : Int) (w : World) : Calls Tryd.prog 94 #[.int .i64 n] w fun e w' => e = .returned (.bool (inB n (-10000000) 10000000)) ∧ w' = w := by
  go_enter Tryd.func94, Tryd.ntmps94
  go_wp2_with (go_at_call 81; refine (in_spec _ _ _ _).mono ?_; rintro e w' ⟨rfl, rfl⟩)
  go_ret
  exact ⟨rfl, rfl⟩
set_option maxHeartbeats 1000000 in
theorem l26Text_pos (w : World) (c : Int) (h : 0 ≤ c ∧ c ≤ 10000000) :
    Calls Tryd.prog 89 #[.int .i64 c] w fun e w' => e = .returned (.string (centsS c)) ∧ Below w.heap.size w w' := by
  obtain ⟨h0, h1⟩ := h
  have HE := hd (show centsS c = ByteArray.empty ++ decS (c / 100) ++ ⟨#[46]⟩ ++ decS (c / 10 % 10) ++ decS (c % 10) by unfold centsS; rw [ByteArray.empty_append])
  have s1 := decS_size (n := c / 100) (by omega)
  have s2 := decS_size (n := c / 10 % 10) (by omega)
  have s3 := decS_size (n := c % 10) (by omega)
  have H1 := hd (fun w : World => dec_spec w (c / 100) (by omega))
  have H2 := hd (fun w : World => dec_spec w (c / 10 % 10) (by omega))
  have H3 := hd (fun w : World => dec_spec w (c % 10) (by omega))
  have b0 := Below.refl w.heap.size w
  go_enter Tryd.func89, Tryd.ntmps89
  go_wp2_with fail
  refine (H1.out _).mono ?_
  rintro e w1 ⟨rfl, hb1⟩
  have b1 := below_step b0 hb1
  go_wp2_with fail
  refine (H2.out _).mono ?_
  rintro e w2 ⟨rfl, hb2⟩
  have b2 := below_step b1 hb2
  go_wp2_with fail
  refine (H3.out _).mono ?_
  rintro e w3 ⟨rfl, hb3⟩
  have b3 := below_step b2 hb3
  go_wp2_with fail
  go_ret
  exact ⟨by rw [HE.out]; rfl, b3⟩
set_option maxHeartbeats 1000000 in
theorem l26Text_neg (w : World) (c : Int) (h : 1 ≤ c ∧ c ≤ 10000000) :
    Calls Tryd.prog 89 #[.int .i64 (-c)] w fun e w' => e = .returned (.string (⟨#[45]⟩ ++ centsS c)) ∧ Below w.heap.size w w' := by
  obtain ⟨h0, h1⟩ := h
  have HE := hd (show ⟨#[45]⟩ ++ centsS c = ⟨#[45]⟩ ++ decS (c / 100) ++ ⟨#[46]⟩ ++ decS (c / 10 % 10) ++ decS (c % 10) by unfold centsS; simp only [ByteArray.append_assoc])
  have s1 := decS_size (n := c / 100) (by omega)
  have s2 := decS_size (n := c / 10 % 10) (by omega)
  have s3 := decS_size (n := c % 10) (by omega)
  have H1 := hd (fun w : World => dec_spec w (c / 100) (by omega))
  have H2 := hd (fun w : World => dec_spec w (c / 10 % 10) (by omega))
  have H3 := hd (fun w : World => dec_spec w (c % 10) (by omega))
  have b0 := Below.refl w.heap.size w
  have hng : -c < 0 := by omega
  go_enter Tryd.func89, Tryd.ntmps89
  go_wp2_with fail
  refine (H1.out _).mono ?_
  rintro e w1 ⟨rfl, hb1⟩
  have b1 := below_step b0 hb1
  go_wp2_with fail
  refine (H2.out _).mono ?_
  rintro e w2 ⟨rfl, hb2⟩
  have b2 := below_step b1 hb2
  go_wp2_with fail
  refine (H3.out _).mono ?_
  rintro e w3 ⟨rfl, hb3⟩
  have b3 := below_step b2 hb3
  go_wp2_with fail
  go_ret
  exact ⟨by rw [HE.out]; rfl, b3⟩
set_option maxHeartbeats 1000000 in
theorem cents_spec (w : World) (n : Int) :
    Calls Tryd.prog 37 #[.int .i64 n] w fun e w' => e = .returned (.string (centsR n)) ∧ Below w.heap.size w w' := by
  rcases q : inB n (-10000000) 10000000 with _ | _
  · have HE := hd (show centsR n = ByteArray.empty by unfold centsR; rw [q]; rfl)
    go_enter Tryd.func37, Tryd.ntmps37
    go_wp2_with fail
    refine (money_spec _ _).mono ?_
    rintro e w1 ⟨rfl, hw⟩
    have hw := hw.symm
    subst hw
    rw [q]
    go_wp2_with fail
    go_ret
    exact ⟨by rw [HE.out]; rfl, Below.refl _ _⟩
  · have hbd := inB_true q
    have HE := hd (show centsR n = moneyS n by unfold centsR; rw [if_pos q])
    by_cases hn : n < 0
    · obtain ⟨c, rfl⟩ : ∃ c : Int, n = -c := ⟨-n, by omega⟩
      have HM := hd (show moneyS (-c) = ⟨#[45]⟩ ++ centsS c by unfold moneyS; rw [if_pos hn, Int.neg_neg])
      have HC := hd (fun w : World => l26Text_neg w c (by omega))
      have HQ := hd (money_spec (-c) w)
      clear hbd hn
      go_enter Tryd.func37, Tryd.ntmps37
      go_wp2_with fail
      refine HQ.out.mono ?_
      rintro e w1 ⟨rfl, hw⟩
      have hw := hw.symm
      subst hw
      rw [q]
      clear q
      go_wp2_with fail
      refine (HC.out _).mono ?_
      rintro e w2 ⟨rfl, hb2⟩
      go_wp2_with fail
      go_ret
      exact ⟨by rw [HE.out, HM.out]; rfl, hb2⟩
    · have HM := hd (show moneyS n = centsS n by unfold moneyS; rw [if_neg hn])
      have HC := hd (fun w : World => l26Text_pos w n (by omega))
      have HQ := hd (money_spec n w)
      clear hbd hn
      go_enter Tryd.func37, Tryd.ntmps37
      go_wp2_with fail
      refine HQ.out.mono ?_
      rintro e w1 ⟨rfl, hw⟩
      have hw := hw.symm
      subst hw
      rw [q]
      clear q
      go_wp2_with fail
      refine (HC.out _).mono ?_
      rintro e w2 ⟨rfl, hb2⟩
      go_wp2_with fail
      go_ret
      exact ⟨by rw [HE.out, HM.out]; rfl, hb2⟩
set_option maxHeartbeats 2000000 in
theorem cents_impl (w : World) (n : Int) (ht : Tab w) :
    Calls Tryd.prog 32 #[.int .i64 n] w fun e w' => e = .returned (.string (centsR n)) ∧ Below w.heap.size w w' := by
  have HT := hd ht
  clear ht
  rcases q : inB n (-10000000) 10000000 with _ | _
  · have HE := hd (show centsR n = ByteArray.empty by unfold centsR; rw [q]; rfl)
    go_enter Tryd.func32, Tryd.ntmps32
    go_wp2_with fail
    refine (in_impl _ _ _ _).mono ?_
    rintro e w1 ⟨rfl, hw⟩
    have hw := hw.symm
    subst hw
    rw [q]
    go_wp2_with fail
    go_ret
    exact ⟨by rw [HE.out]; rfl, Below.refl _ _⟩
  · have hbd := inB_true q
    have HE := hd (show centsR n = moneyS n by unfold centsR; rw [if_pos q])
    have HQ := hd (in_impl n (-10000000) 10000000 w)
    have b0 := Below.refl w.heap.size w
    by_cases hn : n < 0
    · obtain ⟨c, rfl⟩ : ∃ c : Int, n = -c := ⟨-n, by omega⟩
      have HM := hd (show moneyS (-c) = ⟨#[45]⟩ ++ (decS (c / 100) ++ ⟨#[46]⟩ ++ decS (c % 100 / 10) ++ decS (c % 10)) by unfold moneyS; rw [if_pos hn, Int.neg_neg]; unfold centsS; rw [show c % 100 / 10 = c / 10 % 10 by omega])
      have hc0 : 1 ≤ c := by omega
      have hc1 : c ≤ 10000000 := by omega
      have s1 := decS_size (n := c / 100) (by omega)
      have s2 := decS_size (n := c % 100 / 10) (by omega)
      have s3 := decS_size (n := c % 10) (by omega)
      have H1 := hd (fun (w : World) (h : Tab w) => dec_impl w (c / 100) (by omega) h)
      have H2 := hd (fun (w : World) (h : Tab w) => dec_impl w (c % 100 / 10) (by omega) h)
      have H3 := hd (fun (w : World) (h : Tab w) => dec_impl w (c % 10) (by omega) h)
      have hmx : max (-c) c = c := by omega
      clear hbd
      go_enter Tryd.func32, Tryd.ntmps32
      go_wp2_with fail
      refine HQ.out.mono ?_
      rintro e w1 ⟨rfl, hw⟩
      have hw := hw.symm
      subst hw
      rw [q]
      clear q
      go_wp2_with fail
      refine (H1.out _ HT.out).mono ?_
      rintro e w1 ⟨rfl, hb1⟩
      have b1 := below_step b0 hb1
      go_wp2_with fail
      refine (H2.out _ (HT.out.below b1)).mono ?_
      rintro e w2 ⟨rfl, hb2⟩
      have b2 := below_step b1 hb2
      go_wp2_with fail
      refine (H3.out _ (HT.out.below b2)).mono ?_
      rintro e w3 ⟨rfl, hb3⟩
      have b3 := below_step b2 hb3
      go_wp2_with fail
      go_ret
      exact ⟨by rw [HE.out, HM.out]; rfl, b3⟩
    · have HM := hd (show moneyS n = decS (n / 100) ++ ⟨#[46]⟩ ++ decS (n % 100 / 10) ++ decS (n % 10) by unfold moneyS; rw [if_neg hn]; unfold centsS; rw [show n % 100 / 10 = n / 10 % 10 by omega])
      have hc0 : 0 ≤ n := by omega
      have hc1 : n ≤ 10000000 := by omega
      have s1 := decS_size (n := n / 100) (by omega)
      have s2 := decS_size (n := n % 100 / 10) (by omega)
      have s3 := decS_size (n := n % 10) (by omega)
      have H1 := hd (fun (w : World) (h : Tab w) => dec_impl w (n / 100) (by omega) h)
      have H2 := hd (fun (w : World) (h : Tab w) => dec_impl w (n % 100 / 10) (by omega) h)
      have H3 := hd (fun (w : World) (h : Tab w) => dec_impl w (n % 10) (by omega) h)
      have hmx : max n (-n) = n := by omega
      clear hbd
      go_enter Tryd.func32, Tryd.ntmps32
      go_wp2_with fail
      refine HQ.out.mono ?_
      rintro e w1 ⟨rfl, hw⟩
      have hw := hw.symm
      subst hw
      rw [q]
      clear q
      go_wp2_with fail
      refine (H1.out _ HT.out).mono ?_
      rintro e w1 ⟨rfl, hb1⟩
      have b1 := below_step b0 hb1
      go_wp2_with fail
      refine (H2.out _ (HT.out.below b1)).mono ?_
      rintro e w2 ⟨rfl, hb2⟩
      have b2 := below_step b1 hb2
      go_wp2_with fail
      refine (H3.out _ (HT.out.below b2)).mono ?_
      rintro e w3 ⟨rfl, hb3⟩
      have b3 := below_step b2 hb3
      go_wp2_with fail
      go_ret
      exact ⟨by rw [HE.out, HM.out]; rfl, b3⟩
end Go.Proofs.YtiofpmmbgohnhaaDoor
