/- Rates: the reference and the program say of the same lists that they are valid, and of the same lists and days the same prices. No condition but that the slice reads. -/
import Derived.Test.YtfgbjfhhkbdimaaSRate
namespace Go.Proofs.Ytfgbjfhhkbdimaa
open Go Go.RowKit Go.ChangeShapes Go.WideShapes
set_option linter.unusedSimpArgs false
set_option linter.unusedVariables false

def rateBad (i : Nat) (y x : TRate) : Bool := !inB x.1 1 1000 || (!inB x.2 0 100000 || (decide (0 < i) && (decide (x.1 ≤ y.1) || decide (y.2 < x.2))))
def rateOkAt (l : List TRate) (i : Nat) : Bool := !rateBad i (l.getD (i - 1) (0, 0)) (l.getD i (0, 0))
def okRates (l : List TRate) : Bool := allTo (rateOkAt l) l.length && (inB l.length 1 10 && (l.getD 0 (0, 0)).1 == 1)
theorem okRates_bad {l : List TRate} {k : Nat} (hk : k < l.length) (h : rateOkAt l k = false) : okRates l = false := by simp [okRates, allTo_false hk h]

set_option maxHeartbeats 2000000 in
theorem rates_spec0 (w : World) (v : Value) (l : List TRate) (h : Sl w 2 v eRate l) :
    Calls Try.prog 61 #[v] w fun e w' => e = .returned (.bool (okRates l)) ∧ Below w.heap.size w w' := by
  have m1 := h.len
  obtain ⟨-, A, c, rfl, -, -, -⟩ := id h
  go_enter Try.func61, Try.ntmps61
  go_wp2_with fail
  go_loopw [3] (fun i wr => ∃ k : Nat, k ≤ l.length ∧ i = .int .i64 k ∧ Below w.heap.size w wr ∧ Hid (∀ j, j < k → rateOkAt l j = true)) (fun i _ => l.length - (intOf i).toNat)
  case atStart => exact ⟨0, Nat.zero_le _, rfl, Below.refl _ _, hd (by omega)⟩
  case round =>
    obtain ⟨k, hk, rfl, hbel, HT⟩ := hrel
    by_cases hlt : k < l.length
    · have hx : rateOkAt l k = !rateBad k (l.getD (k - 1) (0, 0)) l[k] := by unfold rateOkAt; simp [hlt]
      have HX := hd hx
      clear hx
      obtain ⟨b, o, rfl, -, p0, p1⟩ := (h.below hbel).Rate_at hlt
      generalize l[k] = x at p0 p1 HX
      obtain ⟨xa, xb⟩ := x
      dsimp only at p0 p1
      have hs := (h.below hbel).alloc (.cells #[.int .i64 xa, .int .i64 xb] 71)
      have hbel' := hbel.alloc hbel.size (.cells #[.int .i64 xa, .int .i64 xb] 71)
      have gA := gro_cell (new_cell wr #[.int .i64 xa, .int .i64 xb] 71 0 _ rfl)
      have gB := gro_cell (new_cell wr #[.int .i64 xa, .int .i64 xb] 71 1 _ rfl)
      rcases h1 : inB xa 1 1000 with _ | _
      · go_wp2_with fail
        refine wp_region_calm (by kernel_rfl) (by kernel_rfl) ?_
        repeat (first | go_big_quiet_step ((first | (go_at_call 54; exact calm_in_spec _ _ _ _ _))) | quiet_step ((first | (go_at_call 54; exact calm_in_spec _ _ _ _ _))))
        refine wpQuiet_nil ?_
        rintro w1 ⟨xw, rfl⟩
        have hb1 := below_step hbel' (gro_below xw)
        go_wp2_with fail
        go_ret
        exact ⟨by rw [okRates_bad hlt (by rw [HX.out]; simp [rateBad, h1])]; rfl, hb1⟩
      rcases h2 : inB xb 0 100000 with _ | _
      · go_wp2_with fail
        refine wp_region_calm (by kernel_rfl) (by kernel_rfl) ?_
        repeat (first | go_big_quiet_step ((first | (go_at_call 54; exact calm_in_spec _ _ _ _ _))) | quiet_step ((first | (go_at_call 54; exact calm_in_spec _ _ _ _ _))))
        refine wpQuiet_nil ?_
        rintro w1 ⟨xw, rfl⟩
        have hb1 := below_step hbel' (gro_below xw)
        go_wp2_with fail
        go_ret
        exact ⟨by rw [okRates_bad hlt (by rw [HX.out]; simp [rateBad, h1, h2])]; rfl, hb1⟩
      by_cases hk0 : k = 0
      · have hz : decide ((0 : Int) < (k : Int)) = false := by simp [hk0]
        have hz' : decide (0 < k) = false := by simp [hk0]
        have HK := hd hk0
        clear hk0
        go_wp2_with fail
        refine wp_region_calm (by kernel_rfl) (by kernel_rfl) ?_
        repeat (first | go_big_quiet_step ((first | (go_at_call 54; exact calm_in_spec _ _ _ _ _))) | quiet_step ((first | (go_at_call 54; exact calm_in_spec _ _ _ _ _))))
        refine wpQuiet_nil ?_
        rintro w1 ⟨xw, rfl⟩
        have hb1 := below_step hbel' (gro_below xw)
        go_wp2_with fail
        go_roundw
        case rel => exact ⟨k + 1, by omega, by go_num, hb1, hd (allTo_step HT.out (by rw [HX.out]; simp [rateBad, h1, h2, HK.out]))⟩
        case measure => simp [intOf]; omega
      · have hz : decide ((0 : Int) < (k : Int)) = true := by simp; omega
        have hkp : 0 < k := by omega
        have hlt1 : k - 1 < l.length := by omega
        obtain ⟨b', o', hA', -, q0, q1⟩ := hs.Rate_at hlt1
        have hy : l.getD (k - 1) (0, 0) = l[k - 1] := by simp [hlt1]
        rw [hy] at HX
        clear hy hk0
        injection hA' with hA'
        injection hA' with hb' ho' _
        subst hb' ho'
        generalize l[k - 1] = y at q0 q1 HX
        obtain ⟨ya, yb⟩ := y
        dsimp only at q0 q1
        have gC := gro_cell q0
        have gD := gro_cell q1
        rcases h3 : decide (xa ≤ ya) with _ | _
        · rcases h4 : decide (yb < xb) with _ | _
          · go_wp2_with fail
            refine wp_region_calm (by kernel_rfl) (by kernel_rfl) ?_
            repeat (first | go_big_quiet_step ((first | (go_at_call 54; exact calm_in_spec _ _ _ _ _))) | quiet_step ((first | (go_at_call 54; exact calm_in_spec _ _ _ _ _))))
            refine wpQuiet_nil ?_
            rintro w1 ⟨xw, rfl⟩
            have hb1 := below_step hbel' (gro_below xw)
            go_wp2_with fail
            go_roundw
            case rel => exact ⟨k + 1, by omega, by go_num, hb1, hd (allTo_step HT.out (by rw [HX.out]; simp [rateBad, h1, h2, h3, h4]))⟩
            case measure => simp [intOf]; omega
          · go_wp2_with fail
            refine wp_region_calm (by kernel_rfl) (by kernel_rfl) ?_
            repeat (first | go_big_quiet_step ((first | (go_at_call 54; exact calm_in_spec _ _ _ _ _))) | quiet_step ((first | (go_at_call 54; exact calm_in_spec _ _ _ _ _))))
            refine wpQuiet_nil ?_
            rintro w1 ⟨xw, rfl⟩
            have hb1 := below_step hbel' (gro_below xw)
            go_wp2_with fail
            go_ret
            exact ⟨by rw [okRates_bad hlt (by rw [HX.out]; simp [rateBad, h1, h2, h3, h4, hkp])]; rfl, hb1⟩
        · go_wp2_with fail
          refine wp_region_calm (by kernel_rfl) (by kernel_rfl) ?_
          repeat (first | go_big_quiet_step ((first | (go_at_call 54; exact calm_in_spec _ _ _ _ _))) | quiet_step ((first | (go_at_call 54; exact calm_in_spec _ _ _ _ _))))
          refine wpQuiet_nil ?_
          rintro w1 ⟨xw, rfl⟩
          have hb1 := below_step hbel' (gro_below xw)
          go_wp2_with fail
          go_ret
          exact ⟨by rw [okRates_bad hlt (by rw [HX.out]; simp [rateBad, h1, h2, h3, hkp])]; rfl, hb1⟩
    · have hall : allTo (rateOkAt l) l.length = true := allTo_true (fun i hi => HT.out i (by omega))
      have HA := hd hall
      clear hall
      rcases h1 : inB (l.length : Int) 1 10 with _ | _
      · go_wp2_with (go_at_call 54; refine (in_spec _ _ _ _).mono ?_; rintro e w' ⟨rfl, rfl⟩)
        go_ret
        exact ⟨by simp [okRates, h1], hbel⟩
      · obtain ⟨g1, g2⟩ := inB_true h1
        have h0 : 0 < l.length := by omega
        obtain ⟨b, o, rfl, -, p0, p1⟩ := (h.below hbel).Rate_at h0
        have hx : (l.getD 0 (0, 0)).1 = l[0].1 := by simp [h0]
        have HX := hd hx
        clear hx
        have hz : 0 < (l.length : Int) := by omega
        generalize l[0].1 = z at p0 HX
        simp only [Nat.zero_mul, Nat.add_zero] at p0
        go_wp2_with (go_at_call 54; refine (in_spec _ _ _ _).mono ?_; rintro e w' ⟨rfl, rfl⟩)
        go_ret
        exact ⟨by show Ending.returned (.bool (z == 1)) = _; unfold okRates; rw [HX.out, h1, HA.out]; rfl, hbel⟩

set_option maxHeartbeats 2000000 in
theorem rates_impl (w : World) (v : Value) (l : List TRate) (h : Sl w 2 v eRate l) :
    Calls Try.prog 29 #[v] w fun e w' => e = .returned (.bool (okRates l)) ∧ Below w.heap.size w w' := by
  have m1 := h.len
  obtain ⟨-, A, c, rfl, -, -, -⟩ := id h
  go_enter Try.func29, Try.ntmps29
  go_wp2_with fail
  go_loopw [7] (fun i wr => ∃ k : Nat, k ≤ l.length ∧ i = .int .i64 k ∧ Below w.heap.size w wr ∧ Hid (∀ j, j < k → rateOkAt l j = true)) (fun i _ => l.length - (intOf i).toNat)
  case atStart => exact ⟨0, Nat.zero_le _, rfl, Below.refl _ _, hd (by omega)⟩
  case round =>
    obtain ⟨k, hk, rfl, hbel, HT⟩ := hrel
    by_cases hlt : k < l.length
    · have hx : rateOkAt l k = !rateBad k (l.getD (k - 1) (0, 0)) l[k] := by unfold rateOkAt; simp [hlt]
      have HX := hd hx
      clear hx
      obtain ⟨b, o, rfl, -, p0, p1⟩ := (h.below hbel).Rate_at hlt
      generalize l[k] = x at p0 p1 HX
      obtain ⟨xa, xb⟩ := x
      dsimp only at p0 p1
      have hs := (h.below hbel).alloc (.cells #[.int .i64 xa, .int .i64 xb] 71)
      have hbel' := hbel.alloc hbel.size (.cells #[.int .i64 xa, .int .i64 xb] 71)
      have gA := gro_cell (new_cell wr #[.int .i64 xa, .int .i64 xb] 71 0 _ rfl)
      have gB := gro_cell (new_cell wr #[.int .i64 xa, .int .i64 xb] 71 1 _ rfl)
      rcases h1 : inB xa 1 1000 with _ | _
      · go_wp2_with fail
        refine wp_region_calm (by kernel_rfl) (by kernel_rfl) ?_
        repeat (first | go_big_quiet_step ((first | (go_at_call 56; exact calm_in_impl _ _ _ _ _))) | quiet_step ((first | (go_at_call 56; exact calm_in_impl _ _ _ _ _))))
        refine wpQuiet_nil ?_
        rintro w1 ⟨xw, rfl⟩
        have hb1 := below_step hbel' (gro_below xw)
        go_wp2_with fail
        go_ret
        exact ⟨by rw [okRates_bad hlt (by rw [HX.out]; simp [rateBad, h1])]; rfl, hb1⟩
      rcases h2 : inB xb 0 100000 with _ | _
      · go_wp2_with fail
        refine wp_region_calm (by kernel_rfl) (by kernel_rfl) ?_
        repeat (first | go_big_quiet_step ((first | (go_at_call 56; exact calm_in_impl _ _ _ _ _))) | quiet_step ((first | (go_at_call 56; exact calm_in_impl _ _ _ _ _))))
        refine wpQuiet_nil ?_
        rintro w1 ⟨xw, rfl⟩
        have hb1 := below_step hbel' (gro_below xw)
        go_wp2_with fail
        go_ret
        exact ⟨by rw [okRates_bad hlt (by rw [HX.out]; simp [rateBad, h1, h2])]; rfl, hb1⟩
      by_cases hk0 : k = 0
      · have hz : decide ((0 : Int) < (k : Int)) = false := by simp [hk0]
        have hz' : decide (0 < k) = false := by simp [hk0]
        have HK := hd hk0
        clear hk0
        go_wp2_with fail
        refine wp_region_calm (by kernel_rfl) (by kernel_rfl) ?_
        repeat (first | go_big_quiet_step ((first | (go_at_call 56; exact calm_in_impl _ _ _ _ _))) | quiet_step ((first | (go_at_call 56; exact calm_in_impl _ _ _ _ _))))
        refine wpQuiet_nil ?_
        rintro w1 ⟨xw, rfl⟩
        have hb1 := below_step hbel' (gro_below xw)
        go_wp2_with fail
        go_roundw
        case rel => exact ⟨k + 1, by omega, by go_num, hb1, hd (allTo_step HT.out (by rw [HX.out]; simp [rateBad, h1, h2, HK.out]))⟩
        case measure => simp [intOf]; omega
      · have hz : decide ((0 : Int) < (k : Int)) = true := by simp; omega
        have hkp : 0 < k := by omega
        have hlt1 : k - 1 < l.length := by omega
        obtain ⟨b', o', hA', -, q0, q1⟩ := hs.Rate_at hlt1
        have hy : l.getD (k - 1) (0, 0) = l[k - 1] := by simp [hlt1]
        rw [hy] at HX
        clear hy hk0
        injection hA' with hA'
        injection hA' with hb' ho' _
        subst hb' ho'
        generalize l[k - 1] = y at q0 q1 HX
        obtain ⟨ya, yb⟩ := y
        dsimp only at q0 q1
        have gC := gro_cell q0
        have gD := gro_cell q1
        rcases h3 : decide (xa ≤ ya) with _ | _
        · rcases h4 : decide (yb < xb) with _ | _
          · go_wp2_with fail
            refine wp_region_calm (by kernel_rfl) (by kernel_rfl) ?_
            repeat (first | go_big_quiet_step ((first | (go_at_call 56; exact calm_in_impl _ _ _ _ _))) | quiet_step ((first | (go_at_call 56; exact calm_in_impl _ _ _ _ _))))
            refine wpQuiet_nil ?_
            rintro w1 ⟨xw, rfl⟩
            have hb1 := below_step hbel' (gro_below xw)
            go_wp2_with fail
            go_roundw
            case rel => exact ⟨k + 1, by omega, by go_num, hb1, hd (allTo_step HT.out (by rw [HX.out]; simp [rateBad, h1, h2, h3, h4]))⟩
            case measure => simp [intOf]; omega
          · go_wp2_with fail
            refine wp_region_calm (by kernel_rfl) (by kernel_rfl) ?_
            repeat (first | go_big_quiet_step ((first | (go_at_call 56; exact calm_in_impl _ _ _ _ _))) | quiet_step ((first | (go_at_call 56; exact calm_in_impl _ _ _ _ _))))
            refine wpQuiet_nil ?_
            rintro w1 ⟨xw, rfl⟩
            have hb1 := below_step hbel' (gro_below xw)
            go_wp2_with fail
            go_ret
            exact ⟨by rw [okRates_bad hlt (by rw [HX.out]; simp [rateBad, h1, h2, h3, h4, hkp])]; rfl, hb1⟩
        · go_wp2_with fail
          refine wp_region_calm (by kernel_rfl) (by kernel_rfl) ?_
          repeat (first | go_big_quiet_step ((first | (go_at_call 56; exact calm_in_impl _ _ _ _ _))) | quiet_step ((first | (go_at_call 56; exact calm_in_impl _ _ _ _ _))))
          refine wpQuiet_nil ?_
          rintro w1 ⟨xw, rfl⟩
          have hb1 := below_step hbel' (gro_below xw)
          go_wp2_with fail
          go_ret
          exact ⟨by rw [okRates_bad hlt (by rw [HX.out]; simp [rateBad, h1, h2, h3, hkp])]; rfl, hb1⟩
    · have hall : allTo (rateOkAt l) l.length = true := allTo_true (fun i hi => HT.out i (by omega))
      have HA := hd hall
      clear hall
      by_cases g1 : 1 ≤ (l.length : Int)
      · by_cases g2 : (l.length : Int) ≤ 10
        · have h1 := hd (inB_mk ⟨g1, g2⟩)
          have h0 : 0 < l.length := by omega
          obtain ⟨b, o, rfl, -, p0, p1⟩ := (h.below hbel).Rate_at h0
          have hx : (l.getD 0 (0, 0)).1 = l[0].1 := by simp [h0]
          have HX := hd hx
          clear hx
          have hz : 0 < (l.length : Int) := by omega
          generalize l[0].1 = z at p0 HX
          simp only [Nat.zero_mul, Nat.add_zero] at p0
          go_wp2_with fail
          go_ret
          exact ⟨by show Ending.returned (.bool (z == 1)) = _; unfold okRates; rw [HX.out, h1.out, HA.out]; rfl, hbel⟩
        · have h1 := hd (inB_not (n := (l.length : Int)) (lo := 1) (hi := 10) (by omega))
          go_wp2_with fail
          go_ret
          exact ⟨by simp [okRates, h1.out], hbel⟩
      · have h1 := hd (inB_not (n := (l.length : Int)) (lo := 1) (hi := 10) (by omega))
        go_wp2_with fail
        go_ret
        exact ⟨by simp [okRates, h1.out], hbel⟩

theorem rates_spec (w : World) (v : Value) (l : List TRate) (h : Sl w 2 v eRate l) :
    Calls Try.prog 27 #[v] w fun e w' => e = .returned (.bool (okRates l)) ∧ Below w.heap.size w w' := by
  go_enter Try.func27, Try.ntmps27
  go_wp2_with (go_at_call 61; refine (rates_spec0 _ _ _ h).mono ?_; rintro e w1 ⟨rfl, hb⟩)
  go_ret
  exact ⟨rfl, hb⟩

end Go.Proofs.Ytfgbjfhhkbdimaa
