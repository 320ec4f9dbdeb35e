/- Rates: the reference and the program say of the same lists that they are valid, and of the same lists and days the same prices. No condition but that the slice reads. -/
import Derived.Test.YtiofpmmbgohnhaaDoorSRate
namespace Go.Proofs.YtiofpmmbgohnhaaDoor
open Go Go.RowKit Go.ChangeShapes Go.WideShapes
set_option linter.unusedSimpArgs false
set_option linter.unusedVariables false

def rateBad (i : Nat) (y x : TRate) : Bool := !inB x.1 1 1000 || (!inB x.2 0 100000 || (decide (0 < i) && (decide (x.1 ≤ y.1) || decide (y.2 < x.2))))
def rateOkAt (l : List TRate) (i : Nat) : Bool := !rateBad i (l.getD (i - 1) (0, 0)) (l.getD i (0, 0))
def okRates (l : List TRate) : Bool := allTo (rateOkAt l) l.length && (inB l.length 1 10 && (l.getD 0 (0, 0)).1 == 1)
theorem okRates_bad {l : List TRate} {k : Nat} (hk : k < l.length) (h : rateOkAt l k = false) : okRates l = false := by simp [okRates, allTo_false hk h]

set_option maxHeartbeats 2000000 in
theorem rates_spec0 (w : World) (v : Value) (l : List TRate) (h : Sl w 2 v eRate l) :
    Calls Tryd.prog 80 #[v] w fun e w' => e = .returned (.bool (okRates l)) ∧ Below w.heap.size w w' := by
  have m1 := h.len
  obtain ⟨-, A, c, rfl, -, -, -⟩ := id h
  go_enter Tryd.func80, Tryd.ntmps80
  go_wp2_with fail
  go_loopw [3] (fun i wr => ∃ k : Nat, k ≤ l.length ∧ i = .int .i64 k ∧ Below w.heap.size w wr ∧ Hid (∀ j, j < k → rateOkAt l j = true)) (fun i _ => l.length - (intOf i).toNat)
  case atStart => exact ⟨0, Nat.zero_le _, rfl, Below.refl _ _, hd (by omega)⟩
  case round =>
    obtain ⟨k, hk, rfl, hbel, HT⟩ := hrel
    by_cases hlt : k < l.length
    · have hx : rateOkAt l k = !rateBad k (l.getD (k - 1) (0, 0)) l[k] := by unfold rateOkAt; simp [hlt]
      have HX := hd hx
      clear hx
      obtain ⟨b, o, rfl, -, p0, p1⟩ := (h.below hbel).Rate_at hlt
      generalize l[k] = x at p0 p1 HX
      obtain ⟨xa, xb⟩ := x
      dsimp only at p0 p1
      have hs := (h.below hbel).alloc (.cells #[.int .i64 xa, .int .i64 xb] 117)
      have hbel' := hbel.alloc hbel.size (.cells #[.int .i64 xa, .int .i64 xb] 117)
      have gA := gro_cell (new_cell wr #[.int .i64 xa, .int .i64 xb] 117 0 _ rfl)
      have gB := gro_cell (new_cell wr #[.int .i64 xa, .int .i64 xb] 117 1 _ rfl)
      rcases h1 : inB xa 1 1000 with _ | _
      · go_wp2_with fail
        refine wp_region_calm (by kernel_rfl) (by kernel_rfl) ?_
        repeat (first | go_big_quiet_step ((first | (go_at_call 81; exact calm_in_spec _ _ _ _ _))) | quiet_step ((first | (go_at_call 81; exact calm_in_spec _ _ _ _ _))))
        refine wpQuiet_nil ?_
        rintro w1 ⟨xw, rfl⟩
        have hb1 := below_step hbel' (gro_below xw)
        go_wp2_with fail
        go_ret
        exact ⟨by rw [okRates_bad hlt (by rw [HX.out]; simp [rateBad, h1])]; rfl, hb1⟩
      rcases h2 : inB xb 0 100000 with _ | _
      · go_wp2_with fail
        refine wp_region_calm (by kernel_rfl) (by kernel_rfl) ?_
        repeat (first | go_big_quiet_step ((first | (go_at_call 81; exact calm_in_spec _ _ _ _ _))) | quiet_step ((first | (go_at_call 81; exact calm_in_spec _ _ _ _ _))))
        refine wpQuiet_nil ?_
        rintro w1 ⟨xw, rfl⟩
        have hb1 := below_step hbel' (gro_below xw)
        go_wp2_with fail
        go_ret
        exact ⟨by rw [okRates_bad hlt (by rw [HX.out]; simp [rateBad, h1, h2])]; rfl, hb1⟩
      by_cases hk0 : k = 0
      · have hz : decide ((0 : Int) < (k : Int)) = false := by simp [hk0]
        have hz' : decide (0 < k) = false := by simp [hk0]
        have HK := hd hk0
        clear hk0
        go_wp2_with fail
        refine wp_region_calm (by kernel_rfl) (by kernel_rfl) ?_
        repeat (first | go_big_quiet_step ((first | (go_at_call 81; exact calm_in_spec _ _ _ _ _))) | quiet_step ((first | (go_at_call 81; exact calm_in_spec _ _ _ _ _))))
        refine wpQuiet_nil ?_
        rintro w1 ⟨xw, rfl⟩
        have hb1 := below_step hbel' (gro_below xw)
        go_wp2_with fail
        go_roundw
        case rel => exact ⟨k + 1, by omega, by go_num, hb1, hd (allTo_step HT.out (by rw [HX.out]; simp [rateBad, h1, h2, HK.out]))⟩
        case measure => simp [intOf]; omega
      · have hz : decide ((0 : Int) < (k : Int)) = true := by simp; omega
        have hkp : 0 < k := by omega
        have hlt1 : k - 1 < l.length := by omega
        obtain ⟨b', o', hA', -, q0, q1⟩ := hs.Rate_at hlt1
        have hy : l.getD (k - 1) (0, 0) = l[k - 1] := by simp [hlt1]
        rw [hy] at HX
        clear hy hk0
        injection hA' with hA'
        injection hA' with hb' ho' _
        subst hb' ho'
        generalize l[k - 1] = y at q0 q1 HX
        obtain ⟨ya, yb⟩ := y
        dsimp only at q0 q1
        have gC := gro_cell q0
        have gD := gro_cell q1
        rcases h3 : decide (xa ≤ ya) with _ | _
        · rcases h4 : decide (yb < xb) with _ | _
          · go_wp2_with fail
            refine wp_region_calm (by kernel_rfl) (by kernel_rfl) ?_
            repeat (first | go_big_quiet_step ((first | (go_at_call 81; exact calm_in_spec _ _ _ _ _))) | quiet_step ((first | (go_at_call 81; exact calm_in_spec _ _ _ _ _))))
            refine wpQuiet_nil ?_
            rintro w1 ⟨xw, rfl⟩
            have hb1 := below_step hbel' (gro_below xw)
            go_wp2_with fail
            go_roundw
            case rel => exact ⟨k + 1, by omega, by go_num, hb1, hd (allTo_step HT.out (by rw [HX.out]; simp [rateBad, h1, h2, h3, h4]))⟩
            case measure => simp [intOf]; omega
          · go_wp2_with fail
            refine wp_region_calm (by kernel_rfl) (by kernel_rfl) ?_
            repeat (first | go_big_quiet_step ((first | (go_at_call 81; exact calm_in_spec _ _ _ _ _))) | quiet_step ((first | (go_at_call 81; exact calm_in_spec _ _ _ _ _))))
            refine wpQuiet_nil ?_
            rintro w1 ⟨xw, rfl⟩
            have hb1 := below_step hbel' (gro_below xw)
            go_wp2_with fail
            go_ret
            exact ⟨by rw [okRates_bad hlt (by rw [HX.out]; simp [rateBad, h1, h2, h3, h4, hkp])]; rfl, hb1⟩
        · go_wp2_with fail
          refine wp_region_calm (by kernel_rfl) (by kernel_rfl) ?_
          repeat (first | go_big_quiet_step ((first | (go_at_call 81; exact calm_in_spec _ _ _ _ _))) | quiet_step ((first | (go_at_call 81; exact calm_in_spec _ _ _ _ _))))
          refine wpQuiet_nil ?_
          rintro w1 ⟨xw, rfl⟩
          have hb1 := below_step hbel' (gro_below xw)
          go_wp2_with fail
          go_ret
          exact ⟨by rw [okRates_bad hlt (by rw [HX.out]; simp [rateBad, h1, h2, h3, hkp])]; rfl, hb1⟩
    · have hall : allTo (rateOkAt l) l.length = true := allTo_true (fun i hi => HT.out i (by omega))
      have HA := hd hall
      clear hall
      rcases h1 : inB (l.length : Int) 1 10 with _ | _
      · go_wp2_with (go_at_call 81; refine (in_spec _ _ _ _).mono ?_; rintro e w' ⟨rfl, rfl⟩)
        go_ret
        exact ⟨by simp [okRates, h1], hbel⟩
      · obtain ⟨g1, g2⟩ := inB_true h1
        have h0 : 0 < l.length := by omega
        obtain ⟨b, o, rfl, -, p0, p1⟩ := (h.below hbel).Rate_at h0
        have hx : (l.getD 0 (0, 0)).1 = l[0].1 := by simp [h0]
        have HX := hd hx
        clear hx
        have hz : 0 < (l.length : Int) := by omega
        generalize l[0].1 = z at p0 HX
        simp only [Nat.zero_mul, Nat.add_zero] at p0
        go_wp2_with (go_at_call 81; refine (in_spec _ _ _ _).mono ?_; rintro e w' ⟨rfl, rfl⟩)
        go_ret
        exact ⟨by show Ending.returned (.bool (z == 1)) = _; unfold okRates; rw [HX.out, h1, HA.out]; rfl, hbel⟩

set_option maxHeartbeats 2000000 in
theorem rates_impl (w : World) (v : Value) (l : List TRate) (h : Sl w 2 v eRate l) :
    Calls Tryd.prog 40 #[v] w fun e w' => e = .returned (.bool (okRates l)) ∧ Below w.heap.size w w' := by
  have m1 := h.len
  obtain ⟨-, A, c, rfl, -, -, -⟩ := id h
  go_enter Tryd.func40, Tryd.ntmps40
  go_wp2_with fail
  go_loopw [7] (fun i wr => ∃ k : Nat, k ≤ l.length ∧ i = .int .i64 k ∧ Below w.heap.size w wr ∧ Hid (∀ j, j < k → rateOkAt l j = true)) (fun i _ => l.length - (intOf i).toNat)
  case atStart => exact ⟨0, Nat.zero_le _, rfl, Below.refl _ _, hd (by omega)⟩
  case round =>
    obtain ⟨k, hk, rfl, hbel, HT⟩ := hrel
    by_cases hlt : k < l.length
    · have hx : rateOkAt l k = !rateBad k (l.getD (k - 1) (0, 0)) l[k] := by unfold rateOkAt; simp [hlt]
      have HX := hd hx
      clear hx
      obtain ⟨b, o, rfl, -, p0, p1⟩ := (h.below hbel).Rate_at hlt
      generalize l[k] = x at p0 p1 HX
      obtain ⟨xa, xb⟩ := x
      dsimp only at p0 p1
      have hs := (h.below hbel).alloc (.cells #[.int .i64 xa, .int .i64 xb] 117)
      have hbel' := hbel.alloc hbel.size (.cells #[.int .i64 xa, .int .i64 xb] 117)
      have gA := gro_cell (new_cell wr #[.int .i64 xa, .int .i64 xb] 117 0 _ rfl)
      have gB := gro_cell (new_cell wr #[.int .i64 xa, .int .i64 xb] 117 1 _ rfl)
      rcases h1 : inB xa 1 1000 with _ | _
      · go_wp2_with fail
        refine wp_region_calm (by kernel_rfl) (by kernel_rfl) ?_
        repeat (first | go_big_quiet_step ((first | (go_at_call 62; exact calm_in_impl _ _ _ _ _))) | quiet_step ((first | (go_at_call 62; exact calm_in_impl _ _ _ _ _))))
        refine wpQuiet_nil ?_
        rintro w1 ⟨xw, rfl⟩
        have hb1 := below_step hbel' (gro_below xw)
        go_wp2_with fail
        go_ret
        exact ⟨by rw [okRates_bad hlt (by rw [HX.out]; simp [rateBad, h1])]; rfl, hb1⟩
      rcases h2 : inB xb 0 100000 with _ | _
      · go_wp2_with fail
        refine wp_region_calm (by kernel_rfl) (by kernel_rfl) ?_
        repeat (first | go_big_quiet_step ((first | (go_at_call 62; exact calm_in_impl _ _ _ _ _))) | quiet_step ((first | (go_at_call 62; exact calm_in_impl _ _ _ _ _))))
        refine wpQuiet_nil ?_
        rintro w1 ⟨xw, rfl⟩
        have hb1 := below_step hbel' (gro_below xw)
        go_wp2_with fail
        go_ret
        exact ⟨by rw [okRates_bad hlt (by rw [HX.out]; simp [rateBad, h1, h2])]; rfl, hb1⟩
      by_cases hk0 : k = 0
      · have hz : decide ((0 : Int) < (k : Int)) = false := by simp [hk0]
        have hz' : decide (0 < k) = false := by simp [hk0]
        have HK := hd hk0
        clear hk0
        go_wp2_with fail
        refine wp_region_calm (by kernel_rfl) (by kernel_rfl) ?_
        repeat (first | go_big_quiet_step ((first | (go_at_call 62; exact calm_in_impl _ _ _ _ _))) | quiet_step ((first | (go_at_call 62; exact calm_in_impl _ _ _ _ _))))
        refine wpQuiet_nil ?_
        rintro w1 ⟨xw, rfl⟩
        have hb1 := below_step hbel' (gro_below xw)
        go_wp2_with fail
        go_roundw
        case rel => exact ⟨k + 1, by omega, by go_num, hb1, hd (allTo_step HT.out (by rw [HX.out]; simp [rateBad, h1, h2, HK.out]))⟩
        case measure => simp [intOf]; omega
      · have hz : decide ((0 : Int) < (k : Int)) = true := by simp; omega
        have hkp : 0 < k := by omega
        have hlt1 : k - 1 < l.length := by omega
        obtain ⟨b', o', hA', -, q0, q1⟩ := hs.Rate_at hlt1
        have hy : l.getD (k - 1) (0, 0) = l[k - 1] := by simp [hlt1]
        rw [hy] at HX
        clear hy hk0
        injection hA' with hA'
        injection hA' with hb' ho' _
        subst hb' ho'
        generalize l[k - 1] = y at q0 q1 HX
        obtain ⟨ya, yb⟩ := y
        dsimp only at q0 q1
        have gC := gro_cell q0
        have gD := gro_cell q1
        rcases h3 : decide (xa ≤ ya) with _ | _
        · rcases h4 : decide (yb < xb) with _ | _
          · go_wp2_with fail
            refine wp_region_calm (by kernel_rfl) (by kernel_rfl) ?_
            repeat (first | go_big_quiet_step ((first | (go_at_call 62; exact calm_in_impl _ _ _ _ _))) | quiet_step ((first | (go_at_call 62; exact calm_in_impl _ _ _ _ _))))
            refine wpQuiet_nil ?_
            rintro w1 ⟨xw, rfl⟩
            have hb1 := below_step hbel' (gro_below xw)
            go_wp2_with fail
            go_roundw
            case rel => exact ⟨k + 1, by omega, by go_num, hb1, hd (allTo_step HT.out (by rw [HX.out]; simp [rateBad, h1, h2, h3, h4]))⟩
            case measure => simp [intOf]; omega
          · go_wp2_with fail
            refine wp_region_calm (by kernel_rfl) (by kernel_rfl) ?_
            repeat (first | go_big_quiet_step ((first | (go_at_call 62; exact calm_in_impl _ _ _ _ _))) | quiet_step ((first | (go_at_call 62; exact calm_in_impl _ _ _ _ _))))
            refine wpQuiet_nil ?_
            rintro w1 ⟨xw, rfl⟩
            have hb1 := below_step hbel' (gro_below xw)
            go_wp2_with fail
            go_ret
            exact ⟨by rw [okRates_bad hlt (by rw [HX.out]; simp [rateBad, h1, h2, h3, h4, hkp])]; rfl, hb1⟩
        · go_wp2_with fail
          refine wp_region_calm (by kernel_rfl) (by kernel_rfl) ?_
          repeat (first | go_big_quiet_step ((first | (go_at_call 62; exact calm_in_impl _ _ _ _ _))) | quiet_step ((first | (go_at_call 62; exact calm_in_impl _ _ _ _ _))))
          refine wpQuiet_nil ?_
          rintro w1 ⟨xw, rfl⟩
          have hb1 := below_step hbel' (gro_below xw)
          go_wp2_with fail
          go_ret
          exact ⟨by rw [okRates_bad hlt (by rw [HX.out]; simp [rateBad, h1, h2, h3, hkp])]; rfl, hb1⟩
    · have hall : allTo (rateOkAt l) l.length = true := allTo_true (fun i hi => HT.out i (by omega))
      have HA := hd hall
      clear hall
      by_cases g1 : 1 ≤ (l.length : Int)
      · by_cases g2 : (l.length : Int) ≤ 10
        · have h1 := hd (inB_mk ⟨g1, g2⟩)
          have h0 : 0 < l.length := by omega
          obtain ⟨b, o, rfl, -, p0, p1⟩ := (h.below hbel).Rate_at h0
          have hx : (l.getD 0 (0, 0)).1 = l[0].1 := by simp [h0]
          have HX := hd hx
          clear hx
          have hz : 0 < (l.length : Int) := by omega
          generalize l[0].1 = z at p0 HX
          simp only [Nat.zero_mul, Nat.add_zero] at p0
          go_wp2_with fail
          go_ret
          exact ⟨by show Ending.returned (.bool (z == 1)) = _; unfold okRates; rw [HX.out, h1.out, HA.out]; rfl, hbel⟩
        · have h1 := hd (inB_not (n := (l.length : Int)) (lo := 1) (hi := 10) (by omega))
          go_wp2_with fail
          go_ret
          exact ⟨by simp [okRates, h1.out], hbel⟩
      · have h1 := hd (inB_not (n := (l.length : Int)) (lo := 1) (hi := 10) (by omega))
        go_wp2_with fail
        go_ret
        exact ⟨by simp [okRates, h1.out], hbel⟩

theorem rates_spec (w : World) (v : Value) (l : List TRate) (h : Sl w 2 v eRate l) :
    Calls Tryd.prog 41 #[v] w fun e w' => e = .returned (.bool (okRates l)) ∧ Below w.heap.size w w' := by
  go_enter Tryd.func41, Tryd.ntmps41
  go_wp2_with (go_at_call 80; refine (rates_spec0 _ _ _ h).mono ?_; rintro e w1 ⟨rfl, hb⟩)
  go_ret
  exact ⟨rfl, hb⟩

/-! ### prices -/
def priceC (l : List TRate) (d : Int) : Int := l.foldl (fun c r => if r.1 ≤ d then r.2 else c) 0
/-- what so many days cost -/
def price (l : List TRate) (d : Int) : Int := wrap64 (d * priceC l d)
theorem priceC_snoc (l : List TRate) (d : Int) (k : Nat) (h : k < l.length) : priceC (l.take (k + 1)) d = if l[k].1 ≤ d then l[k].2 else priceC (l.take k) d := by
  unfold priceC
  rw [List.take_succ_eq_append_getElem h, List.foldl_append]
  rfl
theorem okRates_lt {l : List TRate} (h : okRates l = true) (i : Nat) (hi : i + 1 < l.length) : l[i].1 < l[i + 1].1 := by
  unfold okRates at h
  simp only [Bool.and_eq_true] at h
  have h1 := allTo_get h.1 (i + 1) hi
  have e0 : i < l.length := by omega
  simp [rateOkAt, rateBad, hi, e0] at h1
  omega
theorem okRates_len {l : List TRate} (h : okRates l = true) : 1 ≤ l.length ∧ l.length ≤ 10 := by
  unfold okRates at h
  simp only [Bool.and_eq_true] at h
  have h1 := inB_true h.2.1
  omega
theorem okRates_one {l : List TRate} (h : okRates l = true) (h0 : 0 < l.length) : l[0].1 = 1 := by
  unfold okRates at h
  simp only [Bool.and_eq_true, beq_iff_eq] at h
  have := h.2.2
  simpa [h0] using this
theorem okRates_mono {l : List TRate} (h : okRates l = true) (k : Nat) : ∀ n, (hk : k < l.length) → (hn : k + n < l.length) → l[k].1 ≤ l[k + n].1 := by
  intro n
  induction n with
  | zero => intro hk hn; simp
  | succ n ih =>
    intro hk hn
    have h1 := ih hk (by omega)
    have h2 := okRates_lt h (k + n) (by omega)
    have e : l[k + (n + 1)] = l[k + n + 1] := rfl
    rw [e]
    omega
theorem priceC_drop (l : List TRate) (d c : Int) (h : ∀ r ∈ l, d < r.1) : l.foldl (fun c r => if r.1 ≤ d then r.2 else c) c = c := by
  induction l generalizing c with
  | nil => rfl
  | cons r l ih =>
    rw [List.foldl_cons]
    have h1 := h r (by simp)
    rw [if_neg (by omega)]
    exact ih c fun x hx => h x (by simp [hx])
theorem priceC_at {l : List TRate} (h : okRates l = true) (d : Int) (k : Nat) (hk : k < l.length) (h1 : l[k].1 ≤ d) (h2 : ∀ h : k + 1 < l.length, d < l[k + 1].1) : priceC l d = l[k].2 := by
  have e : l = l.take (k + 1) ++ l.drop (k + 1) := (List.take_append_drop _ _).symm
  have h3 : priceC (l.take (k + 1)) d = l[k].2 := by rw [priceC_snoc l d k hk, if_pos h1]
  unfold priceC at h3 ⊢
  conv => lhs; rw [e, List.foldl_append, h3]
  refine (priceC_drop _ _ _ fun r hr => ?_).trans (by simp)
  obtain ⟨i, hi, rfl⟩ := List.mem_iff_getElem.1 hr
  rw [List.getElem_drop]
  rw [List.length_drop] at hi
  have h4 := okRates_mono h (k + 1) i (by omega) (by omega)
  have h5 := h2 (by omega)
  omega

set_option maxHeartbeats 1000000 in
theorem price_impl (w : World) (v : Value) (l : List TRate) (h : Sl w 2 v eRate l) (d : Int) :
    Calls Tryd.prog 74 #[v, .int .i64 d] w fun e w' => e = .returned (.int .i64 (price l d)) ∧ Below w.heap.size w w' := by
  have m1 := h.len
  obtain ⟨-, A, c, rfl, -, -, -⟩ := id h
  go_enter Tryd.func74, Tryd.ntmps74
  go_wp2_with fail
  go_loopw [5, 10] (fun c i wr => ∃ k : Nat, k ≤ l.length ∧ i = .int .i64 k ∧ c = .int .i64 (priceC (l.take k) d) ∧ Below w.heap.size w wr) (fun _ i _ => l.length - (intOf i).toNat)
  case atStart => exact ⟨0, Nat.zero_le _, rfl, by simp [priceC], Below.refl _ _⟩
  case round =>
    obtain ⟨k, hk, rfl, rfl, hbel⟩ := hrel
    by_cases hlt : k < l.length
    · have HS := hd (priceC_snoc l d k hlt)
      obtain ⟨b, o, rfl, -, p0, p1⟩ := (h.below hbel).Rate_at hlt
      generalize l[k] = x at p0 p1 HS
      obtain ⟨xa, xb⟩ := x
      dsimp only at p0 p1
      have hbel' := hbel.alloc hbel.size (.cells #[.int .i64 xa, .int .i64 xb] 117)
      by_cases hle : xa ≤ d
      · go_wp2_with fail
        go_roundw
        case rel => exact ⟨k + 1, by omega, by go_num, by rw [HS.out, if_pos hle], hbel'⟩
        case measure => simp [intOf]; omega
      · go_wp2_with fail
        go_roundw
        case rel => exact ⟨k + 1, by omega, by go_num, by rw [HS.out, if_neg hle], hbel'⟩
        case measure => simp [intOf]; omega
    · go_wp2_with fail
      go_ret
      exact ⟨by show Ending.returned (.int .i64 (wrap64 (d * priceC (l.take k) d))) = _; unfold price; rw [List.take_of_length_le (by omega)], hbel⟩

set_option maxHeartbeats 1000000 in
theorem price_spec (w : World) (v : Value) (l : List TRate) (h : Sl w 2 v eRate l) (hok : okRates l = true) (d : Int) (h1 : 1 ≤ d) :
    Calls Tryd.prog 76 #[v, .int .i64 d] w fun e w' => e = .returned (.int .i64 (price l d)) ∧ w' = w := by
  have m1 := h.len
  obtain ⟨-, A, c, rfl, -, -, -⟩ := id h
  obtain ⟨hl0, -⟩ := okRates_len hok
  have hone := okRates_one hok (by omega)
  have HO := hd hok
  have H1 := hd hone
  clear hok hone
  go_enter Tryd.func76, Tryd.ntmps76
  go_wp2_with fail
  go_loop [5] (fun i => ∃ k : Nat, k < l.length ∧ i = .int .i64 k ∧ Hid (∀ h : k < l.length, l[k].1 ≤ d)) (fun i => l.length - (intOf i).toNat)
  case atStart => exact ⟨0, by omega, rfl, hd (fun h => by rw [H1.out]; exact h1)⟩
  case round =>
    obtain ⟨k, hk, rfl, HT⟩ := hrel
    have HP := hd (priceC_at HO.out d k hk (HT.out hk))
    obtain ⟨b, o, hA, -, p0, p1⟩ := h.Rate_at hk
    subst hA
    by_cases hlt : k + 1 < l.length
    · have hlt' : (k : Int) + 1 < (l.length : Int) := by omega
      obtain ⟨b', o', hA', -, q0, q1⟩ := h.Rate_at hlt
      injection hA' with hA'
      injection hA' with hb' ho' _
      subst hb' ho'
      have HX : Hid (∀ h : k + 1 < l.length, l[k + 1].1 = l[k + 1].1) := hd fun _ => rfl
      have HY := hd (show ∀ h : k + 1 < l.length, l[k + 1].1 = l[k + 1].1 from fun _ => rfl)
      have HQ : Hid (l[k + 1].1 ≤ d → ∀ h : k + 1 < l.length, l[k + 1].1 ≤ d) := hd fun h _ => h
      have HP' : Hid (d < l[k + 1].1 → priceC l d = l[k].2) := hd fun h => HP.out fun _ => h
      generalize l[k + 1].1 = z at q0 HQ HP'
      generalize l[k].2 = y at p1 HP'
      by_cases hle : z ≤ d
      · go_wp2_with fail
        go_round
        case rel => exact ⟨k + 1, hlt, by go_num, hd (HQ.out hle)⟩
        case measure => simp [intOf]; omega
      · have hgt : d < z := by omega
        go_wp2_with fail
        go_ret
        exact ⟨by show Ending.returned (.int .i64 (wrap64 (d * y))) = _; unfold price; rw [HP'.out hgt], rfl⟩
    · have HP' : Hid (priceC l d = l[k].2) := hd (HP.out fun h => absurd h hlt)
      generalize l[k].2 = y at p1 HP'
      go_wp2_with fail
      go_ret
      exact ⟨by show Ending.returned (.int .i64 (wrap64 (d * y))) = _; unfold price; rw [HP'.out], rfl⟩

/-! ### the questions asked -/
def priceR (l : List TRate) (d : Int) : Int × Int := if okRates l then if inB d 1 1000 then (price l d, 0) else (0, 2) else (0, 1)
def dwGo (l : List TRate) (c : Int) : Nat → Int × Int
  | 0 => (0, 3)
  | n + 1 => if price l ((n : Int) + 1) ≤ c then ((n : Int) + 1, 0) else dwGo l c n
def dwR (l : List TRate) (c : Int) : Int × Int := if okRates l then if inB c 0 10000000 then dwGo l c 1000 else (0, 2) else (0, 1)
def chGo (l : List TRate) : Nat → Int → Int → Int
  | 0, _, b => b
  | f + 1, n, b => chGo l f (n + 1) (if price l n < price l b then n else b)
def chR (l : List TRate) (d : Int) : Int × Int × Int :=
  if okRates l then if inB d 1 1000 then (chGo l (1000 - d).toNat (d + 1) d, price l (chGo l (1000 - d).toNat (d + 1) d), 0) else (0, 0, 2) else (0, 0, 1)

def codeR (l : List TRate) (d : Int) : Int := if okRates l then if inB d 1 1000 then 0 else 2 else 1

set_option maxHeartbeats 1000000 in
theorem code_spec (w : World) (v : Value) (l : List TRate) (h : Sl w 2 v eRate l) (d : Int) :
    Calls Tryd.prog 75 #[v, .int .i64 d] w fun e w' => e = .returned (.int .i64 (codeR l d)) ∧ Below w.heap.size w w' := by
  unfold codeR
  rcases h1 : okRates l with _ | _
  · go_enter Tryd.func75, Tryd.ntmps75
    go_wp2_with (first | (go_at_call 80; refine (rates_spec0 _ _ _ h).mono ?_; rintro e w1 ⟨rfl, hb⟩) | (go_at_call 81; refine (in_spec _ _ _ _).mono ?_; rintro e w' ⟨rfl, rfl⟩))
    go_ret
    exact ⟨by simp, hb⟩
  rcases h2 : inB d 1 1000 with _ | _
  · go_enter Tryd.func75, Tryd.ntmps75
    go_wp2_with (first | (go_at_call 80; refine (rates_spec0 _ _ _ h).mono ?_; rintro e w1 ⟨rfl, hb⟩) | (go_at_call 81; refine (in_spec _ _ _ _).mono ?_; rintro e w' ⟨rfl, rfl⟩))
    go_ret
    exact ⟨by simp, hb⟩
  · go_enter Tryd.func75, Tryd.ntmps75
    go_wp2_with (first | (go_at_call 80; refine (rates_spec0 _ _ _ h).mono ?_; rintro e w1 ⟨rfl, hb⟩) | (go_at_call 81; refine (in_spec _ _ _ _).mono ?_; rintro e w' ⟨rfl, rfl⟩))
    go_ret
    exact ⟨by simp, hb⟩

set_option maxHeartbeats 1000000 in
theorem priceFor_spec (w : World) (v : Value) (l : List TRate) (h : Sl w 2 v eRate l) (d : Int) :
    Calls Tryd.prog 30 #[v, .int .i64 d] w fun e w' => e = .returned (.tuple #[.int .i64 (priceR l d).1, .int .i64 (priceR l d).2]) ∧ Below w.heap.size w w' := by
  unfold priceR
  rcases h1 : okRates l with _ | _
  · have hc : codeR l d = 1 := by simp [codeR, h1]
    go_enter Tryd.func30, Tryd.ntmps30
    go_wp2_with (first | (go_at_call 75; refine (code_spec _ _ _ h _).mono ?_; rintro e w1 ⟨rfl, hb⟩))
    go_ret2
    exact ⟨by simp, hb⟩
  have HO := hd h1
  rcases h2 : inB d 1 1000 with _ | _
  · have hc : codeR l d = 2 := by simp [codeR, h1, h2]
    go_enter Tryd.func30, Tryd.ntmps30
    go_wp2_with (first | (go_at_call 75; refine (code_spec _ _ _ h _).mono ?_; rintro e w1 ⟨rfl, hb⟩))
    go_ret2
    exact ⟨by simp, hb⟩
  · have hd1 := (inB_true h2).1
    have hc : codeR l d = 0 := by simp [codeR, h1, h2]
    go_enter Tryd.func30, Tryd.ntmps30
    go_wp2_with (first | (go_at_call 75; refine (code_spec _ _ _ h _).mono ?_; rintro e w1 ⟨rfl, hb⟩) | (go_at_call 76; refine (price_spec _ _ _ (h.below hb) HO.out _ (hd1)).mono ?_; rintro e w' ⟨rfl, rfl⟩))
    go_ret2
    exact ⟨by simp, hb⟩

set_option maxHeartbeats 1000000 in
theorem within_spec (w : World) (v : Value) (l : List TRate) (h : Sl w 2 v eRate l) (c : Int) :
    Calls Tryd.prog 27 #[v, .int .i64 c] w fun e w' => e = .returned (.tuple #[.int .i64 (dwR l c).1, .int .i64 (dwR l c).2]) ∧ Below w.heap.size w w' := by
  unfold dwR
  rcases h1 : okRates l with _ | _
  · go_enter Tryd.func27, Tryd.ntmps27
    go_wp2_with (first | (go_at_call 80; refine (rates_spec0 _ _ _ h).mono ?_; rintro e w1 ⟨rfl, hb⟩) | (go_at_call 81; refine (in_spec _ _ _ _).mono ?_; rintro e w' ⟨rfl, rfl⟩))
    go_ret2
    exact ⟨by simp, hb⟩
  have HO := hd h1
  rcases h2 : inB c 0 10000000 with _ | _
  · go_enter Tryd.func27, Tryd.ntmps27
    go_wp2_with (first | (go_at_call 80; refine (rates_spec0 _ _ _ h).mono ?_; rintro e w1 ⟨rfl, hb⟩) | (go_at_call 81; refine (in_spec _ _ _ _).mono ?_; rintro e w' ⟨rfl, rfl⟩))
    go_ret2
    exact ⟨by simp, hb⟩
  · obtain ⟨r, hr⟩ : ∃ r, r = dwGo l c 1000 := ⟨_, rfl⟩
    have HR := hd hr
    simp only [if_true]
    rw [← hr]
    clear hr
    go_enter Tryd.func27, Tryd.ntmps27
    go_wp2_with (first | (go_at_call 80; refine (rates_spec0 _ _ _ h).mono ?_; rintro e w1 ⟨rfl, hb⟩) | (go_at_call 81; refine (in_spec _ _ _ _).mono ?_; rintro e w' ⟨rfl, rfl⟩))
    go_loopw [6] (fun i wr => ∃ n : Nat, n ≤ 1000 ∧ i = .int .i64 n ∧ Below w.heap.size w wr ∧ Hid (dwGo l c n = r)) (fun i _ => (intOf i).toNat)
    case atStart => exact ⟨1000, by omega, rfl, hb, hd HR.out.symm⟩
    case round =>
      obtain ⟨n, hn, rfl, hbel, HT⟩ := hrel
      rcases n with _ | m
      · go_wp2_with fail
        go_ret2
        exact ⟨by rw [← HT.out]; rfl, hbel⟩
      · have hm : m < 1000 := by omega
        have e1 : ((m + 1 : Nat) : Int) = (m : Int) + 1 := by omega
        rw [e1]
        have hp : (1 : Int) ≤ (m : Int) + 1 := by omega
        clear e1
        by_cases hle : price l ((m : Int) + 1) ≤ c
        · go_wp2_with (go_at_call 76; refine (price_spec _ _ _ (h.below hbel) HO.out _ (hp)).mono ?_; rintro e w' ⟨rfl, rfl⟩)
          go_ret2
          exact ⟨by rw [← HT.out]; unfold dwGo; rw [if_pos hle]; rfl, hbel⟩
        · go_wp2_with (go_at_call 76; refine (price_spec _ _ _ (h.below hbel) HO.out _ (hp)).mono ?_; rintro e w' ⟨rfl, rfl⟩)
          go_roundw
          case rel => exact ⟨m, by omega, by go_num, hbel, hd (by rw [← HT.out]; conv => rhs; unfold dwGo; rw [if_neg (by omega)])⟩
          case measure => first | (simp [intOf]; done) | (simp [intOf]; omega)

set_option maxHeartbeats 1000000 in
theorem cheapest_spec (w : World) (v : Value) (l : List TRate) (h : Sl w 2 v eRate l) (d : Int) :
    Calls Tryd.prog 24 #[v, .int .i64 d] w fun e w' => e = .returned (.tuple #[.int .i64 (chR l d).1, .int .i64 (chR l d).2.1, .int .i64 (chR l d).2.2]) ∧ Below w.heap.size w w' := by
  unfold chR
  rcases h1 : okRates l with _ | _
  · have hc : codeR l d = 1 := by simp [codeR, h1]
    go_enter Tryd.func24, Tryd.ntmps24
    go_wp2_with (first | (go_at_call 75; refine (code_spec _ _ _ h _).mono ?_; rintro e w1 ⟨rfl, hb⟩))
    go_ret3
    exact ⟨by simp, hb⟩
  have HO := hd h1
  rcases h2 : inB d 1 1000 with _ | _
  · have hc : codeR l d = 2 := by simp [codeR, h1, h2]
    go_enter Tryd.func24, Tryd.ntmps24
    go_wp2_with (first | (go_at_call 75; refine (code_spec _ _ _ h _).mono ?_; rintro e w1 ⟨rfl, hb⟩))
    go_ret3
    exact ⟨by simp, hb⟩
  · obtain ⟨hd1, hd2⟩ := inB_true h2
    have hc : codeR l d = 0 := by simp [codeR, h1, h2]
    obtain ⟨r, hr⟩ : ∃ r, r = chGo l (1000 - d).toNat (d + 1) d := ⟨_, rfl⟩
    have HR := hd hr
    simp only [if_true]
    rw [← hr]
    clear hr
    go_enter Tryd.func24, Tryd.ntmps24
    go_wp2_with (first | (go_at_call 75; refine (code_spec _ _ _ h _).mono ?_; rintro e w1 ⟨rfl, hb⟩))
    go_loopw [8, 9] (fun bb nn wr => ∃ (f : Nat) (n b : Int), n + f = 1001 ∧ 1 ≤ n ∧ 1 ≤ b ∧ nn = .int .i64 n ∧ bb = .int .i64 b ∧ Below w.heap.size w wr ∧ Hid (chGo l f n b = r)) (fun _ nn _ => (1001 - intOf nn).toNat)
    case atStart => exact ⟨(1000 - d).toNat, d + 1, d, by omega, by omega, by omega, rfl, rfl, hb, hd HR.out.symm⟩
    case round =>
      obtain ⟨f, n, b, hf, hn1, hb1, rfl, rfl, hbel, HT⟩ := hrel
      have HF := hd hf
      rcases f with _ | f
      · have hn : 1000 < n := by omega
        have HB : Hid (b = r) := hd HT.out
        clear hf
        go_wp2_with fail
        refine (price_spec _ _ _ (h.below hbel) HO.out _ (by omega)).mono ?_
        rintro e w' ⟨rfl, rfl⟩
        go_wp2_with fail
        go_ret3
        exact ⟨by rw [← HB.out]; rfl, hbel⟩
      · have hn : n ≤ 1000 := by omega
        clear hf
        have HT' : Hid (chGo l f (n + 1) (if price l n < price l b then n else b) = r) := hd HT.out
        by_cases hlt : price l n < price l b
        · go_wp2_with fail
          refine (price_spec _ _ _ (h.below hbel) HO.out _ (by omega)).mono ?_
          rintro e w' ⟨rfl, rfl⟩
          go_wp2_with fail
          refine (price_spec _ _ _ (h.below hbel) HO.out _ (by omega)).mono ?_
          rintro e w' ⟨rfl, rfl⟩
          go_wp2_with fail
          go_roundw
          case rel => exact ⟨f, n + 1, n, by have := HF.out; omega, by omega, by omega, by go_num, rfl, hbel, hd (by have := HT'.out; rwa [if_pos hlt] at this)⟩
          case measure => simp [intOf]; omega
        · go_wp2_with fail
          refine (price_spec _ _ _ (h.below hbel) HO.out _ (by omega)).mono ?_
          rintro e w' ⟨rfl, rfl⟩
          go_wp2_with fail
          refine (price_spec _ _ _ (h.below hbel) HO.out _ (by omega)).mono ?_
          rintro e w' ⟨rfl, rfl⟩
          go_wp2_with fail
          go_roundw
          case rel => exact ⟨f, n + 1, b, by have := HF.out; omega, by omega, by omega, by go_num, rfl, hbel, hd (by have := HT'.out; rwa [if_neg (by omega)] at this)⟩
          case measure => simp [intOf]; omega

set_option maxHeartbeats 1000000 in
theorem code_impl (w : World) (v : Value) (l : List TRate) (h : Sl w 2 v eRate l) (d : Int) :
    Calls Tryd.prog 73 #[v, .int .i64 d] w fun e w' => e = .returned (.int .i64 (codeR l d)) ∧ Below w.heap.size w w' := by
  unfold codeR
  rcases h1 : okRates l with _ | _
  · go_enter Tryd.func73, Tryd.ntmps73
    go_wp2_with (first | (go_at_call 40; refine (rates_impl _ _ _ h).mono ?_; rintro e w1 ⟨rfl, hb⟩) | (go_at_call 62; refine (in_impl _ _ _ _).mono ?_; rintro e w' ⟨rfl, rfl⟩))
    go_ret
    exact ⟨by simp, hb⟩
  rcases h2 : inB d 1 1000 with _ | _
  · go_enter Tryd.func73, Tryd.ntmps73
    go_wp2_with (first | (go_at_call 40; refine (rates_impl _ _ _ h).mono ?_; rintro e w1 ⟨rfl, hb⟩) | (go_at_call 62; refine (in_impl _ _ _ _).mono ?_; rintro e w' ⟨rfl, rfl⟩))
    go_ret
    exact ⟨by simp, hb⟩
  · go_enter Tryd.func73, Tryd.ntmps73
    go_wp2_with (first | (go_at_call 40; refine (rates_impl _ _ _ h).mono ?_; rintro e w1 ⟨rfl, hb⟩) | (go_at_call 62; refine (in_impl _ _ _ _).mono ?_; rintro e w' ⟨rfl, rfl⟩))
    go_ret
    exact ⟨by simp, hb⟩

set_option maxHeartbeats 1000000 in
theorem priceFor_impl (w : World) (v : Value) (l : List TRate) (h : Sl w 2 v eRate l) (d : Int) :
    Calls Tryd.prog 29 #[v, .int .i64 d] w fun e w' => e = .returned (.tuple #[.int .i64 (priceR l d).1, .int .i64 (priceR l d).2]) ∧ Below w.heap.size w w' := by
  unfold priceR
  rcases h1 : okRates l with _ | _
  · have hc : codeR l d = 1 := by simp [codeR, h1]
    go_enter Tryd.func29, Tryd.ntmps29
    go_wp2_with (first | (go_at_call 73; refine (code_impl _ _ _ h _).mono ?_; rintro e w1 ⟨rfl, hb⟩))
    go_ret2
    exact ⟨by simp, hb⟩
  have HO := hd h1
  rcases h2 : inB d 1 1000 with _ | _
  · have hc : codeR l d = 2 := by simp [codeR, h1, h2]
    go_enter Tryd.func29, Tryd.ntmps29
    go_wp2_with (first | (go_at_call 73; refine (code_impl _ _ _ h _).mono ?_; rintro e w1 ⟨rfl, hb⟩))
    go_ret2
    exact ⟨by simp, hb⟩
  · have hd1 := (inB_true h2).1
    have hc : codeR l d = 0 := by simp [codeR, h1, h2]
    go_enter Tryd.func29, Tryd.ntmps29
    go_wp2_with (first | (go_at_call 73; refine (code_impl _ _ _ h _).mono ?_; rintro e w1 ⟨rfl, hb⟩) | (go_at_call 74; refine (price_impl _ _ _ (h.below hb) _).mono ?_; rintro e w2 ⟨rfl, hb2⟩))
    go_ret2
    exact ⟨by simp, (below_step hb hb2)⟩

set_option maxHeartbeats 1000000 in
theorem within_impl (w : World) (v : Value) (l : List TRate) (h : Sl w 2 v eRate l) (c : Int) :
    Calls Tryd.prog 26 #[v, .int .i64 c] w fun e w' => e = .returned (.tuple #[.int .i64 (dwR l c).1, .int .i64 (dwR l c).2]) ∧ Below w.heap.size w w' := by
  unfold dwR
  rcases h1 : okRates l with _ | _
  · go_enter Tryd.func26, Tryd.ntmps26
    go_wp2_with (first | (go_at_call 40; refine (rates_impl _ _ _ h).mono ?_; rintro e w1 ⟨rfl, hb⟩) | (go_at_call 62; refine (in_impl _ _ _ _).mono ?_; rintro e w' ⟨rfl, rfl⟩) | (go_at_call 79; refine (money_impl _ _).mono ?_; rintro e w' ⟨rfl, rfl⟩))
    go_ret2
    exact ⟨by simp, hb⟩
  have HO := hd h1
  rcases h2 : inB c 0 10000000 with _ | _
  · go_enter Tryd.func26, Tryd.ntmps26
    go_wp2_with (first | (go_at_call 40; refine (rates_impl _ _ _ h).mono ?_; rintro e w1 ⟨rfl, hb⟩) | (go_at_call 62; refine (in_impl _ _ _ _).mono ?_; rintro e w' ⟨rfl, rfl⟩) | (go_at_call 79; refine (money_impl _ _).mono ?_; rintro e w' ⟨rfl, rfl⟩))
    go_ret2
    exact ⟨by simp, hb⟩
  · obtain ⟨r, hr⟩ : ∃ r, r = dwGo l c 1000 := ⟨_, rfl⟩
    have HR := hd hr
    simp only [if_true]
    rw [← hr]
    clear hr
    go_enter Tryd.func26, Tryd.ntmps26
    go_wp2_with (first | (go_at_call 40; refine (rates_impl _ _ _ h).mono ?_; rintro e w1 ⟨rfl, hb⟩) | (go_at_call 62; refine (in_impl _ _ _ _).mono ?_; rintro e w' ⟨rfl, rfl⟩) | (go_at_call 79; refine (money_impl _ _).mono ?_; rintro e w' ⟨rfl, rfl⟩))
    go_loopw [6] (fun i wr => ∃ n : Nat, n ≤ 1000 ∧ i = .int .i64 n ∧ Below w.heap.size w wr ∧ Hid (dwGo l c n = r)) (fun i _ => (intOf i).toNat)
    case atStart => exact ⟨1000, by omega, rfl, hb, hd HR.out.symm⟩
    case round =>
      obtain ⟨n, hn, rfl, hbel, HT⟩ := hrel
      rcases n with _ | m
      · go_wp2_with fail
        go_ret2
        exact ⟨by rw [← HT.out]; rfl, hbel⟩
      · have hm : m < 1000 := by omega
        have e1 : ((m + 1 : Nat) : Int) = (m : Int) + 1 := by omega
        rw [e1]
        have hp : (1 : Int) ≤ (m : Int) + 1 := by omega
        clear e1
        by_cases hle : price l ((m : Int) + 1) ≤ c
        · go_wp2_with (go_at_call 74; refine (price_impl _ _ _ (h.below hbel) _).mono ?_; rintro e w2 ⟨rfl, hb2⟩)
          go_ret2
          exact ⟨by rw [← HT.out]; unfold dwGo; rw [if_pos hle]; rfl, (below_step hbel hb2)⟩
        · go_wp2_with (go_at_call 74; refine (price_impl _ _ _ (h.below hbel) _).mono ?_; rintro e w2 ⟨rfl, hb2⟩)
          go_roundw
          case rel => exact ⟨m, by omega, by go_num, (below_step hbel hb2), hd (by rw [← HT.out]; conv => rhs; unfold dwGo; rw [if_neg (by omega)])⟩
          case measure => first | (simp [intOf]; done) | (simp [intOf]; omega)

set_option maxHeartbeats 1000000 in
theorem cheapest_impl (w : World) (v : Value) (l : List TRate) (h : Sl w 2 v eRate l) (d : Int) :
    Calls Tryd.prog 23 #[v, .int .i64 d] w fun e w' => e = .returned (.tuple #[.int .i64 (chR l d).1, .int .i64 (chR l d).2.1, .int .i64 (chR l d).2.2]) ∧ Below w.heap.size w w' := by
  unfold chR
  rcases h1 : okRates l with _ | _
  · have hc : codeR l d = 1 := by simp [codeR, h1]
    go_enter Tryd.func23, Tryd.ntmps23
    go_wp2_with (first | (go_at_call 73; refine (code_impl _ _ _ h _).mono ?_; rintro e w1 ⟨rfl, hb⟩))
    go_ret3
    exact ⟨by simp, hb⟩
  have HO := hd h1
  rcases h2 : inB d 1 1000 with _ | _
  · have hc : codeR l d = 2 := by simp [codeR, h1, h2]
    go_enter Tryd.func23, Tryd.ntmps23
    go_wp2_with (first | (go_at_call 73; refine (code_impl _ _ _ h _).mono ?_; rintro e w1 ⟨rfl, hb⟩))
    go_ret3
    exact ⟨by simp, hb⟩
  · obtain ⟨hd1, hd2⟩ := inB_true h2
    have hc : codeR l d = 0 := by simp [codeR, h1, h2]
    obtain ⟨r, hr⟩ : ∃ r, r = chGo l (1000 - d).toNat (d + 1) d := ⟨_, rfl⟩
    have HR := hd hr
    simp only [if_true]
    rw [← hr]
    clear hr
    go_enter Tryd.func23, Tryd.ntmps23
    go_wp2_with (first | (go_at_call 73; refine (code_impl _ _ _ h _).mono ?_; rintro e w1 ⟨rfl, hb⟩))
    go_loopw [8, 9] (fun bb nn wr => ∃ (f : Nat) (n b : Int), n + f = 1001 ∧ 1 ≤ n ∧ 1 ≤ b ∧ nn = .int .i64 n ∧ bb = .int .i64 b ∧ Below w.heap.size w wr ∧ Hid (chGo l f n b = r)) (fun _ nn _ => (1001 - intOf nn).toNat)
    case atStart => exact ⟨(1000 - d).toNat + 1, d, d, by omega, by omega, by omega, rfl, rfl, hb, hd (by rw [HR.out]; conv => lhs; unfold chGo; rw [if_neg (by omega)])⟩
    case round =>
      obtain ⟨f, n, b, hf, hn1, hb1, rfl, rfl, hbel, HT⟩ := hrel
      have HF := hd hf
      rcases f with _ | f
      · have hn : 1000 < n := by omega
        have HB : Hid (b = r) := hd HT.out
        clear hf
        go_wp2_with fail
        refine (price_impl _ _ _ (h.below hbel) _).mono ?_
        rintro e w2 ⟨rfl, hb2⟩
        replace hbel := below_step hbel hb2
        clear hb2
        go_wp2_with fail
        go_ret3
        exact ⟨by rw [← HB.out]; rfl, hbel⟩
      · have hn : n ≤ 1000 := by omega
        clear hf
        have HT' : Hid (chGo l f (n + 1) (if price l n < price l b then n else b) = r) := hd HT.out
        by_cases hlt : price l n < price l b
        · go_wp2_with fail
          refine (price_impl _ _ _ (h.below hbel) _).mono ?_
          rintro e w2 ⟨rfl, hb2⟩
          replace hbel := below_step hbel hb2
          clear hb2
          go_wp2_with fail
          refine (price_impl _ _ _ (h.below hbel) _).mono ?_
          rintro e w3 ⟨rfl, hb2⟩
          replace hbel := below_step hbel hb2
          clear hb2
          go_wp2_with fail
          go_roundw
          case rel => exact ⟨f, n + 1, n, by have := HF.out; omega, by omega, by omega, by go_num, rfl, hbel, hd (by have := HT'.out; rwa [if_pos hlt] at this)⟩
          case measure => simp [intOf]; omega
        · go_wp2_with fail
          refine (price_impl _ _ _ (h.below hbel) _).mono ?_
          rintro e w2 ⟨rfl, hb2⟩
          replace hbel := below_step hbel hb2
          clear hb2
          go_wp2_with fail
          refine (price_impl _ _ _ (h.below hbel) _).mono ?_
          rintro e w3 ⟨rfl, hb2⟩
          replace hbel := below_step hbel hb2
          clear hb2
          go_wp2_with fail
          go_roundw
          case rel => exact ⟨f, n + 1, b, by have := HF.out; omega, by omega, by omega, by go_num, rfl, hbel, hd (by have := HT'.out; rwa [if_neg (by omega)] at this)⟩
          case measure => simp [intOf]; omega

end Go.Proofs.YtiofpmmbgohnhaaDoor
