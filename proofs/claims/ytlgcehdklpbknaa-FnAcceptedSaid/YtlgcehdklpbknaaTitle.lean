/- Titles of a catalogue: the reference and the program say of the same titles and lists that they are valid. No condition but that the slices read. -/
import Derived.Test.YtlgcehdklpbknaaName
import Derived.Test.YtlgcehdklpbknaaSTitle
namespace Go.Proofs.Ytlgcehdklpbknaa
open Go Go.RowKit Go.ChangeShapes Go.WideShapes
set_option linter.unusedSimpArgs false
set_option linter.unusedVariables false

def okTitleB (x : TTitle) : Bool := inB x.1 1 9999 && (isNameB x.2.1 && (inB x.2.2.1 1 30 && inB x.2.2.2 0 x.2.2.1))
def noT : TTitle := (0, ByteArray.empty, 0, 0)
def titleBad (i : Nat) (y x : TTitle) : Bool := !okTitleB x || (decide (0 < i) && decide (x.1 ≤ y.1))
def titleOkAt (l : List TTitle) (i : Nat) : Bool := !titleBad i (l.getD (i - 1) noT) (l.getD i noT)
def okTitles (l : List TTitle) : Bool := allTo (titleOkAt l) l.length && decide (l.length ≤ 20)
theorem okTitles_bad {l : List TTitle} {k : Nat} (hk : k < l.length) (h : titleOkAt l k = false) : okTitles l = false := by simp [okTitles, allTo_false hk h]
theorem okTitles_len {l : List TTitle} (h : okTitles l = true) : l.length ≤ 20 := by simp [okTitles] at h; exact h.2
theorem okTitles_at {l : List TTitle} (h : okTitles l = true) (k : Nat) (hk : k < l.length) : okTitleB l[k] = true := by
  simp only [okTitles, Bool.and_eq_true] at h
  have := allTo_get h.1 k hk
  simp [titleOkAt, titleBad, hk] at this
  exact this.1
theorem okTitles_lt {l : List TTitle} (h : okTitles l = true) (k : Nat) (hk : k + 1 < l.length) : l[k].1 < l[k + 1].1 := by
  simp only [okTitles, Bool.and_eq_true] at h
  have := allTo_get h.1 (k + 1) hk
  have hk' : k < l.length := by omega
  simp [titleOkAt, titleBad, hk, hk'] at this
  omega
theorem okTitles_lt' {l : List TTitle} (h : okTitles l = true) (i : Nat) : ∀ n, (hn : i + n + 1 < l.length) → l[i].1 < l[i + n + 1].1 := by
  intro n
  induction n with
  | zero => exact fun hn => okTitles_lt h i hn
  | succ n ih =>
    intro hn
    have h1 := ih (by omega)
    have h2 := okTitles_lt h (i + n + 1) hn
    exact Int.lt_trans h1 h2
theorem okTitles_mono {l : List TTitle} (h : okTitles l = true) {i j : Nat} (hij : i < j) (hj : j < l.length) : l[i].1 < l[j].1 := by
  obtain ⟨n, rfl⟩ : ∃ n, j = i + n + 1 := ⟨j - i - 1, by omega⟩
  exact okTitles_lt' h i n hj
theorem okTitleB_bd {x : TTitle} (h : okTitleB x = true) : (1 ≤ x.1 ∧ x.1 ≤ 9999) ∧ isNameB x.2.1 = true ∧ (1 ≤ x.2.2.1 ∧ x.2.2.1 ≤ 30) ∧ (0 ≤ x.2.2.2 ∧ x.2.2.2 ≤ x.2.2.1) := by
  simp only [okTitleB, Bool.and_eq_true] at h
  exact ⟨inB_true h.1, h.2.1, inB_true h.2.2.1, inB_true h.2.2.2⟩

set_option maxHeartbeats 1000000 in
theorem title_impl (w : World) (a : Int) (b : ByteArray) (c d : Int) :
    Calls Try.prog 84 #[.agg #[.int .i64 a, .string b, .int .i64 c, .int .i64 d]] w fun e w' => e = .returned (.bool (okTitleB (a, b, c, d))) ∧ Below w.heap.size w w' := by
  rcases h1 : inB a 1 9999 with _ | _
  · go_enter Try.func84, Try.ntmps84
    go_wp2_with (first | (go_at_call 111; refine (in_impl _ _ _ _).mono ?_; rintro e w1 ⟨rfl, hw⟩; have hw := hw.symm; subst hw) | (go_at_call 128; refine (name_impl _ _).mono ?_; rintro e w1 ⟨rfl, hw⟩; have hw := hw.symm; subst hw))
    go_ret
    exact ⟨by simp [okTitleB, h1], (Below.refl _ _).alloc (Nat.le_refl _) _⟩
  rcases h2 : isNameB b with _ | _
  · go_enter Try.func84, Try.ntmps84
    go_wp2_with (first | (go_at_call 111; refine (in_impl _ _ _ _).mono ?_; rintro e w1 ⟨rfl, hw⟩; have hw := hw.symm; subst hw) | (go_at_call 128; refine (name_impl _ _).mono ?_; rintro e w1 ⟨rfl, hw⟩; have hw := hw.symm; subst hw))
    go_ret
    exact ⟨by simp [okTitleB, h1, h2], (Below.refl _ _).alloc (Nat.le_refl _) _⟩
  rcases h3 : inB c 1 30 with _ | _
  · go_enter Try.func84, Try.ntmps84
    go_wp2_with (first | (go_at_call 111; refine (in_impl _ _ _ _).mono ?_; rintro e w1 ⟨rfl, hw⟩; have hw := hw.symm; subst hw) | (go_at_call 128; refine (name_impl _ _).mono ?_; rintro e w1 ⟨rfl, hw⟩; have hw := hw.symm; subst hw))
    go_ret
    exact ⟨by simp [okTitleB, h1, h2, h3], (Below.refl _ _).alloc (Nat.le_refl _) _⟩
  rcases h4 : inB d 0 c with _ | _
  · go_enter Try.func84, Try.ntmps84
    go_wp2_with (first | (go_at_call 111; refine (in_impl _ _ _ _).mono ?_; rintro e w1 ⟨rfl, hw⟩; have hw := hw.symm; subst hw) | (go_at_call 128; refine (name_impl _ _).mono ?_; rintro e w1 ⟨rfl, hw⟩; have hw := hw.symm; subst hw))
    go_ret
    exact ⟨by simp [okTitleB, h1, h2, h3, h4], (Below.refl _ _).alloc (Nat.le_refl _) _⟩
  · go_enter Try.func84, Try.ntmps84
    go_wp2_with (first | (go_at_call 111; refine (in_impl _ _ _ _).mono ?_; rintro e w1 ⟨rfl, hw⟩; have hw := hw.symm; subst hw) | (go_at_call 128; refine (name_impl _ _).mono ?_; rintro e w1 ⟨rfl, hw⟩; have hw := hw.symm; subst hw))
    go_ret
    exact ⟨by simp [okTitleB, h1, h2, h3, h4], (Below.refl _ _).alloc (Nat.le_refl _) _⟩

theorem calm_title_impl (w : World) (x : Ext w) (a : Int) (b : ByteArray) (c d : Int) : Calls Try.prog 84 #[.agg #[.int .i64 a, .string b, .int .i64 c, .int .i64 d]] (gro w x) fun e w'' => e = .returned (.bool (okTitleB (a, b, c, d))) ∧ ∃ y, w'' = gro w y := calm_of (title_impl _ _ _ _ _)
set_option maxHeartbeats 1000000 in
theorem oneT_spec (w : World) (g off : Nat) (a : Int) (b : ByteArray) (c d : Int) (p0 : w.cell? ⟨g, off, none⟩ = some (.int .i64 a)) (p1 : w.cell? ⟨g, off + 1, none⟩ = some (.string b)) (p2 : w.cell? ⟨g, off + 2, none⟩ = some (.int .i64 c)) (p3 : w.cell? ⟨g, off + 3, none⟩ = some (.int .i64 d)) :
    Calls Try.prog 81 #[.pointer (some ⟨g, off, none⟩)] w fun e w' => e = .returned (.bool (okTitleB (a, b, c, d))) ∧ Below w.heap.size w w' := by
  have gA := gro_cell p0
  have gB := gro_cell p1
  have gC := gro_cell p2
  have gD := gro_cell p3
  rcases h1 : inB a 1 9999 with _ | _
  · go_enter Try.func81, Try.ntmps81
    go_wp2_with fail
    refine wp_region_calm (by kernel_rfl) (by kernel_rfl) ?_
    repeat (first | go_big_quiet_step ((first | (go_at_call 109; exact calm_in_spec _ _ _ _ _) | (go_at_call 127; exact calm_of_same (name_spec _ _)))) | quiet_step ((first | (go_at_call 109; exact calm_in_spec _ _ _ _ _) | (go_at_call 127; exact calm_of_same (name_spec _ _)))))
    refine wpQuiet_nil ?_
    rintro w1 ⟨xw, rfl⟩
    have hb1 := below_step (Below.refl _ _) (gro_below xw)
    go_wp2_with fail
    go_ret
    exact ⟨by simp [okTitleB, h1], hb1⟩
  rcases h2 : isNameB b with _ | _
  · go_enter Try.func81, Try.ntmps81
    go_wp2_with fail
    refine wp_region_calm (by kernel_rfl) (by kernel_rfl) ?_
    repeat (first | go_big_quiet_step ((first | (go_at_call 109; exact calm_in_spec _ _ _ _ _) | (go_at_call 127; exact calm_of_same (name_spec _ _)))) | quiet_step ((first | (go_at_call 109; exact calm_in_spec _ _ _ _ _) | (go_at_call 127; exact calm_of_same (name_spec _ _)))))
    refine wpQuiet_nil ?_
    rintro w1 ⟨xw, rfl⟩
    have hb1 := below_step (Below.refl _ _) (gro_below xw)
    go_wp2_with fail
    go_ret
    exact ⟨by simp [okTitleB, h1, h2], hb1⟩
  rcases h3 : inB c 1 30 with _ | _
  · go_enter Try.func81, Try.ntmps81
    go_wp2_with fail
    refine wp_region_calm (by kernel_rfl) (by kernel_rfl) ?_
    repeat (first | go_big_quiet_step ((first | (go_at_call 109; exact calm_in_spec _ _ _ _ _) | (go_at_call 127; exact calm_of_same (name_spec _ _)))) | quiet_step ((first | (go_at_call 109; exact calm_in_spec _ _ _ _ _) | (go_at_call 127; exact calm_of_same (name_spec _ _)))))
    refine wpQuiet_nil ?_
    rintro w1 ⟨xw, rfl⟩
    have hb1 := below_step (Below.refl _ _) (gro_below xw)
    go_wp2_with fail
    go_ret
    exact ⟨by simp [okTitleB, h1, h2, h3], hb1⟩
  rcases h4 : inB d 0 c with _ | _
  · go_enter Try.func81, Try.ntmps81
    go_wp2_with fail
    refine wp_region_calm (by kernel_rfl) (by kernel_rfl) ?_
    repeat (first | go_big_quiet_step ((first | (go_at_call 109; exact calm_in_spec _ _ _ _ _) | (go_at_call 127; exact calm_of_same (name_spec _ _)))) | quiet_step ((first | (go_at_call 109; exact calm_in_spec _ _ _ _ _) | (go_at_call 127; exact calm_of_same (name_spec _ _)))))
    refine wpQuiet_nil ?_
    rintro w1 ⟨xw, rfl⟩
    have hb1 := below_step (Below.refl _ _) (gro_below xw)
    go_wp2_with fail
    go_ret
    exact ⟨by simp [okTitleB, h1, h2, h3, h4], hb1⟩
  · go_enter Try.func81, Try.ntmps81
    go_wp2_with fail
    refine wp_region_calm (by kernel_rfl) (by kernel_rfl) ?_
    repeat (first | go_big_quiet_step ((first | (go_at_call 109; exact calm_in_spec _ _ _ _ _) | (go_at_call 127; exact calm_of_same (name_spec _ _)))) | quiet_step ((first | (go_at_call 109; exact calm_in_spec _ _ _ _ _) | (go_at_call 127; exact calm_of_same (name_spec _ _)))))
    refine wpQuiet_nil ?_
    rintro w1 ⟨xw, rfl⟩
    have hb1 := below_step (Below.refl _ _) (gro_below xw)
    go_wp2_with fail
    go_ret
    exact ⟨by simp [okTitleB, h1, h2, h3, h4], hb1⟩

set_option maxHeartbeats 4000000 in
theorem titles_impl (w : World) (v : Value) (l : List TTitle) (h : Sl w 4 v eTitle l) :
    Calls Try.prog 83 #[v] w fun e w' => e = .returned (.bool (okTitles l)) ∧ Below w.heap.size w w' := by
  have m1 := h.len
  obtain ⟨-, A, c, rfl, -, -, -⟩ := id h
  go_enter Try.func83, Try.ntmps83
  go_wp2_with fail
  go_loopw [7] (fun i wr => ∃ k : Nat, k ≤ l.length ∧ i = .int .i64 k ∧ Below w.heap.size w wr ∧ Hid (∀ j, j < k → titleOkAt l j = true)) (fun i _ => l.length - (intOf i).toNat)
  case atStart => exact ⟨0, Nat.zero_le _, rfl, Below.refl _ _, hd (by omega)⟩
  case round =>
    obtain ⟨k, hk, rfl, hbel, HT⟩ := hrel
    by_cases hlt : k < l.length
    · have hx : titleOkAt l k = !titleBad k (l.getD (k - 1) noT) l[k] := by unfold titleOkAt; simp [hlt]
      have HX := hd hx
      clear hx
      obtain ⟨bb, o, rfl, -, p0, p1, p2, p3⟩ := (h.below hbel).Title_at hlt
      generalize l[k] = x at p0 p1 p2 p3 HX
      obtain ⟨a, b, c, d⟩ := x
      dsimp only at p0 p1 p2 p3
      have hs := (h.below hbel).alloc (.cells #[.int .i64 a, .string b, .int .i64 c, .int .i64 d] 55)
      have hbel' := hbel.alloc hbel.size (.cells #[.int .i64 a, .string b, .int .i64 c, .int .i64 d] 55)
      have gA := gro_cell (new_cell wr #[.int .i64 a, .string b, .int .i64 c, .int .i64 d] 55 0 _ rfl)
      have gB := gro_cell (new_cell wr #[.int .i64 a, .string b, .int .i64 c, .int .i64 d] 55 1 _ rfl)
      have gC := gro_cell (new_cell wr #[.int .i64 a, .string b, .int .i64 c, .int .i64 d] 55 2 _ rfl)
      have gD := gro_cell (new_cell wr #[.int .i64 a, .string b, .int .i64 c, .int .i64 d] 55 3 _ rfl)
      rcases h1 : okTitleB (a, b, c, d) with _ | _
      · go_wp2_with fail
        refine wp_region_calm (by kernel_rfl) (by kernel_rfl) ?_
        repeat (first | go_big_quiet_step ((first | (go_at_call 84; exact calm_title_impl _ _ _ _ _ _))) | quiet_step ((first | (go_at_call 84; exact calm_title_impl _ _ _ _ _ _))))
        refine wpQuiet_nil ?_
        rintro w1 ⟨xw, rfl⟩
        have hb1 := below_step hbel' (gro_below xw)
        go_wp2_with fail
        go_ret
        exact ⟨by rw [okTitles_bad hlt (by rw [HX.out]; simp [titleBad, h1])]; rfl, hb1⟩
      by_cases hk0 : k = 0
      · have hz : decide ((0 : Int) < (k : Int)) = false := by simp [hk0]
        have hz' : decide (0 < k) = false := by simp [hk0]
        have HK := hd hk0
        clear hk0
        go_wp2_with fail
        refine wp_region_calm (by kernel_rfl) (by kernel_rfl) ?_
        repeat (first | go_big_quiet_step ((first | (go_at_call 84; exact calm_title_impl _ _ _ _ _ _))) | quiet_step ((first | (go_at_call 84; exact calm_title_impl _ _ _ _ _ _))))
        refine wpQuiet_nil ?_
        rintro w1 ⟨xw, rfl⟩
        have hb1 := below_step hbel' (gro_below xw)
        go_wp2_with fail
        go_roundw
        case rel => exact ⟨k + 1, by omega, by go_num, hb1, hd (allTo_step HT.out (by rw [HX.out]; simp [titleBad, h1, HK.out]))⟩
        case measure => simp [intOf]; omega
      · have hz : decide ((0 : Int) < (k : Int)) = true := by simp; omega
        have hkp : 0 < k := by omega
        have hlt1 : k - 1 < l.length := by omega
        obtain ⟨b', o', hA', -, q0, -, -, -⟩ := hs.Title_at hlt1
        have hy : l.getD (k - 1) noT = l[k - 1] := by simp [hlt1]
        rw [hy] at HX
        clear hy hk0
        injection hA' with hA'
        injection hA' with hb' ho' _
        subst hb' ho'
        generalize l[k - 1] = y at q0 HX
        obtain ⟨ya, yb, yc, yd⟩ := y
        dsimp only at q0
        have gE := gro_cell q0
        rcases h3 : decide (a ≤ ya) with _ | _
        · go_wp2_with fail
          refine wp_region_calm (by kernel_rfl) (by kernel_rfl) ?_
          repeat (first | go_big_quiet_step ((first | (go_at_call 84; exact calm_title_impl _ _ _ _ _ _))) | quiet_step ((first | (go_at_call 84; exact calm_title_impl _ _ _ _ _ _))))
          refine wpQuiet_nil ?_
          rintro w1 ⟨xw, rfl⟩
          have hb1 := below_step hbel' (gro_below xw)
          go_wp2_with fail
          go_roundw
          case rel => exact ⟨k + 1, by omega, by go_num, hb1, hd (allTo_step HT.out (by rw [HX.out]; simp [titleBad, h1, h3]))⟩
          case measure => simp [intOf]; omega
        · go_wp2_with fail
          refine wp_region_calm (by kernel_rfl) (by kernel_rfl) ?_
          repeat (first | go_big_quiet_step ((first | (go_at_call 84; exact calm_title_impl _ _ _ _ _ _))) | quiet_step ((first | (go_at_call 84; exact calm_title_impl _ _ _ _ _ _))))
          refine wpQuiet_nil ?_
          rintro w1 ⟨xw, rfl⟩
          have hb1 := below_step hbel' (gro_below xw)
          go_wp2_with fail
          go_ret
          exact ⟨by rw [okTitles_bad hlt (by rw [HX.out]; simp [titleBad, h1, h3, hkp])]; rfl, hb1⟩
    · have hall : allTo (titleOkAt l) l.length = true := allTo_true (fun i hi => HT.out i (by omega))
      have HA := hd hall
      clear hall
      have HE := hd (show okTitles l = decide ((l.length : Int) ≤ 20) by simp only [okTitles, HA.out, Bool.true_and]; exact decide_eq_decide.2 (by omega))
      go_wp2_with fail
      go_ret
      exact ⟨by rw [HE.out]; rfl, hbel⟩

set_option maxHeartbeats 4000000 in
theorem titles_spec0 (w : World) (v : Value) (l : List TTitle) (h : Sl w 4 v eTitle l) :
    Calls Try.prog 80 #[v] w fun e w' => e = .returned (.bool (okTitles l)) ∧ Below w.heap.size w w' := by
  have m1 := h.len
  obtain ⟨-, A, c, rfl, -, -, -⟩ := id h
  go_enter Try.func80, Try.ntmps80
  go_wp2_with fail
  go_loopw [3] (fun i wr => ∃ k : Nat, k ≤ l.length ∧ i = .int .i64 k ∧ Below w.heap.size w wr ∧ Hid (∀ j, j < k → titleOkAt l j = true)) (fun i _ => l.length - (intOf i).toNat)
  case atStart => exact ⟨0, Nat.zero_le _, rfl, Below.refl _ _, hd (by omega)⟩
  case round =>
    obtain ⟨k, hk, rfl, hbel, HT⟩ := hrel
    by_cases hlt : k < l.length
    · have hx : titleOkAt l k = !titleBad k (l.getD (k - 1) noT) l[k] := by unfold titleOkAt; simp [hlt]
      have HX := hd hx
      clear hx
      obtain ⟨bb, o, rfl, -, p0, p1, p2, p3⟩ := (h.below hbel).Title_at hlt
      generalize l[k] = x at p0 p1 p2 p3 HX
      obtain ⟨a, b, c, d⟩ := x
      dsimp only at p0 p1 p2 p3
      have hs := h.below hbel
      have gA := gro_cell p0
      have gB := gro_cell p1
      have gC := gro_cell p2
      have gD := gro_cell p3
      rcases h1 : okTitleB (a, b, c, d) with _ | _
      · go_wp2_with fail
        refine wp_region_calm (by kernel_rfl) (by kernel_rfl) ?_
        repeat (first | go_big_quiet_step ((first | (go_at_call 81; exact calm_of (oneT_spec _ _ _ _ _ _ _ (gA _) (gB _) (gC _) (gD _))))) | quiet_step ((first | (go_at_call 81; exact calm_of (oneT_spec _ _ _ _ _ _ _ (gA _) (gB _) (gC _) (gD _))))))
        refine wpQuiet_nil ?_
        rintro w1 ⟨xw, rfl⟩
        have hb1 := below_step hbel (gro_below xw)
        go_wp2_with fail
        go_ret
        exact ⟨by rw [okTitles_bad hlt (by rw [HX.out]; simp [titleBad, h1])]; rfl, hb1⟩
      by_cases hk0 : k = 0
      · have hz : decide ((0 : Int) < (k : Int)) = false := by simp [hk0]
        have hz' : decide (0 < k) = false := by simp [hk0]
        have HK := hd hk0
        clear hk0
        go_wp2_with fail
        refine wp_region_calm (by kernel_rfl) (by kernel_rfl) ?_
        repeat (first | go_big_quiet_step ((first | (go_at_call 81; exact calm_of (oneT_spec _ _ _ _ _ _ _ (gA _) (gB _) (gC _) (gD _))))) | quiet_step ((first | (go_at_call 81; exact calm_of (oneT_spec _ _ _ _ _ _ _ (gA _) (gB _) (gC _) (gD _))))))
        refine wpQuiet_nil ?_
        rintro w1 ⟨xw, rfl⟩
        have hb1 := below_step hbel (gro_below xw)
        go_wp2_with fail
        go_roundw
        case rel => exact ⟨k + 1, by omega, by go_num, hb1, hd (allTo_step HT.out (by rw [HX.out]; simp [titleBad, h1, HK.out]))⟩
        case measure => simp [intOf]; omega
      · have hz : decide ((0 : Int) < (k : Int)) = true := by simp; omega
        have hkp : 0 < k := by omega
        have hlt1 : k - 1 < l.length := by omega
        obtain ⟨b', o', hA', -, q0, -, -, -⟩ := hs.Title_at hlt1
        have hy : l.getD (k - 1) noT = l[k - 1] := by simp [hlt1]
        rw [hy] at HX
        clear hy hk0
        injection hA' with hA'
        injection hA' with hb' ho' _
        subst hb' ho'
        generalize l[k - 1] = y at q0 HX
        obtain ⟨ya, yb, yc, yd⟩ := y
        dsimp only at q0
        have gE := gro_cell q0
        rcases h3 : decide (a ≤ ya) with _ | _
        · go_wp2_with fail
          refine wp_region_calm (by kernel_rfl) (by kernel_rfl) ?_
          repeat (first | go_big_quiet_step ((first | (go_at_call 81; exact calm_of (oneT_spec _ _ _ _ _ _ _ (gA _) (gB _) (gC _) (gD _))))) | quiet_step ((first | (go_at_call 81; exact calm_of (oneT_spec _ _ _ _ _ _ _ (gA _) (gB _) (gC _) (gD _))))))
          refine wpQuiet_nil ?_
          rintro w1 ⟨xw, rfl⟩
          have hb1 := below_step hbel (gro_below xw)
          go_wp2_with fail
          go_roundw
          case rel => exact ⟨k + 1, by omega, by go_num, hb1, hd (allTo_step HT.out (by rw [HX.out]; simp [titleBad, h1, h3]))⟩
          case measure => simp [intOf]; omega
        · go_wp2_with fail
          refine wp_region_calm (by kernel_rfl) (by kernel_rfl) ?_
          repeat (first | go_big_quiet_step ((first | (go_at_call 81; exact calm_of (oneT_spec _ _ _ _ _ _ _ (gA _) (gB _) (gC _) (gD _))))) | quiet_step ((first | (go_at_call 81; exact calm_of (oneT_spec _ _ _ _ _ _ _ (gA _) (gB _) (gC _) (gD _))))))
          refine wpQuiet_nil ?_
          rintro w1 ⟨xw, rfl⟩
          have hb1 := below_step hbel (gro_below xw)
          go_wp2_with fail
          go_ret
          exact ⟨by rw [okTitles_bad hlt (by rw [HX.out]; simp [titleBad, h1, h3, hkp])]; rfl, hb1⟩
    · have hall : allTo (titleOkAt l) l.length = true := allTo_true (fun i hi => HT.out i (by omega))
      have HA := hd hall
      clear hall
      have HE := hd (show okTitles l = decide ((l.length : Int) ≤ 20) by simp only [okTitles, HA.out, Bool.true_and]; exact decide_eq_decide.2 (by omega))
      go_wp2_with fail
      go_ret
      exact ⟨by rw [HE.out]; rfl, hbel⟩

end Go.Proofs.Ytlgcehdklpbknaa
