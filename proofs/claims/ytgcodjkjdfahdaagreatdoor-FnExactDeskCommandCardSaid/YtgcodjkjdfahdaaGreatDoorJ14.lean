/- Lemmas for the claim (the walks of its functions and their plain laws), joined. No condition. -/
import Derived.Test.YtgcodjkjdfahdaaGreatDoorJ4
import Derived.Test.YtgcodjkjdfahdaaGreatDoorJ13
namespace Go.Proofs.YtgcodjkjdfahdaaGreatDoor
open Go Go.RowKit Go.ChangeShapes Go.WideShapes
set_option linter.unusedSimpArgs false
set_option linter.unusedVariables false
def okTitleB (x : TTitle) : Bool := inB x.1 1 9999 && (isNameB x.2.1 && (inB x.2.2.1 1 30 && inB x.2.2.2 0 x.2.2.1))
def noT : TTitle := (0, ByteArray.empty, 0, 0)
def titleBad (i : Nat) (y x : TTitle) : Bool := !okTitleB x || (decide (0 < i) && decide (x.1 ≤ y.1))
def titleOkAt (l : List TTitle) (i : Nat) : Bool := !titleBad i (l.getD (i - 1) noT) (l.getD i noT)
def okTitles (l : List TTitle) : Bool := allTo (titleOkAt l) l.length && decide (l.length ≤ 20)
theorem okTitles_bad {l : List TTitle} {k : Nat} (hk : k < l.length) (h : titleOkAt l k = false) : okTitles l = false := by simp [okTitles, allTo_false hk h]
theorem okTitles_len {l : List TTitle} (h : okTitles l = true) : l.length ≤ 20 := by simp [okTitles] at h; exact h.2
theorem okTitles_at {l : List TTitle} (h : okTitles l = true) (k : Nat) (hk : k < l.length) : okTitleB l[k] = true := by
  simp only [okTitles, Bool.and_eq_true] at h
  have := allTo_get h.1 k hk
  simp [titleOkAt, titleBad, hk] at this
  exact this.1
theorem okTitles_lt {l : List TTitle} (h : okTitles l = true) (k : Nat) (hk : k + 1 < l.length) : l[k].1 < l[k + 1].1 := by
  simp only [okTitles, Bool.and_eq_true] at h
  have := allTo_get h.1 (k + 1) hk
  have hk' : k < l.length := by omega
  simp [titleOkAt, titleBad, hk, hk'] at this
  omega
theorem okTitles_lt' {l : List TTitle} (h : okTitles l = true) (i : Nat) : ∀ n, (hn : i + n + 1 < l.length) → l[i].1 < l[i + n + 1].1 := by
  intro n
  induction n with
  | zero => exact fun hn => okTitles_lt h i hn
  | succ n ih =>
    intro hn
    have h1 := ih (by omega)
    have h2 := okTitles_lt h (i + n + 1) hn
    exact Int.lt_trans h1 h2
theorem okTitles_mono {l : List TTitle} (h : okTitles l = true) {i j : Nat} (hij : i < j) (hj : j < l.length) : l[i].1 < l[j].1 := by
  obtain ⟨n, rfl⟩ : ∃ n, j = i + n + 1 := ⟨j - i - 1, by omega⟩
  exact okTitles_lt' h i n hj
theorem okTitleB_bd {x : TTitle} (h : okTitleB x = true) : (1 ≤ x.1 ∧ x.1 ≤ 9999) ∧ isNameB x.2.1 = true ∧ (1 ≤ x.2.2.1 ∧ x.2.2.1 ≤ 30) ∧ (0 ≤ x.2.2.2 ∧ x.2.2.2 ≤ x.2.2.1) := by
  simp only [okTitleB, Bool.and_eq_true] at h
  exact ⟨inB_true h.1, h.2.1, inB_true h.2.2.1, inB_true h.2.2.2⟩
set_option maxHeartbeats 1000000 in
theorem title_impl (w : World) (a : Int) (b : ByteArray) (c d : Int) :
    Calls Tryz.prog 123 #[.agg #[.int .i64 a, .string b, .int .i64 c, .int .i64 d]] w fun e w' => e = .returned (.bool (okTitleB (a, b, c, d))) ∧ Below w.heap.size w w' := by
  rcases h1 : inB a 1 9999 with _ | _
  · go_enter Tryz.func123, Tryz.ntmps123
    go_wp2_with (first | (go_at_call 67; refine (in_impl _ _ _ _).mono ?_; rintro e w1 ⟨rfl, hw⟩; have hw := hw.symm; subst hw) | (go_at_call 153; refine (name_impl _ _).mono ?_; rintro e w1 ⟨rfl, hw⟩; have hw := hw.symm; subst hw))
    go_ret
    exact ⟨by simp [okTitleB, h1], (Below.refl _ _).alloc (Nat.le_refl _) _⟩
  rcases h2 : isNameB b with _ | _
  · go_enter Tryz.func123, Tryz.ntmps123
    go_wp2_with (first | (go_at_call 67; refine (in_impl _ _ _ _).mono ?_; rintro e w1 ⟨rfl, hw⟩; have hw := hw.symm; subst hw) | (go_at_call 153; refine (name_impl _ _).mono ?_; rintro e w1 ⟨rfl, hw⟩; have hw := hw.symm; subst hw))
    go_ret
    exact ⟨by simp [okTitleB, h1, h2], (Below.refl _ _).alloc (Nat.le_refl _) _⟩
  rcases h3 : inB c 1 30 with _ | _
  · go_enter Tryz.func123, Tryz.ntmps123
    go_wp2_with (first | (go_at_call 67; refine (in_impl _ _ _ _).mono ?_; rintro e w1 ⟨rfl, hw⟩; have hw := hw.symm; subst hw) | (go_at_call 153; refine (name_impl _ _).mono ?_; rintro e w1 ⟨rfl, hw⟩; have hw := hw.symm; subst hw))
    go_ret
    exact ⟨by simp [okTitleB, h1, h2, h3], (Below.refl _ _).alloc (Nat.le_refl _) _⟩
  rcases h4 : inB d 0 c with _ | _
  · go_enter Tryz.func123, Tryz.ntmps123
    go_wp2_with (first | (go_at_call 67; refine (in_impl _ _ _ _).mono ?_; rintro e w1 ⟨rfl, hw⟩; have hw := hw.symm; subst hw) | (go_at_call 153; refine (name_impl _ _).mono ?_; rintro e w1 ⟨rfl, hw⟩; have hw := hw.symm; subst hw))
    go_ret
    exact ⟨by simp [okTitleB, h1, h2, h3, h4], (Below.refl _ _).alloc (Nat.le_refl _) _⟩
  · go_enter Tryz.func123, Tryz.ntmps123
    go_wp2_with (first | (go_at_call 67; refine (in_impl _ _ _ _).mono ?_; rintro e w1 ⟨rfl, hw⟩; have hw := hw.symm; subst hw) | (go_at_call 153; refine (name_impl _ _).mono ?_; rintro e w1 ⟨rfl, hw⟩; have hw := hw.symm; subst hw))
    go_ret
    exact ⟨by simp [okTitleB, h1, h2, h3, h4], (Below.refl _ _).alloc (Nat.le_refl _) _⟩
theorem calm_title_impl (w : World) (x : Ext w) (a : Int) (b : ByteArray) (c d : Int) : Calls Tryz.prog 123 #[.agg #[.int .i64 a, .string b, .int .i64 c, .int .i64 d]] (gro w x) fun e w'' => e = .returned (.bool (okTitleB (a, b, c, d))) ∧ ∃ y, w'' = gro w y := calm_of (title_impl _ _ _ _ _)
set_option maxHeartbeats 1000000 in
theorem oneT_spec (w : World) (g off : Nat) (a : Int) (b : ByteArray) (c d : Int) (p0 : w.cell? ⟨g, off, none⟩ = some (.int .i64 a)) (p1 : w.cell? ⟨g, off + 1, none⟩ = some (.string b)) (p2 : w.cell? ⟨g, off + 2, none⟩ = some (.int .i64 c)) (p3 : w.cell? ⟨g, off + 3, none⟩ = some (.int .i64 d)) :
    Calls Tryz.prog 159 #[.pointer (some ⟨g, off, none⟩)] w fun e w' => e = .returned (.bool (okTitleB (a, b, c, d))) ∧ Below w.heap.size w w' := by
  have gA := gro_cell p0
  have gB := gro_cell p1
  have gC := gro_cell p2
  have gD := gro_cell p3
  rcases h1 : inB a 1 9999 with _ | _
  · go_enter Tryz.func159, Tryz.ntmps159
    go_wp2_with fail
    refine wp_region_calm (by kernel_rfl) (by kernel_rfl) ?_
    repeat (first | go_big_quiet_step ((first | (go_at_call 158; exact calm_in_spec _ _ _ _ _) | (go_at_call 213; exact calm_of_same (name_spec _ _)))) | quiet_step ((first | (go_at_call 158; exact calm_in_spec _ _ _ _ _) | (go_at_call 213; exact calm_of_same (name_spec _ _)))))
    refine wpQuiet_nil ?_
    rintro w1 ⟨xw, rfl⟩
    have hb1 := below_step (Below.refl _ _) (gro_below xw)
    go_wp2_with fail
    go_ret
    exact ⟨by simp [okTitleB, h1], hb1⟩
  rcases h2 : isNameB b with _ | _
  · go_enter Tryz.func159, Tryz.ntmps159
    go_wp2_with fail
    refine wp_region_calm (by kernel_rfl) (by kernel_rfl) ?_
    repeat (first | go_big_quiet_step ((first | (go_at_call 158; exact calm_in_spec _ _ _ _ _) | (go_at_call 213; exact calm_of_same (name_spec _ _)))) | quiet_step ((first | (go_at_call 158; exact calm_in_spec _ _ _ _ _) | (go_at_call 213; exact calm_of_same (name_spec _ _)))))
    refine wpQuiet_nil ?_
    rintro w1 ⟨xw, rfl⟩
    have hb1 := below_step (Below.refl _ _) (gro_below xw)
    go_wp2_with fail
    go_ret
    exact ⟨by simp [okTitleB, h1, h2], hb1⟩
  rcases h3 : inB c 1 30 with _ | _
  · go_enter Tryz.func159, Tryz.ntmps159
    go_wp2_with fail
    refine wp_region_calm (by kernel_rfl) (by kernel_rfl) ?_
    repeat (first | go_big_quiet_step ((first | (go_at_call 158; exact calm_in_spec _ _ _ _ _) | (go_at_call 213; exact calm_of_same (name_spec _ _)))) | quiet_step ((first | (go_at_call 158; exact calm_in_spec _ _ _ _ _) | (go_at_call 213; exact calm_of_same (name_spec _ _)))))
    refine wpQuiet_nil ?_
    rintro w1 ⟨xw, rfl⟩
    have hb1 := below_step (Below.refl _ _) (gro_below xw)
    go_wp2_with fail
    go_ret
    exact ⟨by simp [okTitleB, h1, h2, h3], hb1⟩
  rcases h4 : inB d 0 c with _ | _
  · go_enter Tryz.func159, Tryz.ntmps159
    go_wp2_with fail
    refine wp_region_calm (by kernel_rfl) (by kernel_rfl) ?_
    repeat (first | go_big_quiet_step ((first | (go_at_call 158; exact calm_in_spec _ _ _ _ _) | (go_at_call 213; exact calm_of_same (name_spec _ _)))) | quiet_step ((first | (go_at_call 158; exact calm_in_spec _ _ _ _ _) | (go_at_call 213; exact calm_of_same (name_spec _ _)))))
    refine wpQuiet_nil ?_
    rintro w1 ⟨xw, rfl⟩
    have hb1 := below_step (Below.refl _ _) (gro_below xw)
    go_wp2_with fail
    go_ret
    exact ⟨by simp [okTitleB, h1, h2, h3, h4], hb1⟩
  · go_enter Tryz.func159, Tryz.ntmps159
    go_wp2_with fail
    refine wp_region_calm (by kernel_rfl) (by kernel_rfl) ?_
    repeat (first | go_big_quiet_step ((first | (go_at_call 158; exact calm_in_spec _ _ _ _ _) | (go_at_call 213; exact calm_of_same (name_spec _ _)))) | quiet_step ((first | (go_at_call 158; exact calm_in_spec _ _ _ _ _) | (go_at_call 213; exact calm_of_same (name_spec _ _)))))
    refine wpQuiet_nil ?_
    rintro w1 ⟨xw, rfl⟩
    have hb1 := below_step (Below.refl _ _) (gro_below xw)
    go_wp2_with fail
    go_ret
    exact ⟨by simp [okTitleB, h1, h2, h3, h4], hb1⟩
set_option maxHeartbeats 4000000 in
theorem titles_impl (w : World) (v : Value) (l : List TTitle) (h : Sl w 4 v eTitle l) :
    Calls Tryz.prog 60 #[v] w fun e w' => e = .returned (.bool (okTitles l)) ∧ Below w.heap.size w w' := by
  have m1 := h.len
  obtain ⟨-, A, c, rfl, -, -, -⟩ := id h
  go_enter Tryz.func60, Tryz.ntmps60
  go_wp2_with fail
  go_loopw [7] (fun i wr => ∃ k : Nat, k ≤ l.length ∧ i = .int .i64 k ∧ Below w.heap.size w wr ∧ Hid (∀ j, j < k → titleOkAt l j = true)) (fun i _ => l.length - (intOf i).toNat)
  case atStart => exact ⟨0, Nat.zero_le _, rfl, Below.refl _ _, hd (by omega)⟩
  case round =>
    obtain ⟨k, hk, rfl, hbel, HT⟩ := hrel
    by_cases hlt : k < l.length
    · have hx : titleOkAt l k = !titleBad k (l.getD (k - 1) noT) l[k] := by unfold titleOkAt; simp [hlt]
      have HX := hd hx
      clear hx
      obtain ⟨bb, o, rfl, -, p0, p1, p2, p3⟩ := (h.below hbel).Title_at hlt
      generalize l[k] = x at p0 p1 p2 p3 HX
      obtain ⟨a, b, c, d⟩ := x
      dsimp only at p0 p1 p2 p3
      have hs := (h.below hbel).alloc (.cells #[.int .i64 a, .string b, .int .i64 c, .int .i64 d] 95)
      have hbel' := hbel.alloc hbel.size (.cells #[.int .i64 a, .string b, .int .i64 c, .int .i64 d] 95)
      have gA := gro_cell (new_cell wr #[.int .i64 a, .string b, .int .i64 c, .int .i64 d] 95 0 _ rfl)
      have gB := gro_cell (new_cell wr #[.int .i64 a, .string b, .int .i64 c, .int .i64 d] 95 1 _ rfl)
      have gC := gro_cell (new_cell wr #[.int .i64 a, .string b, .int .i64 c, .int .i64 d] 95 2 _ rfl)
      have gD := gro_cell (new_cell wr #[.int .i64 a, .string b, .int .i64 c, .int .i64 d] 95 3 _ rfl)
      rcases h1 : okTitleB (a, b, c, d) with _ | _
      · go_wp2_with fail
        refine wp_region_calm (by kernel_rfl) (by kernel_rfl) ?_
        repeat (first | go_big_quiet_step ((first | (go_at_call 123; exact calm_title_impl _ _ _ _ _ _))) | quiet_step ((first | (go_at_call 123; exact calm_title_impl _ _ _ _ _ _))))
        refine wpQuiet_nil ?_
        rintro w1 ⟨xw, rfl⟩
        have hb1 := below_step hbel' (gro_below xw)
        go_wp2_with fail
        go_ret
        exact ⟨by rw [okTitles_bad hlt (by rw [HX.out]; simp [titleBad, h1])]; rfl, hb1⟩
      by_cases hk0 : k = 0
      · have hz : decide ((0 : Int) < (k : Int)) = false := by simp [hk0]
        have hz' : decide (0 < k) = false := by simp [hk0]
        have HK := hd hk0
        clear hk0
        go_wp2_with fail
        refine wp_region_calm (by kernel_rfl) (by kernel_rfl) ?_
        repeat (first | go_big_quiet_step ((first | (go_at_call 123; exact calm_title_impl _ _ _ _ _ _))) | quiet_step ((first | (go_at_call 123; exact calm_title_impl _ _ _ _ _ _))))
        refine wpQuiet_nil ?_
        rintro w1 ⟨xw, rfl⟩
        have hb1 := below_step hbel' (gro_below xw)
        go_wp2_with fail
        go_roundw
        case rel => exact ⟨k + 1, by omega, by go_num, hb1, hd (allTo_step HT.out (by rw [HX.out]; simp [titleBad, h1, HK.out]))⟩
        case measure => simp [intOf]; omega
      · have hz : decide ((0 : Int) < (k : Int)) = true := by simp; omega
        have hkp : 0 < k := by omega
        have hlt1 : k - 1 < l.length := by omega
        obtain ⟨b', o', hA', -, q0, -, -, -⟩ := hs.Title_at hlt1
        have hy : l.getD (k - 1) noT = l[k - 1] := by simp [hlt1]
        rw [hy] at HX
        clear hy hk0
        injection hA' with hA'
        injection hA' with hb' ho' _
        subst hb' ho'
        generalize l[k - 1] = y at q0 HX
        obtain ⟨ya, yb, yc, yd⟩ := y
        dsimp only at q0
        have gE := gro_cell q0
        rcases h3 : decide (a ≤ ya) with _ | _
        · go_wp2_with fail
          refine wp_region_calm (by kernel_rfl) (by kernel_rfl) ?_
          repeat (first | go_big_quiet_step ((first | (go_at_call 123; exact calm_title_impl _ _ _ _ _ _))) | quiet_step ((first | (go_at_call 123; exact calm_title_impl _ _ _ _ _ _))))
          refine wpQuiet_nil ?_
          rintro w1 ⟨xw, rfl⟩
          have hb1 := below_step hbel' (gro_below xw)
          go_wp2_with fail
          go_roundw
          case rel => exact ⟨k + 1, by omega, by go_num, hb1, hd (allTo_step HT.out (by rw [HX.out]; simp [titleBad, h1, h3]))⟩
          case measure => simp [intOf]; omega
        · go_wp2_with fail
          refine wp_region_calm (by kernel_rfl) (by kernel_rfl) ?_
          repeat (first | go_big_quiet_step ((first | (go_at_call 123; exact calm_title_impl _ _ _ _ _ _))) | quiet_step ((first | (go_at_call 123; exact calm_title_impl _ _ _ _ _ _))))
          refine wpQuiet_nil ?_
          rintro w1 ⟨xw, rfl⟩
          have hb1 := below_step hbel' (gro_below xw)
          go_wp2_with fail
          go_ret
          exact ⟨by rw [okTitles_bad hlt (by rw [HX.out]; simp [titleBad, h1, h3, hkp])]; rfl, hb1⟩
    · have hall : allTo (titleOkAt l) l.length = true := allTo_true (fun i hi => HT.out i (by omega))
      have HA := hd hall
      clear hall
      have HE := hd (show okTitles l = decide ((l.length : Int) ≤ 20) by simp only [okTitles, HA.out, Bool.true_and]; exact decide_eq_decide.2 (by omega))
      go_wp2_with fail
      go_ret
      exact ⟨by rw [HE.out]; rfl, hbel⟩
set_option maxHeartbeats 4000000 in
theorem titles_spec0 (w : World) (v : Value) (l : List TTitle) (h : Sl w 4 v eTitle l) :
    Calls Tryz.prog 92 #[v] w fun e w' => e = .returned (.bool (okTitles l)) ∧ Below w.heap.size w w' := by
  have m1 := h.len
  obtain ⟨-, A, c, rfl, -, -, -⟩ := id h
  go_enter Tryz.func92, Tryz.ntmps92
  go_wp2_with fail
  go_loopw [3] (fun i wr => ∃ k : Nat, k ≤ l.length ∧ i = .int .i64 k ∧ Below w.heap.size w wr ∧ Hid (∀ j, j < k → titleOkAt l j = true)) (fun i _ => l.length - (intOf i).toNat)
  case atStart => exact ⟨0, Nat.zero_le _, rfl, Below.refl _ _, hd (by omega)⟩
  case round =>
    obtain ⟨k, hk, rfl, hbel, HT⟩ := hrel
    by_cases hlt : k < l.length
    · have hx : titleOkAt l k = !titleBad k (l.getD (k - 1) noT) l[k] := by unfold titleOkAt; simp [hlt]
      have HX := hd hx
      clear hx
      obtain ⟨bb, o, rfl, -, p0, p1, p2, p3⟩ := (h.below hbel).Title_at hlt
      generalize l[k] = x at p0 p1 p2 p3 HX
      obtain ⟨a, b, c, d⟩ := x
      dsimp only at p0 p1 p2 p3
      have hs := h.below hbel
      have gA := gro_cell p0
      have gB := gro_cell p1
      have gC := gro_cell p2
      have gD := gro_cell p3
      rcases h1 : okTitleB (a, b, c, d) with _ | _
      · go_wp2_with fail
        refine wp_region_calm (by kernel_rfl) (by kernel_rfl) ?_
        repeat (first | go_big_quiet_step ((first | (go_at_call 159; exact calm_of (oneT_spec _ _ _ _ _ _ _ (gA _) (gB _) (gC _) (gD _))))) | quiet_step ((first | (go_at_call 159; exact calm_of (oneT_spec _ _ _ _ _ _ _ (gA _) (gB _) (gC _) (gD _))))))
        refine wpQuiet_nil ?_
        rintro w1 ⟨xw, rfl⟩
        have hb1 := below_step hbel (gro_below xw)
        go_wp2_with fail
        go_ret
        exact ⟨by rw [okTitles_bad hlt (by rw [HX.out]; simp [titleBad, h1])]; rfl, hb1⟩
      by_cases hk0 : k = 0
      · have hz : decide ((0 : Int) < (k : Int)) = false := by simp [hk0]
        have hz' : decide (0 < k) = false := by simp [hk0]
        have HK := hd hk0
        clear hk0
        go_wp2_with fail
        refine wp_region_calm (by kernel_rfl) (by kernel_rfl) ?_
        repeat (first | go_big_quiet_step ((first | (go_at_call 159; exact calm_of (oneT_spec _ _ _ _ _ _ _ (gA _) (gB _) (gC _) (gD _))))) | quiet_step ((first | (go_at_call 159; exact calm_of (oneT_spec _ _ _ _ _ _ _ (gA _) (gB _) (gC _) (gD _))))))
        refine wpQuiet_nil ?_
        rintro w1 ⟨xw, rfl⟩
        have hb1 := below_step hbel (gro_below xw)
        go_wp2_with fail
        go_roundw
        case rel => exact ⟨k + 1, by omega, by go_num, hb1, hd (allTo_step HT.out (by rw [HX.out]; simp [titleBad, h1, HK.out]))⟩
        case measure => simp [intOf]; omega
      · have hz : decide ((0 : Int) < (k : Int)) = true := by simp; omega
        have hkp : 0 < k := by omega
        have hlt1 : k - 1 < l.length := by omega
        obtain ⟨b', o', hA', -, q0, -, -, -⟩ := hs.Title_at hlt1
        have hy : l.getD (k - 1) noT = l[k - 1] := by simp [hlt1]
        rw [hy] at HX
        clear hy hk0
        injection hA' with hA'
        injection hA' with hb' ho' _
        subst hb' ho'
        generalize l[k - 1] = y at q0 HX
        obtain ⟨ya, yb, yc, yd⟩ := y
        dsimp only at q0
        have gE := gro_cell q0
        rcases h3 : decide (a ≤ ya) with _ | _
        · go_wp2_with fail
          refine wp_region_calm (by kernel_rfl) (by kernel_rfl) ?_
          repeat (first | go_big_quiet_step ((first | (go_at_call 159; exact calm_of (oneT_spec _ _ _ _ _ _ _ (gA _) (gB _) (gC _) (gD _))))) | quiet_step ((first | (go_at_call 159; exact calm_of (oneT_spec _ _ _ _ _ _ _ (gA _) (gB _) (gC _) (gD _))))))
          refine wpQuiet_nil ?_
          rintro w1 ⟨xw, rfl⟩
          have hb1 := below_step hbel (gro_below xw)
          go_wp2_with fail
          go_roundw
          case rel => exact ⟨k + 1, by omega, by go_num, hb1, hd (allTo_step HT.out (by rw [HX.out]; simp [titleBad, h1, h3]))⟩
          case measure => simp [intOf]; omega
        · go_wp2_with fail
          refine wp_region_calm (by kernel_rfl) (by kernel_rfl) ?_
          repeat (first | go_big_quiet_step ((first | (go_at_call 159; exact calm_of (oneT_spec _ _ _ _ _ _ _ (gA _) (gB _) (gC _) (gD _))))) | quiet_step ((first | (go_at_call 159; exact calm_of (oneT_spec _ _ _ _ _ _ _ (gA _) (gB _) (gC _) (gD _))))))
          refine wpQuiet_nil ?_
          rintro w1 ⟨xw, rfl⟩
          have hb1 := below_step hbel (gro_below xw)
          go_wp2_with fail
          go_ret
          exact ⟨by rw [okTitles_bad hlt (by rw [HX.out]; simp [titleBad, h1, h3, hkp])]; rfl, hb1⟩
    · have hall : allTo (titleOkAt l) l.length = true := allTo_true (fun i hi => HT.out i (by omega))
      have HA := hd hall
      clear hall
      have HE := hd (show okTitles l = decide ((l.length : Int) ≤ 20) by simp only [okTitles, HA.out, Bool.true_and]; exact decide_eq_decide.2 (by omega))
      go_wp2_with fail
      go_ret
      exact ⟨by rw [HE.out]; rfl, hbel⟩
end Go.Proofs.YtgcodjkjdfahdaaGreatDoor

namespace Go.Proofs.YtgcodjkjdfahdaaGreatDoor
open Go Go.RowKit Go.ChangeShapes Go.WideShapes
set_option linter.unusedSimpArgs false
set_option linter.unusedVariables false
abbrev TCue := Int × Int × Int × Int
def eCue (x : TCue) : List Value := [.int .i64 x.1, .int .i64 x.2.1, .int .i64 x.2.2.1, .int .i64 x.2.2.2]
theorem eCue_len (x : TCue) : (eCue x).length = 4 := rfl
theorem Sl.Cue_at {w : World} {A : Option Addr} {n c : Nat} {l : List TCue} (h : Sl w 4 (.slice A n c) eCue l) {i : Nat} (hi : i < l.length) :
    ∃ b o, A = some ⟨b, o, none⟩ ∧ b < w.heap.size ∧ w.cell? ⟨b, o + i * 4, none⟩ = some (.int .i64 l[i].1) ∧ w.cell? ⟨b, o + i * 4 + 1, none⟩ = some (.int .i64 l[i].2.1) ∧ w.cell? ⟨b, o + i * 4 + 2, none⟩ = some (.int .i64 l[i].2.2.1) ∧ w.cell? ⟨b, o + i * 4 + 3, none⟩ = some (.int .i64 l[i].2.2.2) := by
  obtain ⟨b, o, x, hx, hA, hb, hc⟩ := h.at_ hi
  have : x = l[i] := by rw [List.getElem?_eq_getElem hi] at hx; exact (Option.some.inj hx).symm
  subst this
  exact ⟨b, o, hA, hb, hc 0 _ rfl, hc 1 _ rfl, hc 2 _ rfl, hc 3 _ rfl⟩
def okCue (x : TCue) : Prop := (-9223372036854775808 ≤ x.1 ∧ x.1 ≤ 9223372036854775807) ∧ (-9223372036854775808 ≤ x.2.1 ∧ x.2.1 ≤ 9223372036854775807) ∧ (-9223372036854775808 ≤ x.2.2.1 ∧ x.2.2.1 ≤ 9223372036854775807) ∧ (-9223372036854775808 ≤ x.2.2.2 ∧ x.2.2.2 ≤ 9223372036854775807)
section
variable {H : Type} {enc : TypeId × Value → H} {w : World} {base : Nat} {spare : Nat → Bool} {held : Bool}
set_option maxRecDepth 100000 in
theorem trod_Cue (n : Nat) (cs : List Value) (y : DataW H × List MemPlace) (h : DataW.trod enc Tryz.prog w base spare held n 146 cs = some y) : ∃ x : TCue, cs = eCue x ∧ okCue x := by
  obtain ⟨hlen, hf⟩ := struct_cells Tryz.underlying146 (by kernel_rfl) (by kernel_rfl) h
  obtain ⟨v0, n0, y0, hv0, ht0⟩ := hf 0 _ rfl
  obtain ⟨x0, e0, -, wf0⟩ := DataW.trod_int Tryz.underlying2 ht0
  simp at e0
  subst e0
  obtain ⟨v1, n1, y1, hv1, ht1⟩ := hf 1 _ rfl
  obtain ⟨x1, e1, -, wf1⟩ := DataW.trod_int Tryz.underlying2 ht1
  simp at e1
  subst e1
  obtain ⟨v2, n2, y2, hv2, ht2⟩ := hf 2 _ rfl
  obtain ⟨x2, e2, -, wf2⟩ := DataW.trod_int Tryz.underlying2 ht2
  simp at e2
  subst e2
  obtain ⟨v3, n3, y3, hv3, ht3⟩ := hf 3 _ rfl
  obtain ⟨x3, e3, -, wf3⟩ := DataW.trod_int Tryz.underlying2 ht3
  simp at e3
  subst e3
  refine ⟨(x0, x1, x2, x3), ?_, i64_range wf0, i64_range wf1, i64_range wf2, i64_range wf3⟩
  have hsz : cs.length = 4 := hlen
  match cs, hsz with
  | [c0, c1, c2, c3], _ =>
    simp at hv0 hv1 hv2 hv3
    subst hv0 hv1 hv2 hv3
    rfl
end
section
variable {H : Type} {enc : TypeId × Value → H} {w : World} {base : Nat} {spare : Nat → Bool} {held : Bool}
end
section
variable {H : Type} {enc : TypeId × Value → H} {w : World} {base : Nat} {spare : Nat → Bool} {held : Bool}
end
set_option maxHeartbeats 400000 in
theorem toCue (w : World) (a : Int) (b : Int) (c : Int) (d : Int) : Calls Tryz.prog 113 #[.agg #[.int .i64 a, .int .i64 b, .int .i64 c, .int .i64 d]] w fun e w' => e = .returned (.agg #[.int .i64 a, .int .i64 b, .int .i64 c, .int .i64 d]) ∧ Below w.heap.size w w' := by
  go_enter Tryz.func113, Tryz.ntmps113
  go_wp2
  refine bodyPost_ret (v := .agg #[.int .i64 a, .int .i64 b, .int .i64 c, .int .i64 d]) (by simp [results, Tryz.results113, go_sem]) rfl ⟨rfl, ?_⟩
  repeat (first | exact Below.refl _ _ | refine Below.alloc ?_ (by first | (simp; done) | (simp; omega)) _ | refine Below.setCell ?_ (by first | (simp; done) | (simp; omega)) _ | refine Below.drew ?_)
set_option maxHeartbeats 800000 in
theorem eqCue (w : World) (x y : TCue) : Calls Tryz.prog 115 #[.agg #[.int .i64 x.1, .int .i64 x.2.1, .int .i64 x.2.2.1, .int .i64 x.2.2.2], .agg #[.int .i64 y.1, .int .i64 y.2.1, .int .i64 y.2.2.1, .int .i64 y.2.2.2]] w fun e w' => e = .returned (.bool (decide (x = y))) ∧ Below w.heap.size w w' := by
  obtain ⟨a, b, c, d⟩ := x
  obtain ⟨a', b', c', d'⟩ := y
  by_cases hq : a = a'
  case neg =>
    have k2 : (a != a') = true := by simpa using hq
    have H2 := hd hq
    clear hq
    go_enter Tryz.func115, Tryz.ntmps115; go_wp2; go_ret
    refine ⟨by simp [H2.out], ?_⟩
    repeat (first | exact Below.refl _ _ | refine Below.alloc ?_ (by first | (simp; done) | (simp; omega)) _ | refine Below.setCell ?_ (by first | (simp; done) | (simp; omega)) _ | refine Below.drew ?_)
  subst hq
  by_cases hq : b = b'
  case neg =>
    have k2 : (b != b') = true := by simpa using hq
    have H2 := hd hq
    clear hq
    go_enter Tryz.func115, Tryz.ntmps115; go_wp2; go_ret
    refine ⟨by simp [H2.out], ?_⟩
    repeat (first | exact Below.refl _ _ | refine Below.alloc ?_ (by first | (simp; done) | (simp; omega)) _ | refine Below.setCell ?_ (by first | (simp; done) | (simp; omega)) _ | refine Below.drew ?_)
  subst hq
  by_cases hq : c = c'
  case neg =>
    have k2 : (c != c') = true := by simpa using hq
    have H2 := hd hq
    clear hq
    go_enter Tryz.func115, Tryz.ntmps115; go_wp2; go_ret
    refine ⟨by simp [H2.out], ?_⟩
    repeat (first | exact Below.refl _ _ | refine Below.alloc ?_ (by first | (simp; done) | (simp; omega)) _ | refine Below.setCell ?_ (by first | (simp; done) | (simp; omega)) _ | refine Below.drew ?_)
  subst hq
  by_cases hq : d = d'
  case neg =>
    have k2 : (d != d') = true := by simpa using hq
    have H2 := hd hq
    clear hq
    go_enter Tryz.func115, Tryz.ntmps115; go_wp2; go_ret
    refine ⟨by simp [H2.out], ?_⟩
    repeat (first | exact Below.refl _ _ | refine Below.alloc ?_ (by first | (simp; done) | (simp; omega)) _ | refine Below.setCell ?_ (by first | (simp; done) | (simp; omega)) _ | refine Below.drew ?_)
  subst hq
  go_enter Tryz.func115, Tryz.ntmps115; go_wp2; go_ret
  refine ⟨by simp, ?_⟩
  repeat (first | exact Below.refl _ _ | refine Below.alloc ?_ (by first | (simp; done) | (simp; omega)) _ | refine Below.setCell ?_ (by first | (simp; done) | (simp; omega)) _ | refine Below.drew ?_)
theorem calm_eqCue (w : World) (x : Ext w) (a b : TCue) : Calls Tryz.prog 115 #[.agg #[.int .i64 a.1, .int .i64 a.2.1, .int .i64 a.2.2.1, .int .i64 a.2.2.2], .agg #[.int .i64 b.1, .int .i64 b.2.1, .int .i64 b.2.2.1, .int .i64 b.2.2.2]] (gro w x) fun e w'' => e = .returned (.bool (decide (a = b))) ∧ ∃ y, w'' = gro w y := calm_of (eqCue _ _ _)
set_option maxHeartbeats 800000 in
theorem eqCues (w : World) (v1 v2 : Value) (l1 l2 : List TCue) (h1 : Sl w 4 v1 eCue l1) (h2 : Sl w 4 v2 eCue l2) :
    Calls Tryz.prog 48 #[v1, v2] w fun e w' => e = .returned (.bool (decide (l1 = l2))) ∧ Below w.heap.size w w' := by
  have m1 := h1.len
  have m2 := h2.len
  obtain ⟨-, A1, c1, rfl, -, -, -⟩ := id h1
  obtain ⟨-, A2, c2, rfl, -, -, -⟩ := id h2
  by_cases hlen : l1.length = l2.length
  · have hb : (((l1.length : Nat) : Int) != ((l2.length : Nat) : Int)) = false := by simp [hlen]
    have HL := hd hlen
    clear hlen
    go_enter Tryz.func48, Tryz.ntmps48
    go_wp2
    go_loopw [5] (fun i wr => ∃ k : Nat, k ≤ l1.length ∧ i = .int .i64 k ∧ Below w.heap.size w wr ∧ Hid (l1.take k = l2.take k)) (fun i _ => l1.length - (intOf i).toNat)
    case atStart => exact ⟨0, Nat.zero_le _, rfl, Below.refl _ _, hd (by simp)⟩
    case round =>
      obtain ⟨k, hk, rfl, hbel, HT⟩ := hrel
      by_cases hlt : k < l1.length
      · have hlt2 : k < l2.length := HL.out ▸ hlt
        obtain ⟨a1, o1, rfl, -, p0, p1, p2, p3⟩ := (h1.below hbel).Cue_at hlt
        obtain ⟨a2, o2, rfl, -, q0, q1, q2, q3⟩ := (h2.below hbel).Cue_at hlt2
        have gp0 := gro_cell p0
        have gq0 := gro_cell q0
        have gp1 := gro_cell p1
        have gq1 := gro_cell q1
        have gp2 := gro_cell p2
        have gq2 := gro_cell q2
        have gp3 := gro_cell p3
        have gq3 := gro_cell q3
        go_wp2_with fail
        refine wp_region_calm (by kernel_rfl) (by kernel_rfl) ?_
        repeat (first | go_big_quiet_step ((go_at_call 115; exact calm_eqCue _ _ _ _)) | quiet_step ((go_at_call 115; exact calm_eqCue _ _ _ _)))
        refine wpQuiet_nil ?_
        rintro w1 ⟨x, rfl⟩
        have hb1 := below_step hbel (gro_below x)
        go_wp2_with fail
        · have hne : (!decide (l1[k] = l2[k])) = true := by assumption
          go_ret
          refine ⟨?_, hb1⟩
          have : l1 ≠ l2 := by rintro rfl; simp at hne
          simp [this]
        · have heq : (!decide (l1[k] = l2[k])) = false := by assumption
          go_roundw
          case rel => exact ⟨k + 1, by omega, by go_num, hb1, hd (by rw [List.take_succ_eq_append_getElem hlt, List.take_succ_eq_append_getElem hlt2, HT.out]; simp at heq; rw [heq])⟩
          case measure => simp [intOf]; omega
      · go_wp2
        go_ret
        refine ⟨?_, hbel⟩
        have h3 := HT.out
        rw [List.take_of_length_le (by omega), List.take_of_length_le (by have := HL.out; omega)] at h3
        simp [h3]
  · have hb : (((l1.length : Nat) : Int) != ((l2.length : Nat) : Int)) = true := by simp; omega
    have HL := hd hlen
    clear hlen
    go_enter Tryz.func48, Tryz.ntmps48
    go_wp2
    go_ret
    refine ⟨?_, Below.refl _ _⟩
    have : l1 ≠ l2 := by rintro rfl; exact HL.out rfl
    simp [this]
theorem info_Cue : (Tryz.prog.info? 92).map (fun i => (i.zero, i.size, i.bytes)) = some (some (.agg #[.int .i64 0, .int .i64 0, .int .i64 0, .int .i64 0]), 4, 32) := by kernel_rfl
set_option maxHeartbeats 800000 in
theorem toCues (w : World) (v : Value) (l : List TCue) (h : Sl w 4 v eCue l) (hl : l.length ≤ 1048576) :
    Calls Tryz.prog 46 #[v] w (GivesOwn w 92 4 eCue l) := by
  obtain ⟨-, A, c, rfl, -, -, -⟩ := id h
  obtain ⟨i0, hi, hz0, hz1, hz2⟩ := info_parts info_Cue
  go_enter Tryz.func46, Tryz.ntmps46
  go_wp2_with (first | (at_make; refine wpList_make_full _ rfl _ _ 26 rfl w.heap.size 92 i0 (.agg #[.int .i64 0, .int .i64 0, .int .i64 0, .int .i64 0]) 4 Tryz.underlying26 hi hz0 hz1 .i64 .i64 _ _ l.length rfl rfl rfl rfl (by rw [hz2]; omega) (by unfold maxLen; omega) (Nat.le_refl _) ?_))
  intro w1 hown hgr
  have H0 : CopyTo w 92 4 (.slice (some ⟨w.heap.size, 0, none⟩) l.length l.length) l.length eCue l 0 w1 := ⟨_, hown, by simp, below_of_grown hgr (Nat.le_refl _) (by simp)⟩
  clear hown hgr hi hz0 hz1 hz2
  go_wp2
  go_loopw [4] (fun i wr => ∃ k : Nat, k ≤ l.length ∧ i = .int .i64 k ∧ CopyTo w 92 4 (.slice (some ⟨w.heap.size, 0, none⟩) l.length l.length) l.length eCue l k wr) (fun i _ => l.length - (intOf i).toNat)
  case atStart => exact ⟨0, Nat.zero_le _, rfl, H0⟩
  case round =>
    obtain ⟨k, hk, rfl, H⟩ := hrel
    clear H0
    by_cases hlt : k < l.length
    · obtain ⟨ys, hown, hys, hbel⟩ := H
      obtain ⟨b, o, rfl, hb, p0, p1, p2, p3⟩ := (h.below hbel).Cue_at hlt
      have hy1 := hown.1
      go_wp2_with fail
      refine (toCue _ _ _ _ _).mono ?_
      rintro e w2 ⟨rfl, hb1⟩
      have hb2 := below_step hbel hb1
      have hown1 := hown.kept (grownBy_of_below hb1 none) (.inr (by simp [Value.ownBlock]))
      clear hown
      have hky0 : k * 4 < ys.length := by omega
      have r0 := hown1.cellAt (k * 4) (by omega)
      rw [List.getElem?_eq_getElem hky0] at r0
      have f0 := hown1.frozenAt (k * 4)
      have hky1 : k * 4 + 1 < ys.length := by omega
      have r1 := hown1.cellAt (k * 4 + 1) (by omega)
      rw [List.getElem?_eq_getElem hky1] at r1
      have f1 := hown1.frozenAt (k * 4 + 1)
      have hky2 : k * 4 + 2 < ys.length := by omega
      have r2 := hown1.cellAt (k * 4 + 2) (by omega)
      rw [List.getElem?_eq_getElem hky2] at r2
      have f2 := hown1.frozenAt (k * 4 + 2)
      have hky3 : k * 4 + 3 < ys.length := by omega
      have r3 := hown1.cellAt (k * 4 + 3) (by omega)
      rw [List.getElem?_eq_getElem hky3] at r3
      have f3 := hown1.frozenAt (k * 4 + 3)
      go_wp2_with fail
      go_roundw
      case rel =>
          have st0 := hown1.stored (k * 4) (.int .i64 l[k].1)
          have st1 := st0.1.stored (k * 4 + 1) (.int .i64 l[k].2.1)
          have st2 := st1.1.stored (k * 4 + 2) (.int .i64 l[k].2.2.1)
          have st3 := st2.1.stored (k * 4 + 3) (.int .i64 l[k].2.2.2)
          refine ⟨k + 1, by omega, by go_num, _, st3.1, ?_, ((((hb2.setCell (Nat.le_refl _) _).setCell (Nat.le_refl _) _).setCell (Nat.le_refl _) _).setCell (Nat.le_refl _) _)⟩
          rw [flatMap_snoc _ _ _ hlt, Nat.succ_mul]
          have := take_set_snoc (take_set_snoc (take_set_snoc (take_set_snoc hys hky0 (.int .i64 l[k].1)) (by simp; omega) (.int .i64 l[k].2.1)) (by simp; omega) (.int .i64 l[k].2.2.1)) (by simp; omega) (.int .i64 l[k].2.2.2)
          simpa [eCue, List.append_assoc] using this
      case measure => simp [intOf]; omega
    · go_wp2_with fail
      go_ret
      obtain ⟨ys, hown, hys, hbel⟩ := H
      have hkl : k = l.length := by omega
      refine ⟨_, rfl, ?_, hbel⟩
      unfold Own
      have e1 : ys = l.flatMap eCue := by
        rw [hkl, List.take_of_length_le (by rw [hown.1]; exact Nat.le_refl _), List.take_length] at hys
        exact hys
      rw [← e1]
      exact hown
theorem szCues_yes (w : World) (v : Value) (l : List TCue) (h : Sl w 4 v eCue l) (left : Int) (h0 : 0 ≤ left) (h1 : left ≤ 1048576) (hle : (l.length : Int) ≤ left) :
    Calls Tryz.prog 43 #[v, .int .i64 left] w fun e w' => e = .returned (.int .i64 (left - (l.length : Int))) ∧ w' = w := by
  have m1 := h.len
  obtain ⟨-, A, c, rfl, -, -, -⟩ := h
  go_enter Tryz.func43, Tryz.ntmps43
  go_wp2
  go_ret
  exact ⟨rfl, rfl⟩
theorem szCues_no (w : World) (v : Value) (l : List TCue) (h : Sl w 4 v eCue l) (left : Int) (h0 : 0 ≤ left) (h1 : left ≤ 1048576) (hle : left < (l.length : Int)) :
    Calls Tryz.prog 43 #[v, .int .i64 left] w fun e w' => e = .returned (.int .i64 (-1)) ∧ w' = w := by
  have m1 := h.len
  obtain ⟨-, A, c, rfl, -, -, -⟩ := h
  go_enter Tryz.func43, Tryz.ntmps43
  go_wp2
  go_ret
  exact ⟨rfl, rfl⟩
def marksCue (k : Int) (n : Nat) : List TCue := (List.range n).map fun (i : Nat) => (k + 4 * (i : Int), k + 4 * (i : Int) + 1, k + 4 * (i : Int) + 1 + 1, k + 4 * (i : Int) + 1 + 1 + 1)
theorem marksCue_len (k : Int) (n : Nat) : (marksCue k n).length = n := by simp [marksCue]
theorem marksCue_get (k : Int) (n i : Nat) (h : i < (marksCue k n).length) : (marksCue k n)[i] = (k + 4 * (i : Int), k + 4 * (i : Int) + 1, k + 4 * (i : Int) + 1 + 1, k + 4 * (i : Int) + 1 + 1 + 1) := by simp [marksCue]
set_option maxHeartbeats 800000 in
theorem markCues (w : World) (B : Nat) (E : TypeId) (v : Value) (l : List TCue) (h : Own w B E 4 v eCue l) (k : Int) (h0 : 0 ≤ k) (hk : k + 4 * (l.length : Int) ≤ 4611686018427387904) :
    Calls Tryz.prog 50 #[v, .int .i64 k] w fun e w' => e = .returned (.int .i64 (k + 4 * (l.length : Int))) ∧ Own w' B E 4 v eCue (marksCue k l.length) ∧ w.grownBy w' v.ownBlock := by
  have hfin : ∀ wr, MarkTo w B E 4 v l.length eCue (marksCue k l.length) l.length wr → Own wr B E 4 v eCue (marksCue k l.length) ∧ w.grownBy wr v.ownBlock := by
    rintro wr ⟨ys, hown, hys, hgr⟩
    refine ⟨?_, hgr⟩
    unfold Own
    rw [marksCue_len]
    have e1 : ys = (marksCue k l.length).flatMap eCue := by
      rw [List.take_of_length_le (by rw [hown.1]; exact Nat.le_refl _)] at hys
      rw [hys]
      have := marksCue_len k l.length
      rw [List.take_of_length_le (by omega)]
    rw [← e1]
    exact hown
  have H0 : MarkTo w B E 4 v l.length eCue (marksCue k l.length) 0 w := ⟨_, h, by simp, World.grownBy.refl _ _⟩
  have HF := hd hfin
  clear hfin
  rcases h.form with ⟨rfl, rfl⟩ | ⟨g, cap, rfl, hBg, hgw, hlc, hcm⟩
  · go_enter Tryz.func50, Tryz.ntmps50
    go_wp2
    go_loopw [1, 5] (fun kk i wr => wr = w ∧ kk = .int .i64 k ∧ i = .int .i64 0) (fun _ _ _ => 0)
    case atStart => exact ⟨rfl, rfl, rfl⟩
    case round =>
      obtain ⟨rfl, rfl, rfl⟩ := hrel
      go_wp2
      go_ret
      exact ⟨by simp, HF.out _ H0⟩
  · go_enter Tryz.func50, Tryz.ntmps50
    go_wp2
    go_loopw [1, 5] (fun kk i wr => ∃ j : Nat, j ≤ l.length ∧ i = .int .i64 j ∧ kk = .int .i64 (k + 4 * (j : Int)) ∧ MarkTo w B E 4 (.slice (some ⟨g, 0, none⟩) l.length cap) l.length eCue (marksCue k l.length) j wr) (fun _ i _ => l.length - (intOf i).toNat)
    case atStart => exact ⟨0, Nat.zero_le _, rfl, by simp, H0⟩
    case round =>
      obtain ⟨j, hj, rfl, rfl, H⟩ := hrel
      clear H0
      by_cases hlt : j < l.length
      · obtain ⟨ys, hown, hys, hgr⟩ := H
        have hy1 := hown.1
        have hky0 : j * 4 < ys.length := by omega
        have r0 := hown.cellAt (j * 4) (by omega)
        rw [List.getElem?_eq_getElem hky0] at r0
        have f0 := hown.frozenAt (j * 4)
        have hky1 : j * 4 + 1 < ys.length := by omega
        have r1 := hown.cellAt (j * 4 + 1) (by omega)
        rw [List.getElem?_eq_getElem hky1] at r1
        have f1 := hown.frozenAt (j * 4 + 1)
        have hky2 : j * 4 + 2 < ys.length := by omega
        have r2 := hown.cellAt (j * 4 + 2) (by omega)
        rw [List.getElem?_eq_getElem hky2] at r2
        have f2 := hown.frozenAt (j * 4 + 2)
        have hky3 : j * 4 + 3 < ys.length := by omega
        have r3 := hown.cellAt (j * 4 + 3) (by omega)
        rw [List.getElem?_eq_getElem hky3] at r3
        have f3 := hown.frozenAt (j * 4 + 3)
        go_wp2
        go_roundw
        case rel =>
          have st0 := hown.stored (j * 4) (.int .i64 (k + 4 * (j : Int)))
          have st1 := st0.1.stored (j * 4 + 1) (.int .i64 (k + 4 * (j : Int) + 1))
          have st2 := st1.1.stored (j * 4 + 2) (.int .i64 (k + 4 * (j : Int) + 1 + 1))
          have st3 := st2.1.stored (j * 4 + 3) (.int .i64 (k + 4 * (j : Int) + 1 + 1 + 1))
          refine ⟨j + 1, by omega, by go_num, by go_num, _, st3.1, ?_, grownBy_trans hgr (grownBy_trans (grownBy_trans (grownBy_trans st0.2 st1.2) st2.2) st3.2)⟩
          have hjm : j < (marksCue k l.length).length := by rw [marksCue_len]; exact hlt
          rw [flatMap_snoc _ _ _ hjm, marksCue_get, Nat.succ_mul]
          have := take_set_snoc (take_set_snoc (take_set_snoc (take_set_snoc hys hky0 (.int .i64 (k + 4 * (j : Int)))) (by simp; omega) (.int .i64 (k + 4 * (j : Int) + 1))) (by simp; omega) (.int .i64 (k + 4 * (j : Int) + 1 + 1))) (by simp; omega) (.int .i64 (k + 4 * (j : Int) + 1 + 1 + 1))
          simpa [eCue, List.append_assoc] using this
        case measure => simp [intOf]; omega
      · go_wp2
        go_ret
        have hjl : j = l.length := by omega
        subst hjl
        exact ⟨rfl, HF.out _ H⟩
set_option maxHeartbeats 800000 in
theorem heldCues (w : World) (v : Value) (k : Int) (n : Nat) (h : Sl w 4 v eCue (marksCue k n)) (h0 : 0 ≤ k) (hk : k + 4 * (n : Int) ≤ 4611686018427387904) :
    Calls Tryz.prog 53 #[v, .int .i64 k] w fun e w' => e = .returned (.int .i64 (k + 4 * (n : Int))) ∧ w' = w := by
  have hlen := marksCue_len k n
  obtain ⟨-, A, c, hv, -, -, -⟩ := id h
  rw [hlen] at hv
  subst hv
  have HL := hd hlen
  clear hlen
  go_enter Tryz.func53, Tryz.ntmps53
  go_wp2
  go_loop [1, 5] (fun kk i => ∃ j : Nat, j ≤ n ∧ i = .int .i64 j ∧ kk = .int .i64 (k + 4 * (j : Int))) (fun _ i => n - (intOf i).toNat)
  case atStart => exact ⟨0, Nat.zero_le _, rfl, by simp⟩
  case round =>
    obtain ⟨j, hj, rfl, rfl⟩ := hrel
    by_cases hlt : j < n
    · obtain ⟨b, o, rfl, hb, p0, p1, p2, p3⟩ := h.Cue_at (i := j) (by rw [HL.out]; exact hlt)
      rw [marksCue_get] at p0 p1 p2 p3
      go_wp2
      go_round
      case rel => exact ⟨j + 1, by omega, by go_num, by go_num⟩
      case measure => simp [intOf]; omega
    · go_wp2
      go_ret
      have hjl : j = n := by omega
      subst hjl
      exact ⟨rfl, rfl⟩
end Go.Proofs.YtgcodjkjdfahdaaGreatDoor

namespace Go.Proofs.YtgcodjkjdfahdaaGreatDoor
open Go Go.RowKit Go.ChangeShapes Go.WideShapes
set_option linter.unusedSimpArgs false
set_option linter.unusedVariables false
theorem GivesOwnI.is {α : Type} {enc : α → List Value} {w wr : World} {E : TypeId} {k : Nat} {r : List α × Int} {c : Int} {l : List α} {v : Value} (h : r = (l, c)) (ho : Own wr w.heap.size E k v enc l) (hb : Below w.heap.size w wr) : GivesOwnI w E k enc r (.returned (.tuple #[v, .int .i64 c])) wr := by
  subst h
  exact ⟨_, rfl, ho, hb⟩
theorem GivesOwnI.is_nil {α : Type} {enc : α → List Value} {w : World} {E : TypeId} {k : Nat} {r : List α × Int} {c : Int} (h : r = ([], c)) (wr : World) (hb : Below w.heap.size w wr) : GivesOwnI w E k enc r (.returned (.tuple #[.slice none 0 0, .int .i64 c])) wr := by
  subst h
  exact ⟨_, rfl, Own.nil _ _ _ _ _, hb⟩
end Go.Proofs.YtgcodjkjdfahdaaGreatDoor
