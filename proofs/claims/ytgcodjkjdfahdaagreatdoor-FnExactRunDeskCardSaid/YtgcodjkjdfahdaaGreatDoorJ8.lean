/- Texts of the claim, joined: each says at its head what it proves. No condition. -/
import Derived.Test.YtgcodjkjdfahdaaGreatDoorJ5
/- Titles of a catalogue: the reference and the program say of the same titles and lists that they are valid. No condition but that the slices read. -/
namespace Go.Proofs.YtgcodjkjdfahdaaGreatDoor
open Go Go.RowKit Go.ChangeShapes Go.WideShapes
set_option linter.unusedSimpArgs false
set_option linter.unusedVariables false

def okTitleB (x : TTitle) : Bool := inB x.1 1 9999 && (isNameB x.2.1 && (inB x.2.2.1 1 30 && inB x.2.2.2 0 x.2.2.1))
def noT : TTitle := (0, ByteArray.empty, 0, 0)
def titleBad (i : Nat) (y x : TTitle) : Bool := !okTitleB x || (decide (0 < i) && decide (x.1 ≤ y.1))
def titleOkAt (l : List TTitle) (i : Nat) : Bool := !titleBad i (l.getD (i - 1) noT) (l.getD i noT)
def okTitles (l : List TTitle) : Bool := allTo (titleOkAt l) l.length && decide (l.length ≤ 20)
theorem okTitles_bad {l : List TTitle} {k : Nat} (hk : k < l.length) (h : titleOkAt l k = false) : okTitles l = false := by simp [okTitles, allTo_false hk h]
theorem okTitles_len {l : List TTitle} (h : okTitles l = true) : l.length ≤ 20 := by simp [okTitles] at h; exact h.2
theorem okTitles_at {l : List TTitle} (h : okTitles l = true) (k : Nat) (hk : k < l.length) : okTitleB l[k] = true := by
  simp only [okTitles, Bool.and_eq_true] at h
  have := allTo_get h.1 k hk
  simp [titleOkAt, titleBad, hk] at this
  exact this.1
theorem okTitles_lt {l : List TTitle} (h : okTitles l = true) (k : Nat) (hk : k + 1 < l.length) : l[k].1 < l[k + 1].1 := by
  simp only [okTitles, Bool.and_eq_true] at h
  have := allTo_get h.1 (k + 1) hk
  have hk' : k < l.length := by omega
  simp [titleOkAt, titleBad, hk, hk'] at this
  omega
theorem okTitles_lt' {l : List TTitle} (h : okTitles l = true) (i : Nat) : ∀ n, (hn : i + n + 1 < l.length) → l[i].1 < l[i + n + 1].1 := by
  intro n
  induction n with
  | zero => exact fun hn => okTitles_lt h i hn
  | succ n ih =>
    intro hn
    have h1 := ih (by omega)
    have h2 := okTitles_lt h (i + n + 1) hn
    exact Int.lt_trans h1 h2
theorem okTitles_mono {l : List TTitle} (h : okTitles l = true) {i j : Nat} (hij : i < j) (hj : j < l.length) : l[i].1 < l[j].1 := by
  obtain ⟨n, rfl⟩ : ∃ n, j = i + n + 1 := ⟨j - i - 1, by omega⟩
  exact okTitles_lt' h i n hj
theorem okTitleB_bd {x : TTitle} (h : okTitleB x = true) : (1 ≤ x.1 ∧ x.1 ≤ 9999) ∧ isNameB x.2.1 = true ∧ (1 ≤ x.2.2.1 ∧ x.2.2.1 ≤ 30) ∧ (0 ≤ x.2.2.2 ∧ x.2.2.2 ≤ x.2.2.1) := by
  simp only [okTitleB, Bool.and_eq_true] at h
  exact ⟨inB_true h.1, h.2.1, inB_true h.2.2.1, inB_true h.2.2.2⟩

set_option maxHeartbeats 1000000 in
theorem title_impl (w : World) (a : Int) (b : ByteArray) (c d : Int) :
    Calls Tryz.prog 123 #[.agg #[.int .i64 a, .string b, .int .i64 c, .int .i64 d]] w fun e w' => e = .returned (.bool (okTitleB (a, b, c, d))) ∧ Below w.heap.size w w' := by
  rcases h1 : inB a 1 9999 with _ | _
  · go_enter Tryz.func123, Tryz.ntmps123
    go_wp2_with (first | (go_at_call 67; refine (in_impl _ _ _ _).mono ?_; rintro e w1 ⟨rfl, hw⟩; have hw := hw.symm; subst hw) | (go_at_call 153; refine (name_impl _ _).mono ?_; rintro e w1 ⟨rfl, hw⟩; have hw := hw.symm; subst hw))
    go_ret
    exact ⟨by simp [okTitleB, h1], (Below.refl _ _).alloc (Nat.le_refl _) _⟩
  rcases h2 : isNameB b with _ | _
  · go_enter Tryz.func123, Tryz.ntmps123
    go_wp2_with (first | (go_at_call 67; refine (in_impl _ _ _ _).mono ?_; rintro e w1 ⟨rfl, hw⟩; have hw := hw.symm; subst hw) | (go_at_call 153; refine (name_impl _ _).mono ?_; rintro e w1 ⟨rfl, hw⟩; have hw := hw.symm; subst hw))
    go_ret
    exact ⟨by simp [okTitleB, h1, h2], (Below.refl _ _).alloc (Nat.le_refl _) _⟩
  rcases h3 : inB c 1 30 with _ | _
  · go_enter Tryz.func123, Tryz.ntmps123
    go_wp2_with (first | (go_at_call 67; refine (in_impl _ _ _ _).mono ?_; rintro e w1 ⟨rfl, hw⟩; have hw := hw.symm; subst hw) | (go_at_call 153; refine (name_impl _ _).mono ?_; rintro e w1 ⟨rfl, hw⟩; have hw := hw.symm; subst hw))
    go_ret
    exact ⟨by simp [okTitleB, h1, h2, h3], (Below.refl _ _).alloc (Nat.le_refl _) _⟩
  rcases h4 : inB d 0 c with _ | _
  · go_enter Tryz.func123, Tryz.ntmps123
    go_wp2_with (first | (go_at_call 67; refine (in_impl _ _ _ _).mono ?_; rintro e w1 ⟨rfl, hw⟩; have hw := hw.symm; subst hw) | (go_at_call 153; refine (name_impl _ _).mono ?_; rintro e w1 ⟨rfl, hw⟩; have hw := hw.symm; subst hw))
    go_ret
    exact ⟨by simp [okTitleB, h1, h2, h3, h4], (Below.refl _ _).alloc (Nat.le_refl _) _⟩
  · go_enter Tryz.func123, Tryz.ntmps123
    go_wp2_with (first | (go_at_call 67; refine (in_impl _ _ _ _).mono ?_; rintro e w1 ⟨rfl, hw⟩; have hw := hw.symm; subst hw) | (go_at_call 153; refine (name_impl _ _).mono ?_; rintro e w1 ⟨rfl, hw⟩; have hw := hw.symm; subst hw))
    go_ret
    exact ⟨by simp [okTitleB, h1, h2, h3, h4], (Below.refl _ _).alloc (Nat.le_refl _) _⟩

theorem calm_title_impl (w : World) (x : Ext w) (a : Int) (b : ByteArray) (c d : Int) : Calls Tryz.prog 123 #[.agg #[.int .i64 a, .string b, .int .i64 c, .int .i64 d]] (gro w x) fun e w'' => e = .returned (.bool (okTitleB (a, b, c, d))) ∧ ∃ y, w'' = gro w y := calm_of (title_impl _ _ _ _ _)
set_option maxHeartbeats 1000000 in
theorem oneT_spec (w : World) (g off : Nat) (a : Int) (b : ByteArray) (c d : Int) (p0 : w.cell? ⟨g, off, none⟩ = some (.int .i64 a)) (p1 : w.cell? ⟨g, off + 1, none⟩ = some (.string b)) (p2 : w.cell? ⟨g, off + 2, none⟩ = some (.int .i64 c)) (p3 : w.cell? ⟨g, off + 3, none⟩ = some (.int .i64 d)) :
    Calls Tryz.prog 159 #[.pointer (some ⟨g, off, none⟩)] w fun e w' => e = .returned (.bool (okTitleB (a, b, c, d))) ∧ Below w.heap.size w w' := by
  have gA := gro_cell p0
  have gB := gro_cell p1
  have gC := gro_cell p2
  have gD := gro_cell p3
  rcases h1 : inB a 1 9999 with _ | _
  · go_enter Tryz.func159, Tryz.ntmps159
    go_wp2_with fail
    refine wp_region_calm (by kernel_rfl) (by kernel_rfl) ?_
    repeat (first | go_big_quiet_step ((first | (go_at_call 158; exact calm_in_spec _ _ _ _ _) | (go_at_call 213; exact calm_of_same (name_spec _ _)))) | quiet_step ((first | (go_at_call 158; exact calm_in_spec _ _ _ _ _) | (go_at_call 213; exact calm_of_same (name_spec _ _)))))
    refine wpQuiet_nil ?_
    rintro w1 ⟨xw, rfl⟩
    have hb1 := below_step (Below.refl _ _) (gro_below xw)
    go_wp2_with fail
    go_ret
    exact ⟨by simp [okTitleB, h1], hb1⟩
  rcases h2 : isNameB b with _ | _
  · go_enter Tryz.func159, Tryz.ntmps159
    go_wp2_with fail
    refine wp_region_calm (by kernel_rfl) (by kernel_rfl) ?_
    repeat (first | go_big_quiet_step ((first | (go_at_call 158; exact calm_in_spec _ _ _ _ _) | (go_at_call 213; exact calm_of_same (name_spec _ _)))) | quiet_step ((first | (go_at_call 158; exact calm_in_spec _ _ _ _ _) | (go_at_call 213; exact calm_of_same (name_spec _ _)))))
    refine wpQuiet_nil ?_
    rintro w1 ⟨xw, rfl⟩
    have hb1 := below_step (Below.refl _ _) (gro_below xw)
    go_wp2_with fail
    go_ret
    exact ⟨by simp [okTitleB, h1, h2], hb1⟩
  rcases h3 : inB c 1 30 with _ | _
  · go_enter Tryz.func159, Tryz.ntmps159
    go_wp2_with fail
    refine wp_region_calm (by kernel_rfl) (by kernel_rfl) ?_
    repeat (first | go_big_quiet_step ((first | (go_at_call 158; exact calm_in_spec _ _ _ _ _) | (go_at_call 213; exact calm_of_same (name_spec _ _)))) | quiet_step ((first | (go_at_call 158; exact calm_in_spec _ _ _ _ _) | (go_at_call 213; exact calm_of_same (name_spec _ _)))))
    refine wpQuiet_nil ?_
    rintro w1 ⟨xw, rfl⟩
    have hb1 := below_step (Below.refl _ _) (gro_below xw)
    go_wp2_with fail
    go_ret
    exact ⟨by simp [okTitleB, h1, h2, h3], hb1⟩
  rcases h4 : inB d 0 c with _ | _
  · go_enter Tryz.func159, Tryz.ntmps159
    go_wp2_with fail
    refine wp_region_calm (by kernel_rfl) (by kernel_rfl) ?_
    repeat (first | go_big_quiet_step ((first | (go_at_call 158; exact calm_in_spec _ _ _ _ _) | (go_at_call 213; exact calm_of_same (name_spec _ _)))) | quiet_step ((first | (go_at_call 158; exact calm_in_spec _ _ _ _ _) | (go_at_call 213; exact calm_of_same (name_spec _ _)))))
    refine wpQuiet_nil ?_
    rintro w1 ⟨xw, rfl⟩
    have hb1 := below_step (Below.refl _ _) (gro_below xw)
    go_wp2_with fail
    go_ret
    exact ⟨by simp [okTitleB, h1, h2, h3, h4], hb1⟩
  · go_enter Tryz.func159, Tryz.ntmps159
    go_wp2_with fail
    refine wp_region_calm (by kernel_rfl) (by kernel_rfl) ?_
    repeat (first | go_big_quiet_step ((first | (go_at_call 158; exact calm_in_spec _ _ _ _ _) | (go_at_call 213; exact calm_of_same (name_spec _ _)))) | quiet_step ((first | (go_at_call 158; exact calm_in_spec _ _ _ _ _) | (go_at_call 213; exact calm_of_same (name_spec _ _)))))
    refine wpQuiet_nil ?_
    rintro w1 ⟨xw, rfl⟩
    have hb1 := below_step (Below.refl _ _) (gro_below xw)
    go_wp2_with fail
    go_ret
    exact ⟨by simp [okTitleB, h1, h2, h3, h4], hb1⟩

set_option maxHeartbeats 4000000 in
theorem titles_impl (w : World) (v : Value) (l : List TTitle) (h : Sl w 4 v eTitle l) :
    Calls Tryz.prog 60 #[v] w fun e w' => e = .returned (.bool (okTitles l)) ∧ Below w.heap.size w w' := by
  have m1 := h.len
  obtain ⟨-, A, c, rfl, -, -, -⟩ := id h
  go_enter Tryz.func60, Tryz.ntmps60
  go_wp2_with fail
  go_loopw [7] (fun i wr => ∃ k : Nat, k ≤ l.length ∧ i = .int .i64 k ∧ Below w.heap.size w wr ∧ Hid (∀ j, j < k → titleOkAt l j = true)) (fun i _ => l.length - (intOf i).toNat)
  case atStart => exact ⟨0, Nat.zero_le _, rfl, Below.refl _ _, hd (by omega)⟩
  case round =>
    obtain ⟨k, hk, rfl, hbel, HT⟩ := hrel
    by_cases hlt : k < l.length
    · have hx : titleOkAt l k = !titleBad k (l.getD (k - 1) noT) l[k] := by unfold titleOkAt; simp [hlt]
      have HX := hd hx
      clear hx
      obtain ⟨bb, o, rfl, -, p0, p1, p2, p3⟩ := (h.below hbel).Title_at hlt
      generalize l[k] = x at p0 p1 p2 p3 HX
      obtain ⟨a, b, c, d⟩ := x
      dsimp only at p0 p1 p2 p3
      have hs := (h.below hbel).alloc (.cells #[.int .i64 a, .string b, .int .i64 c, .int .i64 d] 95)
      have hbel' := hbel.alloc hbel.size (.cells #[.int .i64 a, .string b, .int .i64 c, .int .i64 d] 95)
      have gA := gro_cell (new_cell wr #[.int .i64 a, .string b, .int .i64 c, .int .i64 d] 95 0 _ rfl)
      have gB := gro_cell (new_cell wr #[.int .i64 a, .string b, .int .i64 c, .int .i64 d] 95 1 _ rfl)
      have gC := gro_cell (new_cell wr #[.int .i64 a, .string b, .int .i64 c, .int .i64 d] 95 2 _ rfl)
      have gD := gro_cell (new_cell wr #[.int .i64 a, .string b, .int .i64 c, .int .i64 d] 95 3 _ rfl)
      rcases h1 : okTitleB (a, b, c, d) with _ | _
      · go_wp2_with fail
        refine wp_region_calm (by kernel_rfl) (by kernel_rfl) ?_
        repeat (first | go_big_quiet_step ((first | (go_at_call 123; exact calm_title_impl _ _ _ _ _ _))) | quiet_step ((first | (go_at_call 123; exact calm_title_impl _ _ _ _ _ _))))
        refine wpQuiet_nil ?_
        rintro w1 ⟨xw, rfl⟩
        have hb1 := below_step hbel' (gro_below xw)
        go_wp2_with fail
        go_ret
        exact ⟨by rw [okTitles_bad hlt (by rw [HX.out]; simp [titleBad, h1])]; rfl, hb1⟩
      by_cases hk0 : k = 0
      · have hz : decide ((0 : Int) < (k : Int)) = false := by simp [hk0]
        have hz' : decide (0 < k) = false := by simp [hk0]
        have HK := hd hk0
        clear hk0
        go_wp2_with fail
        refine wp_region_calm (by kernel_rfl) (by kernel_rfl) ?_
        repeat (first | go_big_quiet_step ((first | (go_at_call 123; exact calm_title_impl _ _ _ _ _ _))) | quiet_step ((first | (go_at_call 123; exact calm_title_impl _ _ _ _ _ _))))
        refine wpQuiet_nil ?_
        rintro w1 ⟨xw, rfl⟩
        have hb1 := below_step hbel' (gro_below xw)
        go_wp2_with fail
        go_roundw
        case rel => exact ⟨k + 1, by omega, by go_num, hb1, hd (allTo_step HT.out (by rw [HX.out]; simp [titleBad, h1, HK.out]))⟩
        case measure => simp [intOf]; omega
      · have hz : decide ((0 : Int) < (k : Int)) = true := by simp; omega
        have hkp : 0 < k := by omega
        have hlt1 : k - 1 < l.length := by omega
        obtain ⟨b', o', hA', -, q0, -, -, -⟩ := hs.Title_at hlt1
        have hy : l.getD (k - 1) noT = l[k - 1] := by simp [hlt1]
        rw [hy] at HX
        clear hy hk0
        injection hA' with hA'
        injection hA' with hb' ho' _
        subst hb' ho'
        generalize l[k - 1] = y at q0 HX
        obtain ⟨ya, yb, yc, yd⟩ := y
        dsimp only at q0
        have gE := gro_cell q0
        rcases h3 : decide (a ≤ ya) with _ | _
        · go_wp2_with fail
          refine wp_region_calm (by kernel_rfl) (by kernel_rfl) ?_
          repeat (first | go_big_quiet_step ((first | (go_at_call 123; exact calm_title_impl _ _ _ _ _ _))) | quiet_step ((first | (go_at_call 123; exact calm_title_impl _ _ _ _ _ _))))
          refine wpQuiet_nil ?_
          rintro w1 ⟨xw, rfl⟩
          have hb1 := below_step hbel' (gro_below xw)
          go_wp2_with fail
          go_roundw
          case rel => exact ⟨k + 1, by omega, by go_num, hb1, hd (allTo_step HT.out (by rw [HX.out]; simp [titleBad, h1, h3]))⟩
          case measure => simp [intOf]; omega
        · go_wp2_with fail
          refine wp_region_calm (by kernel_rfl) (by kernel_rfl) ?_
          repeat (first | go_big_quiet_step ((first | (go_at_call 123; exact calm_title_impl _ _ _ _ _ _))) | quiet_step ((first | (go_at_call 123; exact calm_title_impl _ _ _ _ _ _))))
          refine wpQuiet_nil ?_
          rintro w1 ⟨xw, rfl⟩
          have hb1 := below_step hbel' (gro_below xw)
          go_wp2_with fail
          go_ret
          exact ⟨by rw [okTitles_bad hlt (by rw [HX.out]; simp [titleBad, h1, h3, hkp])]; rfl, hb1⟩
    · have hall : allTo (titleOkAt l) l.length = true := allTo_true (fun i hi => HT.out i (by omega))
      have HA := hd hall
      clear hall
      have HE := hd (show okTitles l = decide ((l.length : Int) ≤ 20) by simp only [okTitles, HA.out, Bool.true_and]; exact decide_eq_decide.2 (by omega))
      go_wp2_with fail
      go_ret
      exact ⟨by rw [HE.out]; rfl, hbel⟩

set_option maxHeartbeats 4000000 in
theorem titles_spec0 (w : World) (v : Value) (l : List TTitle) (h : Sl w 4 v eTitle l) :
    Calls Tryz.prog 92 #[v] w fun e w' => e = .returned (.bool (okTitles l)) ∧ Below w.heap.size w w' := by
  have m1 := h.len
  obtain ⟨-, A, c, rfl, -, -, -⟩ := id h
  go_enter Tryz.func92, Tryz.ntmps92
  go_wp2_with fail
  go_loopw [3] (fun i wr => ∃ k : Nat, k ≤ l.length ∧ i = .int .i64 k ∧ Below w.heap.size w wr ∧ Hid (∀ j, j < k → titleOkAt l j = true)) (fun i _ => l.length - (intOf i).toNat)
  case atStart => exact ⟨0, Nat.zero_le _, rfl, Below.refl _ _, hd (by omega)⟩
  case round =>
    obtain ⟨k, hk, rfl, hbel, HT⟩ := hrel
    by_cases hlt : k < l.length
    · have hx : titleOkAt l k = !titleBad k (l.getD (k - 1) noT) l[k] := by unfold titleOkAt; simp [hlt]
      have HX := hd hx
      clear hx
      obtain ⟨bb, o, rfl, -, p0, p1, p2, p3⟩ := (h.below hbel).Title_at hlt
      generalize l[k] = x at p0 p1 p2 p3 HX
      obtain ⟨a, b, c, d⟩ := x
      dsimp only at p0 p1 p2 p3
      have hs := h.below hbel
      have gA := gro_cell p0
      have gB := gro_cell p1
      have gC := gro_cell p2
      have gD := gro_cell p3
      rcases h1 : okTitleB (a, b, c, d) with _ | _
      · go_wp2_with fail
        refine wp_region_calm (by kernel_rfl) (by kernel_rfl) ?_
        repeat (first | go_big_quiet_step ((first | (go_at_call 159; exact calm_of (oneT_spec _ _ _ _ _ _ _ (gA _) (gB _) (gC _) (gD _))))) | quiet_step ((first | (go_at_call 159; exact calm_of (oneT_spec _ _ _ _ _ _ _ (gA _) (gB _) (gC _) (gD _))))))
        refine wpQuiet_nil ?_
        rintro w1 ⟨xw, rfl⟩
        have hb1 := below_step hbel (gro_below xw)
        go_wp2_with fail
        go_ret
        exact ⟨by rw [okTitles_bad hlt (by rw [HX.out]; simp [titleBad, h1])]; rfl, hb1⟩
      by_cases hk0 : k = 0
      · have hz : decide ((0 : Int) < (k : Int)) = false := by simp [hk0]
        have hz' : decide (0 < k) = false := by simp [hk0]
        have HK := hd hk0
        clear hk0
        go_wp2_with fail
        refine wp_region_calm (by kernel_rfl) (by kernel_rfl) ?_
        repeat (first | go_big_quiet_step ((first | (go_at_call 159; exact calm_of (oneT_spec _ _ _ _ _ _ _ (gA _) (gB _) (gC _) (gD _))))) | quiet_step ((first | (go_at_call 159; exact calm_of (oneT_spec _ _ _ _ _ _ _ (gA _) (gB _) (gC _) (gD _))))))
        refine wpQuiet_nil ?_
        rintro w1 ⟨xw, rfl⟩
        have hb1 := below_step hbel (gro_below xw)
        go_wp2_with fail
        go_roundw
        case rel => exact ⟨k + 1, by omega, by go_num, hb1, hd (allTo_step HT.out (by rw [HX.out]; simp [titleBad, h1, HK.out]))⟩
        case measure => simp [intOf]; omega
      · have hz : decide ((0 : Int) < (k : Int)) = true := by simp; omega
        have hkp : 0 < k := by omega
        have hlt1 : k - 1 < l.length := by omega
        obtain ⟨b', o', hA', -, q0, -, -, -⟩ := hs.Title_at hlt1
        have hy : l.getD (k - 1) noT = l[k - 1] := by simp [hlt1]
        rw [hy] at HX
        clear hy hk0
        injection hA' with hA'
        injection hA' with hb' ho' _
        subst hb' ho'
        generalize l[k - 1] = y at q0 HX
        obtain ⟨ya, yb, yc, yd⟩ := y
        dsimp only at q0
        have gE := gro_cell q0
        rcases h3 : decide (a ≤ ya) with _ | _
        · go_wp2_with fail
          refine wp_region_calm (by kernel_rfl) (by kernel_rfl) ?_
          repeat (first | go_big_quiet_step ((first | (go_at_call 159; exact calm_of (oneT_spec _ _ _ _ _ _ _ (gA _) (gB _) (gC _) (gD _))))) | quiet_step ((first | (go_at_call 159; exact calm_of (oneT_spec _ _ _ _ _ _ _ (gA _) (gB _) (gC _) (gD _))))))
          refine wpQuiet_nil ?_
          rintro w1 ⟨xw, rfl⟩
          have hb1 := below_step hbel (gro_below xw)
          go_wp2_with fail
          go_roundw
          case rel => exact ⟨k + 1, by omega, by go_num, hb1, hd (allTo_step HT.out (by rw [HX.out]; simp [titleBad, h1, h3]))⟩
          case measure => simp [intOf]; omega
        · go_wp2_with fail
          refine wp_region_calm (by kernel_rfl) (by kernel_rfl) ?_
          repeat (first | go_big_quiet_step ((first | (go_at_call 159; exact calm_of (oneT_spec _ _ _ _ _ _ _ (gA _) (gB _) (gC _) (gD _))))) | quiet_step ((first | (go_at_call 159; exact calm_of (oneT_spec _ _ _ _ _ _ _ (gA _) (gB _) (gC _) (gD _))))))
          refine wpQuiet_nil ?_
          rintro w1 ⟨xw, rfl⟩
          have hb1 := below_step hbel (gro_below xw)
          go_wp2_with fail
          go_ret
          exact ⟨by rw [okTitles_bad hlt (by rw [HX.out]; simp [titleBad, h1, h3, hkp])]; rfl, hb1⟩
    · have hall : allTo (titleOkAt l) l.length = true := allTo_true (fun i hi => HT.out i (by omega))
      have HA := hd hall
      clear hall
      have HE := hd (show okTitles l = decide ((l.length : Int) ≤ 20) by simp only [okTitles, HA.out, Bool.true_and]; exact decide_eq_decide.2 (by omega))
      go_wp2_with fail
      go_ret
      exact ⟨by rw [HE.out]; rfl, hbel⟩

end Go.Proofs.YtgcodjkjdfahdaaGreatDoor

/- Cues, plain: the walk through all shifts and the walk that turns back early end alike. No condition. -/
namespace Go.Proofs.YtgcodjkjdfahdaaGreatDoor
set_option linter.unusedSimpArgs false
set_option linter.unusedVariables false

/-- the hands that a cue needs at a tick -/
def handC (t : Int) (x : TCue) : Int := if x.1 ≤ t ∧ t < x.1 + x.2.1 then x.2.2.1 else 0
def handsL (t : Int) : List TCue → Int
  | [] => 0
  | x :: l => handC t x + handsL t l
theorem handsL_append (t : Int) (a b : List TCue) : handsL t (a ++ b) = handsL t a + handsL t b := by
  induction a with
  | nil => simp [handsL]
  | cons x a ih => simp only [List.cons_append, handsL, ih]; omega
/-- cues that may be shifted within a list -/
def bdCue (x : TCue) : Prop := (0 ≤ x.1 ∧ x.1 ≤ 20000) ∧ (0 ≤ x.2.1 ∧ x.2.1 ≤ 1000) ∧ (0 ≤ x.2.2.1 ∧ x.2.2.1 ≤ 4)
theorem handC_bd {x : TCue} (h : bdCue x) (t : Int) : 0 ≤ handC t x ∧ handC t x ≤ 4 := by
  obtain ⟨-, -, h1, h2⟩ := h
  unfold handC
  split <;> omega
theorem handsL_bd {l : List TCue} (h : ∀ x ∈ l, bdCue x) (t : Int) : 0 ≤ handsL t l ∧ handsL t l ≤ 4 * l.length := by
  induction l with
  | nil => simp [handsL]
  | cons x l ih =>
    have h1 := handC_bd (h x (by simp)) t
    have h2 := ih (fun y hy => h y (by simp [hy]))
    simp only [handsL, List.length_cons]
    omega
theorem handsL_take (t : Int) (l : List TCue) (k : Nat) (hk : k < l.length) : handsL t (l.take (k + 1)) = handsL t (l.take k) + handC t l[k] := by
  rw [List.take_succ_eq_append_getElem hk, handsL_append]
  simp [handsL]
/-- the most hands at the beginnings of cues -/
def mostTo (l : List TCue) (m : List TCue) : Int := m.foldl (fun a c => max a (handsL c.1 l)) 0
def mostL (l : List TCue) : Int := mostTo l l
theorem mostTo_take (l : List TCue) (k : Nat) (hk : k < l.length) : mostTo l (l.take (k + 1)) = max (mostTo l (l.take k)) (handsL l[k].1 l) := by
  unfold mostTo
  rw [List.take_succ_eq_append_getElem hk, List.foldl_append]
  rfl
theorem foldl_max_le {f : TCue → Int} {h : Int} (m : List TCue) (a : Int) : m.foldl (fun a c => max a (f c)) a ≤ h ↔ a ≤ h ∧ ∀ c ∈ m, f c ≤ h := by
  induction m generalizing a with
  | nil => simp
  | cons x m ih =>
    rw [List.foldl_cons, ih]
    simp only [List.mem_cons, forall_eq_or_imp]
    constructor
    · rintro ⟨h1, h2⟩; exact ⟨by omega, by omega, h2⟩
    · rintro ⟨h1, h2, h3⟩; exact ⟨by omega, h3⟩
theorem mostTo_le {l m : List TCue} {h : Int} (h0 : 0 ≤ h) : mostTo l m ≤ h ↔ ∀ c ∈ m, handsL c.1 l ≤ h := by
  unfold mostTo
  rw [foldl_max_le]
  exact ⟨fun h => h.2, fun h => ⟨h0, h⟩⟩
theorem foldl_max_ge {f : TCue → Int} (m : List TCue) (a : Int) : a ≤ m.foldl (fun a c => max a (f c)) a := by
  induction m generalizing a with
  | nil => simp
  | cons x m ih => rw [List.foldl_cons]; have := ih (max a (f x)); omega
theorem mostTo_bd {l m : List TCue} (h : ∀ x ∈ l, bdCue x) (hl : l.length ≤ 6) : 0 ≤ mostTo l m ∧ mostTo l m ≤ 24 := by
  refine ⟨foldl_max_ge _ _, (mostTo_le (by omega)).2 fun c _ => ?_⟩
  have := (handsL_bd h c.1).2
  omega
theorem mostL_more {a b : List TCue} {h : Int} (h0 : 0 ≤ h) (hb : ∀ x ∈ b, bdCue x) (hm : h < mostL a) : h < mostL (a ++ b) := by
  rcases Int.lt_or_le h (mostL (a ++ b)) with h1 | h1
  · exact h1
  · exfalso
    have h2 := (mostTo_le h0).1 h1
    have h3 : mostL a ≤ h := (mostTo_le h0).2 fun c hc => by
      have := h2 c (by simp [hc])
      rw [handsL_append] at this
      have := (handsL_bd hb c.1).1
      omega
    omega
def shiftC (x : TCue) (by_ : Int) : TCue := (x.1 + by_, x.2.1, x.2.2.1, x.2.2.2 - by_)
def shiftL (l : List TCue) (sh : List Int) : List TCue := List.zipWith shiftC l sh
def sumZ : List Int → Int
  | [] => 0
  | x :: l => x + sumZ l
theorem sumZ_append (a b : List Int) : sumZ (a ++ b) = sumZ a + sumZ b := by
  induction a with
  | nil => simp [sumZ]
  | cons x a ih => simp only [List.cons_append, sumZ, ih]; omega
theorem sumZ_snoc (a : List Int) (x : Int) : sumZ (a ++ [x]) = sumZ a + x := by rw [sumZ_append]; simp [sumZ]
/-- what is kept: the best shifts so far and their sum, below 0 where there are none -/
abbrev TBest := List Int × Int
def better (st : TBest) (s : Int) : Bool := decide (st.2 < 0) || decide (s < st.2)
def stepS (l : List TCue) (h : Int) (st : TBest) (sh : List Int) : TBest := if better st (sumZ sh) && decide (mostL (shiftL l sh) ≤ h) then (sh, sumZ sh) else st
/-- the shifts of a cue -/
def rangeI (n : Int) : List Int := (List.range (n + 1).toNat).map fun (k : Nat) => (k : Int)
theorem rangeI_mem {n x : Int} (h : x ∈ rangeI n) : 0 ≤ x ∧ x ≤ n := by
  unfold rangeI at h
  obtain ⟨k, hk, rfl⟩ := List.mem_map.1 h
  have := List.mem_range.1 hk
  omega
/-- all shifts -/
def walkS (l : List TCue) (h : Int) : List TCue → List Int → TBest → TBest
  | [], done, st => stepS l h st done
  | x :: rest, done, st => (rangeI x.2.2.2).foldl (fun st b => walkS l h rest (done ++ [b]) st) st
/-- the walk that turns back -/
def stops (h : Int) (dn : List TCue) (s : Int) (st : TBest) : Bool := (decide (0 ≤ st.2) && decide (st.2 ≤ s)) || decide (h < mostL dn)
def walkP (h : Int) : List TCue → List TCue → List Int → Int → TBest → TBest
  | [], dn, sh, s, st => if stops h dn s st then st else (sh, s)
  | x :: rest, dn, sh, s, st => if stops h dn s st then st else (rangeI x.2.2.2).foldl (fun st b => walkP h rest (dn ++ [shiftC x b]) (sh ++ [b]) (s + b) st) st
theorem foldl_still {α β : Type} (f : β → α → β) (l : List α) (b : β) (h : ∀ x ∈ l, f b x = b) : l.foldl f b = b := by
  induction l with
  | nil => rfl
  | cons x l ih => rw [List.foldl_cons, h x (by simp)]; exact ih fun y hy => h y (by simp [hy])
theorem foldl_same {α β : Type} (f g : β → α → β) (l : List α) (b : β) (h : ∀ x ∈ l, ∀ b, f b x = g b x) : l.foldl f b = l.foldl g b := by
  induction l generalizing b with
  | nil => rfl
  | cons x l ih => rw [List.foldl_cons, List.foldl_cons, h x (by simp)]; exact ih _ fun y hy => h y (by simp [hy])
theorem shiftL_snoc (pre : List TCue) (x : TCue) (sh : List Int) (b : Int) (hl : sh.length = pre.length) : shiftL (pre ++ [x]) (sh ++ [b]) = shiftL pre sh ++ [shiftC x b] := by
  unfold shiftL
  rw [List.zipWith_append hl.symm]
  rfl
/-- a cue of a valid list -/
def okC (x : TCue) : Prop := (0 ≤ x.1 ∧ x.1 ≤ 10000) ∧ (1 ≤ x.2.1 ∧ x.2.1 ≤ 1000) ∧ (1 ≤ x.2.2.1 ∧ x.2.2.1 ≤ 4) ∧ (0 ≤ x.2.2.2 ∧ x.2.2.2 ≤ 6)
theorem bd_ok {x : TCue} {b : Int} (h : okC x) (hb : 0 ≤ b ∧ b ≤ 6) : bdCue (shiftC x b) := by
  obtain ⟨h1, h2, h3, h4⟩ := h
  refine ⟨⟨?_, ?_⟩, ⟨?_, ?_⟩, ⟨?_, ?_⟩⟩ <;> simp only [shiftC] <;> omega
theorem still_sum (l : List TCue) (h : Int) (rest : List TCue) : ∀ (sh : List Int) (st : TBest), 0 ≤ st.2 → st.2 ≤ sumZ sh → walkS l h rest sh st = st := by
  induction rest with
  | nil =>
    intro sh st h0 h1
    have e : better st (sumZ sh) = false := by
      unfold better
      rw [decide_eq_false (by omega), decide_eq_false (by omega)]
      rfl
    unfold walkS stepS
    rw [e]
    rfl
  | cons x rest ih =>
    intro sh st h0 h1
    unfold walkS
    refine foldl_still _ _ _ fun b hb => ih _ _ h0 ?_
    rw [sumZ_snoc]
    have := (rangeI_mem hb).1
    omega
theorem still_most (h : Int) (h0 : 0 ≤ h) (rest : List TCue) : ∀ (pre : List TCue) (sh : List Int) (st : TBest), (∀ x ∈ rest, okC x) → sh.length = pre.length → h < mostL (shiftL pre sh) → walkS (pre ++ rest) h rest sh st = st := by
  induction rest with
  | nil =>
    intro pre sh st _ hl hm
    unfold walkS stepS
    rw [List.append_nil, decide_eq_false (by omega), Bool.and_false]
    rfl
  | cons x rest ih =>
    intro pre sh st hok hl hm
    unfold walkS
    refine foldl_still _ _ _ fun b hb => ?_
    have hx := hok x (by simp)
    have hbb := rangeI_mem hb
    have e : pre ++ x :: rest = (pre ++ [x]) ++ rest := by simp
    rw [e]
    refine ih (pre ++ [x]) (sh ++ [b]) st (fun y hy => hok y (by simp [hy])) (by simp [hl]) ?_
    rw [shiftL_snoc _ _ _ _ hl]
    refine mostL_more h0 (fun y hy => ?_) hm
    rw [List.mem_singleton.1 hy]
    exact bd_ok hx (by have := hx.2.2.2.2; omega)
theorem walkP_eq (h : Int) (h0 : 0 ≤ h) (rest : List TCue) : ∀ (pre : List TCue) (sh : List Int) (st : TBest), (∀ x ∈ rest, okC x) → sh.length = pre.length →
    walkP h rest (shiftL pre sh) sh (sumZ sh) st = walkS (pre ++ rest) h rest sh st := by
  induction rest with
  | nil =>
    intro pre sh st hok hl
    unfold walkP walkS stepS stops better
    rw [List.append_nil]
    by_cases h1 : 0 ≤ st.2 ∧ st.2 ≤ sumZ sh
    · rw [decide_eq_true h1.1, decide_eq_true h1.2, decide_eq_false (show ¬ st.2 < 0 by omega), decide_eq_false (show ¬ sumZ sh < st.2 by omega)]
      rfl
    · have e1 : (decide (0 ≤ st.2) && decide (st.2 ≤ sumZ sh)) = false := by simpa using h1
      have e2 : (decide (st.2 < 0) || decide (sumZ sh < st.2)) = true := by simp; omega
      rw [e1, e2]
      by_cases h2 : h < mostL (shiftL pre sh)
      · rw [decide_eq_true h2, decide_eq_false (show ¬ mostL (shiftL pre sh) ≤ h by omega)]
        rfl
      · rw [decide_eq_false h2, decide_eq_true (show mostL (shiftL pre sh) ≤ h by omega)]
        rfl
  | cons x rest ih =>
    intro pre sh st hok hl
    unfold walkP
    by_cases h1 : 0 ≤ st.2 ∧ st.2 ≤ sumZ sh
    · rw [still_sum _ _ _ _ _ h1.1 h1.2]
      unfold stops
      rw [decide_eq_true h1.1, decide_eq_true h1.2]
      rfl
    by_cases h2 : h < mostL (shiftL pre sh)
    · rw [still_most h h0 _ _ _ _ hok hl h2]
      unfold stops
      rw [decide_eq_true h2, Bool.or_true]
      rfl
    have e : stops h (shiftL pre sh) (sumZ sh) st = false := by
      unfold stops
      rw [decide_eq_false h2, Bool.or_false]
      simpa using h1
    rw [e]
    unfold walkS
    refine foldl_same _ _ _ _ fun b hb st' => ?_
    have e2 : pre ++ x :: rest = (pre ++ [x]) ++ rest := by simp
    rw [e2, ← ih (pre ++ [x]) (sh ++ [b]) st' (fun y hy => hok y (by simp [hy])) (by simp [hl]), shiftL_snoc _ _ _ _ hl, sumZ_snoc]
end Go.Proofs.YtgcodjkjdfahdaaGreatDoor

/- Valid entries of a log: the reference and the program say of the same entries that they are valid. No condition. -/
namespace Go.Proofs.YtgcodjkjdfahdaaGreatDoor
open Go Go.RowKit Go.ChangeShapes Go.WideShapes
set_option linter.unusedSimpArgs false
set_option linter.unusedVariables false

def okEntryB (x : TEntry) : Bool := inB x.1 0 100000 && (isNameB x.2.1 && inB x.2.2 (-1000000) 1000000)

set_option maxHeartbeats 1000000 in
theorem entry_impl (w : World) (a : Int) (b : ByteArray) (c : Int) :
    Calls Tryz.prog 210 #[.agg #[.int .i64 a, .string b, .int .i64 c]] w fun e w' => e = .returned (.bool (okEntryB (a, b, c))) ∧ Below w.heap.size w w' := by
  rcases h1 : inB a 0 100000 with _ | _
  · go_enter Tryz.func210, Tryz.ntmps210
    go_wp2_with (first | (go_at_call 67; refine (in_impl _ _ _ _).mono ?_; rintro e w1 ⟨rfl, hw⟩; have hw := hw.symm; subst hw) | (go_at_call 153; refine (name_impl _ _).mono ?_; rintro e w1 ⟨rfl, hw⟩; have hw := hw.symm; subst hw))
    go_ret
    exact ⟨by simp [okEntryB, h1], (Below.refl _ _).alloc (Nat.le_refl _) _⟩
  rcases h2 : isNameB b with _ | _
  · go_enter Tryz.func210, Tryz.ntmps210
    go_wp2_with (first | (go_at_call 67; refine (in_impl _ _ _ _).mono ?_; rintro e w1 ⟨rfl, hw⟩; have hw := hw.symm; subst hw) | (go_at_call 153; refine (name_impl _ _).mono ?_; rintro e w1 ⟨rfl, hw⟩; have hw := hw.symm; subst hw))
    go_ret
    exact ⟨by simp [okEntryB, h1, h2], (Below.refl _ _).alloc (Nat.le_refl _) _⟩
  rcases h3 : inB c (-1000000) 1000000 with _ | _
  · go_enter Tryz.func210, Tryz.ntmps210
    go_wp2_with (first | (go_at_call 67; refine (in_impl _ _ _ _).mono ?_; rintro e w1 ⟨rfl, hw⟩; have hw := hw.symm; subst hw) | (go_at_call 153; refine (name_impl _ _).mono ?_; rintro e w1 ⟨rfl, hw⟩; have hw := hw.symm; subst hw))
    go_ret
    exact ⟨by simp [okEntryB, h1, h2, h3], (Below.refl _ _).alloc (Nat.le_refl _) _⟩
  · go_enter Tryz.func210, Tryz.ntmps210
    go_wp2_with (first | (go_at_call 67; refine (in_impl _ _ _ _).mono ?_; rintro e w1 ⟨rfl, hw⟩; have hw := hw.symm; subst hw) | (go_at_call 153; refine (name_impl _ _).mono ?_; rintro e w1 ⟨rfl, hw⟩; have hw := hw.symm; subst hw))
    go_ret
    exact ⟨by simp [okEntryB, h1, h2, h3], (Below.refl _ _).alloc (Nat.le_refl _) _⟩

theorem day_spec (n : Int) (w : World) : Calls Tryz.prog 262 #[.int .i64 n] w fun e w' => e = .returned (.bool (inB n 0 100000)) ∧ w' = w := by
  go_enter Tryz.func262, Tryz.ntmps262
  go_wp2_with (go_at_call 158; refine (in_spec _ _ _ _).mono ?_; rintro e w' ⟨rfl, rfl⟩)
  go_ret
  exact ⟨rfl, rfl⟩
set_option maxHeartbeats 1000000 in
theorem okE_spec (w : World) (g off : Nat) (a : Int) (b : ByteArray) (c : Int) (p0 : w.cell? ⟨g, off, none⟩ = some (.int .i64 a)) (p1 : w.cell? ⟨g, off + 1, none⟩ = some (.string b)) (p2 : w.cell? ⟨g, off + 2, none⟩ = some (.int .i64 c)) :
    Calls Tryz.prog 223 #[.pointer (some ⟨g, off, none⟩)] w fun e w' => e = .returned (.bool (okEntryB (a, b, c))) ∧ w' = w := by
  rcases h1 : inB a 0 100000 with _ | _
  · go_enter Tryz.func223, Tryz.ntmps223
    go_wp2_with (first | (go_at_call 158; refine (in_spec _ _ _ _).mono ?_; rintro e w1 ⟨rfl, hw⟩; have hw := hw.symm; subst hw) | (go_at_call 213; refine (name_spec _ _).mono ?_; rintro e w1 ⟨rfl, hw⟩; have hw := hw.symm; subst hw) | (go_at_call 262; refine (day_spec _ _).mono ?_; rintro e w1 ⟨rfl, hw⟩; have hw := hw.symm; subst hw))
    go_ret
    exact ⟨by simp [okEntryB, h1], rfl⟩
  rcases h2 : isNameB b with _ | _
  · go_enter Tryz.func223, Tryz.ntmps223
    go_wp2_with (first | (go_at_call 158; refine (in_spec _ _ _ _).mono ?_; rintro e w1 ⟨rfl, hw⟩; have hw := hw.symm; subst hw) | (go_at_call 213; refine (name_spec _ _).mono ?_; rintro e w1 ⟨rfl, hw⟩; have hw := hw.symm; subst hw) | (go_at_call 262; refine (day_spec _ _).mono ?_; rintro e w1 ⟨rfl, hw⟩; have hw := hw.symm; subst hw))
    go_ret
    exact ⟨by simp [okEntryB, h1, h2], rfl⟩
  rcases h3 : inB c (-1000000) 1000000 with _ | _
  · go_enter Tryz.func223, Tryz.ntmps223
    go_wp2_with (first | (go_at_call 158; refine (in_spec _ _ _ _).mono ?_; rintro e w1 ⟨rfl, hw⟩; have hw := hw.symm; subst hw) | (go_at_call 213; refine (name_spec _ _).mono ?_; rintro e w1 ⟨rfl, hw⟩; have hw := hw.symm; subst hw) | (go_at_call 262; refine (day_spec _ _).mono ?_; rintro e w1 ⟨rfl, hw⟩; have hw := hw.symm; subst hw))
    go_ret
    exact ⟨by simp [okEntryB, h1, h2, h3], rfl⟩
  · go_enter Tryz.func223, Tryz.ntmps223
    go_wp2_with (first | (go_at_call 158; refine (in_spec _ _ _ _).mono ?_; rintro e w1 ⟨rfl, hw⟩; have hw := hw.symm; subst hw) | (go_at_call 213; refine (name_spec _ _).mono ?_; rintro e w1 ⟨rfl, hw⟩; have hw := hw.symm; subst hw) | (go_at_call 262; refine (day_spec _ _).mono ?_; rintro e w1 ⟨rfl, hw⟩; have hw := hw.symm; subst hw))
    go_ret
    exact ⟨by simp [okEntryB, h1, h2, h3], rfl⟩

end Go.Proofs.YtgcodjkjdfahdaaGreatDoor
