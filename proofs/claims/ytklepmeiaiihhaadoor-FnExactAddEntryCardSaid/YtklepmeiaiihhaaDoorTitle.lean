/- Titles of a catalogue: the reference and the program say of the same titles and lists that they are valid. No condition but that the slices read. -/
import Derived.Test.YtklepmeiaiihhaaDoorName
import Derived.Test.YtklepmeiaiihhaaDoorSTitle
namespace Go.Proofs.YtklepmeiaiihhaaDoor
open Go Go.RowKit Go.ChangeShapes Go.WideShapes
set_option linter.unusedSimpArgs false
set_option linter.unusedVariables false

def okTitleB (x : TTitle) : Bool := inB x.1 1 9999 && (isNameB x.2.1 && (inB x.2.2.1 1 30 && inB x.2.2.2 0 x.2.2.1))
def noT : TTitle := (0, ByteArray.empty, 0, 0)
def titleBad (i : Nat) (y x : TTitle) : Bool := !okTitleB x || (decide (0 < i) && decide (x.1 ≤ y.1))
def titleOkAt (l : List TTitle) (i : Nat) : Bool := !titleBad i (l.getD (i - 1) noT) (l.getD i noT)
def okTitles (l : List TTitle) : Bool := allTo (titleOkAt l) l.length && decide (l.length ≤ 20)
theorem okTitles_bad {l : List TTitle} {k : Nat} (hk : k < l.length) (h : titleOkAt l k = false) : okTitles l = false := by simp [okTitles, allTo_false hk h]
theorem okTitles_len {l : List TTitle} (h : okTitles l = true) : l.length ≤ 20 := by simp [okTitles] at h; exact h.2
theorem okTitles_at {l : List TTitle} (h : okTitles l = true) (k : Nat) (hk : k < l.length) : okTitleB l[k] = true := by
  simp only [okTitles, Bool.and_eq_true] at h
  have := allTo_get h.1 k hk
  simp [titleOkAt, titleBad, hk] at this
  exact this.1
theorem okTitles_lt {l : List TTitle} (h : okTitles l = true) (k : Nat) (hk : k + 1 < l.length) : l[k].1 < l[k + 1].1 := by
  simp only [okTitles, Bool.and_eq_true] at h
  have := allTo_get h.1 (k + 1) hk
  have hk' : k < l.length := by omega
  simp [titleOkAt, titleBad, hk, hk'] at this
  omega
theorem okTitles_lt' {l : List TTitle} (h : okTitles l = true) (i : Nat) : ∀ n, (hn : i + n + 1 < l.length) → l[i].1 < l[i + n + 1].1 := by
  intro n
  induction n with
  | zero => exact fun hn => okTitles_lt h i hn
  | succ n ih =>
    intro hn
    have h1 := ih (by omega)
    have h2 := okTitles_lt h (i + n + 1) hn
    exact Int.lt_trans h1 h2
theorem okTitles_mono {l : List TTitle} (h : okTitles l = true) {i j : Nat} (hij : i < j) (hj : j < l.length) : l[i].1 < l[j].1 := by
  obtain ⟨n, rfl⟩ : ∃ n, j = i + n + 1 := ⟨j - i - 1, by omega⟩
  exact okTitles_lt' h i n hj
theorem okTitleB_bd {x : TTitle} (h : okTitleB x = true) : (1 ≤ x.1 ∧ x.1 ≤ 9999) ∧ isNameB x.2.1 = true ∧ (1 ≤ x.2.2.1 ∧ x.2.2.1 ≤ 30) ∧ (0 ≤ x.2.2.2 ∧ x.2.2.2 ≤ x.2.2.1) := by
  simp only [okTitleB, Bool.and_eq_true] at h
  exact ⟨inB_true h.1, h.2.1, inB_true h.2.2.1, inB_true h.2.2.2⟩

set_option maxHeartbeats 1000000 in
theorem title_impl (w : World) (a : Int) (b : ByteArray) (c d : Int) :
    Calls Tryd.prog 81 #[.agg #[.int .i64 a, .string b, .int .i64 c, .int .i64 d]] w fun e w' => e = .returned (.bool (okTitleB (a, b, c, d))) ∧ Below w.heap.size w w' := by
  rcases h1 : inB a 1 9999 with _ | _
  · go_enter Tryd.func81, Tryd.ntmps81
    go_wp2_with (first | (go_at_call 49; refine (in_impl _ _ _ _).mono ?_; rintro e w1 ⟨rfl, hw⟩; have hw := hw.symm; subst hw) | (go_at_call 60; refine (name_impl _ _).mono ?_; rintro e w1 ⟨rfl, hw⟩; have hw := hw.symm; subst hw))
    go_ret
    exact ⟨by simp [okTitleB, h1], (Below.refl _ _).alloc (Nat.le_refl _) _⟩
  rcases h2 : isNameB b with _ | _
  · go_enter Tryd.func81, Tryd.ntmps81
    go_wp2_with (first | (go_at_call 49; refine (in_impl _ _ _ _).mono ?_; rintro e w1 ⟨rfl, hw⟩; have hw := hw.symm; subst hw) | (go_at_call 60; refine (name_impl _ _).mono ?_; rintro e w1 ⟨rfl, hw⟩; have hw := hw.symm; subst hw))
    go_ret
    exact ⟨by simp [okTitleB, h1, h2], (Below.refl _ _).alloc (Nat.le_refl _) _⟩
  rcases h3 : inB c 1 30 with _ | _
  · go_enter Tryd.func81, Tryd.ntmps81
    go_wp2_with (first | (go_at_call 49; refine (in_impl _ _ _ _).mono ?_; rintro e w1 ⟨rfl, hw⟩; have hw := hw.symm; subst hw) | (go_at_call 60; refine (name_impl _ _).mono ?_; rintro e w1 ⟨rfl, hw⟩; have hw := hw.symm; subst hw))
    go_ret
    exact ⟨by simp [okTitleB, h1, h2, h3], (Below.refl _ _).alloc (Nat.le_refl _) _⟩
  rcases h4 : inB d 0 c with _ | _
  · go_enter Tryd.func81, Tryd.ntmps81
    go_wp2_with (first | (go_at_call 49; refine (in_impl _ _ _ _).mono ?_; rintro e w1 ⟨rfl, hw⟩; have hw := hw.symm; subst hw) | (go_at_call 60; refine (name_impl _ _).mono ?_; rintro e w1 ⟨rfl, hw⟩; have hw := hw.symm; subst hw))
    go_ret
    exact ⟨by simp [okTitleB, h1, h2, h3, h4], (Below.refl _ _).alloc (Nat.le_refl _) _⟩
  · go_enter Tryd.func81, Tryd.ntmps81
    go_wp2_with (first | (go_at_call 49; refine (in_impl _ _ _ _).mono ?_; rintro e w1 ⟨rfl, hw⟩; have hw := hw.symm; subst hw) | (go_at_call 60; refine (name_impl _ _).mono ?_; rintro e w1 ⟨rfl, hw⟩; have hw := hw.symm; subst hw))
    go_ret
    exact ⟨by simp [okTitleB, h1, h2, h3, h4], (Below.refl _ _).alloc (Nat.le_refl _) _⟩

theorem calm_title_impl (w : World) (x : Ext w) (a : Int) (b : ByteArray) (c d : Int) : Calls Tryd.prog 81 #[.agg #[.int .i64 a, .string b, .int .i64 c, .int .i64 d]] (gro w x) fun e w'' => e = .returned (.bool (okTitleB (a, b, c, d))) ∧ ∃ y, w'' = gro w y := calm_of (title_impl _ _ _ _ _)
set_option maxHeartbeats 1000000 in
theorem oneT_spec (w : World) (g off : Nat) (a : Int) (b : ByteArray) (c d : Int) (p0 : w.cell? ⟨g, off, none⟩ = some (.int .i64 a)) (p1 : w.cell? ⟨g, off + 1, none⟩ = some (.string b)) (p2 : w.cell? ⟨g, off + 2, none⟩ = some (.int .i64 c)) (p3 : w.cell? ⟨g, off + 3, none⟩ = some (.int .i64 d)) :
    Calls Tryd.prog 53 #[.pointer (some ⟨g, off, none⟩)] w fun e w' => e = .returned (.bool (okTitleB (a, b, c, d))) ∧ Below w.heap.size w w' := by
  have gA := gro_cell p0
  have gB := gro_cell p1
  have gC := gro_cell p2
  have gD := gro_cell p3
  rcases h1 : inB a 1 9999 with _ | _
  · go_enter Tryd.func53, Tryd.ntmps53
    go_wp2_with fail
    refine wp_region_calm (by kernel_rfl) (by kernel_rfl) ?_
    repeat (first | go_big_quiet_step ((first | (go_at_call 66; exact calm_in_spec _ _ _ _ _) | (go_at_call 79; exact calm_of_same (name_spec _ _)))) | quiet_step ((first | (go_at_call 66; exact calm_in_spec _ _ _ _ _) | (go_at_call 79; exact calm_of_same (name_spec _ _)))))
    refine wpQuiet_nil ?_
    rintro w1 ⟨xw, rfl⟩
    have hb1 := below_step (Below.refl _ _) (gro_below xw)
    go_wp2_with fail
    go_ret
    exact ⟨by simp [okTitleB, h1], hb1⟩
  rcases h2 : isNameB b with _ | _
  · go_enter Tryd.func53, Tryd.ntmps53
    go_wp2_with fail
    refine wp_region_calm (by kernel_rfl) (by kernel_rfl) ?_
    repeat (first | go_big_quiet_step ((first | (go_at_call 66; exact calm_in_spec _ _ _ _ _) | (go_at_call 79; exact calm_of_same (name_spec _ _)))) | quiet_step ((first | (go_at_call 66; exact calm_in_spec _ _ _ _ _) | (go_at_call 79; exact calm_of_same (name_spec _ _)))))
    refine wpQuiet_nil ?_
    rintro w1 ⟨xw, rfl⟩
    have hb1 := below_step (Below.refl _ _) (gro_below xw)
    go_wp2_with fail
    go_ret
    exact ⟨by simp [okTitleB, h1, h2], hb1⟩
  rcases h3 : inB c 1 30 with _ | _
  · go_enter Tryd.func53, Tryd.ntmps53
    go_wp2_with fail
    refine wp_region_calm (by kernel_rfl) (by kernel_rfl) ?_
    repeat (first | go_big_quiet_step ((first | (go_at_call 66; exact calm_in_spec _ _ _ _ _) | (go_at_call 79; exact calm_of_same (name_spec _ _)))) | quiet_step ((first | (go_at_call 66; exact calm_in_spec _ _ _ _ _) | (go_at_call 79; exact calm_of_same (name_spec _ _)))))
    refine wpQuiet_nil ?_
    rintro w1 ⟨xw, rfl⟩
    have hb1 := below_step (Below.refl _ _) (gro_below xw)
    go_wp2_with fail
    go_ret
    exact ⟨by simp [okTitleB, h1, h2, h3], hb1⟩
  rcases h4 : inB d 0 c with _ | _
  · go_enter Tryd.func53, Tryd.ntmps53
    go_wp2_with fail
    refine wp_region_calm (by kernel_rfl) (by kernel_rfl) ?_
    repeat (first | go_big_quiet_step ((first | (go_at_call 66; exact calm_in_spec _ _ _ _ _) | (go_at_call 79; exact calm_of_same (name_spec _ _)))) | quiet_step ((first | (go_at_call 66; exact calm_in_spec _ _ _ _ _) | (go_at_call 79; exact calm_of_same (name_spec _ _)))))
    refine wpQuiet_nil ?_
    rintro w1 ⟨xw, rfl⟩
    have hb1 := below_step (Below.refl _ _) (gro_below xw)
    go_wp2_with fail
    go_ret
    exact ⟨by simp [okTitleB, h1, h2, h3, h4], hb1⟩
  · go_enter Tryd.func53, Tryd.ntmps53
    go_wp2_with fail
    refine wp_region_calm (by kernel_rfl) (by kernel_rfl) ?_
    repeat (first | go_big_quiet_step ((first | (go_at_call 66; exact calm_in_spec _ _ _ _ _) | (go_at_call 79; exact calm_of_same (name_spec _ _)))) | quiet_step ((first | (go_at_call 66; exact calm_in_spec _ _ _ _ _) | (go_at_call 79; exact calm_of_same (name_spec _ _)))))
    refine wpQuiet_nil ?_
    rintro w1 ⟨xw, rfl⟩
    have hb1 := below_step (Below.refl _ _) (gro_below xw)
    go_wp2_with fail
    go_ret
    exact ⟨by simp [okTitleB, h1, h2, h3, h4], hb1⟩

end Go.Proofs.YtklepmeiaiihhaaDoor
