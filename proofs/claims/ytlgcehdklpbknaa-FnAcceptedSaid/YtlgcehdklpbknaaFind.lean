/- A title is found by its number: reference and program alike. No condition but that the slices read. -/
import Derived.Test.YtlgcehdklpbknaaTitle
namespace Go.Proofs.Ytlgcehdklpbknaa
open Go Go.RowKit Go.ChangeShapes Go.WideShapes
set_option linter.unusedSimpArgs false
set_option linter.unusedVariables false

def cmpI (a b : Int) : Int := if a < b then -1 else if b < a then 1 else 0
theorem cmpI_neg {a b : Int} (h : a < b) : cmpI a b = -1 := by simp [cmpI, h]
theorem cmpI_pos {a b : Int} (h : b < a) : cmpI a b = 1 := by simp [cmpI, h]; omega
theorem cmpI_zero {a b : Int} (h : a = b) : cmpI a b = 0 := by simp [cmpI, h]
theorem cmpI_lt (a b : Int) : decide (cmpI a b < 0) = decide (a < b) := by unfold cmpI; split <;> (try split) <;> simp <;> omega
theorem cmpI_eq (a b : Int) : (cmpI a b == 0) = (a == b) := by unfold cmpI; split <;> (try split) <;> simp <;> omega
/-- the first place whose number is not less -/
def atK (l : List TTitle) (no : Int) : Nat := l.findIdx fun x => decide (no ≤ x.1)
def foundB (l : List TTitle) (no : Int) : Bool := decide (atK l no < l.length) && ((l.getD (atK l no) noT).1 == no)
def findR (l : List TTitle) (no : Int) : Int × Int := if okTitles l then if inB no 1 9999 then if foundB l no then ((atK l no : Nat), 0) else (0, 3) else (0, 2) else (0, 1)
theorem atK_le (l : List TTitle) (no : Int) : atK l no ≤ l.length := List.findIdx_le_length
theorem atK_eq {l : List TTitle} {no : Int} {k : Nat} (hk : k ≤ l.length) (h1 : ∀ j (hj : j < l.length), j < k → l[j].1 < no) (h2 : ∀ h : k < l.length, no ≤ l[k].1) : atK l no = k := by
  unfold atK
  rcases Nat.lt_or_ge k l.length with h | h
  · rw [List.findIdx_eq h]
    exact ⟨by simpa using h2 h, fun j hj => by have := h1 j (by omega) hj; simp; omega⟩
  · obtain rfl : k = l.length := by omega
    rw [List.findIdx_eq_length]
    intro x hx
    obtain ⟨j, hj, rfl⟩ := List.getElem_of_mem hx
    have := h1 j hj hj
    simp
    omega
theorem foundB_no {l : List TTitle} {no : Int} {k : Nat} (h : atK l no = k) (hk : ¬ k < l.length) : foundB l no = false := by simp [foundB, h, hk]
theorem foundB_at {l : List TTitle} {no : Int} {k : Nat} (h : atK l no = k) (hk : k < l.length) : foundB l no = (l[k].1 == no) := by simp [foundB, h, hk]
theorem findR_bad {l : List TTitle} {no : Int} (h : okTitles l = false) : findR l no = (0, 1) := by simp [findR, h]
theorem findR_range {l : List TTitle} {no : Int} (h : okTitles l = true) (h2 : inB no 1 9999 = false) : findR l no = (0, 2) := by simp [findR, h, h2]
theorem findR_none {l : List TTitle} {no : Int} (h : okTitles l = true) (h2 : inB no 1 9999 = true) (h3 : foundB l no = false) : findR l no = (0, 3) := by simp [findR, h, h2, h3]
theorem findR_some {l : List TTitle} {no : Int} (h : okTitles l = true) (h2 : inB no 1 9999 = true) (h3 : foundB l no = true) : findR l no = (((atK l no : Nat) : Int), 0) := by simp [findR, h, h2, h3]
theorem found_lt {l : List TTitle} {no : Int} (h : foundB l no = true) : atK l no < l.length := by simp [foundB] at h; exact h.1

theorem nan_no (a : Int) (w : World) : Calls Try.prog 135 #[.int .i64 a] w fun e w' => e = .returned (.bool false) ∧ w' = w := by
  have q : (a != a) = false := by simp
  go_enter Try.func135, Try.ntmps135
  go_wp2_with fail
  go_ret
  exact ⟨rfl, rfl⟩
theorem compare_int (a b : Int) (w : World) : Calls Try.prog 98 #[.int .i64 a, .int .i64 b] w fun e w' => e = .returned (.int .i64 (cmpI a b)) ∧ w' = w := by
  rcases Int.lt_trichotomy a b with q | q | q
  · have HE := hd (cmpI_neg q)
    go_enter Try.func98, Try.ntmps98
    go_wp2_with (go_at_call 135; refine (nan_no _ _).mono ?_; rintro e w' ⟨rfl, rfl⟩)
    go_ret
    exact ⟨by rw [HE.out]; rfl, rfl⟩
  · subst q
    have HE := hd (cmpI_zero (rfl : a = a))
    go_enter Try.func98, Try.ntmps98
    go_wp2_with (go_at_call 135; refine (nan_no _ _).mono ?_; rintro e w' ⟨rfl, rfl⟩)
    go_ret
    exact ⟨by rw [HE.out]; rfl, rfl⟩
  · have HE := hd (cmpI_pos q)
    have q' : ¬ a < b := by omega
    go_enter Try.func98, Try.ntmps98
    go_wp2_with (go_at_call 135; refine (nan_no _ _).mono ?_; rintro e w' ⟨rfl, rfl⟩)
    go_ret
    exact ⟨by rw [HE.out]; rfl, rfl⟩
theorem place_cmp (w : World) (a : Int) (b : ByteArray) (c d no : Int) : Calls Try.prog 130 #[.agg #[.int .i64 a, .string b, .int .i64 c, .int .i64 d], .int .i64 no] w fun e w' => e = .returned (.int .i64 (cmpI a no)) ∧ Below w.heap.size w w' := by
  go_enter Try.func130, Try.ntmps130
  go_wp2_with (go_at_call 98; refine (compare_int _ _ _).mono ?_; rintro e w1 ⟨rfl, hw⟩; have hw := hw.symm; subst hw)
  go_ret
  exact ⟨rfl, (Below.refl _ _).alloc (Nat.le_refl _) _⟩

set_option maxHeartbeats 4000000 in
theorem search_titles (w : World) (v : Value) (l : List TTitle) (h : Sl w 4 v eTitle l) (no : Int) (hok : okTitles l = true) :
    Calls Try.prog 129 #[v, .int .i64 no, .func (.func 130) #[] #[]] w fun e w' => e = .returned (.tuple #[.int .i64 (atK l no : Nat), .bool (foundB l no)]) ∧ Below w.heap.size w w' := by
  have m1 := h.len
  obtain ⟨-, A, cp, rfl, -, -, -⟩ := id h
  have z20 := okTitles_len hok
  have HM := hd (fun i j (hij : i < j) (hj : j < l.length) => okTitles_mono hok hij hj)
  clear hok
  go_enter Try.func129, Try.ntmps129
  go_wp2_with fail
  go_loopw [9, 10, 11] (fun iv jv hv wr => ∃ i j : Nat, i ≤ j ∧ j ≤ l.length ∧ iv = .int .i64 i ∧ jv = .int .i64 j ∧ Below w.heap.size w wr ∧ Hid (∀ m (hm : m < l.length), m < i → l[m].1 < no) ∧ Hid (∀ m (hm : m < l.length), j ≤ m → no ≤ l[m].1)) (fun iv jv _ _ => (intOf jv).toNat - (intOf iv).toNat)
  case atStart => exact ⟨0, l.length, Nat.zero_le _, Nat.le_refl _, rfl, rfl, Below.refl _ _, hd (by omega), hd (by omega)⟩
  case round =>
    obtain ⟨i, j, hij, hj, rfl, rfl, hbel, H1, H2⟩ := hrel
    by_cases hlt : i < j
    · have hk1 : i ≤ (i + j) / 2 := by omega
      have hk2 : (i + j) / 2 < j := by omega
      have hkl : (i + j) / 2 < l.length := by omega
      obtain ⟨bb, o, rfl, -, p0, p1, p2, p3⟩ := (h.below hbel).Title_at hkl
      have HG := hd (fun (m : Nat) (hm : m < l.length) (hmk : m ≤ (i + j) / 2) (hl : l[(i + j) / 2].1 < no) => (show l[m].1 < no from by rcases Nat.lt_or_eq_of_le hmk with q | q; exact Int.lt_trans (HM.out m _ q hkl) hl; subst q; exact hl))
      have HL := hd (fun (m : Nat) (hm : m < l.length) (hmk : (i + j) / 2 ≤ m) (hl : no ≤ l[(i + j) / 2].1) => (show no ≤ l[m].1 from by rcases Nat.lt_or_eq_of_le hmk with q | q; exact Int.le_trans hl (Int.le_of_lt (HM.out _ m q hm)); subst q; exact hl))
      generalize l[(i + j) / 2] = x at p0 p1 p2 p3 HG HL
      obtain ⟨a, b, c, d⟩ := x
      dsimp only at p0 p1 p2 p3
      have hd1 := cmpI_lt a no
      rcases q : decide (a < no) with _ | _
      · have hc : decide (cmpI a no < 0) = false := hd1.trans q
        have q' : no ≤ a := by simpa using q
        clear hd1 q
        go_wp2_with fail
        refine (place_cmp _ _ _ _ _ _).mono ?_
        rintro e w2 ⟨rfl, hb2⟩
        have hbel2 := below_step hbel hb2
        go_wp2_with fail
        go_roundw
        case rel => exact ⟨i, (i + j) / 2, hk1, by omega, rfl, by first | rfl | go_num, hbel2, H1, hd (fun m hm hmk => HL.out m hm hmk q')⟩
        case measure => simp [intOf]; omega
      · have hc : decide (cmpI a no < 0) = true := hd1.trans q
        have q' : a < no := by simpa using q
        clear hd1 q
        go_wp2_with fail
        refine (place_cmp _ _ _ _ _ _).mono ?_
        rintro e w2 ⟨rfl, hb2⟩
        have hbel2 := below_step hbel hb2
        go_wp2_with fail
        go_roundw
        case rel => exact ⟨(i + j) / 2 + 1, j, by omega, by omega, by go_num, rfl, hbel2, hd (fun m hm hmk => HG.out m hm (by omega) q'), H2⟩
        case measure => simp [intOf]; omega
    · obtain rfl : i = j := by omega
      have HK := hd (atK_eq (l := l) (no := no) hj (fun m hm hmi => H1.out m hm hmi) (fun hh => H2.out i hh (Nat.le_refl _)))
      by_cases hil : i < l.length
      · obtain ⟨bb, o, rfl, -, p0, p1, p2, p3⟩ := (h.below hbel).Title_at hil
        have HF := hd (foundB_at HK.out hil)
        generalize l[i] = x at p0 p1 p2 p3 HF
        obtain ⟨a, b, c, d⟩ := x
        dsimp only at p0 p1 p2 p3
        have HE := hd (cmpI_eq a no)
        go_wp2_with fail
        refine (place_cmp _ _ _ _ _ _).mono ?_
        rintro e w2 ⟨rfl, hb2⟩
        have hbel2 := below_step hbel hb2
        go_wp2_with fail
        go_ret2
        exact ⟨by rw [HF.out, HK.out, ← HE.out]; rfl, hbel2⟩
      · have HF := hd (foundB_no HK.out hil)
        go_wp2_with fail
        go_ret2
        exact ⟨by rw [HF.out, HK.out]; rfl, hbel⟩
theorem place_impl (w : World) (v : Value) (l : List TTitle) (h : Sl w 4 v eTitle l) (no : Int) (hok : okTitles l = true) :
    Calls Try.prog 85 #[v, .int .i64 no] w fun e w' => e = .returned (.tuple #[.int .i64 (atK l no : Nat), .bool (foundB l no)]) ∧ Below w.heap.size w w' := by
  go_enter Try.func85, Try.ntmps85
  go_wp2_with fail
  refine (search_titles _ _ _ h no hok).mono ?_
  rintro e w1 ⟨rfl, hb⟩
  go_wp2_with fail
  go_ret2
  exact ⟨rfl, hb⟩

set_option maxHeartbeats 1000000 in
theorem at_spec (w : World) (v : Value) (l : List TTitle) (h : Sl w 4 v eTitle l) (no : Int) :
    Calls Try.prog 82 #[v, .int .i64 no] w fun e w' => e = .returned (.int .i64 (atK l no : Nat)) ∧ w' = w := by
  have m1 := h.len
  obtain ⟨-, A, cp, rfl, -, -, -⟩ := id h
  go_enter Try.func82, Try.ntmps82
  go_wp2_with fail
  go_loop [5] (fun i => ∃ k : Nat, k ≤ l.length ∧ i = .int .i64 k ∧ Hid (∀ m (hm : m < l.length), m < k → l[m].1 < no)) (fun i => l.length - (intOf i).toNat)
  case atStart => exact ⟨0, Nat.zero_le _, rfl, hd (by omega)⟩
  case round =>
    obtain ⟨k, hk, rfl, HT⟩ := hrel
    by_cases hlt : k < l.length
    · obtain ⟨bb, o, rfl, -, p0, -, -, -⟩ := h.Title_at hlt
      by_cases q : l[k].1 < no
      · have HT' : Hid (∀ m (hm : m < l.length), m < k + 1 → l[m].1 < no) := hd (fun m hm hmk => by
          rcases Nat.lt_or_ge m k with q1 | q1
          · exact HT.out m hm q1
          · obtain rfl : m = k := by omega
            exact q)
        go_wp2_with fail
        go_round
        case rel => exact ⟨k + 1, by omega, by go_num, HT'⟩
        case measure => simp [intOf]; omega
      · have q' : no ≤ l[k].1 := by omega
        have HK := hd (atK_eq (l := l) (no := no) hk HT.out (fun _ => q'))
        have q2 : decide (l[k].1 < no) = false := by simpa using q'
        clear q
        go_wp2_with fail
        go_ret
        exact ⟨by rw [HK.out]; rfl, rfl⟩
    · have HK := hd (atK_eq (l := l) (no := no) hk HT.out (fun hh => absurd hh hlt))
      go_wp2_with fail
      go_ret
      exact ⟨by rw [HK.out]; rfl, rfl⟩

end Go.Proofs.Ytlgcehdklpbknaa
