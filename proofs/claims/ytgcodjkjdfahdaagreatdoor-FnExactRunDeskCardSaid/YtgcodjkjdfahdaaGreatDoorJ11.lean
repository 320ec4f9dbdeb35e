/- Texts of the claim, joined: each says at its head what it proves. No condition. -/
import Derived.Test.YtgcodjkjdfahdaaGreatDoorJ8
import Derived.Test.YtgcodjkjdfahdaaGreatDoorJ1
import Derived.Lib.SliceRun
/- A title is found by its number: reference and program alike. No condition but that the slices read. -/
namespace Go.Proofs.YtgcodjkjdfahdaaGreatDoor
open Go Go.RowKit Go.ChangeShapes Go.WideShapes
set_option linter.unusedSimpArgs false
set_option linter.unusedVariables false

def cmpI (a b : Int) : Int := if a < b then -1 else if b < a then 1 else 0
theorem cmpI_neg {a b : Int} (h : a < b) : cmpI a b = -1 := by simp [cmpI, h]
theorem cmpI_pos {a b : Int} (h : b < a) : cmpI a b = 1 := by simp [cmpI, h]; omega
theorem cmpI_zero {a b : Int} (h : a = b) : cmpI a b = 0 := by simp [cmpI, h]
theorem cmpI_lt (a b : Int) : decide (cmpI a b < 0) = decide (a < b) := by unfold cmpI; split <;> (try split) <;> simp <;> omega
theorem cmpI_eq (a b : Int) : (cmpI a b == 0) = (a == b) := by unfold cmpI; split <;> (try split) <;> simp <;> omega
/-- the first place whose number is not less -/
def atK (l : List TTitle) (no : Int) : Nat := l.findIdx fun x => decide (no ≤ x.1)
def foundB (l : List TTitle) (no : Int) : Bool := decide (atK l no < l.length) && ((l.getD (atK l no) noT).1 == no)
theorem atK_le (l : List TTitle) (no : Int) : atK l no ≤ l.length := List.findIdx_le_length
theorem atK_eq {l : List TTitle} {no : Int} {k : Nat} (hk : k ≤ l.length) (h1 : ∀ j (hj : j < l.length), j < k → l[j].1 < no) (h2 : ∀ h : k < l.length, no ≤ l[k].1) : atK l no = k := by
  unfold atK
  rcases Nat.lt_or_ge k l.length with h | h
  · rw [List.findIdx_eq h]
    exact ⟨by simpa using h2 h, fun j hj => by have := h1 j (by omega) hj; simp; omega⟩
  · obtain rfl : k = l.length := by omega
    rw [List.findIdx_eq_length]
    intro x hx
    obtain ⟨j, hj, rfl⟩ := List.getElem_of_mem hx
    have := h1 j hj hj
    simp
    omega
theorem foundB_no {l : List TTitle} {no : Int} {k : Nat} (h : atK l no = k) (hk : ¬ k < l.length) : foundB l no = false := by simp [foundB, h, hk]
theorem foundB_at {l : List TTitle} {no : Int} {k : Nat} (h : atK l no = k) (hk : k < l.length) : foundB l no = (l[k].1 == no) := by simp [foundB, h, hk]
theorem found_lt {l : List TTitle} {no : Int} (h : foundB l no = true) : atK l no < l.length := by simp [foundB] at h; exact h.1

theorem nan_no (a : Int) (w : World) : Calls Tryz.prog 252 #[.int .i64 a] w fun e w' => e = .returned (.bool false) ∧ w' = w := by
  have q : (a != a) = false := by simp
  go_enter Tryz.func252, Tryz.ntmps252
  go_wp2_with fail
  go_ret
  exact ⟨rfl, rfl⟩
theorem compare_int (a b : Int) (w : World) : Calls Tryz.prog 207 #[.int .i64 a, .int .i64 b] w fun e w' => e = .returned (.int .i64 (cmpI a b)) ∧ w' = w := by
  rcases Int.lt_trichotomy a b with q | q | q
  · have HE := hd (cmpI_neg q)
    go_enter Tryz.func207, Tryz.ntmps207
    go_wp2_with (go_at_call 252; refine (nan_no _ _).mono ?_; rintro e w' ⟨rfl, rfl⟩)
    go_ret
    exact ⟨by rw [HE.out]; rfl, rfl⟩
  · subst q
    have HE := hd (cmpI_zero (rfl : a = a))
    go_enter Tryz.func207, Tryz.ntmps207
    go_wp2_with (go_at_call 252; refine (nan_no _ _).mono ?_; rintro e w' ⟨rfl, rfl⟩)
    go_ret
    exact ⟨by rw [HE.out]; rfl, rfl⟩
  · have HE := hd (cmpI_pos q)
    have q' : ¬ a < b := by omega
    go_enter Tryz.func207, Tryz.ntmps207
    go_wp2_with (go_at_call 252; refine (nan_no _ _).mono ?_; rintro e w' ⟨rfl, rfl⟩)
    go_ret
    exact ⟨by rw [HE.out]; rfl, rfl⟩
theorem place_cmp (w : World) (a : Int) (b : ByteArray) (c d no : Int) : Calls Tryz.prog 206 #[.agg #[.int .i64 a, .string b, .int .i64 c, .int .i64 d], .int .i64 no] w fun e w' => e = .returned (.int .i64 (cmpI a no)) ∧ Below w.heap.size w w' := by
  go_enter Tryz.func206, Tryz.ntmps206
  go_wp2_with (go_at_call 207; refine (compare_int _ _ _).mono ?_; rintro e w1 ⟨rfl, hw⟩; have hw := hw.symm; subst hw)
  go_ret
  exact ⟨rfl, (Below.refl _ _).alloc (Nat.le_refl _) _⟩

set_option maxHeartbeats 4000000 in
theorem search_titles (w : World) (v : Value) (l : List TTitle) (h : Sl w 4 v eTitle l) (no : Int) (hok : okTitles l = true) :
    Calls Tryz.prog 205 #[v, .int .i64 no, .func (.func 206) #[] #[]] w fun e w' => e = .returned (.tuple #[.int .i64 (atK l no : Nat), .bool (foundB l no)]) ∧ Below w.heap.size w w' := by
  have m1 := h.len
  obtain ⟨-, A, cp, rfl, -, -, -⟩ := id h
  have z20 := okTitles_len hok
  have HM := hd (fun i j (hij : i < j) (hj : j < l.length) => okTitles_mono hok hij hj)
  clear hok
  go_enter Tryz.func205, Tryz.ntmps205
  go_wp2_with fail
  go_loopw [9, 10, 11] (fun iv jv hv wr => ∃ i j : Nat, i ≤ j ∧ j ≤ l.length ∧ iv = .int .i64 i ∧ jv = .int .i64 j ∧ Below w.heap.size w wr ∧ Hid (∀ m (hm : m < l.length), m < i → l[m].1 < no) ∧ Hid (∀ m (hm : m < l.length), j ≤ m → no ≤ l[m].1)) (fun iv jv _ _ => (intOf jv).toNat - (intOf iv).toNat)
  case atStart => exact ⟨0, l.length, Nat.zero_le _, Nat.le_refl _, rfl, rfl, Below.refl _ _, hd (by omega), hd (by omega)⟩
  case round =>
    obtain ⟨i, j, hij, hj, rfl, rfl, hbel, H1, H2⟩ := hrel
    by_cases hlt : i < j
    · have hk1 : i ≤ (i + j) / 2 := by omega
      have hk2 : (i + j) / 2 < j := by omega
      have hkl : (i + j) / 2 < l.length := by omega
      obtain ⟨bb, o, rfl, -, p0, p1, p2, p3⟩ := (h.below hbel).Title_at hkl
      have HG := hd (fun (m : Nat) (hm : m < l.length) (hmk : m ≤ (i + j) / 2) (hl : l[(i + j) / 2].1 < no) => (show l[m].1 < no from by rcases Nat.lt_or_eq_of_le hmk with q | q; exact Int.lt_trans (HM.out m _ q hkl) hl; subst q; exact hl))
      have HL := hd (fun (m : Nat) (hm : m < l.length) (hmk : (i + j) / 2 ≤ m) (hl : no ≤ l[(i + j) / 2].1) => (show no ≤ l[m].1 from by rcases Nat.lt_or_eq_of_le hmk with q | q; exact Int.le_trans hl (Int.le_of_lt (HM.out _ m q hm)); subst q; exact hl))
      generalize l[(i + j) / 2] = x at p0 p1 p2 p3 HG HL
      obtain ⟨a, b, c, d⟩ := x
      dsimp only at p0 p1 p2 p3
      have hd1 := cmpI_lt a no
      rcases q : decide (a < no) with _ | _
      · have hc : decide (cmpI a no < 0) = false := hd1.trans q
        have q' : no ≤ a := by simpa using q
        clear hd1 q
        go_wp2_with fail
        refine (place_cmp _ _ _ _ _ _).mono ?_
        rintro e w2 ⟨rfl, hb2⟩
        have hbel2 := below_step hbel hb2
        go_wp2_with fail
        go_roundw
        case rel => exact ⟨i, (i + j) / 2, hk1, by omega, rfl, by first | rfl | go_num, hbel2, H1, hd (fun m hm hmk => HL.out m hm hmk q')⟩
        case measure => simp [intOf]; omega
      · have hc : decide (cmpI a no < 0) = true := hd1.trans q
        have q' : a < no := by simpa using q
        clear hd1 q
        go_wp2_with fail
        refine (place_cmp _ _ _ _ _ _).mono ?_
        rintro e w2 ⟨rfl, hb2⟩
        have hbel2 := below_step hbel hb2
        go_wp2_with fail
        go_roundw
        case rel => exact ⟨(i + j) / 2 + 1, j, by omega, by omega, by go_num, rfl, hbel2, hd (fun m hm hmk => HG.out m hm (by omega) q'), H2⟩
        case measure => simp [intOf]; omega
    · obtain rfl : i = j := by omega
      have HK := hd (atK_eq (l := l) (no := no) hj (fun m hm hmi => H1.out m hm hmi) (fun hh => H2.out i hh (Nat.le_refl _)))
      by_cases hil : i < l.length
      · obtain ⟨bb, o, rfl, -, p0, p1, p2, p3⟩ := (h.below hbel).Title_at hil
        have HF := hd (foundB_at HK.out hil)
        generalize l[i] = x at p0 p1 p2 p3 HF
        obtain ⟨a, b, c, d⟩ := x
        dsimp only at p0 p1 p2 p3
        have HE := hd (cmpI_eq a no)
        go_wp2_with fail
        refine (place_cmp _ _ _ _ _ _).mono ?_
        rintro e w2 ⟨rfl, hb2⟩
        have hbel2 := below_step hbel hb2
        go_wp2_with fail
        go_ret2
        exact ⟨by rw [HF.out, HK.out, ← HE.out]; rfl, hbel2⟩
      · have HF := hd (foundB_no HK.out hil)
        go_wp2_with fail
        go_ret2
        exact ⟨by rw [HF.out, HK.out]; rfl, hbel⟩
theorem place_impl (w : World) (v : Value) (l : List TTitle) (h : Sl w 4 v eTitle l) (no : Int) (hok : okTitles l = true) :
    Calls Tryz.prog 150 #[v, .int .i64 no] w fun e w' => e = .returned (.tuple #[.int .i64 (atK l no : Nat), .bool (foundB l no)]) ∧ Below w.heap.size w w' := by
  go_enter Tryz.func150, Tryz.ntmps150
  go_wp2_with fail
  refine (search_titles _ _ _ h no hok).mono ?_
  rintro e w1 ⟨rfl, hb⟩
  go_wp2_with fail
  go_ret2
  exact ⟨rfl, hb⟩

set_option maxHeartbeats 1000000 in
theorem at_spec (w : World) (v : Value) (l : List TTitle) (h : Sl w 4 v eTitle l) (no : Int) :
    Calls Tryz.prog 239 #[v, .int .i64 no] w fun e w' => e = .returned (.int .i64 (atK l no : Nat)) ∧ w' = w := by
  have m1 := h.len
  obtain ⟨-, A, cp, rfl, -, -, -⟩ := id h
  go_enter Tryz.func239, Tryz.ntmps239
  go_wp2_with fail
  go_loop [5] (fun i => ∃ k : Nat, k ≤ l.length ∧ i = .int .i64 k ∧ Hid (∀ m (hm : m < l.length), m < k → l[m].1 < no)) (fun i => l.length - (intOf i).toNat)
  case atStart => exact ⟨0, Nat.zero_le _, rfl, hd (by omega)⟩
  case round =>
    obtain ⟨k, hk, rfl, HT⟩ := hrel
    by_cases hlt : k < l.length
    · obtain ⟨bb, o, rfl, -, p0, -, -, -⟩ := h.Title_at hlt
      by_cases q : l[k].1 < no
      · have HT' : Hid (∀ m (hm : m < l.length), m < k + 1 → l[m].1 < no) := hd (fun m hm hmk => by
          rcases Nat.lt_or_ge m k with q1 | q1
          · exact HT.out m hm q1
          · obtain rfl : m = k := by omega
            exact q)
        go_wp2_with fail
        go_round
        case rel => exact ⟨k + 1, by omega, by go_num, HT'⟩
        case measure => simp [intOf]; omega
      · have q' : no ≤ l[k].1 := by omega
        have HK := hd (atK_eq (l := l) (no := no) hk HT.out (fun _ => q'))
        have q2 : decide (l[k].1 < no) = false := by simpa using q'
        clear q
        go_wp2_with fail
        go_ret
        exact ⟨by rw [HK.out]; rfl, rfl⟩
    · have HK := hd (atK_eq (l := l) (no := no) hk HT.out (fun hh => absurd hh hlt))
      go_wp2_with fail
      go_ret
      exact ⟨by rw [HK.out]; rfl, rfl⟩

end Go.Proofs.YtgcodjkjdfahdaaGreatDoor

/- Titles whose names begin with a text: reference and program alike. No condition but that the slices read. -/
namespace Go.Proofs.YtgcodjkjdfahdaaGreatDoor
open Go Go.RowKit Go.ChangeShapes Go.WideShapes
set_option linter.unusedSimpArgs false
set_option linter.unusedVariables false

theorem GivesOwnI.is {α : Type} {enc : α → List Value} {w wr : World} {E : TypeId} {k : Nat} {r : List α × Int} {c : Int} {l : List α} {v : Value} (h : r = (l, c)) (ho : Own wr w.heap.size E k v enc l) (hb : Below w.heap.size w wr) : GivesOwnI w E k enc r (.returned (.tuple #[v, .int .i64 c])) wr := by
  subst h
  exact ⟨_, rfl, ho, hb⟩
theorem GivesOwnI.is_nil {α : Type} {enc : α → List Value} {w : World} {E : TypeId} {k : Nat} {r : List α × Int} {c : Int} (h : r = ([], c)) (wr : World) (hb : Below w.heap.size w wr) : GivesOwnI w E k enc r (.returned (.tuple #[.slice none 0 0, .int .i64 c])) wr := by
  subst h
  exact ⟨_, rfl, Own.nil _ _ _ _ _, hb⟩

end Go.Proofs.YtgcodjkjdfahdaaGreatDoor

/- A glass of a title is broken, the glasses of a title are mended: reference and program alike. No condition but that the slices read. -/
namespace Go.Proofs.YtgcodjkjdfahdaaGreatDoor
open Go Go.RowKit Go.ChangeShapes Go.WideShapes
set_option linter.unusedSimpArgs false
set_option linter.unusedVariables false

def broken (x : TTitle) (d : Int) : TTitle := (x.1, x.2.1, x.2.2.1, d)
/-- The call returns a slice of its own and two numbers; what was there stands. -/
def GivesOwnII {α : Type} (w : World) (E : TypeId) (k : Nat) (enc : α → List Value) (r : List α × Int × Int) (e : Ending) (w' : World) : Prop :=
  ∃ v, e = .returned (.tuple #[v, .int .i64 r.2.1, .int .i64 r.2.2]) ∧ Own w' w.heap.size E k v enc r.1 ∧ Below w.heap.size w w'
theorem GivesOwnII.is {α : Type} {enc : α → List Value} {w wr : World} {E : TypeId} {k : Nat} {r : List α × Int × Int} {c d : Int} {l : List α} {v : Value} (h : r = (l, c, d)) (ho : Own wr w.heap.size E k v enc l) (hb : Below w.heap.size w wr) : GivesOwnII w E k enc r (.returned (.tuple #[v, .int .i64 c, .int .i64 d])) wr := by
  subst h
  exact ⟨_, rfl, ho, hb⟩
theorem GivesOwnII.is_nil {α : Type} {enc : α → List Value} {w : World} {E : TypeId} {k : Nat} {r : List α × Int × Int} {c d : Int} (h : r = ([], c, d)) (wr : World) (hb : Below w.heap.size w wr) : GivesOwnII w E k enc r (.returned (.tuple #[.slice none 0 0, .int .i64 c, .int .i64 d])) wr := by
  subst h
  exact ⟨_, rfl, Own.nil _ _ _ _ _, hb⟩

set_option maxHeartbeats 1000000 in
theorem clone_Titles (w : World) (v : Value) (l : List TTitle) (h : Sl w 4 v eTitle l) (hl : l.length ≤ 1048576) :
    Calls Tryz.prog 64 #[v] w (GivesOwn w 95 4 eTitle l) := by
  obtain ⟨-, A, c, rfl, -, -, hA⟩ := id h
  obtain ⟨i0, hi, hz0, hz1, hz2⟩ := info_parts info_Title
  have q : ∀ (w : World) (a : Option Addr) (n c n' c' : Nat), (binOp .eql 27 (.slice a n c) (.slice none n' c')).run Tryz.prog w = .ok (.bool a.isNone) w := fun w a n c n' c' => Go.Lib.run_eql_slice_nil w _ _ a n c n' c' Tryz.underlying27
  rcases A with _ | ad
  · have hnil : l = [] := by
      rcases l with _ | ⟨y, l⟩
      · rfl
      · obtain ⟨b, o, he, -⟩ := hA 0 y rfl
        cases he
    subst hnil
    go_enter Tryz.func64, Tryz.ntmps64
    go_wp2_with fail
    go_ret
    exact ⟨_, rfl, Own.nil _ _ _ _ _, Below.refl _ _⟩
  · clear hA
    go_enter Tryz.func64, Tryz.ntmps64
    go_wp2_with (at_builtin; refine wpList_append_sl _ rfl _ _ 27 rfl i0 (.agg #[.int .i64 0, .string ByteArray.empty, .int .i64 0, .int .i64 0]) 40 Tryz.underlying27 hi hz0 hz1 hz2 rfl (by decide) eTitle_len (by rintro ⟨a, b, c, d⟩ u hu; simp [eTitle] at hu; rcases hu with rfl | rfl | rfl | rfl <;> rfl) _ [] rfl (Own.made0 w w.heap.size 95 4 eTitle (Nat.le_refl _)) _ l rfl (h.alloc _) (by unfold maxLen; simp; omega) (by simp; omega) (by simp) ?_)
    intro v' w1 hown hgr
    have hbel := ((Below.refl w.heap.size w).alloc (Nat.le_refl _) (.cells #[] 95)).grown hgr (by simp) (by intro g hg; simp [Value.ownBlock] at hg; omega)
    go_wp2_with fail
    go_ret
    exact ⟨_, rfl, by simpa using hown, hbel⟩

end Go.Proofs.YtgcodjkjdfahdaaGreatDoor
