/- A glass of a title is broken, the glasses of a title are mended: reference and program alike. No condition but that the slices read. -/
import Derived.Test.YtnpejedeidnjnaaDoorField
import Derived.Test.YtnpejedeidnjnaaDoorFind
import Derived.Test.YtnpejedeidnjnaaDoorWith
import Derived.Test.YtnpejedeidnjnaaDoorApp
import Derived.Lib.SliceRun
namespace Go.Proofs.YtnpejedeidnjnaaDoor
open Go Go.RowKit Go.ChangeShapes Go.WideShapes
set_option linter.unusedSimpArgs false
set_option linter.unusedVariables false

def broken (x : TTitle) (d : Int) : TTitle := (x.1, x.2.1, x.2.2.1, d)
def breakR (l : List TTitle) (no : Int) : List TTitle × Int :=
  if (findR l no).2 = 0 then if (l.getD (atK l no) noT).2.2.2 = (l.getD (atK l no) noT).2.2.1 then ([], 6) else (l.set (atK l no) (broken (l.getD (atK l no) noT) ((l.getD (atK l no) noT).2.2.2 + 1)), 0) else ([], (findR l no).2)
def mendR (l : List TTitle) (no : Int) : List TTitle × Int × Int :=
  if (findR l no).2 = 0 then (l.set (atK l no) (broken (l.getD (atK l no) noT) 0), (l.getD (atK l no) noT).2.2.2, 0) else ([], 0, (findR l no).2)
theorem findR_zero {l : List TTitle} {no : Int} (h : (findR l no).2 = 0) : okTitles l = true ∧ atK l no < l.length ∧ (findR l no).1 = ((atK l no : Nat) : Int) := by
  rcases h1 : okTitles l with _ | _
  · rw [findR_bad h1] at h; simp at h
  rcases h2 : inB no 1 9999 with _ | _
  · rw [findR_range h1 h2] at h; simp at h
  rcases h3 : foundB l no with _ | _
  · rw [findR_none h1 h2 h3] at h; simp at h
  exact ⟨rfl, found_lt h3, by rw [findR_some h1 h2 h3]⟩
theorem breakR_len (l : List TTitle) (no : Int) : (breakR l no).1.length ≤ l.length := by
  unfold breakR
  split
  · split
    · simp
    · simp
  · simp
theorem mendR_len (l : List TTitle) (no : Int) : (mendR l no).1.length ≤ l.length := by
  unfold mendR
  split
  · simp
  · simp
theorem breakR_no {l : List TTitle} {no : Int} (h : ¬ (findR l no).2 = 0) : breakR l no = ([], (findR l no).2) := if_neg h
theorem breakR_state {l : List TTitle} {no : Int} {k : Nat} (h : (findR l no).2 = 0) (hk : k = atK l no) (hl : k < l.length) (he : l[k].2.2.2 = l[k].2.2.1) : breakR l no = ([], 6) := by
  subst hk
  simp only [breakR, h, if_true, List.getD_eq_getElem?_getD, List.getElem?_eq_getElem hl, Option.getD_some, he]
theorem breakR_yes {l : List TTitle} {no : Int} {k : Nat} (h : (findR l no).2 = 0) (hk : k = atK l no) (hl : k < l.length) (he : ¬ l[k].2.2.2 = l[k].2.2.1) : breakR l no = (l.set k (broken l[k] (l[k].2.2.2 + 1)), 0) := by
  subst hk
  simp only [breakR, h, if_true, List.getD_eq_getElem?_getD, List.getElem?_eq_getElem hl, Option.getD_some, he, if_false]
theorem mendR_no {l : List TTitle} {no : Int} (h : ¬ (findR l no).2 = 0) : mendR l no = ([], 0, (findR l no).2) := if_neg h
theorem mendR_yes {l : List TTitle} {no : Int} {k : Nat} (h : (findR l no).2 = 0) (hk : k = atK l no) (hl : k < l.length) : mendR l no = (l.set k (broken l[k] 0), l[k].2.2.2, 0) := by
  subst hk
  simp only [mendR, h, if_true, List.getD_eq_getElem?_getD, List.getElem?_eq_getElem hl, Option.getD_some]
/-- The call returns a slice of its own and two numbers; what was there stands. -/
def GivesOwnII {α : Type} (w : World) (E : TypeId) (k : Nat) (enc : α → List Value) (r : List α × Int × Int) (e : Ending) (w' : World) : Prop :=
  ∃ v, e = .returned (.tuple #[v, .int .i64 r.2.1, .int .i64 r.2.2]) ∧ Own w' w.heap.size E k v enc r.1 ∧ Below w.heap.size w w'
theorem GivesOwnII.is {α : Type} {enc : α → List Value} {w wr : World} {E : TypeId} {k : Nat} {r : List α × Int × Int} {c d : Int} {l : List α} {v : Value} (h : r = (l, c, d)) (ho : Own wr w.heap.size E k v enc l) (hb : Below w.heap.size w wr) : GivesOwnII w E k enc r (.returned (.tuple #[v, .int .i64 c, .int .i64 d])) wr := by
  subst h
  exact ⟨_, rfl, ho, hb⟩
theorem GivesOwnII.is_nil {α : Type} {enc : α → List Value} {w : World} {E : TypeId} {k : Nat} {r : List α × Int × Int} {c d : Int} (h : r = ([], c, d)) (wr : World) (hb : Below w.heap.size w wr) : GivesOwnII w E k enc r (.returned (.tuple #[.slice none 0 0, .int .i64 c, .int .i64 d])) wr := by
  subst h
  exact ⟨_, rfl, Own.nil _ _ _ _ _, hb⟩

set_option maxHeartbeats 1000000 in
theorem clone_Titles (w : World) (v : Value) (l : List TTitle) (h : Sl w 4 v eTitle l) (hl : l.length ≤ 1048576) :
    Calls Tryd.prog 25 #[v] w (GivesOwn w 29 4 eTitle l) := by
  obtain ⟨-, A, c, rfl, -, -, hA⟩ := id h
  obtain ⟨i0, hi, hz0, hz1, hz2⟩ := info_parts info_Title
  have q : ∀ (w : World) (a : Option Addr) (n c n' c' : Nat), (binOp .eql 24 (.slice a n c) (.slice none n' c')).run Tryd.prog w = .ok (.bool a.isNone) w := fun w a n c n' c' => Go.Lib.run_eql_slice_nil w _ _ a n c n' c' Tryd.underlying24
  rcases A with _ | ad
  · have hnil : l = [] := by
      rcases l with _ | ⟨y, l⟩
      · rfl
      · obtain ⟨b, o, he, -⟩ := hA 0 y rfl
        cases he
    subst hnil
    go_enter Tryd.func25, Tryd.ntmps25
    go_wp2_with fail
    go_ret
    exact ⟨_, rfl, Own.nil _ _ _ _ _, Below.refl _ _⟩
  · clear hA
    go_enter Tryd.func25, Tryd.ntmps25
    go_wp2_with (at_builtin; refine wpList_append_sl _ rfl _ _ 24 rfl i0 (.agg #[.int .i64 0, .string ByteArray.empty, .int .i64 0, .int .i64 0]) 40 Tryd.underlying24 hi hz0 hz1 hz2 rfl (by decide) eTitle_len (by rintro ⟨a, b, c, d⟩ u hu; simp [eTitle] at hu; rcases hu with rfl | rfl | rfl | rfl <;> rfl) _ [] rfl (Own.made0 w w.heap.size 29 4 eTitle (Nat.le_refl _)) _ l rfl (h.alloc _) (by unfold maxLen; simp; omega) (by simp; omega) (by simp) ?_)
    intro v' w1 hown hgr
    have hbel := ((Below.refl w.heap.size w).alloc (Nat.le_refl _) (.cells #[] 29)).grown hgr (by simp) (by intro g hg; simp [Value.ownBlock] at hg; omega)
    go_wp2_with fail
    go_ret
    exact ⟨_, rfl, by simpa using hown, hbel⟩

set_option maxRecDepth 100000 in
set_option maxHeartbeats 4000000 in
theorem break_impl (w : World) (v : Value) (l : List TTitle) (h : Sl w 4 v eTitle l) (no : Int) :
    Calls Tryd.prog 15 #[v, .int .i64 no] w (GivesOwnI w 29 4 eTitle (breakR l no)) := by
  have m1 := h.len
  obtain ⟨-, A, cp, rfl, -, -, -⟩ := id h
  by_cases hf : (findR l no).2 = 0
  case neg =>
    have HR := hd (breakR_no hf)
    have hf1 : ((findR l no).2 != 0) = true := bne_iff_ne.2 hf
    clear hf
    go_enter Tryd.func15, Tryd.ntmps15
    go_wp2_with fail
    refine (code_impl _ _ _ h no).mono ?_
    rintro e w1 ⟨rfl, hb1⟩
    go_wp2_with fail
    go_ret2
    exact GivesOwnI.is_nil HR.out _ hb1
  obtain ⟨hok, hkl, hk1⟩ := findR_zero hf
  have HB := hd (okTitleB_bd (okTitles_at hok _ hkl))
  have z20 := okTitles_len hok
  have HF := hd hf
  have HK1 := hd hk1
  clear hok hf hk1
  obtain ⟨k, hk⟩ : ∃ k, k = atK l no := ⟨_, rfl⟩
  have HK := hd hk
  rw [← hk] at hkl
  have HB2 := hd (show (0 ≤ l[k].2.2.2 ∧ l[k].2.2.2 ≤ l[k].2.2.1) ∧ l[k].2.2.1 ≤ 30 from by
    have := HB.out
    simp only [← hk] at this
    exact ⟨this.2.2.2, this.2.2.1.2⟩)
  clear hk HB
  obtain ⟨g1, g2⟩ := HB2.out
  obtain ⟨g3, g4⟩ := g1
  clear HB2
  have HI : Hid ((findR l no).1 = ((k : Nat) : Int)) := hd (HK1.out.trans (by rw [HK.out]))
  obtain ⟨i0, hi, hz0, hz1, hz2⟩ := info_parts info_Title
  obtain ⟨bb, oo, rfl, -, -, -, -, -⟩ := h.Title_at hkl
  by_cases hq : l[k].2.2.2 = l[k].2.2.1
  case pos =>
    have HR := hd (breakR_state HF.out HK.out hkl hq)
    have hq1 : (l[k].2.2.2 == l[k].2.2.1) = true := by simp [hq]
    clear hq
    go_enter Tryd.func15, Tryd.ntmps15
    go_wp2_with fail
    refine (code_impl _ _ _ h no).mono ?_
    rintro e w1 ⟨rfl, hb1⟩
    rw [HI.out, HF.out]
    obtain ⟨b2, o2, hA2, -, p0, p1, p2, p3⟩ := (h.below hb1).Title_at hkl
    injection hA2 with hA2
    injection hA2 with e1' e2' _
    subst e1' e2'
    have gC := gro_cell p2
    have gD := gro_cell p3
    generalize l[k].2.2.2 = d at p3 gD hq1
    generalize l[k].2.2.1 = c at p2 gC hq1
    go_wp2_with fail
    refine wp_region_calm (by kernel_rfl) (by kernel_rfl) ?_
    repeat (first | go_big_quiet_step ((fail)) | quiet_step ((fail)))
    refine wpQuiet_nil ?_
    rintro w2 ⟨xw, hw⟩
    have hb2 : Below w.heap.size w w2 := by rw [hw]; exact below_step hb1 (gro_below xw)
    clear hw
    go_wp2_with fail
    go_ret2
    exact GivesOwnI.is_nil HR.out _ hb2
  have HR := hd (breakR_yes HF.out HK.out hkl hq)
  have HX := hd (rfl : l[k] = l[k])
  have hq1 : (l[k].2.2.2 == l[k].2.2.1) = false := by simp [hq]
  clear hq
  go_enter Tryd.func15, Tryd.ntmps15
  go_wp2_with fail
  refine (code_impl _ _ _ h no).mono ?_
  rintro e w1 ⟨rfl, hb1⟩
  rw [HI.out, HF.out]
  obtain ⟨b2, o2, hA2, -, p0, p1, p2, p3⟩ := (h.below hb1).Title_at hkl
  injection hA2 with hA2
  injection hA2 with e1' e2' _
  subst e1' e2'
  have gC := gro_cell p2
  have gD := gro_cell p3
  go_wp2_with fail
  refine wp_region_calm (by kernel_rfl) (by kernel_rfl) ?_
  repeat (first | go_big_quiet_step ((fail)) | quiet_step ((fail)))
  refine wpQuiet_nil ?_
  rintro w2 ⟨xw, hw⟩
  have hb2 : Below w.heap.size w w2 := by rw [hw]; exact below_step hb1 (gro_below xw)
  clear hw
  clear gC gD p0 p1 p2 p3 hb1 hq1
  go_wp2_with fail
  refine (clone_Titles _ _ _ (h.below hb2) (by omega)).mono ?_
  rintro e w3 ⟨v3, rfl, O3, hb3⟩
  replace O3 := O3.base (show w.heap.size ≤ _ from hb2.size)
  replace hb3 := below_step hb2 hb3
  rcases O3.form with ⟨-, hnil⟩ | ⟨g, cap, rfl, hBg, hgw, -, -⟩
  · exfalso
    rw [hnil] at hkl
    simp at hkl
  obtain ⟨r3, f3⟩ := O3.fieldAt eTitle_len k hkl 3 (.int .i64 l[k].2.2.2) rfl
  have hn : 0 ≤ l[k].2.2.2 + 1 ∧ l[k].2.2.2 + 1 ≤ 31 := by omega
  obtain ⟨hn1, hn2⟩ := hn
  go_wp2_with fail
  go_ret2
  exact GivesOwnI.is HR.out (O3.field eTitle_len k hkl (broken l[k] (l[k].2.2.2 + 1)) 3 (by omega) _ rfl) (hb3.setCell hBg _)

set_option maxRecDepth 100000 in
set_option maxHeartbeats 4000000 in
theorem mend_impl (w : World) (v : Value) (l : List TTitle) (h : Sl w 4 v eTitle l) (no : Int) :
    Calls Tryd.prog 16 #[v, .int .i64 no] w (GivesOwnII w 29 4 eTitle (mendR l no)) := by
  have m1 := h.len
  obtain ⟨-, A, cp, rfl, -, -, -⟩ := id h
  by_cases hf : (findR l no).2 = 0
  case neg =>
    have HR := hd (mendR_no hf)
    have hf1 : ((findR l no).2 != 0) = true := bne_iff_ne.2 hf
    clear hf
    go_enter Tryd.func16, Tryd.ntmps16
    go_wp2_with fail
    refine (code_impl _ _ _ h no).mono ?_
    rintro e w1 ⟨rfl, hb1⟩
    go_wp2_with fail
    go_ret3
    exact GivesOwnII.is_nil HR.out _ hb1
  obtain ⟨hok, hkl, hk1⟩ := findR_zero hf
  have HB := hd (okTitleB_bd (okTitles_at hok _ hkl))
  have z20 := okTitles_len hok
  have HF := hd hf
  have HK1 := hd hk1
  clear hok hf hk1
  obtain ⟨k, hk⟩ : ∃ k, k = atK l no := ⟨_, rfl⟩
  have HK := hd hk
  rw [← hk] at hkl
  have HB2 := hd (show (0 ≤ l[k].2.2.2 ∧ l[k].2.2.2 ≤ l[k].2.2.1) ∧ l[k].2.2.1 ≤ 30 from by
    have := HB.out
    simp only [← hk] at this
    exact ⟨this.2.2.2, this.2.2.1.2⟩)
  clear hk HB
  obtain ⟨g1, g2⟩ := HB2.out
  obtain ⟨g3, g4⟩ := g1
  clear HB2
  have HI : Hid ((findR l no).1 = ((k : Nat) : Int)) := hd (HK1.out.trans (by rw [HK.out]))
  obtain ⟨i0, hi, hz0, hz1, hz2⟩ := info_parts info_Title
  obtain ⟨bb, oo, rfl, -, -, -, -, -⟩ := h.Title_at hkl
  have HR := hd (mendR_yes HF.out HK.out hkl)
  go_enter Tryd.func16, Tryd.ntmps16
  go_wp2_with fail
  refine (code_impl _ _ _ h no).mono ?_
  rintro e w1 ⟨rfl, hb1⟩
  rw [HI.out, HF.out]
  have hb2 := hb1
  clear hb1
  go_wp2_with fail
  refine (clone_Titles _ _ _ (h.below hb2) (by omega)).mono ?_
  rintro e w3 ⟨v3, rfl, O3, hb3⟩
  replace O3 := O3.base (show w.heap.size ≤ _ from hb2.size)
  replace hb3 := below_step hb2 hb3
  rcases O3.form with ⟨-, hnil⟩ | ⟨g, cap, rfl, hBg, hgw, -, -⟩
  · exfalso
    rw [hnil] at hkl
    simp at hkl
  obtain ⟨r3, f3⟩ := O3.fieldAt eTitle_len k hkl 3 (.int .i64 l[k].2.2.2) rfl
  have hn : 0 ≤ l[k].2.2.2 + 1 ∧ l[k].2.2.2 + 1 ≤ 31 := by omega
  obtain ⟨hn1, hn2⟩ := hn
  have O4 := O3.field eTitle_len k hkl (broken l[k] 0) 3 (by omega) (.int .i64 0) rfl
  have hb4 := hb3.setCell (p := ⟨g, k * 4 + 3, none⟩) hBg (.int .i64 0)
  obtain ⟨b2, o2, hA2, -, p0, p1, p2, p3⟩ := (h.below hb4).Title_at hkl
  injection hA2 with hA2
  injection hA2 with e1' e2' _
  subst e1' e2'
  have gD := gro_cell p3
  clear p0 p1 p2
  go_wp2_with fail
  refine wp_region_calm (by kernel_rfl) (by kernel_rfl) ?_
  repeat (first | go_big_quiet_step ((fail)) | quiet_step ((fail)))
  refine wpQuiet_nil ?_
  rintro w5 ⟨xw, hw⟩
  have hb5 : Below w.heap.size w w5 := by rw [hw]; exact below_step hb4 (gro_below xw)
  have O5 : Own w5 w.heap.size 29 4 (.slice (some ⟨g, 0, none⟩) l.length cap) eTitle (l.set k (broken l[k] 0)) := by rw [hw]; exact O4.below (gro_below xw) (Nat.le_refl _)
  clear hw
  go_wp2_with fail
  go_ret3
  exact GivesOwnII.is HR.out O5 hb5

end Go.Proofs.YtnpejedeidnjnaaDoor
