/- FnTitles: plain laws. Titles put back one by one; the least free number; a glass broken and mended. No condition. -/
import Derived.Test.YtlgcehdklpbknaaAddT
namespace Go.Proofs.Ytlgcehdklpbknaa
open Go Go.RowKit Go.ChangeShapes Go.WideShapes
set_option linter.unusedSimpArgs false
set_option linter.unusedVariables false
theorem okTitles_mk {l : List TTitle} (h1 : ∀ k (hk : k < l.length), okTitleB l[k] = true) (h2 : ∀ k (hk : k + 1 < l.length), l[k].1 < l[k + 1].1) (h3 : l.length ≤ 20) : okTitles l = true := by
  unfold okTitles
  rw [Bool.and_eq_true]
  refine ⟨allTo_true fun k hk => ?_, by simpa using h3⟩
  unfold titleOkAt titleBad
  have e : l.getD k noT = l[k] := by simp [hk]
  rw [e, h1 k hk]
  rcases k with _ | m
  · simp
  · have e2 : l.getD (m + 1 - 1) noT = l[m] := by simp [show m < l.length by omega]
    rw [e2]
    have := h2 m hk
    simp
    omega
theorem okTitles_snoc {L : List TTitle} {x : TTitle} (h : okTitles L = true) (hx : okTitleB x = true) (hlt : ∀ y ∈ L, y.1 < x.1) (hlen : L.length < 20) : okTitles (L ++ [x]) = true := by
  refine okTitles_mk (fun k hk => ?_) (fun k hk => ?_) (by simp; omega)
  · rw [List.length_append, List.length_singleton] at hk
    by_cases hkl : k < L.length
    · rw [List.getElem_append_left hkl]
      exact okTitles_at h k hkl
    · have : k = L.length := by omega
      subst this
      simpa using hx
  · rw [List.length_append, List.length_singleton] at hk
    rw [List.getElem_append_left (by omega)]
    by_cases hkl : k + 1 < L.length
    · rw [List.getElem_append_left hkl]
      exact okTitles_lt h k hkl
    · rw [List.getElem_append_right (by omega)]
      simpa using hlt _ (List.getElem_mem (by omega))
theorem okTitles_drop {l : List TTitle} (h : okTitles l = true) (i : Nat) : okTitles (l.drop i) = true := by
  refine okTitles_mk (fun k hk => ?_) (fun k hk => ?_) (by have := okTitles_len h; simp; omega)
  · rw [List.getElem_drop]
    exact okTitles_at h _ _
  · rw [List.getElem_drop, List.getElem_drop]
    exact okTitles_lt h _ _
theorem okTitles_set {l : List TTitle} (h : okTitles l = true) (k : Nat) (y : TTitle) (hy : okTitleB y = true) (hno : ∀ hk : k < l.length, y.1 = l[k].1) : okTitles (l.set k y) = true := by
  have hn : ∀ j (hj : j < (l.set k y).length), (l.set k y)[j].1 = (l[j]'(by simpa using hj)).1 := fun j hj => by
    rw [List.getElem_set]
    split
    · next e => subst e; exact hno _
    · rfl
  refine okTitles_mk (fun j hj => ?_) (fun j hj => ?_) (by have := okTitles_len h; simpa using this)
  · rw [List.getElem_set]
    split
    · exact hy
    · exact okTitles_at h j _
  · rw [hn, hn]
    exact okTitles_lt h j _
section
variable {l : List TTitle}
theorem atK_at (h : okTitles l = true) {k : Nat} (hk : k < l.length) : atK l l[k].1 = k :=
  atK_eq (Nat.le_of_lt hk) (fun j hj hjk => okTitles_mono h hjk hk) (fun _ => Int.le_refl _)
theorem found_self (h : okTitles l = true) {k : Nat} (hk : k < l.length) : foundB l l[k].1 = true := by
  rw [foundB_at (atK_at h hk) hk]
  simp
theorem in_at (h : okTitles l = true) {k : Nat} (hk : k < l.length) : inB l[k].1 1 9999 = true := by
  have := (okTitleB_bd (okTitles_at h k hk)).1
  simp [inB]
  omega
theorem find_self (h : okTitles l = true) {k : Nat} (hk : k < l.length) : findR l l[k].1 = (((k : Nat) : Int), 0) := by
  rw [findR_some h (in_at h hk) (found_self h hk), atK_at h hk]
theorem add_self (h : okTitles l = true) {k : Nat} (hk : k < l.length) : addTR l l[k] = ([], 4) := by
  unfold addTR
  rw [if_pos h, if_pos (okTitles_at h k hk), if_pos (found_self h hk)]
theorem add_back (h : okTitles l = true) {i : Nat} (hi : i < l.length) : addTR (l.drop (i + 1)) l[i] = (l.drop i, 0) := by
  have h20 := okTitles_len h
  have hgt : ∀ hh : 0 < (l.drop (i + 1)).length, l[i].1 < (l.drop (i + 1))[0].1 := fun hh => by
    rw [List.getElem_drop]
    exact okTitles_mono h (by omega) _
  have ha : atK (l.drop (i + 1)) l[i].1 = 0 := atK_eq (Nat.zero_le _) (fun j hj hj0 => absurd hj0 (by omega)) (fun hh => by have := hgt hh; omega)
  have hf : foundB (l.drop (i + 1)) l[i].1 = false := by
    by_cases hh : 0 < (l.drop (i + 1)).length
    · rw [foundB_at ha hh]
      have := hgt hh
      simp
      rw [List.getElem_drop] at this
      simp at this
      omega
    · exact foundB_no ha hh
  unfold addTR
  rw [if_pos (okTitles_drop h _), if_pos (okTitles_at h i hi), if_neg (by rw [hf]; simp), if_neg (by simp; omega), ha]
  rw [List.drop_eq_getElem_cons hi]
  rfl
theorem found_none {no : Int} (h : ∀ k (hk : k < l.length), l[k].1 ≠ no) : foundB l no = false := by
  by_cases hh : atK l no < l.length
  · rw [foundB_at rfl hh]
    simpa using h _ hh
  · exact foundB_no rfl hh
/-! ### the least free number -/
def freeT (l : List TTitle) : Int := l.foldl (fun no x => if x.1 = no then no + 1 else no) 1
theorem freeT_snoc (l : List TTitle) (k : Nat) (hk : k < l.length) : freeT (l.take (k + 1)) = if l[k].1 = freeT (l.take k) then freeT (l.take k) + 1 else freeT (l.take k) := by
  unfold freeT
  rw [List.take_succ_eq_append_getElem hk, List.foldl_append]
  rfl
theorem free_inv (h : okTitles l = true) : ∀ k, k ≤ l.length → ∃ m : Nat, m ≤ k ∧ freeT (l.take k) = (m : Int) + 1 ∧ (∀ j (hj : j < l.length), j < m → l[j].1 = (j : Int) + 1) ∧ (∀ j (hj : j < l.length), m ≤ j → j < k → (m : Int) + 1 < l[j].1) := by
  intro k
  induction k with
  | zero => exact fun _ => ⟨0, Nat.le_refl _, rfl, fun j _ hj => absurd hj (by omega), fun j _ _ hj => absurd hj (by omega)⟩
  | succ k ih =>
    intro hk
    obtain ⟨m, h1, h2, h3, h4⟩ := ih (by omega)
    have hkl : k < l.length := by omega
    rw [freeT_snoc l k hkl, h2]
    have hgt : m < k → (m : Int) + 1 < l[k].1 := fun hmk => by
      have a := h4 m (by omega) (Nat.le_refl _) hmk
      have b := okTitles_mono h hmk hkl
      omega
    have hge : (k : Int) + 1 ≤ l[k].1 ∨ m < k := by
      by_cases hmk : m < k
      · exact .inr hmk
      · left
        rcases k with _ | q
        · have := (okTitleB_bd (okTitles_at h 0 hkl)).1
          omega
        · have a := h3 q (by omega) (by omega)
          have b := okTitles_lt h q hkl
          omega
    by_cases e : l[k].1 = (m : Int) + 1
    · rw [if_pos e]
      have hmk : m = k := by
        rcases Nat.lt_or_ge m k with q | q
        · have := hgt q; omega
        · omega
      subst hmk
      refine ⟨m + 1, Nat.le_refl _, by omega, fun j hj hjm => ?_, fun j hj hmj hjk => absurd hjk (by omega)⟩
      rcases Nat.lt_or_ge j m with q | q
      · exact h3 j hj q
      · obtain rfl : j = m := by omega
        exact e
    · rw [if_neg e]
      refine ⟨m, by omega, rfl, h3, fun j hj hmj hjk => ?_⟩
      rcases Nat.lt_or_ge j k with q | q
      · exact h4 j hj hmj q
      · obtain rfl : j = k := by omega
        rcases Nat.lt_or_ge m j with q2 | q2
        · exact hgt q2
        · have : m = j := by omega
          subst this
          rcases hge with a | a <;> omega
theorem free_is (h : okTitles l = true) : ∃ m : Nat, m ≤ l.length ∧ freeT l = (m : Int) + 1 ∧ findR l ((m : Int) + 1) = (0, 3) ∧ ∀ no : Int, 1 ≤ no → no < (m : Int) + 1 → (findR l no).2 = 0 := by
  obtain ⟨m, h1, h2, h3, h4⟩ := free_inv h l.length (Nat.le_refl _)
  rw [List.take_length] at h2
  have h20 := okTitles_len h
  refine ⟨m, h1, h2, findR_none h (by simp [inB]; omega) (found_none fun k hk => ?_), fun no n1 n2 => ?_⟩
  · rcases Nat.lt_or_ge k m with q | q
    · have := h3 k hk q; omega
    · have := h4 k hk q hk; omega
  · obtain ⟨j, rfl⟩ : ∃ j : Nat, no = (j : Int) + 1 := ⟨(no - 1).toNat, by omega⟩
    have hj : j < l.length := by omega
    rw [← h3 j hj (by omega), find_self h hj]
/-! ### whole titles -/
def wholeT (l : List TTitle) : List Int := (l.filter fun x => x.2.2.2 == 0).map fun x => x.1
def wholeR (l : List TTitle) : List Int × Int := if okTitles l then (wholeT l, 0) else ([], 1)
theorem wholeT_snoc (l : List TTitle) (k : Nat) (hk : k < l.length) : wholeT (l.take (k + 1)) = wholeT (l.take k) ++ if l[k].2.2.2 = 0 then [l[k].1] else [] := by
  unfold wholeT
  rw [List.take_succ_eq_append_getElem hk, List.filter_append, List.map_append]
  congr 1
  by_cases e : l[k].2.2.2 = 0 <;> simp [List.filter_cons, e]
theorem wholeT_len (l : List TTitle) : (wholeT l).length ≤ l.length := by
  unfold wholeT
  rw [List.length_map]
  exact List.length_filter_le _ _
/-! ### a glass is broken and mended -/
theorem break_mend (h : okTitles l = true) {k : Nat} (hk : k < l.length) (hne : ¬ l[k].2.2.2 = l[k].2.2.1) :
    breakR l l[k].1 = (l.set k (broken l[k] (l[k].2.2.2 + 1)), 0) ∧ okTitles (l.set k (broken l[k] (l[k].2.2.2 + 1))) = true ∧
      mendR (l.set k (broken l[k] (l[k].2.2.2 + 1))) l[k].1 = ((l.set k (broken l[k] (l[k].2.2.2 + 1))).set k (broken l[k] 0), l[k].2.2.2 + 1, 0) ∧
      okTitles ((l.set k (broken l[k] (l[k].2.2.2 + 1))).set k (broken l[k] 0)) = true ∧ (wholeT ((l.set k (broken l[k] (l[k].2.2.2 + 1))).set k (broken l[k] 0))).any (fun y => l[k].1 == y) = true := by
  have hb := okTitleB_bd (okTitles_at h k hk)
  have hx := okTitles_at h k hk
  have o1 : okTitleB (broken l[k] (l[k].2.2.2 + 1)) = true := by
    obtain ⟨⟨b1, b2⟩, b3, ⟨b4, b5⟩, b6, b7⟩ := hb
    simp only [okTitleB, Bool.and_eq_true]
    exact ⟨inB_mk ⟨b1, b2⟩, b3, inB_mk ⟨b4, b5⟩, inB_mk ⟨by show 0 ≤ l[k].2.2.2 + 1; omega, by show l[k].2.2.2 + 1 ≤ l[k].2.2.1; omega⟩⟩
  have o2 : okTitleB (broken l[k] 0) = true := by
    obtain ⟨⟨b1, b2⟩, b3, ⟨b4, b5⟩, b6, b7⟩ := hb
    simp only [okTitleB, Bool.and_eq_true]
    exact ⟨inB_mk ⟨b1, b2⟩, b3, inB_mk ⟨b4, b5⟩, inB_mk ⟨Int.le_refl _, by show 0 ≤ l[k].2.2.1; omega⟩⟩
  have k1 : okTitles (l.set k (broken l[k] (l[k].2.2.2 + 1))) = true := okTitles_set h k _ o1 fun _ => rfl
  have hk2 : k < (l.set k (broken l[k] (l[k].2.2.2 + 1))).length := by simpa using hk
  have e1 : (l.set k (broken l[k] (l[k].2.2.2 + 1)))[k] = broken l[k] (l[k].2.2.2 + 1) := by simp
  have k2 : okTitles ((l.set k (broken l[k] (l[k].2.2.2 + 1))).set k (broken l[k] 0)) = true := okTitles_set k1 k _ o2 fun hh => by rw [e1]; rfl
  have f1 := find_self h hk
  have f2 := find_self k1 hk2
  rw [e1] at f2
  have f3 : findR (l.set k (broken l[k] (l[k].2.2.2 + 1))) l[k].1 = (((k : Nat) : Int), 0) := f2
  have a2 := atK_at k1 hk2
  rw [e1] at a2
  have a3 : atK (l.set k (broken l[k] (l[k].2.2.2 + 1))) l[k].1 = k := a2
  refine ⟨breakR_yes (by rw [f1]) (atK_at h hk).symm hk hne, k1, ?_, k2, ?_⟩
  · rw [mendR_yes (by rw [f3]) a3.symm hk2, e1]
    rfl
  · rw [List.any_eq_true]
    refine ⟨l[k].1, ?_, by simp⟩
    unfold wholeT
    refine List.mem_map.2 ⟨broken l[k] 0, List.mem_filter.2 ⟨?_, by simp [broken]⟩, rfl⟩
    exact List.mem_of_getElem? (i := k) (by simp [hk])
theorem break_state (h : okTitles l = true) {k : Nat} (hk : k < l.length) (he : l[k].2.2.2 = l[k].2.2.1) : breakR l l[k].1 = ([], 6) :=
  breakR_state (by rw [find_self h hk]) (atK_at h hk).symm hk he
end
end Go.Proofs.Ytlgcehdklpbknaa
