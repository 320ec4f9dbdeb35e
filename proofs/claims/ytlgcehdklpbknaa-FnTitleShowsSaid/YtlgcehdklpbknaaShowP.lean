/- The fewest titles: the plain laws. No condition. -/
import Derived.Test.YtlgcehdklpbknaaSrtI
import Derived.Test.YtlgcehdklpbknaaTitle
import Derived.Test.YtlgcehdklpbknaaTour
namespace Go.Proofs.Ytlgcehdklpbknaa
open Go Go.RowKit Go.ChangeShapes Go.WideShapes
set_option linter.unusedSimpArgs false
set_option linter.unusedVariables false
/-- the whole glasses of a title -/
def wh (l : List TTitle) (i : Nat) : Int := (l.getD i noT).2.2.1 - (l.getD i noT).2.2.2
def keyW (l : List TTitle) (i : Nat) : Int := - wh l i
/-- the places, those with most whole glasses first -/
def ordL (l : List TTitle) : List Nat := srt (keyW l) (List.range l.length)
theorem wh_bd {l : List TTitle} (h : okTitles l = true) (i : Nat) : 0 ≤ wh l i ∧ wh l i ≤ 30 := by
  unfold wh
  by_cases hi : i < l.length
  · have := okTitleB_bd (okTitles_at h i hi)
    rw [List.getD_eq_getElem?_getD, List.getElem?_eq_getElem hi]
    simp only [Option.getD_some]
    omega
  · rw [List.getD_eq_getElem?_getD, List.getElem?_eq_none (by omega)]
    simp [noT]
theorem ord_len (l : List TTitle) : (ordL l).length = l.length := by simp [ordL, srt_len]
theorem ord_perm (l : List TTitle) : (ordL l).Perm (List.range l.length) := srt_perm _ _
theorem ord_nodup (l : List TTitle) : (ordL l).Nodup := (ord_perm l).nodup_iff.2 List.nodup_range
theorem ord_mem {l : List TTitle} {i : Nat} : i ∈ ordL l ↔ i < l.length := by rw [(ord_perm l).mem_iff, List.mem_range]
/-- of equals the one that stood first -/
theorem srt_lex (key : Nat → Int) (n : Nat) : (srt key (List.range n)).Pairwise fun x y => key x < key y ∨ (key x = key y ∧ x < y) := by
  induction n with
  | zero => exact List.Pairwise.nil
  | succ n ih =>
    have hm : ∀ z ∈ srt key (List.range n), z < n := fun z hz => List.mem_range.1 ((srt_perm key _).mem_iff.1 hz)
    have hS := srt_sorted key (List.range n)
    rw [List.range_succ, srt_snoc]
    generalize srt key (List.range n) = S at ih hm hS
    -- where it goes
    have hex : ∃ p, p ≤ S.length ∧ (∀ y ∈ S.drop p, key n < key y) ∧ (∀ y ∈ S.take p, key y ≤ key n) := by
      clear ih hm
      induction S with
      | nil => exact ⟨0, by simp, by simp, by simp⟩
      | cons y S ihS =>
        obtain ⟨h1, h2⟩ := List.pairwise_cons.1 hS
        by_cases q : key n < key y
        · refine ⟨0, by simp, fun z hz => ?_, by simp⟩
          rcases List.mem_cons.1 (by simpa using hz) with rfl | hz
          · exact q
          · have := h1 z hz; omega
        · obtain ⟨p, hp, g1, g2⟩ := ihS h2
          refine ⟨p + 1, by simpa using hp, by simpa using g1, fun z hz => ?_⟩
          rw [List.take_succ_cons] at hz
          rcases List.mem_cons.1 hz with rfl | hz
          · omega
          · exact g2 z hz
    obtain ⟨p, hp, h1, h2⟩ := hex
    rw [mrg_one key n S p h1 h2 hp]
    have hsp := List.take_append_drop p S
    rw [← hsp] at ih
    obtain ⟨i1, i2, i3⟩ := List.pairwise_append.1 ih
    refine List.pairwise_append.2 ⟨i1, List.pairwise_cons.2 ⟨fun y hy => .inl (h1 y hy), i2⟩, fun x hx y hy => ?_⟩
    rcases List.mem_cons.1 hy with rfl | hy
    · have a1 := h2 x hx
      have a2 := hm x (List.mem_of_mem_take hx)
      omega
    · exact i3 x hx y hy
theorem ord_lex (l : List TTitle) {k j : Nat} (hkj : k < j) (hj : j < (ordL l).length) : wh l ((ordL l)[j]) < wh l ((ordL l)[k]'(by omega)) ∨ (wh l ((ordL l)[j]) = wh l ((ordL l)[k]'(by omega)) ∧ (ordL l)[k]'(by omega) < (ordL l)[j]) := by
  have h := List.pairwise_iff_getElem.1 (srt_lex (keyW l) l.length) k j (by simp [srt_len]; rw [ord_len] at hj; omega) (by simp [srt_len]; rw [ord_len] at hj; omega) hkj
  have h' : keyW l ((ordL l)[k]'(by omega)) < keyW l ((ordL l)[j]) ∨ (keyW l ((ordL l)[k]'(by omega)) = keyW l ((ordL l)[j]) ∧ (ordL l)[k]'(by omega) < (ordL l)[j]) := h
  unfold keyW at h'
  omega
/-! ### the sum of the first -/
def sumW (l : List TTitle) (k : Nat) : Int := (((ordL l).take k).map (wh l)).sum
theorem sumW_zero (l : List TTitle) : sumW l 0 = 0 := rfl
theorem sumW_succ (l : List TTitle) {k : Nat} (hk : k < (ordL l).length) : sumW l (k + 1) = sumW l k + wh l ((ordL l)[k]) := by
  unfold sumW
  rw [List.take_succ_eq_append_getElem hk, List.map_append, List.sum_append]
  simp
theorem sumW_bd {l : List TTitle} (h : okTitles l = true) (k : Nat) (hk : k ≤ l.length) : 0 ≤ sumW l k ∧ sumW l k ≤ 30 * k := by
  induction k with
  | zero => simp [sumW]
  | succ k ih =>
    rw [sumW_succ l (by rw [ord_len]; omega)]
    have := ih (by omega)
    have := wh_bd h ((ordL l)[k]'(by rw [ord_len]; omega))
    omega
def firstW (l : List TTitle) (g : Int) : Option Nat := (List.range (l.length + 1)).find? fun k => decide (g ≤ sumW l k)
theorem firstW_some {l : List TTitle} {g : Int} {k : Nat} (hk : k ≤ l.length) (h : g ≤ sumW l k) (hlt : ∀ j, j < k → sumW l j < g) : firstW l g = some k := by
  unfold firstW
  rw [List.find?_eq_some_iff_getElem]
  refine ⟨by simpa using h, k, by simp; omega, by simp, fun j hj => ?_⟩
  have := hlt j hj
  simp
  omega
theorem firstW_none {l : List TTitle} {g : Int} (h : ∀ j, j ≤ l.length → sumW l j < g) : firstW l g = none := by
  unfold firstW
  rw [List.find?_eq_none]
  intro j hj
  have := h j (by have := List.mem_range.1 hj; omega)
  simp
  omega
def castI (M : List Nat) : List Int := M.map fun i : Nat => (i : Int)
def sortedI (l : List Int) : List Int := l.mergeSort fun x y => decide (x ≤ y)
/-- what both answer -/
def showR (l : List TTitle) (g : Int) : List Int × Int :=
  if okTitles l then (if inB g 0 600 then (match firstW l g with | some k => (sortedI (castI ((ordL l).take k)), 0) | none => ([], 3)) else ([], 2)) else ([], 1)
/-! ### one number put in -/
def putL : List Int → Int → List Int
  | [], x => [x]
  | y :: T, x => if x ≤ y then (if x < y then x :: y :: T else y :: T) else y :: putL T x
theorem putL_perm {x : Int} : ∀ {T : List Int}, x ∉ T → (putL T x).Perm (x :: T)
  | [], _ => List.Perm.refl _
  | y :: T, h => by
    have h1 : x ≠ y := fun e => h (by simp [e])
    unfold putL
    split
    · rw [if_pos (by omega)]
    · exact ((putL_perm (fun e => h (by simp [e]))).cons y).trans (List.Perm.swap x y T)
theorem putL_mem {x z : Int} : ∀ {T : List Int}, z ∈ putL T x → z = x ∨ z ∈ T
  | [], h => by simpa [putL] using h
  | y :: T, h => by
    unfold putL at h
    split at h
    · split at h
      · simpa using h
      · exact .inr h
    · rcases List.mem_cons.1 h with h | h
      · exact .inr (by simp [h])
      · rcases putL_mem h with h | h
        · exact .inl h
        · exact .inr (by simp [h])
theorem putL_sorted {x : Int} : ∀ {T : List Int}, T.Pairwise (· ≤ ·) → (putL T x).Pairwise (· ≤ ·)
  | [], _ => List.pairwise_singleton _ _
  | y :: T, h => by
    obtain ⟨h1, h2⟩ := List.pairwise_cons.1 h
    unfold putL
    split
    · split
      · refine List.pairwise_cons.2 ⟨fun z hz => ?_, h⟩
        rcases List.mem_cons.1 hz with rfl | hz
        · omega
        · have := h1 z hz; omega
      · exact h
    · refine List.pairwise_cons.2 ⟨fun z hz => ?_, putL_sorted h2⟩
      rcases putL_mem hz with rfl | hz
      · omega
      · exact h1 z hz
theorem sortedI_pw (l : List Int) : (sortedI l).Pairwise (· ≤ ·) := by
  have := List.pairwise_mergeSort (le := fun x y : Int => decide (x ≤ y)) (by intro a b c; simp; omega) (by intro a b; simp; omega) l
  exact this.imp (by simp)
theorem sortedI_perm (l : List Int) : (sortedI l).Perm l := List.mergeSort_perm _ _
theorem sorted_eq {A B : List Int} (hA : A.Pairwise (· ≤ ·)) (hB : B.Pairwise (· ≤ ·)) (h : A.Perm B) : A = B := h.eq_of_pairwise (fun a b _ _ h1 h2 => Int.le_antisymm h1 h2) hA hB
theorem sortedI_mem {l : List Int} {x : Int} : x ∈ sortedI l ↔ x ∈ l := (sortedI_perm l).mem_iff
theorem sortedI_len (l : List Int) : (sortedI l).length = l.length := (sortedI_perm l).length_eq
theorem not_taken {l : List TTitle} {k : Nat} (hk : k < (ordL l).length) : ((ordL l)[k] : Int) ∉ sortedI (castI ((ordL l).take k)) := by
  rw [sortedI_mem]
  intro h
  obtain ⟨m, hm, e⟩ := List.mem_map.1 h
  have e' : m = (ordL l)[k] := Int.ofNat_inj.1 e
  obtain ⟨j, hj, e2⟩ := List.getElem_of_mem hm
  rw [List.length_take] at hj
  rw [List.getElem_take] at e2
  exact List.pairwise_iff_getElem.1 (ord_nodup l) j k (by omega) hk (by omega) (e2.trans e')
theorem put_ord {l : List TTitle} {k : Nat} (hk : k < (ordL l).length) : putL (sortedI (castI ((ordL l).take k))) ((ordL l)[k] : Int) = sortedI (castI ((ordL l).take (k + 1))) := by
  refine sorted_eq (putL_sorted (sortedI_pw _)) (sortedI_pw _) ?_
  refine (putL_perm (not_taken hk)).trans (((sortedI_perm _).cons _).trans ((sortedI_perm _).trans ?_).symm)
  unfold castI
  rw [List.take_succ_eq_append_getElem hk, List.map_append]
  exact List.perm_append_comm
theorem has_isIn {l : List Int} {x : Int} : hasI l x = true ↔ x ∈ l := by simp [hasI]
/-! ### the best that is left -/
def bst (l : List TTitle) (T : List Int) : Nat → Int × Int
  | 0 => (-1, 0)
  | i + 1 => if (bst l T i).2 < wh l i ∧ hasI T i = false then ((i : Int), wh l i) else bst l T i
theorem mem_take_ord {l : List TTitle} {k i : Nat} (hi : i < l.length) (h : hasI (sortedI (castI ((ordL l).take k))) i = false) : ∃ j, ∃ hj : j < (ordL l).length, k ≤ j ∧ (ordL l)[j] = i := by
  obtain ⟨j, hj, e⟩ := List.getElem_of_mem (ord_mem.2 hi)
  refine ⟨j, hj, ?_, e⟩
  rcases Nat.lt_or_ge j k with q | q
  · exfalso
    have hm : (i : Int) ∈ sortedI (castI ((ordL l).take k)) := by
      rw [sortedI_mem]
      refine List.mem_map.2 ⟨i, ?_, rfl⟩
      rw [← e, List.mem_iff_getElem]
      exact ⟨j, by rw [List.length_take]; omega, by rw [List.getElem_take]⟩
    rw [has_isIn.2 hm] at h
    cases h
  · exact q
theorem bst_none {l : List TTitle} {k : Nat} (hk : ∀ hk : k < (ordL l).length, wh l ((ordL l)[k]) ≤ 0) (i : Nat) (hi : i ≤ l.length) : bst l (sortedI (castI ((ordL l).take k))) i = (-1, 0) := by
  induction i with
  | zero => rfl
  | succ i ih =>
    unfold bst
    rw [ih (by omega), if_neg]
    rintro ⟨h1, h2⟩
    obtain ⟨j, hj, hkj, e⟩ := mem_take_ord (by omega) h2
    have h3 := hk (by omega)
    rw [← e] at h1
    rcases Nat.lt_or_eq_of_le hkj with q | q
    · have := ord_lex l q hj
      simp only at h1
      omega
    · subst q
      simp only at h1
      omega
theorem bst_some {l : List TTitle} {k : Nat} (hk : k < (ordL l).length) (hp : 0 < wh l ((ordL l)[k])) (i : Nat) (hi : i ≤ l.length) :
    (i ≤ (ordL l)[k] → (bst l (sortedI (castI ((ordL l).take k))) i).2 < wh l ((ordL l)[k])) ∧ ((ordL l)[k] < i → bst l (sortedI (castI ((ordL l).take k))) i = (((ordL l)[k] : Int), wh l ((ordL l)[k]))) := by
  induction i with
  | zero => exact ⟨fun _ => hp, fun h => absurd h (by omega)⟩
  | succ i ih =>
    obtain ⟨ih1, ih2⟩ := ih (by omega)
    refine ⟨fun h => ?_, fun h => ?_⟩
    · unfold bst
      split
      · next hc =>
        obtain ⟨j, hj, hkj, e⟩ := mem_take_ord (by omega) hc.2
        rcases Nat.lt_or_eq_of_le hkj with q | q
        · have := ord_lex l q hj
          simp only [e] at this ⊢
          omega
        · subst q
          omega
      · exact ih1 (by omega)
    · unfold bst
      rcases Nat.lt_or_eq_of_le (Nat.le_of_lt_succ h) with q | q
      · rw [ih2 q, if_neg]
        rintro ⟨h1, h2⟩
        obtain ⟨j, hj, hkj, e⟩ := mem_take_ord (by omega) h2
        rcases Nat.lt_or_eq_of_le hkj with q' | q'
        · have := ord_lex l q' hj
          simp only [e] at this h1
          omega
        · subst q'
          omega
      · have h1 := ih1 (by omega)
        rw [q] at h1
        have hn : hasI (sortedI (castI ((ordL l).take k))) ((i : Nat) : Int) = false := by
          rcases hh : hasI (sortedI (castI ((ordL l).take k))) ((i : Nat) : Int) with _ | _
          · rfl
          · exact absurd (has_isIn.1 hh) (by rw [← q]; exact not_taken hk)
        subst q
        rw [if_pos ⟨h1, hn⟩]
end Go.Proofs.Ytlgcehdklpbknaa
