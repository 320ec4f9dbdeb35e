/- FnTitleShows: the plain laws. No condition. -/
import Derived.Test.YtlgcehdklpbknaaShowS
import Derived.Test.YtlgcehdklpbknaaA2H
import Derived.Test.YtlgcehdklpbknaaRiseA
namespace Go.Proofs.Ytlgcehdklpbknaa
open Go Go.RowKit Go.ChangeShapes Go.WideShapes
set_option linter.unusedSimpArgs false
set_option linter.unusedVariables false
theorem perm_sumI {A B : List Int} (h : A.Perm B) : A.sum = B.sum := by
  induction h with
  | nil => rfl
  | cons x _ ih => simp [ih]
  | swap x y l => simp; omega
  | trans _ _ h1 h2 => exact h1.trans h2
def whTo (l : List TTitle) (i : Nat) : Int := ((List.range i).map (wh l)).sum
theorem whTo_succ (l : List TTitle) (i : Nat) : whTo l (i + 1) = whTo l i + wh l i := by
  unfold whTo
  rw [List.range_succ, List.map_append, List.sum_append]
  simp
theorem whTo_bd {l : List TTitle} (h : okTitles l = true) (i : Nat) : 0 ≤ whTo l i ∧ whTo l i ≤ 30 * i := by
  induction i with
  | zero => simp [whTo]
  | succ i ih =>
    rw [whTo_succ]
    have := wh_bd h i
    omega
theorem all_sumW (l : List TTitle) : whTo l l.length = sumW l l.length := by
  unfold whTo sumW
  rw [List.take_of_length_le (by rw [ord_len]; exact Nat.le_refl _)]
  exact perm_sumI ((ord_perm l).symm.map _)
theorem firstW_is {l : List TTitle} {g : Int} {k : Nat} (h : firstW l g = some k) : k ≤ l.length ∧ g ≤ sumW l k ∧ ∀ j, j < k → sumW l j < g := by
  unfold firstW at h
  rw [List.find?_eq_some_iff_getElem] at h
  obtain ⟨h1, i, hi, e, h2⟩ := h
  have hi' : i < l.length + 1 := by simpa using hi
  have e' : i = k := by simpa using e
  subst e'
  refine ⟨by omega, by simpa using h1, fun j hj => ?_⟩
  have := h2 j hj
  simp at this
  omega
theorem show_yes {l : List TTitle} {g : Int} (ok : okTitles l = true) (h0 : 0 ≤ g) (h1 : g ≤ 600) (h : g ≤ whTo l l.length) : ∃ k, k ≤ l.length ∧ showR l g = (sortedI (castI ((ordL l).take k)), 0) ∧ g ≤ sumW l k ∧ ∀ j, j < k → sumW l j < g := by
  have hi : inB g 0 600 = true := by unfold inB; simp; omega
  rcases e : firstW l g with _ | k
  · exfalso
    unfold firstW at e
    rw [List.find?_eq_none] at e
    have := e l.length (by simp)
    rw [all_sumW] at h
    simp at this
    omega
  · obtain ⟨a, b, c⟩ := firstW_is e
    exact ⟨k, a, by simp [showR, ok, hi, e], b, c⟩
theorem sumW_up {l : List TTitle} (ok : okTitles l = true) {j : Nat} (hj : j ≤ l.length) : sumW l j ≤ sumW l l.length := by
  have h : ∀ d, ∀ j, j + d = l.length → sumW l j ≤ sumW l l.length := by
    intro d
    induction d with
    | zero => intro j e; rw [show j = l.length by omega]; exact Int.le_refl _
    | succ d ih =>
      intro j e
      have h1 := ih (j + 1) (by omega)
      rw [sumW_succ l (by rw [ord_len]; omega)] at h1
      have := wh_bd ok ((ordL l)[j]'(by rw [ord_len]; omega))
      omega
  exact h (l.length - j) j (by omega)
theorem show_no {l : List TTitle} {g : Int} (ok : okTitles l = true) (h0 : 0 ≤ g) (h1 : g ≤ 600) (h : whTo l l.length < g) : showR l g = ([], 3) := by
  have hi : inB g 0 600 = true := by unfold inB; simp; omega
  have e : firstW l g = none := firstW_none fun j hj => by
    have := sumW_up ok hj
    rw [all_sumW] at h
    omega
  simp [showR, ok, hi, e]
/-! ### the set -/
def fI (l : List TTitle) (x : Int) : Int := wh l x.toNat
def sumF (l : List TTitle) (L : List Int) : Int := (L.map (fI l)).sum
def leastF (l : List TTitle) (L : List Int) : Int := L.foldl (fun m x => min m (fI l x)) 1000
theorem sumF_snoc (l : List TTitle) (L : List Int) {p : Nat} (hp : p < L.length) : sumF l (L.take (p + 1)) = sumF l (L.take p) + fI l L[p] := by
  unfold sumF
  rw [List.take_succ_eq_append_getElem hp, List.map_append, List.sum_append]
  simp
theorem leastF_snoc (l : List TTitle) (L : List Int) {p : Nat} (hp : p < L.length) : leastF l (L.take (p + 1)) = min (leastF l (L.take p)) (fI l L[p]) := by
  unfold leastF
  rw [List.take_succ_eq_append_getElem hp, List.foldl_append]
  rfl
theorem sumF_bd {l : List TTitle} (ok : okTitles l = true) (L : List Int) : 0 ≤ sumF l L ∧ sumF l L ≤ 30 * L.length := by
  unfold sumF
  induction L with
  | nil => simp
  | cons x L ih =>
    rw [List.map_cons, List.sum_cons, List.length_cons]
    have := wh_bd ok x.toNat
    have e : fI l x = wh l x.toNat := rfl
    omega
theorem leastF_bd {l : List TTitle} (ok : okTitles l = true) (L : List Int) : 0 ≤ leastF l L ∧ leastF l L ≤ 1000 := by
  have h : ∀ (L : List Int) (m : Int), 0 ≤ m → m ≤ 1000 → 0 ≤ L.foldl (fun m x => min m (fI l x)) m ∧ L.foldl (fun m x => min m (fI l x)) m ≤ 1000 := by
    intro L
    induction L with
    | nil => intro m h0 h1; exact ⟨h0, h1⟩
    | cons x L ih =>
      intro m h0 h1
      have := wh_bd ok x.toNat
      have e : fI l x = wh l x.toNat := rfl
      exact ih _ (show 0 ≤ min m (fI l x) by omega) (show min m (fI l x) ≤ 1000 by omega)
  exact h L 1000 (by omega) (by omega)
theorem leastF_ge {l : List TTitle} {c : Int} (hc : c ≤ 1000) (L : List Int) (h : ∀ x ∈ L, c ≤ fI l x) : c ≤ leastF l L := by
  have g : ∀ (L : List Int) (m : Int), (∀ x ∈ L, c ≤ fI l x) → c ≤ m → c ≤ L.foldl (fun m x => min m (fI l x)) m := by
    intro L
    induction L with
    | nil => intro m _ h0; exact h0
    | cons x L ih =>
      intro m h h0
      have := h x (by simp)
      exact ih _ (fun y hy => h y (by simp [hy])) (show c ≤ min m (fI l x) by omega)
  exact g L 1000 h hc
theorem sumF_set (l : List TTitle) (k : Nat) : sumF l (sortedI (castI ((ordL l).take k))) = sumW l k := by
  unfold sumF sumW
  rw [perm_sumI ((sortedI_perm _).map (fI l))]
  unfold castI
  rw [List.map_map]
  rfl
theorem set_mem {l : List TTitle} {k : Nat} {x : Int} (h : x ∈ sortedI (castI ((ordL l).take k))) : ∃ j, ∃ hj : j < (ordL l).length, j < k ∧ x = ((ordL l)[j] : Int) := by
  rw [sortedI_mem] at h
  obtain ⟨m, hm, e⟩ := List.mem_map.1 h
  obtain ⟨j, hj, e2⟩ := List.getElem_of_mem hm
  rw [List.length_take] at hj
  rw [List.getElem_take] at e2
  exact ⟨j, by omega, by omega, by rw [e2]; exact e.symm⟩
theorem set_at {l : List TTitle} {k p : Nat} (hp : p < (sortedI (castI ((ordL l).take k))).length) : ∃ i : Nat, i < l.length ∧ (sortedI (castI ((ordL l).take k)))[p] = (i : Int) := by
  obtain ⟨j, hj, -, e⟩ := set_mem (List.getElem_mem hp)
  exact ⟨_, ord_mem.1 (List.getElem_mem hj), e⟩
theorem wh_last {l : List TTitle} {k j : Nat} (hk : k < (ordL l).length) (hj : j ≤ k) : wh l ((ordL l)[k]) ≤ wh l ((ordL l)[j]'(by omega)) := by
  rcases Nat.lt_or_eq_of_le hj with q | q
  · have := ord_lex l q hk
    omega
  · subst q
    exact Int.le_refl _
theorem set_least {l : List TTitle} (ok : okTitles l = true) {k : Nat} (hk : k < (ordL l).length) : wh l ((ordL l)[k]) ≤ leastF l (sortedI (castI ((ordL l).take (k + 1)))) := by
  refine leastF_ge (by have := wh_bd ok ((ordL l)[k]); omega) _ fun x hx => ?_
  obtain ⟨j, hj, hjk, rfl⟩ := set_mem hx
  exact wh_last hk (by omega)
theorem set_few {l : List TTitle} (ok : okTitles l = true) {g : Int} {k : Nat} (hk : k ≤ l.length) (hlt : ∀ j, j < k → sumW l j < g) (hpos : 0 < (sortedI (castI ((ordL l).take k))).length) : sumW l k - leastF l (sortedI (castI ((ordL l).take k))) < g := by
  rw [sortedI_len, cast_take_len l hk] at hpos
  obtain ⟨m, rfl⟩ : ∃ m, k = m + 1 := ⟨k - 1, by omega⟩
  have hm : m < (ordL l).length := by rw [ord_len]; omega
  have h1 := set_least ok hm
  have h2 := hlt m (by omega)
  rw [sumW_succ l hm]
  omega
theorem set_out {l : List TTitle} (ok : okTitles l = true) {k : Nat} (hk : k ≤ l.length) {i : Nat} (hi : i < l.length) (hn : isIn (sortedI (castI ((ordL l).take k))) i = false) (hpos : 0 < (sortedI (castI ((ordL l).take k))).length) : wh l i ≤ leastF l (sortedI (castI ((ordL l).take k))) := by
  have hh : hasI (sortedI (castI ((ordL l).take k))) i = false := by
    rw [Bool.eq_false_iff] at hn ⊢
    intro e
    refine hn ?_
    rw [has_isIn] at e
    unfold isIn
    rw [List.any_eq_true]
    exact ⟨_, e, by simp⟩
  obtain ⟨j, hj, hkj, e⟩ := mem_take_ord hi hh
  rw [sortedI_len, cast_take_len l hk] at hpos
  obtain ⟨m, rfl⟩ : ∃ m, k = m + 1 := ⟨k - 1, by omega⟩
  have hm : m < (ordL l).length := by rw [ord_len]; omega
  have h1 := set_least ok hm
  have h2 := wh_last hj (show m ≤ j by omega)
  rw [← e]
  omega
theorem rises_of {L : List Int} {n : Nat} (h : L.Pairwise (· < ·)) (hb : ∀ x ∈ L, 0 ≤ x ∧ x < (n : Int)) : risesN L n := fun i hi => ⟨(hb _ (List.getElem_mem hi)).1, (hb _ (List.getElem_mem hi)).2, fun m hm e => List.pairwise_iff_getElem.1 h m i hm hi (by omega)⟩
theorem set_rises (l : List TTitle) (k : Nat) : risesN (sortedI (castI ((ordL l).take k))) l.length := by
  refine rises_of ?_ fun x hx => ?_
  · have hn : (sortedI (castI ((ordL l).take k))).Nodup := by
      rw [(sortedI_perm _).nodup_iff]
      have h1 : ((ordL l).take k).Nodup := (ord_nodup l).sublist (List.take_sublist _ _)
      exact List.pairwise_map.2 (h1.imp fun h e => h (Int.ofNat_inj.1 e))
    have h2 := (sortedI_pw (castI ((ordL l).take k))).and hn
    exact h2.imp fun h => by have := h.1; have := h.2; omega
  · obtain ⟨j, hj, -, rfl⟩ := set_mem hx
    have := ord_mem.1 (List.getElem_mem hj)
    omega
/-! ### titles by how they begin -/
theorem with_mem {l : List TTitle} {p : ByteArray} {i : Nat} (hi : i < l.length) : isIn (withTo l p l.length) i = beginsB (l.getD i noT).2.1 p := by
  unfold isIn withTo
  rw [Bool.eq_iff_iff, List.any_eq_true]
  constructor
  · rintro ⟨x, hx, e⟩
    obtain ⟨j, hj, e2⟩ := List.mem_filterMap.1 hx
    split at e2
    · next hb =>
      have e3 : ((j : Nat) : Int) = x := by simpa using e2
      have e4 : ((i : Nat) : Int) = x := by simpa using e
      have e5 : i = j := by omega
      rw [e5]; exact hb
    · cases e2
  · intro h
    exact ⟨(i : Int), List.mem_filterMap.2 ⟨i, List.mem_range.2 hi, by rw [if_pos h]⟩, by simp⟩
theorem with_rises (l : List TTitle) (p : ByteArray) : risesN (withTo l p l.length) l.length := by
  refine rises_of ?_ fun x hx => ?_
  · unfold withTo
    refine List.pairwise_filterMap.2 (List.pairwise_lt_range.imp fun {a b} hab x hx y hy => ?_)
    split at hx <;> simp at hx
    split at hy <;> simp at hy
    omega
  · obtain ⟨j, hj, e2⟩ := List.mem_filterMap.1 hx
    have hj' := List.mem_range.1 hj
    split at e2 <;> simp at e2
    omega
end Go.Proofs.Ytlgcehdklpbknaa
