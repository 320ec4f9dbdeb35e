/- Shorter roads: what the roads read as between two stores, and what a store leaves. No condition but that the roads are owned. -/
import Derived.Test.YtlgcehdklpbknaaShortP
import Derived.Test.YtlgcehdklpbknaaHalls
import Derived.RangeFuncSeq
namespace Go.Proofs.Ytlgcehdklpbknaa
open Go Go.RowKit Go.ChangeShapes Go.WideShapes
set_option linter.unusedSimpArgs false
set_option linter.unusedVariables false
def hfn (H : List Int) (i : Nat) : Int := H.getD i 0
def dfn (R : List (List Int)) (i k : Nat) : Int := (R.getD i []).getD k 0
theorem hfn_bd {H : List Int} {n : Nat} (h : daysOk H n = true) (i : Nat) : 0 ≤ hfn H i ∧ hfn H i ≤ 30 := by
  unfold hfn
  by_cases hi : i < H.length
  · have e : H.getD i 0 = H[i] := by simp [List.getD, hi]
    rw [e]
    exact daysOk_at h i hi
  · have e : H.getD i 0 = 0 := by simp [List.getD, hi]
    rw [e]
    omega
theorem valid_rd {H : List Int} {R : List (List Int)} {n : Nat} (h : validR H R n = true) : Rd (hfn H) (dfn R) ∧ (∀ i, hfn H i ≤ 30) ∧ (∀ i k, dfn R i k ≤ 30) ∧ H.length = n ∧ R.length = n ∧ ∀ r ∈ R, r.length = n := by
  unfold validR at h
  simp only [Bool.and_eq_true, decide_eq_true_eq] at h
  obtain ⟨h1, h2, h3⟩ := h
  have hrow : ∀ i, i < n → daysOk (R.getD i []) n = true ∧ (R.getD i []).getD i 0 = 0 := fun i hi => by
    have := allTo_get h3 i hi
    unfold rowOkAt at this
    simp only [Bool.and_eq_true, beq_iff_eq] at this
    exact this
  have hout : ∀ i, ¬ i < n → R.getD i [] = [] := fun i hi => by simp [List.getD, show ¬ i < R.length by omega]
  have hb : ∀ i k, 0 ≤ dfn R i k ∧ dfn R i k ≤ 30 := fun i k => by
    unfold dfn
    by_cases hi : i < n
    · exact hfn_bd (hrow i hi).1 k
    · rw [hout i hi]
      simp
  refine ⟨⟨fun i k => (hb i k).1, fun i => (hfn_bd h1 i).1, fun i => ?_⟩, fun i => (hfn_bd h1 i).2, fun i k => (hb i k).2, daysOk_len h1, h2, fun r hr => ?_⟩
  · by_cases hi : i < n
    · exact (hrow i hi).2
    · unfold dfn
      rw [hout i hi]
      rfl
  · obtain ⟨i, hi, rfl⟩ := List.getElem_of_mem hr
    have := (hrow i (by omega)).1
    rw [show R.getD i [] = R[i] by simp [List.getD, hi]] at this
    exact daysOk_len this
theorem vec_hfn {H : List Int} {n : Nat} (h : H.length = n) : vec n (hfn H) = H := by subst h; exact vec_of H
theorem mat_dfn {R : List (List Int)} {n : Nat} (h : R.length = n) (hr : ∀ r ∈ R, r.length = n) : mat n (dfn R) = R := by subst h; exact mat_of hr
def shortR (H : List Int) (R : List (List Int)) : (List Int × List (List Int)) × Int :=
  if H.length ≤ 6 ∧ validR H R H.length = true then ((vec H.length (fh (hfn H) (dfn R) H.length), mat H.length (fw (dfn R) H.length)), 0) else (([], []), 1)
/-! ### between two stores -/
def dcur (D : Nat → Nat → Int) (t i k a b : Nat) : Int := if a < i ∨ (a = i ∧ b < k) then fw D (t + 1) a b else fw D t a b
def hcur (H : Nat → Int) (D : Nat → Nat → Int) (t i a : Nat) : Int := if a < i then fh H D (t + 1) a else fh H D t a
def scur (H : Nat → Int) (E : Nat → Nat → Int) (n i k a : Nat) : Int := if a < i then sh H E n a else if a = i then sh H E k a else H a
section
variable {H : Nat → Int} {D : Nat → Nat → Int}
theorem dcur_next (t i k : Nat) : (fun a b => if a = i ∧ b = k then fw D (t + 1) i k else dcur D t i k a b) = dcur D t i (k + 1) := by
  funext a b
  unfold dcur
  by_cases h : a = i ∧ b = k
  · obtain ⟨rfl, rfl⟩ := h
    rw [if_pos ⟨rfl, rfl⟩, if_pos (.inr ⟨rfl, by omega⟩)]
  · rw [if_neg h]
    by_cases h2 : a < i ∨ (a = i ∧ b < k)
    · rw [if_pos h2, if_pos (by omega)]
    · rw [if_neg h2, if_neg (by omega)]
theorem dcur_row (n t i : Nat) : mat n (dcur D t i n) = mat n (dcur D t (i + 1) 0) := mat_ext fun a b ha hb => by
  unfold dcur
  by_cases h : a < i ∨ (a = i ∧ b < n)
  · rw [if_pos h, if_pos (by omega)]
  · rw [if_neg h, if_neg (by omega)]
theorem dcur_start (n t : Nat) : mat n (dcur D t 0 0) = mat n (fw D t) := mat_ext fun a b ha hb => by unfold dcur; rw [if_neg (by omega)]
theorem dcur_end (n t : Nat) : mat n (dcur D t n 0) = mat n (fw D (t + 1)) := mat_ext fun a b ha hb => by unfold dcur; rw [if_pos (by omega)]
theorem dcur_self (t i k : Nat) : dcur D t i k i k = fw D t i k := by unfold dcur; rw [if_neg (by omega)]
theorem dcur_left (h : ∀ i k, 0 ≤ D i k) (hd : ∀ i, D i i = 0) (t i k : Nat) : dcur D t i k i t = fw D t i t := by
  unfold dcur
  split
  · exact fw_col h hd t i
  · rfl
theorem dcur_top (h : ∀ i k, 0 ≤ D i k) (hd : ∀ i, D i i = 0) (t i k b : Nat) : dcur D t i k t b = fw D t t b := by
  unfold dcur
  split
  · exact fw_row h hd t b
  · rfl
theorem hcur_next (t i : Nat) : (fun a => if a = i then fh H D (t + 1) i else hcur H D t i a) = hcur H D t (i + 1) := by
  funext a
  unfold hcur
  by_cases h : a = i
  · subst h; rw [if_pos rfl, if_pos (by omega)]
  · rw [if_neg h]
    by_cases h2 : a < i
    · rw [if_pos h2, if_pos (by omega)]
    · rw [if_neg h2, if_neg (by omega)]
theorem hcur_start (n t : Nat) : vec n (hcur H D t 0) = vec n (fh H D t) := vec_ext fun a ha => by unfold hcur; rw [if_neg (by omega)]
theorem hcur_end (n t : Nat) : vec n (hcur H D t n) = vec n (fh H D (t + 1)) := vec_ext fun a ha => by unfold hcur; rw [if_pos ha]
theorem hcur_self (t i : Nat) : hcur H D t i i = fh H D t i := by unfold hcur; rw [if_neg (by omega)]
theorem hcur_top (h : Rd H D) (t i : Nat) : hcur H D t i t = fh H D t t := by
  unfold hcur
  split
  · exact fh_self h t
  · rfl
theorem scur_next (E : Nat → Nat → Int) (n i k : Nat) : (fun a => if a = i then sh H E (k + 1) i else scur H E n i k a) = scur H E n i (k + 1) := by
  funext a
  unfold scur
  by_cases h : a = i
  · subst h; rw [if_pos rfl, if_neg (by omega), if_pos rfl]
  · rw [if_neg h]
    by_cases h2 : a < i
    · rw [if_pos h2, if_pos h2]
    · rw [if_neg h2, if_neg h, if_neg h2, if_neg h]
theorem scur_row (E : Nat → Nat → Int) (n i : Nat) : vec n (scur H E n i n) = vec n (scur H E n (i + 1) 0) := vec_ext fun a ha => by
  unfold scur
  by_cases h : a < i
  · rw [if_pos h, if_pos (by omega)]
  · rw [if_neg h]
    by_cases h2 : a = i
    · subst h2; rw [if_pos rfl, if_pos (by omega)]
    · rw [if_neg h2, if_neg (by omega)]
      by_cases h3 : a = i + 1
      · subst h3; rw [if_pos rfl]; rfl
      · rw [if_neg h3]
theorem scur_start (E : Nat → Nat → Int) (n : Nat) : vec n (scur H E n 0 0) = vec n H := vec_ext fun a ha => by
  unfold scur
  rw [if_neg (by omega)]
  split <;> rfl
theorem scur_end (E : Nat → Nat → Int) (n : Nat) : vec n (scur H E n n 0) = vec n (sh H E n) := vec_ext fun a ha => by unfold scur; rw [if_pos ha]
theorem scur_self (E : Nat → Nat → Int) (n i k : Nat) : scur H E n i k i = sh H E k i := by unfold scur; rw [if_neg (by omega), if_pos rfl]
theorem fw_bd (h : Rd H D) (hb : ∀ i k, D i k ≤ 30) (t i k : Nat) : 0 ≤ fw D t i k ∧ fw D t i k ≤ 30 := ⟨fw_nonneg h.d0 t i k, Int.le_trans (fw_le t i k) (hb i k)⟩
theorem fh_bd (h : Rd H D) (hb : ∀ i, H i ≤ 30) (t i : Nat) : 0 ≤ fh H D t i ∧ fh H D t i ≤ 30 := ⟨fh_nonneg h t i, Int.le_trans (fh_le0 t i) (hb i)⟩
theorem sh_bd (h : ∀ i, 0 ≤ H i) (hb : ∀ i, H i ≤ 30) (E : Nat → Nat → Int) (hE : ∀ i k, 0 ≤ E i k) (n i : Nat) : 0 ≤ sh H E n i ∧ sh H E n i ≤ 30 := by
  refine ⟨?_, Int.le_trans (sh_le0 E n i) (hb i)⟩
  rcases sh_att (H := H) E n i with a | ⟨k, -, a⟩
  · rw [a]; exact h i
  · rw [a]; have := h k; have := hE k i; omega
end
/-! ### memory -/
theorem OwnR.at_ {w : World} {B : Nat} {u : Value} {M : List TRow} {n : Nat} {f : Nat → Nat → Int} (h : OwnR w B u M) (hR : rowsOf M = mat n f) {i k : Nat} (hi : i < n) (hk : k < n) :
    ∃ gd cd g c, u = .slice (some ⟨gd, 0, none⟩) n cd ∧ (B ≤ gd ∧ gd < w.heap.size) ∧ M[i]? = some (.slice (some ⟨g, 0, none⟩) n c, vec n (f i)) ∧ (B ≤ g ∧ g < w.heap.size) ∧ w.cell? ⟨gd, i, none⟩ = some (.slice (some ⟨g, 0, none⟩) n c) ∧ w.cell? ⟨g, k, none⟩ = some (.int .i64 (f i k)) ∧ w.frozen? ⟨g, k, none⟩ = false := by
  have hl : M.length = n := by have := congrArg List.length hR; rw [rowsOf_len, mat_len] at this; exact this
  have hi' : i < M.length := by omega
  have hrow : M[i].2 = vec n (f i) := by
    have h1 : (rowsOf M)[i]'(by rw [rowsOf_len]; exact hi') = M[i].2 := by simp [rowsOf]
    rw [← h1]
    simp only [hR]
    exact mat_at _
  have hslr := h.slr
  obtain ⟨hO, hrows, -⟩ := h
  have hOi := hrows M[i] (List.getElem_mem hi')
  rw [hrow] at hOi
  rcases hO.form with ⟨-, hn⟩ | ⟨gd, cd, rfl, h1, h2, -, -⟩
  · rw [hn] at hi'; exact absurd hi' (by simp)
  rcases hOi.form with ⟨-, hn⟩ | ⟨g, c, hv, h3, h4, -, -⟩
  · have := congrArg List.length hn
    rw [vec_len] at this
    simp at this
    omega
  rw [vec_len] at hv
  rw [hl] at hO hslr ⊢
  have hci : w.cell? ⟨gd, i, none⟩ = some M[i].1 := by
    obtain ⟨b, o, hA, -, hc, -⟩ := hslr.row_at hi'
    injection hA with hA
    injection hA with hb ho _
    subst hb ho
    simpa using hc
  rw [hv] at hOi hci
  obtain ⟨c1, c2⟩ := hOi.cell1 k (by rw [vec_len]; exact hk)
  rw [vec_at] at c1
  refine ⟨gd, cd, g, c, rfl, ⟨h1, h2⟩, ?_, ⟨h3, h4⟩, hci, c1, c2⟩
  rw [List.getElem?_eq_getElem hi', ← hv, ← hrow]
theorem OwnR.put {w : World} {B : Nat} {u : Value} {M : List TRow} {n : Nat} {f : Nat → Nat → Int} (h : OwnR w B u M) (hR : rowsOf M = mat n f) {i k : Nat} (hi : i < n) (hk : k < n) {g c : Nat} (hM : M[i]? = some (.slice (some ⟨g, 0, none⟩) n c, vec n (f i))) (x : Int) :
    OwnR (w.setCell ⟨g, k, none⟩ (.int .i64 x)) B u (M.set i (.slice (some ⟨g, 0, none⟩) n c, (vec n (f i)).set k x)) ∧ rowsOf (M.set i (.slice (some ⟨g, 0, none⟩) n c, (vec n (f i)).set k x)) = mat n (fun a b => if a = i ∧ b = k then x else f a b) ∧ blocksR u (M.set i (.slice (some ⟨g, 0, none⟩) n c, (vec n (f i)).set k x)) = blocksR u M := by
  obtain ⟨hi', hMi⟩ := List.getElem?_eq_some_iff.1 hM
  have hsplit : M = M.take i ++ (.slice (some ⟨g, 0, none⟩) n c, vec n (f i)) :: M.drop (i + 1) := by
    rw [← hMi, ← List.drop_eq_getElem_cons hi', List.take_append_drop]
  have hset : ∀ y : TRow, M.set i y = M.take i ++ y :: M.drop (i + 1) := fun y => by
    rw [List.set_eq_take_append_cons_drop, if_pos hi']
  have hOi := h.2.1 M[i] (List.getElem_mem hi')
  rw [hMi] at hOi
  refine ⟨?_, ?_, ?_⟩
  · rw [hset]
    rw [hsplit] at h
    exact h.mark (hOi.set1 k x) ⟨rfl, rfl, rfl, (KeepsWalks.setCell w _ _).size, fun k _ hk => Below.heap_setCell _ _ _ k (fun e => hk (by rw [e]; rfl))⟩
  · have e : rowsOf (M.set i (.slice (some ⟨g, 0, none⟩) n c, (vec n (f i)).set k x)) = (rowsOf M).set i ((vec n (f i)).set k x) := by unfold rowsOf; rw [List.map_set]
    rw [e, hR]
    exact mat_set
  · unfold blocksR
    congr 1
    rw [List.map_set]
    have h5 : (M.map (·.1.ownBlock))[i]? = some (some g) := by rw [List.getElem?_map, hM]; rfl
    obtain ⟨h6, h7⟩ := List.getElem?_eq_some_iff.1 h5
    show (M.map (·.1.ownBlock)).set i (some g) = _
    rw [← h7]
    exact List.set_getElem_self h6
end Go.Proofs.Ytlgcehdklpbknaa
