/- Shorter roads: the plain law. The way over all halls, one after the other, is the shortest one. No condition. -/
import Derived.Test.YtlgcehdklpbknaaMem
namespace Go.Proofs.Ytlgcehdklpbknaa
open Go Go.RowKit
set_option linter.unusedSimpArgs false
set_option linter.unusedVariables false
/-- roads after t halls have been looked at -/
def fw (D : Nat → Nat → Int) : Nat → Nat → Nat → Int
  | 0, i, k => D i k
  | t + 1, i, k => min (fw D t i k) (fw D t i t + fw D t t k)
def fh (H : Nat → Int) (D : Nat → Nat → Int) : Nat → Nat → Int
  | 0, i => H i
  | t + 1, i => min (fh H D t i) (fh H D t t + fw D t t i)
/-- the least way home over one hall -/
def sh (H : Nat → Int) (E : Nat → Nat → Int) : Nat → Nat → Int
  | 0, i => H i
  | k + 1, i => min (sh H E k i) (H k + E k i)
structure Rd (H : Nat → Int) (D : Nat → Nat → Int) : Prop where
  d0 : ∀ i k, 0 ≤ D i k
  h0 : ∀ i, 0 ≤ H i
  dd : ∀ i, D i i = 0
section
variable {H : Nat → Int} {D : Nat → Nat → Int}
theorem fw_nonneg (h : ∀ i k, 0 ≤ D i k) : ∀ t i k, 0 ≤ fw D t i k
  | 0, i, k => h i k
  | t + 1, i, k => by
    have h1 := fw_nonneg h t i k
    have h2 := fw_nonneg h t i t
    have h3 := fw_nonneg h t t k
    unfold fw
    omega
theorem fw_succ_le (t i k : Nat) : fw D (t + 1) i k ≤ fw D t i k := by
  show min _ _ ≤ _
  omega
theorem fw_succ_le2 (t i k : Nat) : fw D (t + 1) i k ≤ fw D t i t + fw D t t k := by
  show min _ _ ≤ _
  omega
theorem fw_le (t i k : Nat) : fw D t i k ≤ D i k := by
  induction t with
  | zero => exact Int.le_refl _
  | succ t ih => exact Int.le_trans (fw_succ_le t i k) ih
theorem fw_diag (h : ∀ i k, 0 ≤ D i k) (hd : ∀ i, D i i = 0) (t i : Nat) : fw D t i i = 0 := by
  have h1 := fw_nonneg h t i i
  have h2 := fw_le (D := D) t i i
  rw [hd] at h2
  omega
theorem fw_row (h : ∀ i k, 0 ≤ D i k) (hd : ∀ i, D i i = 0) (t k : Nat) : fw D (t + 1) t k = fw D t t k := by
  have h1 := fw_diag h hd t t
  show min _ _ = _
  omega
theorem fw_col (h : ∀ i k, 0 ≤ D i k) (hd : ∀ i, D i i = 0) (t i : Nat) : fw D (t + 1) i t = fw D t i t := by
  have h1 := fw_diag h hd t t
  show min _ _ = _
  omega
theorem fw_tri (h : ∀ i k, 0 ≤ D i k) (hd : ∀ i, D i i = 0) : ∀ t i k j, j < t → fw D t i k ≤ fw D t i j + fw D t j k
  | 0, _, _, _, hj => absurd hj (by omega)
  | t + 1, i, k, j, hj => by
    by_cases e : j = t
    · subst e
      rw [fw_row h hd, fw_col h hd]
      exact fw_succ_le2 _ _ _
    · have ih := fun i k => fw_tri h hd t i k j (by omega)
      have a1 := ih i k
      have a2 := ih t k
      have a3 := ih i t
      have a4 := fw_succ_le (D := D) t i k
      have a5 := fw_succ_le2 (D := D) t i k
      have a6 := fw_nonneg h t j t
      have a7 := fw_nonneg h t t j
      have e1 : fw D (t + 1) i j = min (fw D t i j) (fw D t i t + fw D t t j) := rfl
      have e2 : fw D (t + 1) j k = min (fw D t j k) (fw D t j t + fw D t t k) := rfl
      rw [e1, e2]
      omega
theorem fh_succ_le (t i : Nat) : fh H D (t + 1) i ≤ fh H D t i := by
  show min _ _ ≤ _
  omega
theorem fh_succ_le2 (t i : Nat) : fh H D (t + 1) i ≤ fh H D t t + fw D t t i := by
  show min _ _ ≤ _
  omega
theorem fh_le0 (t i : Nat) : fh H D t i ≤ H i := by
  induction t with
  | zero => exact Int.le_refl _
  | succ t ih => exact Int.le_trans (fh_succ_le t i) ih
theorem fh_nonneg (h : Rd H D) : ∀ t i, 0 ≤ fh H D t i
  | 0, i => h.h0 i
  | t + 1, i => by
    have h1 := fh_nonneg h t i
    have h2 := fh_nonneg h t t
    have h3 := fw_nonneg h.d0 t t i
    unfold fh
    omega
theorem fh_self (h : Rd H D) (t : Nat) : fh H D (t + 1) t = fh H D t t := by
  have := fw_diag h.d0 h.dd t t
  show min _ _ = _
  omega
theorem fh_le (h : Rd H D) : ∀ t i k, k < t → fh H D t i ≤ H k + fw D t k i
  | 0, _, _, hk => absurd hk (by omega)
  | t + 1, i, k, hk => by
    have a2 := fh_succ_le2 (H := H) (D := D) t i
    by_cases e : k = t
    · subst e
      rw [fw_row h.d0 h.dd]
      have := fh_le0 (H := H) (D := D) k k
      omega
    · have b1 := fh_le h t i k (by omega)
      have b2 := fh_le h t t k (by omega)
      have a1 := fh_succ_le (H := H) (D := D) t i
      have e1 : fw D (t + 1) k i = min (fw D t k i) (fw D t k t + fw D t t i) := rfl
      rw [e1]
      omega
theorem fh_att (h : Rd H D) : ∀ t i, fh H D t i = H i ∨ ∃ k, k < t ∧ fh H D t i = H k + fw D t k i
  | 0, _ => .inl rfl
  | t + 1, i => by
    have e1 : fh H D (t + 1) i = min (fh H D t i) (fh H D t t + fw D t t i) := rfl
    have up := fun k (hk : k < t + 1) => fh_le h (t + 1) i k hk
    by_cases c : fh H D t i ≤ fh H D t t + fw D t t i
    · have e2 : fh H D (t + 1) i = fh H D t i := by omega
      rcases fh_att h t i with a | ⟨k, hk, a⟩
      · exact .inl (by omega)
      · refine .inr ⟨k, by omega, ?_⟩
        have := up k (by omega)
        have := fw_succ_le (D := D) t k i
        omega
    · have e2 : fh H D (t + 1) i = fh H D t t + fw D t t i := by omega
      rcases fh_att h t t with a | ⟨k, hk, a⟩
      · exact .inr ⟨t, by omega, by rw [fw_row h.d0 h.dd]; omega⟩
      · refine .inr ⟨k, by omega, ?_⟩
        have := up k (by omega)
        have := fw_succ_le2 (D := D) t k i
        omega
theorem sh_le0 (E : Nat → Nat → Int) : ∀ n i, sh H E n i ≤ H i
  | 0, _ => Int.le_refl _
  | n + 1, i => by
    have := sh_le0 E n i
    show min _ _ ≤ _
    omega
theorem sh_le (E : Nat → Nat → Int) : ∀ n i k, k < n → sh H E n i ≤ H k + E k i
  | 0, _, _, hk => absurd hk (by omega)
  | n + 1, i, k, hk => by
    show min _ _ ≤ _
    by_cases e : k = n
    · subst e; omega
    · have := sh_le E n i k (by omega)
      omega
theorem sh_att (E : Nat → Nat → Int) : ∀ n i, sh H E n i = H i ∨ ∃ k, k < n ∧ sh H E n i = H k + E k i
  | 0, _ => .inl rfl
  | n + 1, i => by
    have e1 : sh H E (n + 1) i = min (sh H E n i) (H n + E n i) := rfl
    by_cases c : sh H E n i ≤ H n + E n i
    · have e2 : sh H E (n + 1) i = sh H E n i := by omega
      rcases sh_att E n i with a | ⟨k, hk, a⟩
      · exact .inl (by omega)
      · exact .inr ⟨k, by omega, by omega⟩
    · exact .inr ⟨n, by omega, by omega⟩
/-- the program's way home is the reference's -/
theorem fh_sh (h : Rd H D) (n i : Nat) : fh H D n i = sh H (fw D n) n i := by
  have h1 : fh H D n i ≤ sh H (fw D n) n i := by
    rcases sh_att (H := H) (fw D n) n i with a | ⟨k, hk, a⟩
    · rw [a]; exact fh_le0 _ _
    · rw [a]; exact fh_le h n i k hk
  have h2 : sh H (fw D n) n i ≤ fh H D n i := by
    rcases fh_att h n i with a | ⟨k, hk, a⟩
    · rw [a]; exact sh_le0 _ _ _
    · rw [a]; exact sh_le _ n i k hk
  omega
/-- what FnRoads asks of the way home -/
theorem fh_tri (h : Rd H D) (n i k : Nat) (hi : i < n) : fh H D n k ≤ fh H D n i + fw D n i k := by
  rcases fh_att h n i with a | ⟨j, hj, a⟩
  · rw [a]; exact fh_le h n k i hi
  · rw [a]
    have h1 := fh_le h n k j hj
    have h2 := fw_tri h.d0 h.dd n j k i hi
    omega
end
/-! ### lists of what a function says -/
def vec (n : Nat) (f : Nat → Int) : List Int := (List.range n).map f
def mat (n : Nat) (f : Nat → Nat → Int) : List (List Int) := (List.range n).map fun i => vec n (f i)
theorem vec_len (n : Nat) (f : Nat → Int) : (vec n f).length = n := by simp [vec]
theorem mat_len (n : Nat) (f : Nat → Nat → Int) : (mat n f).length = n := by simp [mat]
theorem vec_at {n : Nat} {f : Nat → Int} {i : Nat} (h : i < (vec n f).length) : (vec n f)[i] = f i := by simp [vec]
theorem mat_at {n : Nat} {f : Nat → Nat → Int} {i : Nat} (h : i < (mat n f).length) : (mat n f)[i] = vec n (f i) := by simp [mat]
theorem vec_ext {n : Nat} {f g : Nat → Int} (h : ∀ i, i < n → f i = g i) : vec n f = vec n g := by
  unfold vec
  exact List.map_congr_left fun i hi => h i (List.mem_range.1 hi)
theorem mat_ext {n : Nat} {f g : Nat → Nat → Int} (h : ∀ i k, i < n → k < n → f i k = g i k) : mat n f = mat n g := by
  unfold mat
  exact List.map_congr_left fun i hi => vec_ext fun k hk => h i k (List.mem_range.1 hi) hk
theorem vec_of (l : List Int) : vec l.length (fun i => l.getD i 0) = l := by
  apply List.ext_getElem
  · simp [vec]
  · intro i h1 h2
    simp [vec, h2]
theorem mat_of {R : List (List Int)} (h : ∀ r ∈ R, r.length = R.length) : mat R.length (fun i k => (R.getD i []).getD k 0) = R := by
  apply List.ext_getElem
  · simp [mat]
  · intro i h1 h2
    have hr := h R[i] (List.getElem_mem h2)
    rw [mat_at h1]
    have : (fun k => (R.getD i []).getD k 0) = fun k => (R[i]).getD k 0 := by simp [h2]
    rw [this, ← hr]
    exact vec_of _
theorem vec_set {n : Nat} {f : Nat → Int} {i : Nat} {x : Int} : (vec n f).set i x = vec n (fun j => if j = i then x else f j) := by
  apply List.ext_getElem
  · simp [vec]
  · intro j h1 h2
    simp only [vec, List.getElem_set, List.getElem_map, List.getElem_range]
    by_cases e : i = j
    · subst e; simp
    · rw [if_neg e, if_neg (fun h => e h.symm)]
theorem mat_set {n : Nat} {f : Nat → Nat → Int} {i k : Nat} {x : Int} : (mat n f).set i ((vec n (f i)).set k x) = mat n (fun a b => if a = i ∧ b = k then x else f a b) := by
  rw [vec_set]
  apply List.ext_getElem
  · simp [mat]
  · intro j h1 h2
    simp only [mat, List.getElem_set, List.getElem_map, List.getElem_range]
    by_cases e : i = j
    · subst e
      rw [if_pos rfl]
      exact vec_ext fun k hk => by simp
    · rw [if_neg e]
      exact vec_ext fun k hk => by rw [if_neg (fun h => e h.1.symm)]
end Go.Proofs.Ytlgcehdklpbknaa
