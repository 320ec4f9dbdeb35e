/- FnTours and FnRoads: plain laws. The best tour is a possible one, none pays more, none is longer; a tour's days, one by one. No condition. -/
import Derived.Test.YtlgcehdklpbknaaVisitP
namespace Go.Proofs.Ytlgcehdklpbknaa
open Go Go.RowKit Go.ChangeShapes Go.WideShapes
set_option linter.unusedSimpArgs false
set_option linter.unusedVariables false
section
variable {l : List THall} {H : List Int} {R : List (List Int)}
theorem late_app {T E : List Int} (h : lateT l H R (T ++ E) = false) : lateT l H R T = false := by
  rcases q : lateT l H R T with _ | _
  · rfl
  · have := lateT_take (l := l) (H := H) (R := R) (T := T ++ E) (k := T.length) (by rw [List.take_left' rfl]; exact q)
    rw [this] at h
    cases h
theorem tourOk_app {n : Nat} {T E : List Int} (h : tourOk n (T ++ E) = true) : tourOk n T = true := by
  refine allTo_true fun i hi => ?_
  have := allTo_get h i (by rw [List.length_append]; omega)
  unfold tourOkAt at this ⊢
  rw [show (T ++ E).getD i 0 = T.getD i 0 from by simp [List.getD, List.getElem?_append_left hi], List.take_append_of_le_length (by omega)] at this
  exact this
theorem tourOk_new {n : Nat} {T E : List Int} {k : Int} (h : tourOk n (T ++ k :: E) = true) : ∃ j : Nat, k = (j : Int) ∧ j < n ∧ hasI T (j : Int) = false := by
  have hi : T.length < (T ++ k :: E).length := by simp
  have := allTo_get h T.length hi
  unfold tourOkAt at this
  rw [show (T ++ k :: E).getD T.length 0 = k from by simp, List.take_left' rfl] at this
  simp only [Bool.and_eq_true, Bool.not_eq_true'] at this
  have hb := inB_true this.1
  refine ⟨k.toNat, by omega, by omega, ?_⟩
  rw [show ((k.toNat : Nat) : Int) = k by omega]
  exact this.2
theorem kids_any {σ : Type} (P : σ → Prop) (f : σ → List Int → σ) (T : List Int) (n : Nat) (s : σ) (hf : ∀ s T', P s → P (f s T')) (h : P s) : P (kidsF f T n s) := by
  induction n with
  | zero => exact h
  | succ n ih =>
    rw [kidsF]
    split
    · exact ih
    · exact hf _ _ ih
theorem visit_any {σ : Type} (P : σ → Prop) (f : σ → List Int → σ) (hf : ∀ s T', P s → P (f s T')) (n : Nat) (s : σ) (T : List Int) (h : P s) : P (visit f l H R n s T) := by
  induction n generalizing s T with
  | zero =>
    rw [visit]
    split
    · exact h
    · exact hf s T h
  | succ n ih =>
    rw [visit]
    split
    · exact h
    · exact kids_any P _ T l.length _ (fun s T' hs => ih s T' hs) (hf s T h)
/-- every possible tour is looked at -/
theorem visit_cover {σ : Type} (P : σ → List Int → Prop) (f : σ → List Int → σ) (hf : ∀ s T, P (f s T) T) (hk : ∀ s T T', P s T → P (f s T') T) : ∀ (E : List Int) (n : Nat) (s : σ) (T : List Int), tourOk l.length (T ++ E) = true → lateT l H R (T ++ E) = false → l.length ≤ T.length + n → P (visit f l H R n s T) (T ++ E)
  | [], n, s, T, hT, hL, hn => by
    rw [List.append_nil] at hT hL ⊢
    rw [visit_on f s hL hT hn]
    exact kids_any (fun s => P s T) _ T _ _ (fun s T' hs => visit_any (fun s => P s T) f (fun s T'' hs => hk s T T'' hs) _ s T' hs) (hf s T)
  | k :: E, n, s, T, hT, hL, hn => by
    have hL0 := late_app hL
    have hT0 := tourOk_app hT
    obtain ⟨j, rfl, hj, hh⟩ := tourOk_new hT
    have hfu := more_fuel hT0 hn hj hh
    rw [visit_on f s hL0 hT0 hn]
    have hT1 : tourOk l.length ((T ++ [(j : Int)]) ++ E) = true := by rw [List.append_assoc]; exact hT
    have hL1 : lateT l H R ((T ++ [(j : Int)]) ++ E) = false := by rw [List.append_assoc]; exact hL
    have hcov := fun s => visit_cover P f hf hk E (n - 1) s (T ++ [(j : Int)]) hT1 hL1 hfu.2
    have e : T ++ (j : Int) :: E = (T ++ [(j : Int)]) ++ E := by rw [List.append_assoc]; rfl
    rw [e]
    generalize f s T = s0
    have hall : ∀ m, j < m → P (kidsF (visit f l H R (n - 1)) T m s0) ((T ++ [(j : Int)]) ++ E) := by
      intro m
      induction m with
      | zero => intro h; omega
      | succ m ih =>
        intro hjm
        by_cases em : j = m
        · subst em
          rw [kids_on _ _ _ _ hh]
          exact hcov _
        · have := ih (by omega)
          rw [kidsF]
          split
          · exact this
          · exact visit_any (fun s => P s ((T ++ [(j : Int)]) ++ E)) f (fun s T' hs => hk s _ T' hs) _ _ _ this
    exact hall _ hj
/-- what every step keeps, at tours that are not late -/
theorem visit_keep2 {σ : Type} (P : σ → Prop) (f : σ → List Int → σ) (hf : ∀ s T, tourOk l.length T = true → lateT l H R T = false → P s → P (f s T)) (n : Nat) (s : σ) (T : List Int) (hT : tourOk l.length T = true) (h : P s) : P (visit f l H R n s T) := by
  induction n generalizing s T with
  | zero =>
    rw [visit]
    split
    · exact h
    · rename_i q
      exact hf s T hT (by simpa using q) h
  | succ n ih =>
    rw [visit]
    split
    · exact h
    · rename_i q
      exact kids_keep P _ T l.length l.length _ (Nat.le_refl _) (fun s k hk hh hs => ih s _ (tourOk_snoc hT hk hh) hs) (hf s T hT (by simpa using q) h)
def incT (l : List THall) (H : List Int) (R : List (List Int)) (T : List Int) : Int := (runT l H R startT T).2.2.1
theorem best_most {T : List Int} (hT : tourOk l.length T = true) (hL : lateT l H R T = false) : incT l H R T ≤ (bestT l H R).2 := by
  have := visit_cover (l := l) (H := H) (R := R) (fun (s : List Int × Int) T => incT l H R T ≤ s.2) (stepB l H R) (fun s T => by
    unfold stepB
    split
    · exact Int.le_refl _
    · rename_i q
      show incT l H R T ≤ s.2
      unfold incT
      omega) (fun s T T' hs => by
    unfold stepB
    split
    · rename_i q
      show incT l H R T ≤ (runT l H R startT T').2.2.1
      omega
    · exact hs) T l.length ([], -1) [] hT hL (by simp)
  exact this
theorem long_most {T : List Int} (hT : tourOk l.length T = true) (hL : lateT l H R T = false) : (T.length : Int) ≤ longT l H R := by
  have := visit_cover (l := l) (H := H) (R := R) (fun (m : Int) T => (T.length : Int) ≤ m) stepL (fun s T => by
    show (T.length : Int) ≤ max s T.length
    omega) (fun s T T' hs => by
    show (T.length : Int) ≤ max s T'.length
    omega) T l.length 0 [] hT hL (by simp)
  exact this
/-- the best tour is one -/
theorem best_is : tourOk l.length (bestT l H R).1 = true ∧ lateT l H R (bestT l H R).1 = false ∧ incT l H R (bestT l H R).1 = (bestT l H R).2 := by
  have h0 : (0 : Int) ≤ (bestT l H R).2 := best_most (T := []) rfl rfl
  have := visit_keep2 (l := l) (H := H) (R := R) (fun (s : List Int × Int) => s.2 = -1 ∨ (tourOk l.length s.1 = true ∧ lateT l H R s.1 = false ∧ incT l H R s.1 = s.2)) (stepB l H R) (fun s T hT hL hs => by
    unfold stepB
    split
    · exact .inr ⟨hT, hL, rfl⟩
    · exact hs) l.length ([], -1) [] rfl (.inl rfl)
  rcases this with h | h
  · have e : (bestT l H R).2 = -1 := h
    omega
  · exact h
/-- day by day -/
theorem shows_at {T : List Int} {i : Nat} (hi : i < T.length) (h : i < (showsT l H R startT T).length) : (showsT l H R startT T)[i] = showT l H R (runT l H R startT (T.take i)) T[i] := by
  have hs : ∀ (T : List Int) (t : TS) (i : Nat) (hi : i < T.length) (h : i < (showsT l H R t T).length), (showsT l H R t T)[i] = showT l H R (runT l H R t (T.take i)) T[i] := by
    intro T
    induction T with
    | nil => intro t i hi; simp at hi
    | cons k ks ih =>
      intro t i hi h
      cases i with
      | zero => rfl
      | succ i =>
        simp only [showsT, List.getElem_cons_succ, List.take_succ_cons]
        exact ih (nextT l H R t k) i (by simpa using hi) _
  exact hs T startT i hi h
theorem run_at {T : List Int} {i : Nat} (hi : i + 1 ≤ T.length) (h : i < (showsT l H R startT T).length) : (runT l H R startT (T.take (i + 1))).1 = T[i]'(by omega) ∧ (runT l H R startT (T.take (i + 1))).2.1 = (showsT l H R startT T)[i] + 1 := by
  rw [List.take_succ_eq_append_getElem (by omega), runT_snoc, shows_at (by omega) h]
  exact ⟨rfl, rfl⟩
/-- what a2Tour asks at a place of a possible tour -/
theorem tour_day (hH : HallsOk l H R) {T : List Int} (hT : tourOk l.length T = true) (hL : lateT l H R T = false) {i : Nat} (hi : i < T.length) (h : i < (showsT l H R startT T).length) :
    ∃ j : Nat, T[i] = (j : Int) ∧ j < l.length ∧ hasI (T.take i) T[i] = false ∧ (showsT l H R startT T)[i] = max (thereT H R (runT l H R startT (T.take i)) T[i]) (hallAt l T[i]).1 ∧ (showsT l H R startT T)[i] ≤ (hallAt l T[i]).2.1 ∧
      (i = 0 → thereT H R (runT l H R startT (T.take i)) T[i] = H.getD j 0) ∧ (∀ m (hm : m < T.length) (h' : m < (showsT l H R startT T).length), i = m + 1 → ∃ q : Nat, T[m] = (q : Int) ∧ q < l.length ∧ thereT H R (runT l H R startT (T.take i)) T[i] = (showsT l H R startT T)[m] + 1 + (R.getD q []).getD j 0) := by
  obtain ⟨j, e, hj⟩ := tourOk_at hT i hi
  refine ⟨j, e, hj, ?_, ?_, ?_, ?_, ?_⟩
  · have := allTo_get hT i hi
    unfold tourOkAt at this
    rw [show T.getD i 0 = T[i] from by simp [List.getD, hi]] at this
    simp only [Bool.and_eq_true, Bool.not_eq_true'] at this
    exact this.2
  · rw [shows_at hi h]
    rfl
  · rcases q : lateT l H R (T.take (i + 1)) with _ | _
    · unfold lateT at q
      rw [List.take_succ_eq_append_getElem hi, runT_snoc] at q
      simp only [nextT, Bool.or_eq_false_iff, decide_eq_false_iff_not] at q
      rw [shows_at hi h]
      omega
    · rw [lateT_take q] at hL
      cases hL
  · intro h0
    subst h0
    rw [e]
    show (0 : Int) + way H R (-1) (j : Int) = _
    unfold way
    rw [if_neg (by omega)]
    simp
  · intro m hm h' hmi
    subst hmi
    obtain ⟨q, eq, hq⟩ := tourOk_at hT m hm
    obtain ⟨r1, r2⟩ := run_at (l := l) (H := H) (R := R) (T := T) (i := m) (by omega) h'
    refine ⟨q, eq, hq, ?_⟩
    unfold thereT way
    rw [r1, r2, eq, e, if_pos (by omega)]
    simp
/-- distinct numbers in range make a tour -/
theorem tourOk_of {n : Nat} {T : List Int} (h1 : ∀ x ∈ T, 0 ≤ x ∧ x < (n : Int)) (h2 : T.Nodup) : tourOk n T = true := by
  refine allTo_true fun i hi => ?_
  unfold tourOkAt
  have e : T.getD i 0 = T[i] := by simp [List.getD, hi]
  rw [e]
  have hb := h1 _ (List.getElem_mem hi)
  have hn : hasI (T.take i) T[i] = false := by
    unfold hasI
    rw [List.any_eq_false]
    intro y hy
    obtain ⟨k, hk, rfl⟩ := List.getElem_of_mem hy
    rw [List.length_take] at hk
    rw [List.getElem_take]
    have := (List.pairwise_iff_getElem.1 h2) k i (by omega) hi (by omega)
    simp
    exact fun e => this e.symm
  rw [hn]
  simp [inB]
  omega
end
end Go.Proofs.Ytlgcehdklpbknaa
