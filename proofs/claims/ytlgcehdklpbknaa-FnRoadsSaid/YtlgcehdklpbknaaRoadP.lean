/- FnRoads: plain laws. What is waited, day by day; the halls that can follow, in their order. No condition. -/
import Derived.Test.YtlgcehdklpbknaaTourP
import Derived.Test.YtlgcehdklpbknaaShortQ
namespace Go.Proofs.Ytlgcehdklpbknaa
open Go Go.RowKit Go.ChangeShapes Go.WideShapes
set_option linter.unusedSimpArgs false
set_option linter.unusedVariables false
section
variable {l : List THall} {H : List Int} {R : List (List Int)}
def waitTo (l : List THall) (H : List Int) (R : List (List Int)) (T : List Int) (k : Nat) : Int := (runT l H R startT (T.take k)).2.2.2.1
/-- what is waited at a place -/
theorem wait_step {T : List Int} {i : Nat} (hi : i < T.length) (h : i < (showsT l H R startT T).length) : waitTo l H R T (i + 1) = waitTo l H R T i + (showsT l H R startT T)[i] - thereT H R (runT l H R startT (T.take i)) T[i] := by
  unfold waitTo
  rw [List.take_succ_eq_append_getElem hi, runT_snoc, shows_at hi h]
  rfl
/-- the halls that can follow are in their order -/
theorem next_mem {T : List Int} : ∀ n x, x ∈ nextTo l H R T n → ∃ j : Nat, x = (j : Int) ∧ j < n ∧ nextOk l H R T j = true
  | 0, x, h => by simp [nextTo] at h
  | n + 1, x, h => by
    simp only [nextTo, List.mem_append] at h
    rcases h with h | h
    · obtain ⟨j, e, hj, ho⟩ := next_mem n x h
      exact ⟨j, e, by omega, ho⟩
    · split at h
      · rename_i q
        rw [List.mem_singleton] at h
        exact ⟨n, h, by omega, q⟩
      · simp at h
theorem next_pair {T : List Int} : ∀ n, (nextTo l H R T n).Pairwise (· < ·)
  | 0 => by simp [nextTo]
  | n + 1 => by
    simp only [nextTo]
    rw [List.pairwise_append]
    refine ⟨next_pair n, by split <;> simp, fun a ha b hb => ?_⟩
    obtain ⟨j, e, hj, -⟩ := next_mem n a ha
    split at hb
    · rw [List.mem_singleton] at hb
      omega
    · simp at hb
theorem next_has {T : List Int} {n k : Nat} (hk : k < n) : hasI (nextTo l H R T n) (k : Int) = nextOk l H R T k := by
  rw [Bool.eq_iff_iff]
  unfold hasI
  rw [List.any_eq_true]
  constructor
  · rintro ⟨x, hx, e⟩
    obtain ⟨j, e2, hj, ho⟩ := next_mem n x hx
    rw [beq_iff_eq] at e
    have : k = j := by omega
    subst this
    exact ho
  · intro h
    refine ⟨(k : Int), ?_, by simp⟩
    induction n with
    | zero => omega
    | succ n ih =>
      simp only [nextTo, List.mem_append]
      by_cases e : k = n
      · subst e
        right
        rw [if_pos h]
        simp
      · exact .inl (ih (by omega))
/-- numbers that rise -/
def rises (L : List Int) (n : Nat) : Prop := ∀ i (hi : i < L.length), 0 ≤ L[i] ∧ L[i] < (n : Int) ∧ ∀ m (hm : m < L.length), i = m + 1 → L[m] < L[i]
theorem next_rises (T : List Int) (n : Nat) : rises (nextTo l H R T n) n := fun i hi => by
  obtain ⟨j, e, hj, -⟩ := next_mem n _ (List.getElem_mem hi)
  refine ⟨by omega, by omega, fun m hm hmi => ?_⟩
  exact (List.pairwise_iff_getElem.1 (next_pair n)) m i hm hi (by omega)
/-- what the law asks of one hall that the tour has not -/
theorem next_code {T : List Int} {k : Nat} (hok : okHalls l H R = true) (hT : tourOk l.length T = true) (hk : k < l.length) (hh : hasI T (k : Int) = false) : (tcode l H R (T ++ [(k : Int)]) == 0) = nextOk l H R T k := by
  have h1 := tourOk_snoc hT hk hh
  have h2 := late_snoc l H R T k
  unfold nextOk
  rw [hh]
  rcases q : lateT l H R (T ++ [(k : Int)]) with _ | _
  · rw [tcode0 hok h1 q, ← h2, q]
    rfl
  · rw [tcode9 hok h1 q, ← h2, q]
    rfl
theorem next_not {T : List Int} {k : Nat} (hh : hasI T (k : Int) = true) : nextOk l H R T k = false := by
  unfold nextOk
  rw [hh]
  rfl
theorem code_or {T : List Int} (hok : okHalls l H R = true) (hT : tourOk l.length T = true) : tcode l H R T = 0 ∨ tcode l H R T = 9 := by
  rcases q : lateT l H R T with _ | _
  · exact .inl (tcode0 hok hT q)
  · exact .inr (tcode9 hok hT q)
end
end Go.Proofs.Ytlgcehdklpbknaa
