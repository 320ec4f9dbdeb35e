/- NextHalls: what it answers, in plain Lean. -/
import Derived.Test.YtlgcehdklpbknaaTourN
namespace Go.Proofs.Ytlgcehdklpbknaa
open Go Go.RowKit Go.ChangeShapes Go.WideShapes
set_option linter.unusedSimpArgs false
set_option linter.unusedVariables false

def nextOk (l : List THall) (H : List Int) (R : List (List Int)) (T : List Int) (k : Nat) : Bool := !hasI T k && !(nextT l H R (runT l H R startT T) k).2.2.2.2
def nextTo (l : List THall) (H : List Int) (R : List (List Int)) (T : List Int) : Nat → List Int
  | 0 => []
  | n + 1 => nextTo l H R T n ++ if nextOk l H R T n then [(n : Int)] else []
theorem nextTo_len (l : List THall) (H : List Int) (R : List (List Int)) (T : List Int) (n : Nat) : (nextTo l H R T n).length ≤ n := by
  induction n with
  | zero => simp [nextTo]
  | succ n ih =>
    simp only [nextTo, List.length_append]
    split <;> simp <;> omega
def nextR (l : List THall) (H : List Int) (R : List (List Int)) (T : List Int) : List Int × Int := if tcode l H R T = 0 then (nextTo l H R T l.length, 0) else ([], tcode l H R T)
theorem nextR_len (l : List THall) (H : List Int) (R : List (List Int)) (T : List Int) : (nextR l H R T).1.length ≤ l.length := by
  unfold nextR
  split
  · exact nextTo_len ..
  · simp
theorem late_snoc (l : List THall) (H : List Int) (R : List (List Int)) (T : List Int) (k : Int) : lateT l H R (T ++ [k]) = (nextT l H R (runT l H R startT T) k).2.2.2.2 := by
  unfold lateT
  rw [runT_snoc]
theorem tourOk_snoc {n k : Nat} {T : List Int} (h : tourOk n T = true) (hk : k < n) (hh : hasI T k = false) : tourOk n (T ++ [(k : Int)]) = true := by
  refine allTo_true fun i hi => ?_
  rw [List.length_append, List.length_singleton] at hi
  by_cases e : i < T.length
  · have := allTo_get h i e
    unfold tourOkAt at this ⊢
    rw [show (T ++ [(k : Int)]).getD i 0 = T.getD i 0 from by simp [List.getD, List.getElem?_append_left e], List.take_append_of_le_length (by omega)]
    exact this
  · have e : i = T.length := by omega
    subst e
    unfold tourOkAt
    rw [show (T ++ [(k : Int)]).getD T.length 0 = k from by simp, List.take_left' rfl, hh]
    simp [inB]
    omega
/-- distinct numbers below n are at most n -/
theorem one_of (T : List Int) (a : Int) (h : T.Pairwise (· ≠ ·)) : (T.filter fun x => x == a).length ≤ 1 := by
  induction T with
  | nil => simp
  | cons y T ih =>
    rw [List.pairwise_cons] at h
    by_cases e : y = a
    · subst e
      have : T.filter (fun x => x == y) = [] := by
        rw [List.filter_eq_nil_iff]
        intro x hx
        simpa using fun e => h.1 x hx e.symm
      simp [this]
    · simpa [List.filter_cons, e] using ih h.2
theorem split_len (T : List Int) (a : Int) : T.length = (T.filter fun x => x == a).length + (T.filter fun x => !(x == a)).length := by
  induction T with
  | nil => rfl
  | cons y T ih =>
    by_cases e : y = a
    · simp [List.filter_cons, e]; omega
    · simp [List.filter_cons, e]; omega
theorem pigeon (n : Nat) : ∀ T : List Int, T.Pairwise (· ≠ ·) → (∀ x ∈ T, 0 ≤ x ∧ x < (n : Int)) → T.length ≤ n := by
  induction n with
  | zero =>
    intro T _ h
    rcases T with _ | ⟨y, T⟩
    · simp
    · have := h y (by simp); omega
  | succ n ih =>
    intro T hp h
    have h1 := one_of T n hp
    have h2 := split_len T n
    have h3 := ih (T.filter fun x => !(x == (n : Int))) (hp.filter _) (by
      intro x hx
      rw [List.mem_filter] at hx
      have := h x hx.1
      have : x ≠ (n : Int) := by simpa using hx.2
      omega)
    omega
theorem tourOk_len {n : Nat} {T : List Int} (h : tourOk n T = true) : T.length ≤ n := by
  refine pigeon n T ?_ ?_
  · rw [List.pairwise_iff_getElem]
    intro i j hi hj hij e
    have := allTo_get h j hj
    simp only [tourOkAt, Bool.and_eq_true, Bool.not_eq_true'] at this
    rw [show T.getD j 0 = T[j] from by simp [hj]] at this
    have h2 : hasI (T.take j) T[j] = true := by
      unfold hasI
      rw [List.any_eq_true]
      exact ⟨T[i], by rw [List.mem_take_iff_getElem]; exact ⟨i, by omega, rfl⟩, by simp [e]⟩
    rw [h2] at this
    simp at this
  · intro x hx
    obtain ⟨i, hi, rfl⟩ := List.getElem_of_mem hx
    obtain ⟨j, e, hj⟩ := tourOk_at h i hi
    omega
end Go.Proofs.Ytlgcehdklpbknaa
