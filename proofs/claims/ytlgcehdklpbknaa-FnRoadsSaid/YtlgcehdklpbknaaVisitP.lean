/- All tours that can be made, one behind the other: a step for each, in plain Lean. -/
import Derived.Test.YtlgcehdklpbknaaNextP
namespace Go.Proofs.Ytlgcehdklpbknaa
open Go Go.RowKit Go.ChangeShapes Go.WideShapes
set_option linter.unusedSimpArgs false
set_option linter.unusedVariables false

def kidsF {σ : Type} (f : σ → List Int → σ) (T : List Int) : Nat → σ → σ
  | 0, s => s
  | k + 1, s => if hasI T (k : Int) = true then kidsF f T k s else f (kidsF f T k s) (T ++ [(k : Int)])
def visit {σ : Type} (step : σ → List Int → σ) (l : List THall) (H : List Int) (R : List (List Int)) : Nat → σ → List Int → σ
  | 0, s, T => if lateT l H R T = true then s else step s T
  | n + 1, s, T => if lateT l H R T = true then s else kidsF (visit step l H R n) T l.length (step s T)
theorem kids_full {σ : Type} (f : σ → List Int → σ) (T : List Int) (n : Nat) (s : σ) (h : ∀ k, k < n → hasI T (k : Int) = true) : kidsF f T n s = s := by
  induction n with
  | zero => rfl
  | succ n ih => rw [kidsF, if_pos (h n (by omega)), ih (fun k hk => h k (by omega))]
theorem kids_has {σ : Type} (f : σ → List Int → σ) (T : List Int) (k : Nat) (s : σ) (h : hasI T (k : Int) = true) : kidsF f T (k + 1) s = kidsF f T k s := by rw [kidsF, if_pos h]
theorem kids_on {σ : Type} (f : σ → List Int → σ) (T : List Int) (k : Nat) (s : σ) (h : hasI T (k : Int) = false) : kidsF f T (k + 1) s = f (kidsF f T k s) (T ++ [(k : Int)]) := by rw [kidsF, if_neg (by simp [h])]
theorem visit_late {σ : Type} (step : σ → List Int → σ) (l : List THall) (H : List Int) (R : List (List Int)) (n : Nat) (s : σ) (T : List Int) (h : lateT l H R T = true) : visit step l H R n s T = s := by
  cases n <;> rw [visit, if_pos h]
theorem more_fuel {l : List THall} {T : List Int} {n k : Nat} (hT : tourOk l.length T = true) (hn : l.length ≤ T.length + n) (hk : k < l.length) (hh : hasI T (k : Int) = false) : n - 1 < n ∧ l.length ≤ (T ++ [(k : Int)]).length + (n - 1) := by
  have := tourOk_len (tourOk_snoc hT hk hh)
  simp only [List.length_append, List.length_singleton] at this ⊢
  omega
theorem visit_on {σ : Type} (step : σ → List Int → σ) {l : List THall} {H : List Int} {R : List (List Int)} {n : Nat} (s : σ) {T : List Int} (h : lateT l H R T = false) (hT : tourOk l.length T = true) (hn : l.length ≤ T.length + n) :
    visit step l H R n s T = kidsF (visit step l H R (n - 1)) T l.length (step s T) := by
  rcases n with _ | n
  · rw [visit, if_neg (by simp [h]), kids_full]
    intro k hk
    rcases hh : hasI T (k : Int) with _ | _
    · have := (more_fuel hT hn hk hh).1
      omega
    · rfl
  · rw [visit, if_neg (by simp [h])]
    rfl
/-- what a part of the state becomes -/
theorem kids_part {σ τ : Type} (p : σ → τ) (f : σ → List Int → σ) (g : τ → List Int → τ) (hfg : ∀ s T, p (f s T) = g (p s) T) (T : List Int) (k : Nat) (s : σ) : p (kidsF f T k s) = kidsF g T k (p s) := by
  induction k with
  | zero => rfl
  | succ k ih =>
    rw [kidsF, kidsF]
    split
    · exact ih
    · rw [hfg, ih]
theorem visit_part {σ τ : Type} (p : σ → τ) (f : σ → List Int → σ) (g : τ → List Int → τ) (hfg : ∀ s T, p (f s T) = g (p s) T) (l : List THall) (H : List Int) (R : List (List Int)) (n : Nat) (s : σ) (T : List Int) : p (visit f l H R n s T) = visit g l H R n (p s) T := by
  induction n generalizing s T with
  | zero =>
    rw [visit, visit]
    split
    · rfl
    · exact hfg s T
  | succ n ih =>
    rw [visit, visit]
    split
    · rfl
    · rw [kids_part p _ (visit g l H R n) ih, hfg]

/-- the best tour so far, and the greatest number of halls -/
def stepB (l : List THall) (H : List Int) (R : List (List Int)) (s : List Int × Int) (T : List Int) : List Int × Int :=
  if s.2 < (runT l H R startT T).2.2.1 then (T, (runT l H R startT T).2.2.1) else s
def stepL (m : Int) (T : List Int) : Int := max m (T.length : Int)
def stepS (l : List THall) (H : List Int) (R : List (List Int)) (s : (List Int × Int) × Int) (T : List Int) : (List Int × Int) × Int := (stepB l H R s.1 T, stepL s.2 T)
def bestT (l : List THall) (H : List Int) (R : List (List Int)) : List Int × Int := visit (stepB l H R) l H R l.length ([], -1) []
def longT (l : List THall) (H : List Int) (R : List (List Int)) : Int := visit stepL l H R l.length 0 []
def bothT (l : List THall) (H : List Int) (R : List (List Int)) : (List Int × Int) × Int := visit (stepS l H R) l H R l.length (([], -1), 0) []
theorem both_best (l : List THall) (H : List Int) (R : List (List Int)) : (bothT l H R).1 = bestT l H R := visit_part (fun s : (List Int × Int) × Int => s.1) (stepS l H R) (stepB l H R) (fun _ _ => rfl) l H R l.length (([], -1), 0) []
theorem both_long (l : List THall) (H : List Int) (R : List (List Int)) : (bothT l H R).2 = longT l H R := visit_part (fun s : (List Int × Int) × Int => s.2) (stepS l H R) stepL (fun _ _ => rfl) l H R l.length (([], -1), 0) []
theorem kids_keep {σ : Type} (P : σ → Prop) (f : σ → List Int → σ) (T : List Int) (n k : Nat) (s : σ) (hk : k ≤ n) (hf : ∀ s k, k < n → hasI T (k : Int) = false → P s → P (f s (T ++ [(k : Int)]))) (h : P s) : P (kidsF f T k s) := by
  induction k with
  | zero => exact h
  | succ k ih =>
    have := ih (by omega)
    rw [kidsF]
    split
    · exact this
    · rename_i hh
      exact hf _ k (by omega) (by simpa using hh) this
/-- what every step keeps -/
theorem visit_keep {σ : Type} (P : σ → Prop) (f : σ → List Int → σ) (l : List THall) (H : List Int) (R : List (List Int)) (hf : ∀ s T, tourOk l.length T = true → P s → P (f s T)) (n : Nat) (s : σ) (T : List Int) (hT : tourOk l.length T = true) (h : P s) : P (visit f l H R n s T) := by
  induction n generalizing s T with
  | zero =>
    rw [visit]
    split
    · exact h
    · exact hf s T hT h
  | succ n ih =>
    rw [visit]
    split
    · exact h
    · exact kids_keep P _ T l.length l.length _ (Nat.le_refl _) (fun s k hk hh hs => ih s _ (tourOk_snoc hT hk hh) hs) (hf s T hT h)
theorem tourOk_nil (n : Nat) : tourOk n [] = true := rfl
theorem best_len (l : List THall) (H : List Int) (R : List (List Int)) : (bestT l H R).1.length ≤ l.length := by
  refine visit_keep (fun s : List Int × Int => s.1.length ≤ l.length) (stepB l H R) l H R (fun s T hT hs => ?_) _ _ _ (tourOk_nil _) (by simp)
  unfold stepB
  split
  · exact tourOk_len hT
  · exact hs
theorem long_bd (l : List THall) (H : List Int) (R : List (List Int)) : 0 ≤ longT l H R ∧ longT l H R ≤ l.length := by
  refine visit_keep (fun m : Int => 0 ≤ m ∧ m ≤ (l.length : Int)) _ l H R (fun s T hT hs => ?_) _ _ _ (tourOk_nil _) (by simp)
  have := tourOk_len hT
  unfold stepL
  omega
end Go.Proofs.Ytlgcehdklpbknaa
