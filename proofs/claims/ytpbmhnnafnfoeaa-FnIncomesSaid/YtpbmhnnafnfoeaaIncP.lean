/- FnIncomes: the plain laws. Seats are least, shares have the whole income, no price pays more. No program. -/
import Derived.Test.YtpbmhnnafnfoeaaSplit
namespace Go.Proofs.Ytpbmhnnafnfoeaa
open Go Go.RowKit Go.ChangeShapes Go.WideShapes
set_option linter.unusedSimpArgs false
set_option linter.unusedVariables false
theorem sum_nonneg' {l : List Int} (h : ∀ x ∈ l, 0 ≤ x) : 0 ≤ l.sum := by
  induction l with
  | nil => simp
  | cons x l ih =>
    have h1 := h x List.mem_cons_self
    have h2 := ih fun y hy => h y (List.mem_cons_of_mem _ hy)
    rw [List.sum_cons]
    omega
theorem mem_le_sum {l : List Int} (h : ∀ x ∈ l, 0 ≤ x) {x : Int} (hm : x ∈ l) : x ≤ l.sum := by
  induction l with
  | nil => exact absurd hm (by simp)
  | cons y l ih =>
    have h0 : 0 ≤ l.sum := sum_nonneg' fun z hz => h z (List.mem_cons_of_mem _ hz)
    have hy := h y List.mem_cons_self
    rw [List.sum_cons]
    rcases List.mem_cons.1 hm with rfl | hm
    · omega
    · have := ih (fun z hz => h z (List.mem_cons_of_mem _ hz)) hm
      omega
theorem wrap_sum (l : List Int) (s : Int) (h0 : ∀ x ∈ l, 0 ≤ x) (hs : 0 ≤ s) (hb : s + l.sum ≤ 4611686018427387904) : l.foldl (fun s x => wrap64 (s + x)) s = s + l.sum := by
  induction l generalizing s with
  | nil => simp
  | cons x l ih =>
    have hx := h0 x (List.mem_cons_self)
    have hl : ∀ y ∈ l, 0 ≤ y := fun y hy => h0 y (List.mem_cons_of_mem _ hy)
    have hl0 : 0 ≤ l.sum := sum_nonneg' hl
    rw [List.sum_cons] at hb ⊢
    show l.foldl (fun s x => wrap64 (s + x)) (wrap64 (s + x)) = _
    rw [IntWalk.wrap64_in _ ⟨by omega, by omega⟩, ih (s + x) hl (by omega) (by omega)]
    omega
theorem sumI_sum (l : List Int) (h0 : ∀ x ∈ l, 0 ≤ x) (hb : l.sum ≤ 4611686018427387904) : sumI l = l.sum := by
  have := wrap_sum l 0 h0 (by omega) (by omega)
  unfold sumI
  rw [this]
  omega
theorem sum_le (l : List Int) (m : Int) (h : ∀ x ∈ l, x ≤ m) : l.sum ≤ m * l.length := by
  induction l with
  | nil => simp
  | cons x l ih =>
    have := ih fun y hy => h y (List.mem_cons_of_mem _ hy)
    have hx := h x List.mem_cons_self
    rw [List.sum_cons, List.length_cons]
    have e : m * ((l.length + 1 : Nat) : Int) = m * (l.length : Int) + m := by rw [show ((l.length + 1 : Nat) : Int) = (l.length : Int) + 1 by omega, Int.mul_add, Int.mul_one]
    omega
theorem sum_set (l : List Int) (i : Nat) (h : i < l.length) (x : Int) : (l.set i x).sum = l.sum - l[i] + x := by
  induction l generalizing i with
  | nil => exact absurd h (by simp)
  | cons y l ih =>
    rcases i with _ | i
    · simp; omega
    · have := ih i (by simpa using h)
      simp only [List.set_cons_succ, List.sum_cons, List.getElem_cons_succ]
      omega
/-- how many shares are above zero -/
def posN : List Int → Int
  | [] => 0
  | x :: l => (if 0 < x then 1 else 0) + posN l
theorem posN_nonneg : ∀ l, 0 ≤ posN l
  | [] => Int.le_refl _
  | x :: l => by have := posN_nonneg l; unfold posN; split <;> omega
theorem own_sums (inc a : Int) (ha : 1 ≤ a) (hi : 0 ≤ inc) : ∀ S : List Int, (∀ x ∈ S, 0 ≤ x) → (S.map fun s => inc * s / a).sum * a ≤ inc * S.sum ∧ inc * S.sum ≤ (S.map fun s => inc * s / a).sum * a + posN S * a ∧ 0 ≤ (S.map fun s => inc * s / a).sum
  | [], _ => by simp [posN]
  | x :: S, h => by
    obtain ⟨i1, i2, i3⟩ := own_sums inc a ha hi S fun y hy => h y (List.mem_cons_of_mem _ hy)
    have hx := h x List.mem_cons_self
    have q1 := Int.ediv_mul_le (inc * x) (show a ≠ 0 by omega)
    have q2 := Int.lt_ediv_add_one_mul_self (inc * x) (show 0 < a by omega)
    have q3 : 0 ≤ inc * x / a := Int.ediv_nonneg (Int.mul_nonneg hi hx) (by omega)
    simp only [List.map_cons, List.sum_cons, posN]
    generalize (S.map fun s => inc * s / a).sum = T at i1 i2 i3 ⊢
    generalize S.sum = U at i1 i2 ⊢
    generalize posN S = n at i2 ⊢
    rw [Int.add_mul] at q2
    rw [Int.add_mul, Int.add_mul, Int.mul_add]
    by_cases h0 : 0 < x
    · rw [if_pos h0]
      generalize inc * x / a = q at q1 q2 q3 ⊢
      generalize inc * x = p at q1 q2 ⊢
      omega
    · obtain rfl : x = 0 := by omega
      simp only [Int.mul_zero, Int.zero_ediv, Int.zero_mul, Int.lt_irrefl, if_false]
      omega
/-- what holds at each step of the handing out -/
def Fair (inc a : Int) (S : List Int) (k : Nat) (st : List Int × Int) : Prop :=
  st.1.length = S.length ∧ 0 ≤ st.2 ∧ st.1.sum + st.2 = inc ∧ st.2 ≤ posN (S.drop k) ∧
  (∀ j, j < S.length → inc * S.getD j 0 / a ≤ st.1.getD j 0 ∧ st.1.getD j 0 ≤ inc * S.getD j 0 / a + 1 ∧ (k ≤ j → st.1.getD j 0 = inc * S.getD j 0 / a) ∧ (S.getD j 0 ≤ 0 → st.1.getD j 0 = inc * S.getD j 0 / a))
theorem lft_sum (l : List Int) (r : Int) : lft l r = r - l.sum := by
  unfold lft
  induction l generalizing r with
  | nil => simp
  | cons x l ih => simp only [List.foldl_cons, List.sum_cons, ih]; omega
theorem fair_start (inc : Int) (S : List Int) (hi : 0 ≤ inc) (h0 : ∀ x ∈ S, 0 ≤ x) (hS : S.sum = sumI S) (ha : 1 ≤ sumI S) : Fair inc (sumI S) S 0 (spStart inc S) := by
  obtain ⟨i1, i2, i3⟩ := own_sums inc (sumI S) ha hi S h0
  rw [hS] at i1 i2
  have e : (spOwn inc S).sum = (S.map fun s => inc * s / sumI S).sum := rfl
  refine ⟨by simp [spStart, spOwn], ?_, ?_, ?_, ?_⟩
  · show 0 ≤ lft (spOwn inc S) inc
    rw [lft_sum, e]
    have := Int.le_of_mul_le_mul_right i1 (by omega)
    omega
  · show (spOwn inc S).sum + lft (spOwn inc S) inc = inc
    rw [lft_sum]
    omega
  · show lft (spOwn inc S) inc ≤ posN S
    rw [lft_sum, e]
    rw [← Int.add_mul] at i2
    have := Int.le_of_mul_le_mul_right i2 (by omega)
    omega
  · intro j hj
    have : (spOwn inc S).getD j 0 = inc * S.getD j 0 / sumI S := by simp [spOwn, hj]
    show _ ∧ _ ∧ (_ → (spOwn inc S).getD j 0 = _) ∧ (_ → (spOwn inc S).getD j 0 = _)
    have e2 : (spStart inc S).1 = spOwn inc S := rfl
    rw [e2, this]
    omega
theorem fair_step (inc a : Int) (S : List Int) (hb : ∀ x ∈ S, 0 ≤ x ∧ x ≤ 1000) (ha : 1 ≤ a) (hi : 0 ≤ inc ∧ inc ≤ 10000000) (k : Nat) (hk : k < S.length) (st : List Int × Int) (h : Fair inc a S k st) : Fair inc a S (k + 1) (spStep S st k) := by
  obtain ⟨h1, h2, h3, h4, h5⟩ := h
  have hS : S.getD k 0 = S[k] := by simp [hk]
  have hD : S.drop k = S[k] :: S.drop (k + 1) := List.drop_eq_getElem_cons hk
  rw [hD, posN] at h4
  unfold spStep
  split
  · rename_i hc
    rw [hS] at hc
    rw [if_pos hc.2] at h4
    obtain ⟨k1, k2, k3, -⟩ := h5 k hk
    have k3 := k3 (Nat.le_refl _)
    obtain ⟨-, b1, b2⟩ := own_bd inc S[k] a hi (hb _ (List.getElem_mem _)) ha
    rw [← hS] at b1 b2
    have hko : k < st.1.length := by omega
    have e0 : st.1.getD k 0 = st.1[k] := by simp [hko]
    have hw : wrap64 (st.1.getD k 0 + 1) = st.1.getD k 0 + 1 := IntWalk.wrap64_in _ ⟨by omega, by omega⟩
    refine ⟨by simpa using h1, by omega, ?_, by omega, ?_⟩
    · show (st.1.set k _).sum + (st.2 - 1) = inc
      rw [sum_set _ _ hko, hw, e0]
      omega
    · intro j hj
      by_cases e : j = k
      · subst e
        have : (st.1.set j (wrap64 (st.1.getD j 0 + 1))).getD j 0 = st.1.getD j 0 + 1 := by rw [hw]; simp [hko]
        show _ ∧ _ ∧ (_ → (st.1.set j (wrap64 (st.1.getD j 0 + 1))).getD j 0 = _) ∧ (_ → (st.1.set j (wrap64 (st.1.getD j 0 + 1))).getD j 0 = _)
        simp only [this]
        omega
      · have : (st.1.set k (wrap64 (st.1.getD k 0 + 1))).getD j 0 = st.1.getD j 0 := by simp [List.getD_eq_getElem?_getD, List.getElem?_set, Ne.symm e]
        show _ ∧ _ ∧ (_ → (st.1.set k (wrap64 (st.1.getD k 0 + 1))).getD j 0 = _) ∧ (_ → (st.1.set k (wrap64 (st.1.getD k 0 + 1))).getD j 0 = _)
        simp only [this]
        obtain ⟨m1, m2, m3, m4⟩ := h5 j hj
        exact ⟨m1, m2, fun hh => m3 (by omega), m4⟩
  · rename_i hc
    rw [hS] at hc
    have := posN_nonneg (S.drop (k + 1))
    refine ⟨h1, h2, h3, ?_, fun j hj => ?_⟩
    · by_cases hp : 0 < S[k]
      · have : st.2 ≤ 0 := by omega
        omega
      · rw [if_neg hp] at h4
        omega
    · obtain ⟨m1, m2, m3, m4⟩ := h5 j hj
      exact ⟨m1, m2, fun hh => m3 (by omega), m4⟩
theorem fair_to (inc a : Int) (S : List Int) (hb : ∀ x ∈ S, 0 ≤ x ∧ x ≤ 1000) (ha : 1 ≤ a) (hi : 0 ≤ inc ∧ inc ≤ 10000000) (st : List Int × Int) (h : Fair inc a S 0 st) : ∀ k, k ≤ S.length → Fair inc a S k (spTo S st k) := by
  intro k
  induction k with
  | zero => intro _; exact h
  | succ k ih => intro hk; exact fair_step inc a S hb ha hi k (by omega) _ (ih (by omega))
/-- what the law asks of shares -/
theorem shares_law (inc : Int) (S : List Int) (h : (spR inc S).2 = 0) :
    (spR inc S).1.length = S.length ∧ S.length ≤ 30 ∧ sumI (spR inc S).1 = inc ∧ (0 ≤ inc ∧ inc ≤ 10000000) ∧ (1 ≤ sumI S ∧ sumI S ≤ 30000) ∧
    ∀ i (h1 : i < S.length) (h2 : i < (spR inc S).1.length), (0 ≤ S[i] ∧ S[i] ≤ 1000) ∧ (0 ≤ (spR inc S).1[i] ∧ (spR inc S).1[i] ≤ 10000000) ∧ inc * S[i] - sumI S ≤ (spR inc S).1[i] * sumI S ∧ (spR inc S).1[i] * sumI S ≤ inc * S[i] + sumI S ∧ (S[i] = 0 → (spR inc S).1[i] = 0) := by
  by_cases hb : spBad inc S = true
  · rw [spR, if_pos hb] at h; exact absurd h (by decide)
  by_cases h0 : sumI S = 0
  · rw [spR, if_neg hb, if_pos h0] at h; exact absurd h (by simp)
  have e : (spR inc S).1 = (spTo S (spStart inc S) S.length).1 := by rw [spR, if_neg hb, if_neg h0]
  rw [e]
  have hb' : spBad inc S = false := by simpa using hb
  unfold spBad at hb'
  simp only [Bool.or_eq_false_iff] at hb'
  obtain ⟨b1, b2, b3⟩ := hb'
  have hi := inB_true (n := inc) (by simpa using b1)
  have h30 : S.length ≤ 30 := by simpa using b2
  have hin : ∀ x ∈ S, 0 ≤ x ∧ x ≤ 1000 := fun x hx => by
    rw [List.any_eq_false] at b3
    exact inB_true (by simpa using b3 x hx)
  have hle := sum_le S 1000 fun x hx => (hin x hx).2
  have hnn : 0 ≤ S.sum := sum_nonneg' fun x hx => (hin x hx).1
  have hs : sumI S = S.sum := sumI_sum S (fun x hx => (hin x hx).1) (by omega)
  have ha : 1 ≤ sumI S := by omega
  have hf := fair_to inc (sumI S) S hin ha hi _ (fair_start inc S hi.1 (fun x hx => (hin x hx).1) hs.symm ha) S.length (Nat.le_refl _)
  obtain ⟨f1, f2, f3, f4, f5⟩ := hf
  generalize spTo S (spStart inc S) S.length = st at f1 f2 f3 f4 f5
  have hz : st.2 = 0 := by
    rw [List.drop_of_length_le (Nat.le_refl _)] at f4
    have : posN [] = 0 := rfl
    omega
  have hpos : ∀ x ∈ st.1, 0 ≤ x := fun x hx => by
    obtain ⟨i, hi2, rfl⟩ := List.getElem_of_mem hx
    obtain ⟨g1, -⟩ := f5 i (by omega)
    have : st.1.getD i 0 = st.1[i] := by simp [hi2]
    have q3 : 0 ≤ inc * S.getD i 0 / sumI S := by
      have : S.getD i 0 = S[i] := by simp [show i < S.length by omega]
      rw [this]
      exact Int.ediv_nonneg (Int.mul_nonneg hi.1 (hin _ (List.getElem_mem _)).1) (by omega)
    omega
  have hsum : sumI st.1 = inc := by rw [sumI_sum st.1 hpos (by omega)]; omega
  refine ⟨f1, h30, hsum, hi, ⟨ha, by omega⟩, fun i h1 h2 => ?_⟩
  obtain ⟨g1, g2, -, g4⟩ := f5 i h1
  have e1 : S.getD i 0 = S[i] := by simp [h1]
  have e2 : st.1.getD i 0 = st.1[i] := by simp [h2]
  rw [e1, e2] at g1 g2 g4
  have q1 := Int.ediv_mul_le (inc * S[i]) (show sumI S ≠ 0 by omega)
  have q2 := Int.lt_ediv_add_one_mul_self (inc * S[i]) (show 0 < sumI S by omega)
  rw [Int.add_mul] at q2
  have hle1 : st.1[i] ≤ st.1.sum := mem_le_sum hpos (List.getElem_mem _)
  refine ⟨hin _ (List.getElem_mem _), ⟨hpos _ (List.getElem_mem _), by omega⟩, ?_, ?_, ?_⟩
  · have := Int.mul_le_mul_of_nonneg_right g1 (show 0 ≤ sumI S by omega)
    omega
  · have := Int.mul_le_mul_of_nonneg_right g2 (show 0 ≤ sumI S by omega)
    rw [Int.add_mul] at this
    omega
  · intro hz0
    have := g4 (by omega)
    rw [this, hz0]
    simp
/-- what the law asks of prices -/
theorem prices_law (P Z : List Int) (h : (bsR P Z).2.2 = 0) : P.length = Z.length ∧ P.length ≤ 30 ∧ ∀ i (h1 : i < P.length) (h2 : i < Z.length), wrap64 (P[i] * Z[i]) = P[i] * Z[i] ∧ P[i] * Z[i] ≤ (bsR P Z).2.1 := by
  by_cases hb : bsBad P Z = true
  · rw [bsR, if_pos hb] at h; exact absurd h (by decide)
  by_cases h0 : P.length = 0
  · rw [bsR, if_neg hb, if_pos h0] at h; exact absurd h (by simp)
  have e : (bsR P Z).2.1 = bsVal P Z (bsGo P Z P.length) := by rw [bsR, if_neg hb, if_neg h0]
  rw [e]
  have hb' : bsBad P Z = false := by simpa using hb
  unfold bsBad at hb'
  simp only [Bool.or_eq_false_iff] at hb'
  obtain ⟨b1, b2, b3, b4⟩ := hb'
  have hl : P.length = Z.length := by simpa using b3
  have h30 : P.length ≤ 30 := by simpa using b4
  refine ⟨hl, h30, fun i h1 h2 => ?_⟩
  have hv : ∀ j, j < P.length → bsVal P Z j ≤ bsVal P Z (bsGo P Z P.length) := by
    have : ∀ n, ∀ j, j < n → bsVal P Z j ≤ bsVal P Z (bsGo P Z n) := by
      intro n
      induction n with
      | zero => intro j hj; exact absurd hj (by omega)
      | succ n ih =>
        intro j hj
        unfold bsGo
        by_cases e : j = n
        · subst e
          split <;> omega
        · have := ih j (by omega)
          split <;> omega
    exact this _
  have hp : 0 ≤ P[i] ∧ P[i] ≤ 10000000 := by
    rw [List.any_eq_false] at b1
    exact inB_true (by simpa using b1 _ (List.getElem_mem h1))
  have hz : 0 ≤ Z[i] ∧ Z[i] ≤ 100000 := by
    rw [List.any_eq_false] at b2
    exact inB_true (by simpa using b2 _ (List.getElem_mem h2))
  have hw : wrap64 (P[i] * Z[i]) = P[i] * Z[i] := by
    have m1 := Int.mul_nonneg hp.1 hz.1
    have m2 := Int.mul_le_mul hp.2 hz.2 hz.1 (by omega)
    exact IntWalk.wrap64_in _ ⟨by omega, by omega⟩
  have hi := hv i h1
  rw [show bsVal P Z i = wrap64 (P[i] * Z[i]) by simp [bsVal, h1, h2], hw] at hi
  exact ⟨hw, hi⟩
end Go.Proofs.Ytpbmhnnafnfoeaa
