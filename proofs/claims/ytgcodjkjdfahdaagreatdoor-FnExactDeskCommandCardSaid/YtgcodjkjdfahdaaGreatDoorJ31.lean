/- Lemmas for the claim (the walks of its functions and their plain laws), joined. No condition. -/
import Derived.Test.YtgcodjkjdfahdaaGreatDoorJ1
namespace Go.Proofs.YtgcodjkjdfahdaaGreatDoor
set_option linter.unusedSimpArgs false
set_option linter.unusedVariables false
def nextN (s : List UInt8) (i : Nat) (c : UInt8) : Nat := (s.drop i).findIdx (· == c)
theorem nextN_le (s : List UInt8) (i : Nat) (c : UInt8) : nextN s i c ≤ s.length - i := by
  have := List.findIdx_le_length (xs := s.drop i) (p := (· == c))
  simpa [nextN] using this
def farI (s : List UInt8) (i : Nat) : List UInt8 → Nat → Nat → Int → Nat
  | [], _, k, _ => k
  | c :: r, pl, k, far => if s.length - i ≤ nextN s i c then pl else if far < (nextN s i c : Int) then farI s i r (pl + 1) pl (nextN s i c) else farI s i r (pl + 1) k far
def posU (c : UInt8) (m : List UInt8) : Nat := m.findIdx (· == c)
def chI (s : List UInt8) (m : List UInt8) (i : Nat) : Nat :=
  if posU (s.getD i 0) m < m.length then posU (s.getD i 0) m else if posU 0 m < m.length then posU 0 m else farI s i m 0 0 (-1)
def valS (s : List UInt8) (i : Nat) (c : UInt8) : Int := if c = 0 then (s.length : Int) + 1 else (i + nextN s i c : Nat)
def farS (s : List UInt8) (i : Nat) : List UInt8 → Nat → Int → Int → Int
  | [], _, k, _ => k
  | c :: r, pl, k, far => if far < valS s i c then farS s i r (pl + 1) pl (valS s i c) else farS s i r (pl + 1) k far
def lastS (c : UInt8) : List UInt8 → Nat → Int → Int
  | [], _, b => b
  | x :: r, pl, b => lastS c r (pl + 1) (if x = c then pl else b)
def chS (s : List UInt8) (m : List UInt8) (i : Nat) : Int := if 0 ≤ lastS (s.getD i 0) m 0 (-1) then lastS (s.getD i 0) m 0 (-1) else farS s i m 0 (-1) (-1)
theorem lastS_none (c : UInt8) : ∀ (m : List UInt8) (pl : Nat) (b : Int), c ∉ m → lastS c m pl b = b
  | [], _, _, _ => rfl
  | x :: r, pl, b, h => by
    unfold lastS
    rw [if_neg (fun e => h (by simp [e])), lastS_none c r _ _ (fun e => h (by simp [e]))]
def once (m : List UInt8) : Prop := ∀ i j (hi : i < m.length) (hj : j < m.length), m[i] = m[j] → m[i] ≠ 0 → i = j
theorem once_tail {x : UInt8} {r : List UInt8} (h : once (x :: r)) : once r := fun i j hi hj e hne => by
  have := h (i + 1) (j + 1) (by simpa using hi) (by simpa using hj) (by simpa using e) (by simpa using hne)
  omega
theorem lastS_hit (c : UInt8) (hc : c ≠ 0) : ∀ (m : List UInt8) (pl : Nat) (b : Int), once m → c ∈ m → lastS c m pl b = (pl + posU c m : Nat)
  | [], _, _, _, h => by simp at h
  | x :: r, pl, b, ho, h => by
    unfold lastS posU
    rw [List.findIdx_cons]
    by_cases e : x = c
    · subst e
      have hn : x ∉ r := fun hr => by
        obtain ⟨j, hj, hje⟩ := List.getElem_of_mem hr
        have := ho 0 (j + 1) (by simp) (by simpa using hj) (by simpa using hje.symm) (by simpa using hc)
        omega
      rw [lastS_none _ _ _ _ hn]
      simp
    · have hr : c ∈ r := by
        rcases List.mem_cons.1 h with h | h
        · exact absurd h.symm e
        · exact h
      rw [if_neg e, lastS_hit c hc r _ _ (once_tail ho) hr]
      have e2 : (x == c) = false := by simpa using e
      rw [e2]
      simp only [posU, cond_false]
      omega
theorem posU_mem {c : UInt8} {m : List UInt8} : posU c m < m.length ↔ c ∈ m := by
  unfold posU
  rw [List.findIdx_lt_length]
  simp
theorem valS_le {s : List UInt8} {i : Nat} (hi : i ≤ s.length) {c : UInt8} (h : c ≠ 0) : valS s i c ≤ s.length := by
  unfold valS
  rw [if_neg h]
  have := nextN_le s i c
  omega
theorem farS_keep (s : List UInt8) (i : Nat) (hi : i ≤ s.length) : ∀ (m : List UInt8) (pl : Nat) (b far : Int), (0 : UInt8) ∉ m → (s.length : Int) ≤ far → farS s i m pl b far = b
  | [], _, _, _, _, _ => rfl
  | c :: r, pl, b, far, h, hf => by
    unfold farS
    have := valS_le hi (c := c) (fun e => h (by simp [e]))
    rw [if_neg (by omega)]
    exact farS_keep s i hi r _ _ _ (fun e => h (by simp [e])) hf
theorem farS_stay (s : List UInt8) (i : Nat) (hi : i ≤ s.length) : ∀ (m : List UInt8) (pl : Nat) (b far : Int), (s.length : Int) + 1 ≤ far → farS s i m pl b far = b
  | [], _, _, _, _ => rfl
  | c :: r, pl, b, far, hf => by
    unfold farS
    have : valS s i c ≤ (s.length : Int) + 1 := by
      by_cases e : c = 0
      · unfold valS; rw [if_pos e]; exact Int.le_refl _
      · have := valS_le hi e; omega
    rw [if_neg (by omega)]
    exact farS_stay s i hi r _ _ _ hf
theorem farS_zero (s : List UInt8) (i : Nat) (hi : i ≤ s.length) : ∀ (m : List UInt8) (pl : Nat) (b far : Int), (0 : UInt8) ∈ m → far ≤ s.length → farS s i m pl b far = (pl + posU 0 m : Nat)
  | [], _, _, _, h, _ => by simp at h
  | c :: r, pl, b, far, h, hf => by
    unfold farS posU
    rw [List.findIdx_cons]
    by_cases e : c = 0
    · subst e
      have hv : valS s i 0 = (s.length : Int) + 1 := rfl
      rw [hv, if_pos (by omega), farS_stay s i hi _ _ _ _ (Int.le_refl _)]
      simp
    · have hr : (0 : UInt8) ∈ r := by
        rcases List.mem_cons.1 h with h | h
        · exact absurd h.symm e
        · exact h
      have hv := valS_le hi e
      have e2 : (c == 0) = false := by simpa using e
      rw [e2]
      have ih := fun b far hf => farS_zero s i hi r (pl + 1) b far hr hf
      by_cases q : far < valS s i c
      · rw [if_pos q, ih _ _ hv]
        simp only [posU, cond_false]
        omega
      · rw [if_neg q, ih _ _ hf]
        simp only [posU, cond_false]
        omega
theorem far_same (s : List UInt8) (i : Nat) (hi : i ≤ s.length) : ∀ (m : List UInt8) (pl k : Nat) (b farA farB : Int), (0 : UInt8) ∉ m → ((farA = -1 ∧ farB = -1 ∧ m ≠ []) ∨ (0 ≤ farA ∧ farB = farA + i ∧ b = k ∧ farB < s.length)) → farS s i m pl b farB = (farI s i m pl k farA : Int)
  | [], _, _, _, _, _, _, hr => by
    rcases hr with ⟨-, -, h⟩ | ⟨-, -, h, -⟩
    · exact absurd rfl h
    · unfold farS farI; exact h
  | c :: r, pl, k, b, farA, farB, h0, hr => by
    have hc : c ≠ 0 := fun e => h0 (by simp [e])
    have h0' : (0 : UInt8) ∉ r := fun e => h0 (by simp [e])
    have hv : valS s i c = (i : Int) + nextN s i c := by unfold valS; rw [if_neg hc]; omega
    have hn := nextN_le s i c
    unfold farS farI
    by_cases q : s.length - i ≤ nextN s i c
    · rw [if_pos q, if_pos (by rcases hr with ⟨-, e, -⟩ | ⟨-, e, -, e2⟩ <;> omega), farS_keep s i hi _ _ _ _ h0' (by omega)]
    · rw [if_neg q]
      by_cases q2 : farA < (nextN s i c : Int)
      · rw [if_pos q2, if_pos (by rcases hr with ⟨-, e, -⟩ | ⟨-, e, -, e2⟩ <;> omega)]
        exact far_same s i hi r _ _ _ _ _ h0' (.inr ⟨by omega, by omega, rfl, by omega⟩)
      · rw [if_neg q2]
        rcases hr with ⟨e, -, -⟩ | ⟨e1, e2, e3, e4⟩
        · omega
        · rw [if_neg (by omega)]
          exact far_same s i hi r _ _ _ _ _ h0' (.inr ⟨e1, e2, e3, e4⟩)
theorem farI_lt (s : List UInt8) (i : Nat) : ∀ (m : List UInt8) (pl k : Nat) (far : Int) (n : Nat), pl + m.length ≤ n → k < n → farI s i m pl k far < n
  | [], _, _, _, _, _, hk => hk
  | c :: r, pl, k, far, n, hn, hk => by
    simp only [List.length_cons] at hn
    unfold farI
    split
    · omega
    · split
      · exact farI_lt s i r _ _ _ n (by omega) (by omega)
      · exact farI_lt s i r _ _ _ n (by omega) hk
theorem chI_lt (s m : List UInt8) (i : Nat) (h : 0 < m.length) : chI s m i < m.length := by
  unfold chI
  split
  · assumption
  · split
    · assumption
    · exact farI_lt s i m 0 0 (-1) m.length (by omega) h
theorem ch_same (s m : List UInt8) (i : Nat) (hi : i < s.length) (hs : ∀ x ∈ s, x ≠ 0) (ho : once m) (hm : 0 < m.length) : chS s m i = (chI s m i : Int) := by
  have hc : s.getD i 0 ≠ 0 := by
    rw [List.getD_eq_getElem?_getD, List.getElem?_eq_getElem hi]
    exact hs _ (List.getElem_mem hi)
  unfold chS chI
  by_cases h1 : s.getD i 0 ∈ m
  · rw [lastS_hit _ hc m 0 (-1) ho h1, if_pos (by omega), if_pos (posU_mem.2 h1)]
    omega
  · rw [lastS_none _ m 0 (-1) h1, if_neg (by omega), if_neg (fun e => h1 (posU_mem.1 e))]
    by_cases h2 : (0 : UInt8) ∈ m
    · rw [farS_zero s i (by omega) m 0 (-1) (-1) h2 (by omega), if_pos (posU_mem.2 h2)]
      omega
    · rw [if_neg (fun e => h2 (posU_mem.1 e))]
      exact far_same s i (by omega) m 0 0 (-1) (-1) (-1) h2 (.inl ⟨rfl, rfl, by intro e; rw [e] at hm; simp at hm⟩)
def planTo (s : List UInt8) (n : Nat) : Nat → List UInt8 × List Int
  | 0 => (List.replicate n 0, [])
  | i + 1 => ((planTo s n i).1.set (chI s (planTo s n i).1 i) (s.getD i 0), (planTo s n i).2 ++ [(chI s (planTo s n i).1 i : Int)])
theorem planTo_len (s : List UInt8) (n i : Nat) : (planTo s n i).1.length = n ∧ (planTo s n i).2.length = i := by
  induction i with
  | zero => simp [planTo]
  | succ i ih => simp [planTo, ih.1, ih.2]
theorem planTo_once (s : List UInt8) (n : Nat) (hs : ∀ x ∈ s, x ≠ 0) (hn : 0 < n) : ∀ i, i ≤ s.length → once (planTo s n i).1
  | 0, _ => fun a b ha hb _ hne => by simp [planTo] at hne
  | i + 1, hi => by
    have ih := planTo_once s n hs hn i (by omega)
    have hl := (planTo_len s n i).1
    unfold planTo
    generalize (planTo s n i).1 = m at ih hl
    have hk := chI_lt s m i (by omega)
    dsimp only
    have key : m.getD (chI s m i) 0 = s.getD i 0 ∨ s.getD i 0 ∉ m := by
      by_cases h1 : s.getD i 0 ∈ m
      · refine .inl ?_
        have hlt := posU_mem.2 h1
        have e : chI s m i = posU (s.getD i 0) m := by unfold chI; rw [if_pos hlt]
        rw [e, List.getD_eq_getElem?_getD, List.getElem?_eq_getElem hlt]
        have := List.findIdx_getElem (xs := m) (p := (· == s.getD i 0)) (w := hlt)
        simpa [posU] using this
      · exact .inr h1
    generalize chI s m i = k at hk key
    rcases key with h1 | h1
    · have e : m.set k (s.getD i 0) = m := by
        rw [← h1, List.getD_eq_getElem?_getD, List.getElem?_eq_getElem hk]
        simp
      rw [e]
      exact ih
    · intro a b ha hb e hne
      simp only [List.length_set] at ha hb
      rw [List.getElem_set] at e hne
      rw [List.getElem_set] at e
      by_cases ea : k = a
      · by_cases eb : k = b
        · omega
        · rw [if_pos ea, if_neg eb] at e
          exact absurd (e ▸ List.getElem_mem hb) h1
      · rw [if_neg ea] at e hne
        by_cases eb : k = b
        · rw [if_pos eb] at e
          exact absurd (e ▸ List.getElem_mem ha) h1
        · rw [if_neg eb] at e
          exact ih a b ha hb e hne
theorem chS_plan (s : List UInt8) (n i : Nat) (hs : ∀ x ∈ s, x ≠ 0) (hn : 0 < n) (hi : i < s.length) : chS s (planTo s n i).1 i = (chI s (planTo s n i).1 i : Int) :=
  ch_same s _ i hi hs (planTo_once s n hs hn i (by omega)) (by rw [(planTo_len s n i).1]; exact hn)
def cntTo (s : List UInt8) (n : Nat) (p : List Int) : Nat → List UInt8 × Int
  | 0 => (List.replicate n 0, 0)
  | i + 1 => ((cntTo s n p i).1.set (p.getD i 0).toNat (s.getD i 0), if (cntTo s n p i).1.getD (p.getD i 0).toNat 0 = s.getD i 0 then (cntTo s n p i).2 else (cntTo s n p i).2 + 1)
theorem cntTo_len (s : List UInt8) (n : Nat) (p : List Int) (i : Nat) : (cntTo s n p i).1.length = n := by
  induction i with
  | zero => simp [cntTo]
  | succ i ih => simp [cntTo, ih]
theorem cntTo_bd (s : List UInt8) (n : Nat) (p : List Int) (i : Nat) : 0 ≤ (cntTo s n p i).2 ∧ (cntTo s n p i).2 ≤ i := by
  induction i with
  | zero => simp [cntTo]
  | succ i ih =>
    unfold cntTo
    dsimp only
    split <;> omega
theorem plan_bd (s : List UInt8) (n : Nat) (hn : 0 < n) (i : Nat) : ∀ x ∈ (planTo s n i).2, 0 ≤ x ∧ x < n := by
  induction i with
  | zero => simp [planTo]
  | succ i ih =>
    intro x hx
    unfold planTo at hx
    rcases List.mem_append.1 hx with h | h
    · exact ih x h
    · rw [List.mem_singleton.1 h]
      have := chI_lt s (planTo s n i).1 i (by rw [(planTo_len s n i).1]; exact hn)
      rw [(planTo_len s n i).1] at this
      omega
end Go.Proofs.YtgcodjkjdfahdaaGreatDoor
