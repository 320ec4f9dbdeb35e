/- Lemmas for the claim (the walks of its functions and their plain laws), joined. No condition. -/
import Derived.Test.YtgcodjkjdfahdaaGreatDoorJ5
import Derived.Lib.ParseIntBCases
namespace Go.Proofs.YtgcodjkjdfahdaaGreatDoor
open Go Go.RowKit Go.ChangeShapes Go.WideShapes
set_option linter.unusedSimpArgs false
set_option linter.unusedVariables false
def valD (acc : Nat) : List UInt8 → Option Nat
  | [] => some acc
  | c :: r => if 48 ≤ c.toNat ∧ c.toNat ≤ 57 then valD (10 * acc + (c.toNat - 48)) r else none
theorem valD_append (m : List UInt8) : ∀ (l : List UInt8) (acc : Nat), valD acc (l ++ m) = (valD acc l).bind fun n => valD n m
  | [], acc => rfl
  | c :: l, acc => by
    simp only [List.cons_append, valD]
    split
    · exact valD_append m l _
    · rfl
theorem valD_digits (u : Nat) : valD 0 (Lib.decDigits u) = some u := by
  induction u using Nat.strongRecOn with
  | _ u ih =>
    by_cases h : u < 10
    · rw [Lib.decDigits_one h]
      simp only [valD]
      have e : (UInt8.ofNat (48 + u)).toNat = 48 + u := by rw [UInt8.toNat_ofNat']; omega
      rw [e, if_pos (by omega)]
      congr 1
      omega
    · rw [Lib.decDigits, dif_neg h, valD_append, ih (u / 10) (by omega)]
      have e : (UInt8.ofNat (48 + u % 10)).toNat = 48 + u % 10 := by rw [UInt8.toNat_ofNat']; omega
      show valD (u / 10) [UInt8.ofNat (48 + u % 10)] = some u
      simp only [valD]
      rw [e, if_pos (by omega)]
      congr 1
      omega
theorem valD_le : ∀ (l : List UInt8) (acc u : Nat), valD acc l = some u → acc ≤ u
  | [], acc, u, h => by simp [valD] at h; omega
  | c :: r, acc, u, h => by
    unfold valD at h
    split at h
    · have := valD_le r _ u h
      omega
    · cases h
theorem valD_lt : ∀ (l : List UInt8) (acc u : Nat), valD acc l = some u → u < (acc + 1) * 10 ^ l.length
  | [], acc, u, h => by simp [valD] at h; simp; omega
  | c :: r, acc, u, h => by
    unfold valD at h
    split at h
    · have h1 := valD_lt r _ u h
      refine Nat.lt_of_lt_of_le h1 ?_
      rw [List.length_cons, Nat.pow_succ, Nat.mul_comm (10 ^ r.length) 10, ← Nat.mul_assoc]
      exact Nat.mul_le_mul_right _ (by omega)
    · cases h
theorem parse_of_valD : ∀ (l : List UInt8) (acc u : Nat), valD acc l = some u → u ≤ 18446744073709551615 → Lib.parseUintM 18446744073709551615 acc l = .ok u
  | [], acc, u, h, hu => by simp [valD] at h; subst h; rfl
  | c :: r, acc, u, h, hu => by
    unfold valD at h
    split at h
    next hd =>
      have hle := valD_le _ _ _ h
      unfold Lib.parseUintM
      rw [if_pos hd, if_neg (by omega), if_neg (by omega), Nat.mul_comm acc 10]
      exact parse_of_valD r _ u h hu
    next => cases h
theorem valD_of_parse : ∀ (l : List UInt8) (acc u : Nat), Lib.parseUintM 18446744073709551615 acc l = .ok u → valD acc l = some u
  | [], acc, u, h => by
    unfold Lib.parseUintM at h
    injection h with h
    subst h
    rfl
  | c :: r, acc, u, h => by
    unfold Lib.parseUintM at h
    split at h
    next hd =>
      split at h
      · cases h
      · split at h
        · cases h
        · unfold valD
          rw [if_pos hd, Nat.mul_comm 10 acc]
          exact valD_of_parse r _ u h
    next => cases h
def tailS (l : List UInt8) : List UInt8 := if l.head? = some 45 then l.tail else l
def numS (l : List UInt8) : Option Int :=
  if 1 ≤ (tailS l).length ∧ (tailS l).length ≤ 18 then
    match valD 0 (tailS l) with
    | none => none
    | some u => if Lib.itoa (if l.head? = some 45 then -(u : Int) else (u : Int)) = l then some (if l.head? = some 45 then -(u : Int) else (u : Int)) else none
  else none
theorem numS_short {l : List UInt8} (h : ¬ (1 ≤ (tailS l).length ∧ (tailS l).length ≤ 18)) : numS l = none := by unfold numS; rw [if_neg h]
theorem numS_bad {l : List UInt8} (h : valD 0 (tailS l) = none) : numS l = none := by unfold numS; rw [h]; simp
theorem numS_val {l : List UInt8} {u : Nat} {n : Int} (h : 1 ≤ (tailS l).length ∧ (tailS l).length ≤ 18) (hu : valD 0 (tailS l) = some u) (hn : n = if l.head? = some 45 then -(u : Int) else (u : Int)) : numS l = if Lib.itoa n = l then some n else none := by
  unfold numS
  rw [if_pos h, hu, hn]
theorem valD_lt18 {l : List UInt8} {u : Nat} (h : l.length ≤ 18) (hu : valD 0 l = some u) : u < 1000000000000000000 := by
  have h1 := valD_lt _ _ _ hu
  have h2 : (10 : Nat) ^ l.length ≤ 10 ^ 18 := Nat.pow_le_pow_right (by omega) h
  have h3 : (10 : Nat) ^ 18 = 1000000000000000000 := by decide
  omega
theorem numS_some {l : List UInt8} {n : Int} (h : numS l = some n) : Lib.parseIntB 64 l = .ok n ∧ Lib.itoa n = l ∧ -1000000000000000000 < n ∧ n < 1000000000000000000 ∧ l.length ≤ 19 ∧ (tailS l).length ≤ 18 := by
  by_cases hl : 1 ≤ (tailS l).length ∧ (tailS l).length ≤ 18
  case neg => rw [numS_short hl] at h; cases h
  rcases hv : valD 0 (tailS l) with _ | u
  · rw [numS_bad hv] at h; cases h
  have hu := valD_lt18 hl.2 hv
  obtain ⟨m, hm⟩ : ∃ m : Int, m = if l.head? = some 45 then -(u : Int) else (u : Int) := ⟨_, rfl⟩
  rw [numS_val hl hv hm] at h
  by_cases hi : Lib.itoa m = l
  case neg => rw [if_neg hi] at h; cases h
  case pos =>
    rw [if_pos hi] at h
    injection h with h
    subst h
    refine ⟨?_, hi, ?_, ?_, ?_, hl.2⟩
    · rcases l with _ | ⟨c, r⟩
      · simp [tailS] at hl
      by_cases hc : c = 45
      · subst hc
        have ht : tailS (45 :: r) = r := rfl
        rw [ht] at hl hv
        have hr : r ≠ [] := by rintro rfl; simp at hl
        rw [Lib.parseIntB_minus, Lib.parseUintB, if_neg hr, show (2 : Nat) ^ 64 - 1 = 18446744073709551615 by decide, parse_of_valD _ _ _ hv (by omega)]
        simp only [Lib.signedC]
        rw [if_neg (by omega), hm]
        simp
      · have ht : tailS (c :: r) = c :: r := by simp [tailS, hc]
        rw [ht] at hl hv
        have hd : 48 ≤ c.toNat := by
          unfold valD at hv
          split at hv
          next hd => exact hd.1
          next => cases hv
        rw [Lib.parseIntB_plain 64 c r (by omega) (by omega), Lib.parseUintB, if_neg (by simp), show (2 : Nat) ^ 64 - 1 = 18446744073709551615 by decide, parse_of_valD _ _ _ hv (by omega)]
        simp only [Lib.signlessC]
        rw [if_neg (by omega), hm]
        simp [hc]
    · rw [hm]; split <;> omega
    · rw [hm]; split <;> omega
    · have : l.length ≤ (tailS l).length + 1 := by
        unfold tailS
        split
        · rw [List.length_tail]; omega
        · omega
      omega
theorem numS_of {l : List UInt8} {v : Int} (h : Lib.parseIntB 64 l = .ok v) (hi : Lib.itoa v = l) (h18 : (tailS l).length ≤ 18) : numS l = some v := by
  rcases l with _ | ⟨c, r⟩
  · cases h
  by_cases hc : c = 45
  · subst hc
    have ht : tailS (45 :: r) = r := rfl
    rw [Lib.parseIntB_minus, Lib.parseUintB] at h
    by_cases hr : r = []
    · rw [if_pos hr] at h; cases h
    rw [if_neg hr, show (2 : Nat) ^ 64 - 1 = 18446744073709551615 by decide] at h
    rcases hp : Lib.parseUintM 18446744073709551615 0 r with u | _ | _
    all_goals rw [hp] at h
    · simp only [Lib.signedC] at h
      split at h
      · cases h
      · injection h with h
        have hv := valD_of_parse _ _ _ hp
        have hl : 1 ≤ r.length := by rcases r with _ | _; exact absurd rfl hr; simp
        rw [numS_val (l := 45 :: r) (u := u) (n := v) ⟨by rw [ht]; exact hl, h18⟩ (by rw [ht]; exact hv) (by simp [← h]), if_pos hi]
    · cases h
    · cases h
  · have ht : tailS (c :: r) = c :: r := by simp [tailS, hc]
    have key : ∃ u, valD 0 (c :: r) = some u ∧ v = (u : Int) := by
      by_cases h43 : c.toNat = 43
      · have hc43 : c = 43 := UInt8.toNat_inj.1 h43
        subst hc43
        exfalso
        rw [Lib.parseIntB_plus] at h
        have hv0 : 0 ≤ v := by
          rcases hp : Lib.parseUintB 64 r with u | _ | _
          all_goals rw [hp] at h
          · simp only [Lib.signlessC] at h
            split at h
            · cases h
            · injection h with h; omega
          · cases h
          · cases h
        obtain ⟨m, rfl⟩ : ∃ m : Nat, v = (m : Int) := ⟨v.toNat, by omega⟩
        rw [Lib.itoa_nonneg] at hi
        have := valD_digits m
        rw [hi] at this
        simp [valD] at this
      · have h45 : c.toNat ≠ 45 := fun e => hc (UInt8.toNat_inj.1 e)
        rw [Lib.parseIntB_plain 64 c r h43 h45, Lib.parseUintB, if_neg (by simp), show (2 : Nat) ^ 64 - 1 = 18446744073709551615 by decide] at h
        rcases hp : Lib.parseUintM 18446744073709551615 0 (c :: r) with u | _ | _
        all_goals rw [hp] at h
        · simp only [Lib.signlessC] at h
          split at h
          · cases h
          · injection h with h
            exact ⟨u, valD_of_parse _ _ _ hp, h.symm⟩
        · cases h
        · cases h
    obtain ⟨u, hu, rfl⟩ := key
    rw [numS_val (l := c :: r) (u := u) (n := (u : Int)) ⟨by rw [ht]; simp, h18⟩ (by rw [ht]; exact hu) (by simp [hc]), if_pos hi]
theorem numS_none {l : List UInt8} (h : ∀ v, Lib.parseIntB 64 l = .ok v → Lib.itoa v ≠ l) : numS l = none := by
  rcases hn : numS l with _ | n
  · rfl
  · obtain ⟨h1, h2, -⟩ := numS_some hn
    exact absurd h2 (h n h1)
end Go.Proofs.YtgcodjkjdfahdaaGreatDoor
