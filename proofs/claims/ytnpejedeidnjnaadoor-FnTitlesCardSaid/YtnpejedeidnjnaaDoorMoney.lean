/- Money read from a text: the plain law. No condition. -/
import Derived.Test.YtnpejedeidnjnaaDoorNum
import Derived.Test.YtnpejedeidnjnaaDoorCents
import Derived.Lib.IndexMore
import Derived.Lib.CutLaws
namespace Go.Proofs.YtnpejedeidnjnaaDoor
open Go Go.RowKit Go.ChangeShapes Go.WideShapes
set_option linter.unusedSimpArgs false
set_option linter.unusedVariables false
theorem toList_append (a b : ByteArray) : (a ++ b).data.toList = a.data.toList ++ b.data.toList := by
  simp
theorem itoa_one {n : Int} (h : 0 ≤ n ∧ n ≤ 9) : Lib.itoa n = [UInt8.ofNat (48 + n.toNat)] := by
  obtain ⟨m, rfl⟩ : ∃ m : Nat, n = (m : Int) := ⟨n.toNat, by omega⟩
  rw [Lib.itoa_nonneg, Lib.decDigits_one (by omega)]
  rfl
theorem digit_nat {n : Nat} (h : n ≤ 9) : (UInt8.ofNat (48 + n)).toNat = 48 + n := by
  rw [UInt8.toNat_ofNat']
  omega
theorem centsS_list {d : Int} (h : 0 ≤ d) : (centsS d).data.toList = Lib.itoa (d / 100) ++ [46, UInt8.ofNat (48 + (d / 10 % 10).toNat), UInt8.ofNat (48 + (d % 10).toNat)] := by
  unfold centsS
  rw [toList_append, toList_append, toList_append]
  have e1 : (decS (d / 100)).data.toList = Lib.itoa (d / 100) := by simp [decS]
  have e2 : (decS (d / 10 % 10)).data.toList = Lib.itoa (d / 10 % 10) := by simp [decS]
  have e3 : (decS (d % 10)).data.toList = Lib.itoa (d % 10) := by simp [decS]
  rw [e1, e2, e3, itoa_one (n := d / 10 % 10) (by omega), itoa_one (n := d % 10) (by omega)]
  simp
theorem decDigits_len : ∀ (k u : Nat), u < 10 ^ (k + 1) → (Lib.decDigits u).length ≤ k + 1
  | 0, u, h => by rw [Lib.decDigits_one (by simpa using h)]; simp
  | k + 1, u, h => by
    by_cases h2 : u < 10
    · rw [Lib.decDigits_one h2]; simp
    · rw [Lib.decDigits, dif_neg h2, List.length_append]
      have := decDigits_len k (u / 10) (by rw [Nat.pow_succ] at h; omega)
      simp
      omega
/-- a byte that occurs nowhere before: the first place -/
theorem index_at (c : UInt8) : ∀ (l r : List UInt8), c ∉ l → Lib.index (l ++ c :: r) [c] = (l.length : Int)
  | [], r, _ => by
    unfold Lib.index
    simp [List.isPrefixOf]
  | x :: l, r, h => by
    have hx : ¬ c = x := fun e => h (by rw [e]; exact List.mem_cons_self ..)
    have hl : c ∉ l := fun e => h (List.mem_cons_of_mem _ e)
    rw [List.cons_append]
    unfold Lib.index
    rw [if_neg (by simp [List.isPrefixOf, hx]), index_at c l r hl, if_neg (by simp)]
    simp
theorem index_none (c : UInt8) : ∀ (l : List UInt8), c ∉ l → Lib.index l [c] = -1
  | [], _ => rfl
  | x :: l, h => by
    have hx : ¬ c = x := fun e => h (by rw [e]; exact List.mem_cons_self ..)
    have hl : c ∉ l := fun e => h (List.mem_cons_of_mem _ e)
    unfold Lib.index
    rw [if_neg (by simp [List.isPrefixOf, hx]), index_none c l hl]
    rfl
theorem cut_at (c : UInt8) (l r : List UInt8) (h : c ∉ l) : Lib.cut (l ++ c :: r) [c] = (l, r, true) := by
  unfold Lib.cut
  rw [index_at c l r h, if_pos (by omega)]
  have e1 : ((l.length : Int)).toNat = l.length := by omega
  rw [e1, List.take_left' rfl, List.drop_append]
  simp
theorem cut_none (c : UInt8) (l : List UInt8) (h : c ∉ l) : Lib.cut l [c] = (l, [], false) := by
  unfold Lib.cut
  rw [index_none c l h, if_neg (by omega)]
theorem valD_mem : ∀ (l : List UInt8) (acc u : Nat), valD acc l = some u → ∀ x ∈ l, 48 ≤ x.toNat ∧ x.toNat ≤ 57
  | [], acc, u, _, x, hx => absurd hx (by simp)
  | c :: r, acc, u, h, x, hx => by
    unfold valD at h
    split at h
    next hd =>
      rcases List.mem_cons.1 hx with rfl | hx
      · exact hd
      · exact valD_mem r _ u h x hx
    next => cases h
theorem decDigits_mem (u : Nat) : ∀ x ∈ Lib.decDigits u, 48 ≤ x.toNat ∧ x.toNat ≤ 57 := valD_mem _ 0 u (valD_digits u)
theorem numS_nat {u : Nat} (h : u ≤ 99999999999999999) : numS (Lib.itoa (u : Int)) = some (u : Int) := by
  have hl : (Lib.decDigits u).length ≤ 18 := by
    exact decDigits_len 17 u (by have : (10 : Nat) ^ 18 = 1000000000000000000 := by decide
                                 omega)
  rw [Lib.itoa_nonneg]
  have hm := decDigits_mem u
  have hne : Lib.decDigits u ≠ [] := by
    intro e
    have := valD_digits u
    rw [Lib.decDigits] at e
    split at e <;> simp at e
  have hh : ¬ (Lib.decDigits u).head? = some 45 := by
    intro e
    have := hm 45 (List.mem_of_mem_head? e)
    revert this
    decide
  have ht : tailS (Lib.decDigits u) = Lib.decDigits u := by unfold tailS; rw [if_neg hh]
  rw [numS_val (u := u) (n := (u : Int)) (by rw [ht]; exact ⟨List.length_pos_iff.2 hne, hl⟩) (by rw [ht]; exact valD_digits u) (by rw [if_neg hh]), if_pos (Lib.itoa_nonneg u)]
open Classical in
/-- the money whose text this is -/
noncomputable def readC (s : ByteArray) : Option Int := if h : ∃ c : Int, (-10000000 ≤ c ∧ c ≤ 10000000) ∧ moneyS c = s then some (Classical.choose h) else none
noncomputable def rcTuple (s : ByteArray) : Value := .tuple #[.int .i64 ((readC s).getD 0), .bool (readC s).isSome]
theorem readC_cases (s : ByteArray) : (∃ c : Int, (-10000000 ≤ c ∧ c ≤ 10000000) ∧ moneyS c = s ∧ rcTuple s = .tuple #[.int .i64 c, .bool true]) ∨ ((∀ c : Int, -10000000 ≤ c ∧ c ≤ 10000000 → moneyS c ≠ s) ∧ rcTuple s = .tuple #[.int .i64 0, .bool false]) := by
  by_cases h : ∃ c : Int, (-10000000 ≤ c ∧ c ≤ 10000000) ∧ moneyS c = s
  · refine .inl ⟨Classical.choose h, (Classical.choose_spec h).1, (Classical.choose_spec h).2, ?_⟩
    unfold rcTuple readC
    rw [dif_pos h]
    rfl
  · refine .inr ⟨fun c hc e => h ⟨c, hc, e⟩, ?_⟩
    unfold rcTuple readC
    rw [dif_neg h]
    rfl
/-- the bytes of money, in parts -/
theorem moneyS_parts {c : Int} (h : -10000000 ≤ c ∧ c ≤ 10000000) : ∃ (d : Int), 0 ≤ d ∧ d ≤ 10000000 ∧ tailS (moneyS c).data.toList = (centsS d).data.toList ∧ ((c < 0 ∧ d = -c ∧ (moneyS c).data.toList = 45 :: (centsS d).data.toList) ∨ (0 ≤ c ∧ d = c ∧ moneyS c = centsS d ∧ ¬ (moneyS c).data.toList.head? = some 45)) := by
  by_cases hn : c < 0
  · refine ⟨-c, by omega, by omega, ?_, .inl ⟨hn, rfl, ?_⟩⟩
    · unfold moneyS
      rw [if_pos hn, toList_append]
      rfl
    · unfold moneyS
      rw [if_pos hn, toList_append]
      rfl
  · have hh : ¬ (moneyS c).data.toList.head? = some 45 := by
      unfold moneyS
      rw [if_neg hn, centsS_list (by omega)]
      obtain ⟨m, hm⟩ : ∃ m : Nat, c / 100 = (m : Int) := ⟨(c / 100).toNat, by omega⟩
      rw [hm, Lib.itoa_nonneg]
      rcases hd : Lib.decDigits m with _ | ⟨x, r⟩
      · simp
      · have := decDigits_mem m x (by rw [hd]; exact List.mem_cons_self ..)
        simp
        intro e
        rw [e] at this
        revert this
        decide
    refine ⟨c, by omega, by omega, ?_, .inr ⟨by omega, rfl, ?_, hh⟩⟩
    · unfold tailS
      rw [if_neg hh]
      unfold moneyS
      rw [if_neg hn]
    · unfold moneyS
      rw [if_neg hn]
theorem dot_not_mem (m : Nat) : (46 : UInt8) ∉ Lib.decDigits m := fun h => by
  have := decDigits_mem m 46 h
  revert this
  decide
theorem itoa_short {d : Int} (h : 0 ≤ d ∧ d ≤ 10000000) : 1 ≤ (Lib.itoa (d / 100)).length ∧ (Lib.itoa (d / 100)).length ≤ 6 := by
  obtain ⟨m, hm⟩ : ∃ m : Nat, d / 100 = (m : Int) := ⟨(d / 100).toNat, by omega⟩
  rw [hm, Lib.itoa_nonneg]
  have h1 := decDigits_len 5 m (by have : (10 : Nat) ^ 6 = 1000000 := by decide
                                   omega)
  refine ⟨?_, h1⟩
  rw [Lib.decDigits]
  split <;> simp
end Go.Proofs.YtnpejedeidnjnaaDoor
