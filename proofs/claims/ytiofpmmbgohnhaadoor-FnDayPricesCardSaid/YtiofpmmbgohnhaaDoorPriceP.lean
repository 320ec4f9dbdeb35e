/- FnDayPrices: the plain laws of prices and of money's text. No condition. -/
import Derived.Test.YtiofpmmbgohnhaaDoorRates
import Derived.Test.YtiofpmmbgohnhaaDoorMoney
namespace Go.Proofs.YtiofpmmbgohnhaaDoor
open Go Go.RowKit Go.ChangeShapes Go.WideShapes
set_option linter.unusedSimpArgs false
set_option linter.unusedVariables false
theorem digit_inj {a b : Int} (ha : 0 ≤ a ∧ a ≤ 9) (hb : 0 ≤ b ∧ b ≤ 9) (h : UInt8.ofNat (48 + a.toNat) = UInt8.ofNat (48 + b.toNat)) : a = b := by
  have h1 := digit_nat (n := a.toNat) (by omega)
  have h2 := digit_nat (n := b.toNat) (by omega)
  rw [h, h2] at h1
  omega
theorem centsS_inj {a b : Int} (ha : 0 ≤ a ∧ a ≤ 10000000) (hb : 0 ≤ b ∧ b ≤ 10000000) (h : (centsS a).data.toList = (centsS b).data.toList) : a = b := by
  rw [centsS_list ha.1, centsS_list hb.1] at h
  obtain ⟨h1, h2⟩ := List.append_inj' h rfl
  have e1 : a / 100 = b / 100 := by
    obtain ⟨m, hm⟩ : ∃ m : Nat, a / 100 = (m : Int) := ⟨(a / 100).toNat, by omega⟩
    obtain ⟨k, hk⟩ : ∃ k : Nat, b / 100 = (k : Int) := ⟨(b / 100).toNat, by omega⟩
    have n1 := numS_nat (u := m) (by omega)
    have n2 := numS_nat (u := k) (by omega)
    rw [hm, hk] at h1
    rw [h1, n2] at n1
    have := Option.some.inj n1
    omega
  simp only [List.cons.injEq, and_true, true_and] at h2
  have e2 := digit_inj (a := a / 10 % 10) (b := b / 10 % 10) (by omega) (by omega) h2.1
  have e3 := digit_inj (a := a % 10) (b := b % 10) (by omega) (by omega) h2.2
  omega
theorem moneyS_inj {c d : Int} (hc : -10000000 ≤ c ∧ c ≤ 10000000) (hd : -10000000 ≤ d ∧ d ≤ 10000000) (h : moneyS c = moneyS d) : c = d := by
  obtain ⟨a, a1, a2, -, ha⟩ := moneyS_parts hc
  obtain ⟨b, b1, b2, -, hb⟩ := moneyS_parts hd
  rcases ha with ⟨p1, p2, p3⟩ | ⟨p1, p2, p3, p4⟩
  · rcases hb with ⟨q1, q2, q3⟩ | ⟨q1, q2, q3, q4⟩
    · rw [h, q3] at p3
      have := centsS_inj ⟨a1, a2⟩ ⟨b1, b2⟩ (List.cons.inj p3).2.symm
      omega
    · rw [← h, p3] at q4
      exact absurd rfl q4
  · rcases hb with ⟨q1, q2, q3⟩ | ⟨q1, q2, q3, q4⟩
    · rw [h, q3] at p4
      exact absurd rfl p4
    · rw [p3, q3] at h
      have := centsS_inj ⟨a1, a2⟩ ⟨b1, b2⟩ (by rw [h])
      omega
theorem moneyS_size {c : Int} (h : -10000000 ≤ c ∧ c ≤ 10000000) : (moneyS c).size ≤ 20 ∧ moneyS c ≠ ByteArray.empty := by
  obtain ⟨d, d1, d2, -, hp⟩ := moneyS_parts h
  have hl := centsS_list d1
  have hs := (itoa_short ⟨d1, d2⟩)
  have hsz : ∀ s : ByteArray, s.size = s.data.toList.length := fun s => by rw [Array.length_toList]; rfl
  have hn : 1 ≤ (moneyS c).data.toList.length ∧ (moneyS c).data.toList.length ≤ 20 := by
    rcases hp with ⟨-, -, p3⟩ | ⟨-, -, p3, -⟩
    · rw [p3, List.length_cons, hl, List.length_append]
      simp only [List.length_cons, List.length_nil]
      omega
    · rw [p3, hl, List.length_append]
      simp only [List.length_cons, List.length_nil]
      omega
  refine ⟨by rw [hsz]; exact hn.2, fun e => ?_⟩
  rw [e] at hn
  exact absurd hn.1 (by decide)
theorem empty_of {s : ByteArray} (h : s.data.toList = []) : s = ByteArray.empty := by
  obtain ⟨⟨x⟩⟩ := s
  simp at h
  subst h
  rfl
/-- money is read back from its text -/
theorem readC_back (d : Int) : (inB d (-10000000) 10000000 = true ∧ centsR d = moneyS d ∧ (centsR d).toList.isEmpty = false ∧ rcTuple (centsR d) = .tuple #[.int .i64 d, .bool true]) ∨ (centsR d = ByteArray.empty ∧ rcTuple (centsR d) = .tuple #[.int .i64 0, .bool false]) := by
  rcases hi : inB d (-10000000) 10000000 with _ | _
  · refine .inr ?_
    have e : centsR d = ByteArray.empty := by unfold centsR; rw [hi]; rfl
    rw [e]
    refine ⟨rfl, ?_⟩
    rcases readC_cases ByteArray.empty with ⟨c, hc, hm, -⟩ | ⟨-, h⟩
    · exact absurd hm (moneyS_size hc).2
    · exact h
  · refine .inl ⟨rfl, ?_⟩
    have hb := inB_true hi
    have e : centsR d = moneyS d := by unfold centsR; rw [if_pos hi]
    rw [e]
    refine ⟨rfl, ?_, ?_⟩
    · have := (moneyS_size hb).2
      rcases q : (moneyS d).toList.isEmpty with _ | _
      · rfl
      · exfalso
        apply this
        have h0 : (moneyS d).toList = [] := by simpa using q
        rw [ByteArray.toList_eq] at h0
        exact empty_of h0
    · rcases readC_cases (moneyS d) with ⟨c, hc, hm, h⟩ | ⟨h, -⟩
      · rw [h, moneyS_inj hc hb hm]
      · exact absurd rfl (h d hb)
theorem dwGo_law (l : List TRate) (c : Int) : ∀ n, (dwGo l c n).2 = 0 → 1 ≤ (dwGo l c n).1 ∧ (dwGo l c n).1 ≤ (n : Int) ∧ price l (dwGo l c n).1 ≤ c ∧ ∀ k : Int, (dwGo l c n).1 < k → k ≤ (n : Int) → c < price l k
  | 0, h => absurd (show (3 : Int) = 0 from h) (by decide)
  | n + 1, h => by
    by_cases hp : price l ((n : Int) + 1) ≤ c
    · have e : dwGo l c (n + 1) = ((n : Int) + 1, 0) := by rw [dwGo, if_pos hp]
      rw [e]
      exact ⟨by dsimp only; omega, by dsimp only; omega, hp, fun k h1 h2 => by dsimp only at h1; omega⟩
    · have e : dwGo l c (n + 1) = dwGo l c n := by rw [dwGo, if_neg hp]
      rw [e] at h ⊢
      obtain ⟨h1, h2, h3, h4⟩ := dwGo_law l c n h
      refine ⟨h1, by omega, h3, fun k h5 h6 => ?_⟩
      by_cases ek : k = (n : Int) + 1
      · subst ek; omega
      · exact h4 k h5 (by omega)
theorem dwR_law {l : List TRate} {c : Int} (h : (dwR l c).2 = 0) : (1 ≤ (dwR l c).1 ∧ (dwR l c).1 ≤ 1000) ∧ (priceR l (dwR l c).1).2 = 0 ∧ (priceR l (dwR l c).1).1 ≤ c ∧ ((dwR l c).1 < 1000 → (priceR l ((dwR l c).1 + 1)).2 = 0 ∧ c < (priceR l ((dwR l c).1 + 1)).1) := by
  by_cases h1 : okRates l = true
  · by_cases h2 : inB c 0 10000000 = true
    · have e : dwR l c = dwGo l c 1000 := by unfold dwR; rw [if_pos h1, if_pos h2]
      rw [e] at h ⊢
      obtain ⟨p1, p2, p3, p4⟩ := dwGo_law l c 1000 h
      generalize (dwGo l c 1000).1 = d at p1 p2 p3 p4 ⊢
      have hp : ∀ x : Int, 1 ≤ x → x ≤ 1000 → priceR l x = (price l x, 0) := fun x a b => by
        unfold priceR
        rw [if_pos h1, if_pos (by simp [inB]; omega)]
      refine ⟨⟨p1, by omega⟩, by rw [hp d p1 (by omega)], by rw [hp d p1 (by omega)]; exact p3, fun hd => ?_⟩
      rw [hp (d + 1) (by omega) (by omega)]
      exact ⟨rfl, p4 (d + 1) (by omega) (by omega)⟩
    · unfold dwR at h
      rw [if_pos h1, if_neg h2] at h
      exact absurd h (by decide)
  · unfold dwR at h
    rw [if_neg h1] at h
    exact absurd h (by decide)
theorem chGo_law (l : List TRate) : ∀ (f : Nat) (n b : Int), b < n → b ≤ chGo l f n b ∧ chGo l f n b ≤ max b (n + f - 1) ∧ price l (chGo l f n b) ≤ price l b
  | 0, n, b, h => ⟨Int.le_refl _, by show b ≤ _; omega, Int.le_refl _⟩
  | f + 1, n, b, h => by
    have e : chGo l (f + 1) n b = chGo l f (n + 1) (if price l n < price l b then n else b) := rfl
    rw [e]
    by_cases hp : price l n < price l b
    · rw [if_pos hp]
      obtain ⟨h1, h2, h3⟩ := chGo_law l f (n + 1) n (by omega)
      exact ⟨by omega, by omega, by omega⟩
    · rw [if_neg hp]
      obtain ⟨h1, h2, h3⟩ := chGo_law l f (n + 1) b (by omega)
      exact ⟨by omega, by omega, by omega⟩
theorem chR_law {l : List TRate} {d : Int} (h : (chR l d).2.2 = 0) : (1 ≤ (chR l d).1 ∧ (chR l d).1 ≤ 1000) ∧ (1 ≤ d ∧ d ≤ 1000) ∧ priceR l (chR l d).1 = ((chR l d).2.1, 0) ∧ (priceR l d).2 = 0 ∧ (chR l d).2.1 ≤ (priceR l d).1 ∧ d ≤ (chR l d).1 := by
  by_cases h1 : okRates l = true
  · by_cases h2 : inB d 1 1000 = true
    · have e : chR l d = (chGo l (1000 - d).toNat (d + 1) d, price l (chGo l (1000 - d).toNat (d + 1) d), 0) := by unfold chR; rw [if_pos h1, if_pos h2]
      rw [e]
      have hb := inB_true h2
      obtain ⟨p1, p2, p3⟩ := chGo_law l (1000 - d).toNat (d + 1) d (by omega)
      generalize chGo l (1000 - d).toNat (d + 1) d = r at p1 p2 p3 ⊢
      have hp : ∀ x : Int, 1 ≤ x → x ≤ 1000 → priceR l x = (price l x, 0) := fun x a b => by
        unfold priceR
        rw [if_pos h1, if_pos (by simp [inB]; omega)]
      dsimp only
      rw [hp r (by omega) (by omega), hp d (by omega) (by omega)]
      exact ⟨⟨by omega, by omega⟩, hb, rfl, rfl, p3, p1⟩
    · unfold chR at h
      rw [if_pos h1, if_neg h2] at h
      exact absurd h (by decide)
  · unfold chR at h
    rw [if_neg h1] at h
    exact absurd h (by decide)
end Go.Proofs.YtiofpmmbgohnhaaDoor
