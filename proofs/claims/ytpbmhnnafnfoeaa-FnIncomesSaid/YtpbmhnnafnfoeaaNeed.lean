/- Seats that are needed, reference and program alike, and what FnIncomes asks of them. -/
import Derived.Test.YtpbmhnnafnfoeaaBase
namespace Go.Proofs.Ytpbmhnnafnfoeaa
open Go Go.RowKit Go.ChangeShapes Go.WideShapes Go.ChangeAt
set_option linter.unusedSimpArgs false
set_option linter.unusedVariables false
theorem mul_bd (b c : Int) (hb : 1 ≤ b ∧ b ≤ 10000000) (hc : 1 ≤ c ∧ c ≤ 1000) : 1 ≤ b * c ∧ b * c ≤ 10000000000 := by
  obtain ⟨n, rfl⟩ := Int.eq_ofNat_of_zero_le (by omega : 0 ≤ b)
  obtain ⟨m, rfl⟩ := Int.eq_ofNat_of_zero_le (by omega : 0 ≤ c)
  have h1 : n * m ≤ 10000000 * 1000 := Nat.mul_le_mul (by omega) (by omega)
  have h2 : 1 * 1 ≤ n * m := Nat.mul_le_mul (by omega) (by omega)
  omega
/-- what both answer -/
def seats (a b c : Int) : Int × Int := if inB a 0 10000000 && inB b 1 10000000 && inB c 1 1000 then ((a * 1000 + b * c - 1) / (b * c), 0) else (0, 2)

set_option maxHeartbeats 400000 in
theorem seats_spec (a b c : Int) (w : World) :
    Calls Try.prog 7 #[.int .i64 a, .int .i64 b, .int .i64 c] w fun e w' => e = .returned (.tuple #[.int .i64 (seats a b c).1, .int .i64 (seats a b c).2]) ∧ w' = w := by
  unfold seats
  rcases h1 : inB a 0 10000000 with _ | _
  · go_enter Try.func7, Try.ntmps7
    go_wp2_with (first | (go_at_call 23; refine (in_spec _ _ _ _).mono ?_; rintro e w' ⟨rfl, rfl⟩))
    go_ret2
    exact ⟨by simp, rfl⟩
  rcases h2 : inB b 1 10000000 with _ | _
  · go_enter Try.func7, Try.ntmps7
    go_wp2_with (first | (go_at_call 23; refine (in_spec _ _ _ _).mono ?_; rintro e w' ⟨rfl, rfl⟩))
    go_ret2
    exact ⟨by simp, rfl⟩
  rcases h3 : inB c 1 1000 with _ | _
  · go_enter Try.func7, Try.ntmps7
    go_wp2_with (first | (go_at_call 23; refine (in_spec _ _ _ _).mono ?_; rintro e w' ⟨rfl, rfl⟩))
    go_ret2
    exact ⟨by simp, rfl⟩
  · obtain ⟨a1, a2⟩ := inB_true h1
    obtain ⟨b1, b2⟩ := inB_true h2
    obtain ⟨c1, c2⟩ := inB_true h3
    obtain ⟨m1, m2⟩ := mul_bd b c ⟨b1, b2⟩ ⟨c1, c2⟩
    go_enter Try.func7, Try.ntmps7
    go_wp2_with (first | (go_at_call 23; refine (in_spec _ _ _ _).mono ?_; rintro e w' ⟨rfl, rfl⟩))
    go_ret2
    exact ⟨by simp [Int.mul_comm], rfl⟩

set_option maxHeartbeats 400000 in
theorem seats_impl (a b c : Int) (w : World) :
    Calls Try.prog 6 #[.int .i64 a, .int .i64 b, .int .i64 c] w fun e w' => e = .returned (.tuple #[.int .i64 (seats a b c).1, .int .i64 (seats a b c).2]) ∧ w' = w := by
  unfold seats
  rcases h1 : inB a 0 10000000 with _ | _
  · go_enter Try.func6, Try.ntmps6
    go_wp2_with (first | (go_at_call 22; refine (in_impl _ _ _ _).mono ?_; rintro e w' ⟨rfl, rfl⟩) | (go_at_call 21; go_in))
    go_ret2
    exact ⟨by simp, rfl⟩
  rcases h2 : inB b 1 10000000 with _ | _
  · go_enter Try.func6, Try.ntmps6
    go_wp2_with (first | (go_at_call 22; refine (in_impl _ _ _ _).mono ?_; rintro e w' ⟨rfl, rfl⟩) | (go_at_call 21; go_in))
    go_ret2
    exact ⟨by simp, rfl⟩
  rcases h3 : inB c 1 1000 with _ | _
  · go_enter Try.func6, Try.ntmps6
    go_wp2_with (first | (go_at_call 22; refine (in_impl _ _ _ _).mono ?_; rintro e w' ⟨rfl, rfl⟩) | (go_at_call 21; go_in))
    go_ret2
    exact ⟨by simp, rfl⟩
  · obtain ⟨a1, a2⟩ := inB_true h1
    obtain ⟨b1, b2⟩ := inB_true h2
    obtain ⟨c1, c2⟩ := inB_true h3
    obtain ⟨m1, m2⟩ := mul_bd b c ⟨b1, b2⟩ ⟨c1, c2⟩
    go_enter Try.func6, Try.ntmps6
    go_wp2_with (first | (go_at_call 22; refine (in_impl _ _ _ _).mono ?_; rintro e w' ⟨rfl, rfl⟩) | (go_at_call 21; go_in))
    go_ret2
    exact ⟨by simp, rfl⟩


theorem seats_law (a b c : Int) (h : (seats a b c).2 = 0) : (0 ≤ 1000 * a ∧ 1000 * a ≤ 10000000000) ∧ (0 ≤ (seats a b c).1 ∧ (seats a b c).1 ≤ 10000000000) ∧
    (0 ≤ (seats a b c).1 * b ∧ (seats a b c).1 * b ≤ 20000000000) ∧ (0 ≤ (seats a b c).1 * b * c ∧ (seats a b c).1 * b * c ≤ 20000000000) ∧ (-10000000 ≤ ((seats a b c).1 - 1) * b ∧ ((seats a b c).1 - 1) * b ≤ 20000000000) ∧ (-10000000000 ≤ ((seats a b c).1 - 1) * b * c ∧ ((seats a b c).1 - 1) * b * c ≤ 20000000000) ∧
    1000 * a ≤ (seats a b c).1 * b * c ∧ ((seats a b c).1 = 0 ∨ ((seats a b c).1 - 1) * b * c < 1000 * a) := by
  unfold seats at h ⊢
  by_cases hc : (inB a 0 10000000 && inB b 1 10000000 && inB c 1 1000) = true
  case neg => rw [if_neg hc] at h; exact absurd h (by decide)
  rw [if_pos hc]
  simp only [Bool.and_eq_true] at hc
  obtain ⟨⟨h1, h2⟩, h3⟩ := hc
  obtain ⟨a1, a2⟩ := inB_true h1
  obtain ⟨b1, b2⟩ := inB_true h2
  obtain ⟨c1, c2⟩ := inB_true h3
  obtain ⟨m1, m2⟩ := mul_bd b c ⟨b1, b2⟩ ⟨c1, c2⟩
  have q1 := Int.ediv_mul_le (a * 1000 + b * c - 1) (show b * c ≠ 0 by omega)
  have q2 := Int.lt_ediv_add_one_mul_self (a * 1000 + b * c - 1) (show 0 < b * c by omega)
  have q0 : 0 ≤ (a * 1000 + b * c - 1) / (b * c) := Int.ediv_nonneg (by omega) (by omega)
  show _ ∧ (0 ≤ (a * 1000 + b * c - 1) / (b * c) ∧ (a * 1000 + b * c - 1) / (b * c) ≤ _) ∧ (0 ≤ (a * 1000 + b * c - 1) / (b * c) * b ∧ (a * 1000 + b * c - 1) / (b * c) * b ≤ _) ∧ (0 ≤ (a * 1000 + b * c - 1) / (b * c) * b * c ∧ (a * 1000 + b * c - 1) / (b * c) * b * c ≤ _) ∧ (_ ≤ ((a * 1000 + b * c - 1) / (b * c) - 1) * b ∧ ((a * 1000 + b * c - 1) / (b * c) - 1) * b ≤ _) ∧ (_ ≤ ((a * 1000 + b * c - 1) / (b * c) - 1) * b * c ∧ ((a * 1000 + b * c - 1) / (b * c) - 1) * b * c ≤ _) ∧ 1000 * a ≤ (a * 1000 + b * c - 1) / (b * c) * b * c ∧ ((a * 1000 + b * c - 1) / (b * c) = 0 ∨ ((a * 1000 + b * c - 1) / (b * c) - 1) * b * c < _)
  generalize (a * 1000 + b * c - 1) / (b * c) = q at q0 q1 q2 ⊢
  rw [Int.mul_assoc q b c, Int.mul_assoc (q - 1) b c, Int.sub_mul, Int.sub_mul, Int.one_mul, Int.one_mul]
  rw [Int.add_mul, Int.one_mul] at q2
  have n1 : q ≤ q * (b * c) := by
    have := Int.mul_le_mul_of_nonneg_left m1 q0
    omega
  have n2 : 0 ≤ q * b := Int.mul_nonneg q0 (by omega)
  have n4 : q = 0 ∨ q - 1 ≤ q * (b * c) - b * c := by
    by_cases h0 : q = 0
    · exact .inl h0
    · refine .inr ?_
      have := Int.mul_le_mul_of_nonneg_left m1 (show 0 ≤ q - 1 by omega)
      rw [Int.mul_one, Int.sub_mul, Int.one_mul] at this
      omega
  have n3 : q * b ≤ q * (b * c) := by
    have := Int.mul_le_mul_of_nonneg_left (show b ≤ b * c by
      have := Int.mul_le_mul_of_nonneg_left c1 (show 0 ≤ b by omega)
      omega) q0
    exact this
  generalize q * (b * c) = z at *
  generalize q * b = y at *
  generalize b * c = m at *
  refine ⟨by omega, ?_, by omega, by omega, by omega, by omega, by omega, ?_⟩
  · omega
  · omega
end Go.Proofs.Ytpbmhnnafnfoeaa
