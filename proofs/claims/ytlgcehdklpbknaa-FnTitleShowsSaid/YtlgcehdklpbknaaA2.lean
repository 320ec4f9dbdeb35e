/- Helpers of the laws about properties: a2Long, a2At, a2Sum, a2Has, a2Rises, a2Same. No condition but that the slices read. -/
import Derived.Test.YtlgcehdklpbknaaF6
namespace Go.Proofs.Ytlgcehdklpbknaa
open Go Go.RowKit Go.ChangeShapes Go.WideShapes
set_option linter.unusedSimpArgs false
set_option linter.unusedVariables false
theorem a2long_no (w : World) (v1 v2 : Value) (l1 l2 : List UInt8) (h1 : Sl w 1 v1 eU l1) (h2 : Sl w 1 v2 eU l2) (k1 : l1.length ≤ 3000) (k2 : l2.length ≤ 3000) : Calls Try.prog 10 #[v1, v2] w fun e w' => e = .returned (.bool false) ∧ w' = w := by
  have m1 := h1.len
  have m2 := h2.len
  obtain ⟨A1, c1, rfl⟩ := h1.isSlice
  obtain ⟨A2, c2, rfl⟩ := h2.isSlice
  go_enter Try.func10, Try.ntmps10
  go_wp2_with fail
  go_ret
  exact ⟨by show Ending.returned (.bool (decide _ || decide _)) = _; rw [decide_eq_false (by omega), decide_eq_false (by omega)]; rfl, rfl⟩
theorem a2long_yes (w : World) (v1 v2 : Value) (l1 l2 : List UInt8) (h1 : Sl w 1 v1 eU l1) (h2 : Sl w 1 v2 eU l2) (hk : ¬ (l1.length ≤ 3000 ∧ l2.length ≤ 3000)) : Calls Try.prog 10 #[v1, v2] w fun e w' => e = .returned (.bool true) ∧ w' = w := by
  have m1 := h1.len
  have m2 := h2.len
  obtain ⟨A1, c1, rfl⟩ := h1.isSlice
  obtain ⟨A2, c2, rfl⟩ := h2.isSlice
  by_cases k1 : l1.length ≤ 3000
  · have k2 : 3000 < l2.length := by omega
    go_enter Try.func10, Try.ntmps10
    go_wp2_with fail
    go_ret
    exact ⟨by first | rfl | (congr 2; simp; omega), rfl⟩
  · have k2 : 3000 < l1.length := by omega
    clear hk k1
    go_enter Try.func10, Try.ntmps10
    go_wp2_with fail
    go_ret
    exact ⟨by first | rfl | (congr 2; simp; omega), rfl⟩
theorem a2at (w : World) (v : Value) (l : List UInt8) (h : Sl w 1 v eU l) (a : Nat) (n : Int) (h1 : 1 ≤ n) (h2 : n ≤ 1000000) (ha : a ≤ 1000000) : Calls Try.prog 54 #[v, .int .i64 (a : Int), .int .i64 n] w fun e w' => ∃ x : Int, (0 ≤ x ∧ x < n) ∧ e = .returned (.int .i64 x) ∧ w' = w := by
  have m1 := h.len
  obtain ⟨A, c, rfl⟩ := h.isSlice
  by_cases hlt : a < l.length
  · obtain ⟨b, o, x, hx, hA, hb, hc⟩ := h.at_ hlt
    subst hA
    have hc0 := hc 0 (.int .u8 (x.toNat : Int)) rfl
    rw [show o + a * 1 + 0 = o + a by omega] at hc0
    have hxb := x.toNat_lt
    have hx1 := Int.emod_nonneg (x.toNat : Int) (show n ≠ 0 by omega)
    have hx2 := Int.emod_lt_of_pos (x.toNat : Int) (show 0 < n by omega)
    have hx3 : (x.toNat : Int).tmod n = (x.toNat : Int) % n := Int.tmod_eq_emod_of_nonneg (by omega)
    clear hc hx
    go_enter Try.func54, Try.ntmps54
    go_wp2_with fail
    go_ret
    exact ⟨(x.toNat : Int) % n, ⟨hx1, hx2⟩, by first | rfl | (rw [← hx3]; rfl), rfl⟩
  · go_enter Try.func54, Try.ntmps54
    go_wp2_with fail
    go_ret
    exact ⟨0, ⟨by omega, by omega⟩, rfl, rfl⟩
end Go.Proofs.Ytlgcehdklpbknaa
