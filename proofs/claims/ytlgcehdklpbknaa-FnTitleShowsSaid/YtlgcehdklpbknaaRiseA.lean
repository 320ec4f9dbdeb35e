/- Numbers that rise: the helper a2Rises of the laws about properties says yes. No condition but that the slice reads. -/
import Derived.Test.YtlgcehdklpbknaaA2
import Derived.BigQuiet
namespace Go.Proofs.Ytlgcehdklpbknaa
open Go Go.RowKit Go.ChangeShapes Go.WideShapes
set_option linter.unusedSimpArgs false
set_option linter.unusedVariables false
def risesN (L : List Int) (n : Nat) : Prop := ∀ i (hi : i < L.length), 0 ≤ L[i] ∧ L[i] < (n : Int) ∧ ∀ m (hm : m < L.length), i = m + 1 → L[m] < L[i]
def DrA (w w' : World) : Prop := ∃ n, w' = w.drewN n
theorem DrA.refl (w : World) : DrA w w := ⟨0, rfl⟩
theorem DrA.drew {w w' : World} (h : DrA w w') : DrA w w'.drew := by obtain ⟨n, rfl⟩ := h; exact ⟨n + 1, rfl⟩
theorem DrA.drewN {w w' : World} (h : DrA w w') (k : Nat) : DrA w (w'.drewN k) := by obtain ⟨n, rfl⟩ := h; exact ⟨n + k, World.drewN_drewN _ _ _⟩
theorem DrA.below {w w' : World} (h : DrA w w') : Below w.heap.size w w' := by obtain ⟨n, rfl⟩ := h; exact below_of_drewN n _
set_option maxRecDepth 100000 in
set_option maxHeartbeats 1000000 in
theorem a2rises_ok (w : World) (v : Value) (l : List Int) (h : Sl w 1 v eI l) (n : Nat) (hn : n ≤ 1000000) (hr : risesN l n) :
    Calls Try.prog 19 #[v, .int .i64 n] w fun e w' => e = .returned (.bool true) ∧ DrA w w' := by
  have m1 := h.len
  obtain ⟨-, A1, c1, rfl, -, -, -⟩ := id h
  have HR := hd hr
  clear hr
  go_enter Try.func19, Try.ntmps19
  go_wp2_with fail
  go_loopw [5] (fun i wr => ∃ k : Nat, k ≤ l.length ∧ i = .int .i64 k ∧ Hid (DrA w wr)) (fun i _ => l.length - (intOf i).toNat)
  case atStart => exact ⟨0, Nat.zero_le _, rfl, hd (DrA.refl w)⟩
  case round =>
    obtain ⟨k, hk, rfl, DW⟩ := hrel
    have DW2 := hd fun n => DW.out.drewN n
    by_cases hlt : k < l.length
    · obtain ⟨a1, o1, rfl, -, hc1⟩ := (h.below DW.out.below).int_at hlt
      obtain ⟨r1, r2, r3⟩ := HR.out k hlt
      by_cases h0 : k = 0
      · subst h0
        generalize l[0] = x at hc1 r1 r2
        have hc2 : wr.cell? ⟨a1, o1, none⟩ = some (.int .i64 x) := hc1
        clear hc1 r3
        have e1 : decide (x < 0) = false := by simpa using r1
        have e2 : decide ((n : Int) ≤ x) = false := by simpa using r2
        go_wp2_with fail
        go_quiet (fail)
        go_wp2_with fail
        go_roundw
        case rel => exact ⟨0 + 1, by omega, by go_num, hd (DW2.out _)⟩
        case measure => simp [intOf]; omega
      · obtain ⟨m, rfl⟩ : ∃ m, k = m + 1 := ⟨k - 1, by omega⟩
        have hm : m < l.length := by omega
        have r4 := r3 m hm rfl
        obtain ⟨a2, o2, ha2, -, hc2⟩ := (h.below DW.out.below).int_at hm
        injection ha2 with ha2
        injection ha2 with ha3 ha4 _
        subst ha3 ha4
        generalize l[m + 1] = x at hc1 r1 r2 r4
        generalize l[m] = y at hc2 r4
        clear r3
        have e1 : decide (x < 0) = false := by simpa using r1
        have e2 : decide ((n : Int) ≤ x) = false := by simpa using r2
        have e3 : decide (x ≤ y) = false := by simpa using r4
        go_wp2_with fail
        go_quiet (fail)
        go_wp2_with fail
        go_roundw
        case rel => exact ⟨m + 1 + 1, by omega, by go_num, hd (DW2.out _)⟩
        case measure => simp [intOf]; omega
    · go_wp2_with fail
      go_ret
      exact ⟨rfl, DW.out⟩
end Go.Proofs.Ytlgcehdklpbknaa
