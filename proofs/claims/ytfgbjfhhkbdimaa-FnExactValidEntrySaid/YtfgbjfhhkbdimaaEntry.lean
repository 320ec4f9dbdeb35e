/- Valid entries of a log: the reference and the program say of the same entries that they are valid. No condition. -/
import Derived.Test.YtfgbjfhhkbdimaaName
import Derived.Test.YtfgbjfhhkbdimaaSEntry
namespace Go.Proofs.Ytfgbjfhhkbdimaa
open Go Go.RowKit Go.ChangeShapes Go.WideShapes
set_option linter.unusedSimpArgs false
set_option linter.unusedVariables false

def okEntryB (x : TEntry) : Bool := inB x.1 0 100000 && (isNameB x.2.1 && inB x.2.2 (-1000000) 1000000)

set_option maxHeartbeats 1000000 in
theorem entry_impl (w : World) (a : Int) (b : ByteArray) (c : Int) :
    Calls Try.prog 25 #[.agg #[.int .i64 a, .string b, .int .i64 c]] w fun e w' => e = .returned (.bool (okEntryB (a, b, c))) ∧ Below w.heap.size w w' := by
  rcases h1 : inB a 0 100000 with _ | _
  · go_enter Try.func25, Try.ntmps25
    go_wp2_with (first | (go_at_call 56; refine (in_impl _ _ _ _).mono ?_; rintro e w1 ⟨rfl, hw⟩; have hw := hw.symm; subst hw) | (go_at_call 60; refine (name_impl _ _).mono ?_; rintro e w1 ⟨rfl, hw⟩; have hw := hw.symm; subst hw))
    go_ret
    exact ⟨by simp [okEntryB, h1], (Below.refl _ _).alloc (Nat.le_refl _) _⟩
  rcases h2 : isNameB b with _ | _
  · go_enter Try.func25, Try.ntmps25
    go_wp2_with (first | (go_at_call 56; refine (in_impl _ _ _ _).mono ?_; rintro e w1 ⟨rfl, hw⟩; have hw := hw.symm; subst hw) | (go_at_call 60; refine (name_impl _ _).mono ?_; rintro e w1 ⟨rfl, hw⟩; have hw := hw.symm; subst hw))
    go_ret
    exact ⟨by simp [okEntryB, h1, h2], (Below.refl _ _).alloc (Nat.le_refl _) _⟩
  rcases h3 : inB c (-1000000) 1000000 with _ | _
  · go_enter Try.func25, Try.ntmps25
    go_wp2_with (first | (go_at_call 56; refine (in_impl _ _ _ _).mono ?_; rintro e w1 ⟨rfl, hw⟩; have hw := hw.symm; subst hw) | (go_at_call 60; refine (name_impl _ _).mono ?_; rintro e w1 ⟨rfl, hw⟩; have hw := hw.symm; subst hw))
    go_ret
    exact ⟨by simp [okEntryB, h1, h2, h3], (Below.refl _ _).alloc (Nat.le_refl _) _⟩
  · go_enter Try.func25, Try.ntmps25
    go_wp2_with (first | (go_at_call 56; refine (in_impl _ _ _ _).mono ?_; rintro e w1 ⟨rfl, hw⟩; have hw := hw.symm; subst hw) | (go_at_call 60; refine (name_impl _ _).mono ?_; rintro e w1 ⟨rfl, hw⟩; have hw := hw.symm; subst hw))
    go_ret
    exact ⟨by simp [okEntryB, h1, h2, h3], (Below.refl _ _).alloc (Nat.le_refl _) _⟩

theorem day_spec (n : Int) (w : World) : Calls Try.prog 83 #[.int .i64 n] w fun e w' => e = .returned (.bool (inB n 0 100000)) ∧ w' = w := by
  go_enter Try.func83, Try.ntmps83
  go_wp2_with (go_at_call 54; refine (in_spec _ _ _ _).mono ?_; rintro e w' ⟨rfl, rfl⟩)
  go_ret
  exact ⟨rfl, rfl⟩
set_option maxHeartbeats 1000000 in
theorem okE_spec (w : World) (g off : Nat) (a : Int) (b : ByteArray) (c : Int) (p0 : w.cell? ⟨g, off, none⟩ = some (.int .i64 a)) (p1 : w.cell? ⟨g, off + 1, none⟩ = some (.string b)) (p2 : w.cell? ⟨g, off + 2, none⟩ = some (.int .i64 c)) :
    Calls Try.prog 59 #[.pointer (some ⟨g, off, none⟩)] w fun e w' => e = .returned (.bool (okEntryB (a, b, c))) ∧ w' = w := by
  rcases h1 : inB a 0 100000 with _ | _
  · go_enter Try.func59, Try.ntmps59
    go_wp2_with (first | (go_at_call 54; refine (in_spec _ _ _ _).mono ?_; rintro e w1 ⟨rfl, hw⟩; have hw := hw.symm; subst hw) | (go_at_call 84; refine (name_spec _ _).mono ?_; rintro e w1 ⟨rfl, hw⟩; have hw := hw.symm; subst hw) | (go_at_call 83; refine (day_spec _ _).mono ?_; rintro e w1 ⟨rfl, hw⟩; have hw := hw.symm; subst hw))
    go_ret
    exact ⟨by simp [okEntryB, h1], rfl⟩
  rcases h2 : isNameB b with _ | _
  · go_enter Try.func59, Try.ntmps59
    go_wp2_with (first | (go_at_call 54; refine (in_spec _ _ _ _).mono ?_; rintro e w1 ⟨rfl, hw⟩; have hw := hw.symm; subst hw) | (go_at_call 84; refine (name_spec _ _).mono ?_; rintro e w1 ⟨rfl, hw⟩; have hw := hw.symm; subst hw) | (go_at_call 83; refine (day_spec _ _).mono ?_; rintro e w1 ⟨rfl, hw⟩; have hw := hw.symm; subst hw))
    go_ret
    exact ⟨by simp [okEntryB, h1, h2], rfl⟩
  rcases h3 : inB c (-1000000) 1000000 with _ | _
  · go_enter Try.func59, Try.ntmps59
    go_wp2_with (first | (go_at_call 54; refine (in_spec _ _ _ _).mono ?_; rintro e w1 ⟨rfl, hw⟩; have hw := hw.symm; subst hw) | (go_at_call 84; refine (name_spec _ _).mono ?_; rintro e w1 ⟨rfl, hw⟩; have hw := hw.symm; subst hw) | (go_at_call 83; refine (day_spec _ _).mono ?_; rintro e w1 ⟨rfl, hw⟩; have hw := hw.symm; subst hw))
    go_ret
    exact ⟨by simp [okEntryB, h1, h2, h3], rfl⟩
  · go_enter Try.func59, Try.ntmps59
    go_wp2_with (first | (go_at_call 54; refine (in_spec _ _ _ _).mono ?_; rintro e w1 ⟨rfl, hw⟩; have hw := hw.symm; subst hw) | (go_at_call 84; refine (name_spec _ _).mono ?_; rintro e w1 ⟨rfl, hw⟩; have hw := hw.symm; subst hw) | (go_at_call 83; refine (day_spec _ _).mono ?_; rintro e w1 ⟨rfl, hw⟩; have hw := hw.symm; subst hw))
    go_ret
    exact ⟨by simp [okEntryB, h1, h2, h3], rfl⟩

theorem entry_spec (w : World) (a : Int) (b : ByteArray) (c : Int) :
    Calls Try.prog 23 #[.agg #[.int .i64 a, .string b, .int .i64 c]] w fun e w' => e = .returned (.bool (okEntryB (a, b, c))) ∧ Below w.heap.size w w' := by
  go_enter Try.func23, Try.ntmps23
  go_wp2_with fail
  refine (okE_spec _ w.heap.size 0 a b c (new_cell w _ _ 0 _ rfl) (new_cell w _ _ 1 _ rfl) (new_cell w _ _ 2 _ rfl)).mono ?_
  rintro e w1 ⟨rfl, rfl⟩
  go_wp2_with fail
  go_ret
  exact ⟨rfl, (Below.refl _ _).alloc (Nat.le_refl _) _⟩

end Go.Proofs.Ytfgbjfhhkbdimaa
