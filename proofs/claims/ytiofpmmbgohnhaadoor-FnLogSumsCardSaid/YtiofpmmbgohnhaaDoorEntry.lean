/- Valid entries of a log: the reference and the program say of the same entries that they are valid. No condition. -/
import Derived.Test.YtiofpmmbgohnhaaDoorName
import Derived.Test.YtiofpmmbgohnhaaDoorSEntry
namespace Go.Proofs.YtiofpmmbgohnhaaDoor
open Go Go.RowKit Go.ChangeShapes Go.WideShapes
set_option linter.unusedSimpArgs false
set_option linter.unusedVariables false

def okEntryB (x : TEntry) : Bool := inB x.1 0 100000 && (isNameB x.2.1 && inB x.2.2 (-1000000) 1000000)

set_option maxHeartbeats 1000000 in
theorem entry_impl (w : World) (a : Int) (b : ByteArray) (c : Int) :
    Calls Tryd.prog 65 #[.agg #[.int .i64 a, .string b, .int .i64 c]] w fun e w' => e = .returned (.bool (okEntryB (a, b, c))) ∧ Below w.heap.size w w' := by
  rcases h1 : inB a 0 100000 with _ | _
  · go_enter Tryd.func65, Tryd.ntmps65
    go_wp2_with (first | (go_at_call 62; refine (in_impl _ _ _ _).mono ?_; rintro e w1 ⟨rfl, hw⟩; have hw := hw.symm; subst hw) | (go_at_call 61; refine (name_impl _ _).mono ?_; rintro e w1 ⟨rfl, hw⟩; have hw := hw.symm; subst hw))
    go_ret
    exact ⟨by simp [okEntryB, h1], (Below.refl _ _).alloc (Nat.le_refl _) _⟩
  rcases h2 : isNameB b with _ | _
  · go_enter Tryd.func65, Tryd.ntmps65
    go_wp2_with (first | (go_at_call 62; refine (in_impl _ _ _ _).mono ?_; rintro e w1 ⟨rfl, hw⟩; have hw := hw.symm; subst hw) | (go_at_call 61; refine (name_impl _ _).mono ?_; rintro e w1 ⟨rfl, hw⟩; have hw := hw.symm; subst hw))
    go_ret
    exact ⟨by simp [okEntryB, h1, h2], (Below.refl _ _).alloc (Nat.le_refl _) _⟩
  rcases h3 : inB c (-1000000) 1000000 with _ | _
  · go_enter Tryd.func65, Tryd.ntmps65
    go_wp2_with (first | (go_at_call 62; refine (in_impl _ _ _ _).mono ?_; rintro e w1 ⟨rfl, hw⟩; have hw := hw.symm; subst hw) | (go_at_call 61; refine (name_impl _ _).mono ?_; rintro e w1 ⟨rfl, hw⟩; have hw := hw.symm; subst hw))
    go_ret
    exact ⟨by simp [okEntryB, h1, h2, h3], (Below.refl _ _).alloc (Nat.le_refl _) _⟩
  · go_enter Tryd.func65, Tryd.ntmps65
    go_wp2_with (first | (go_at_call 62; refine (in_impl _ _ _ _).mono ?_; rintro e w1 ⟨rfl, hw⟩; have hw := hw.symm; subst hw) | (go_at_call 61; refine (name_impl _ _).mono ?_; rintro e w1 ⟨rfl, hw⟩; have hw := hw.symm; subst hw))
    go_ret
    exact ⟨by simp [okEntryB, h1, h2, h3], (Below.refl _ _).alloc (Nat.le_refl _) _⟩

theorem day_spec (n : Int) (w : World) : Calls Tryd.prog 107 #[.int .i64 n] w fun e w' => e = .returned (.bool (inB n 0 100000)) ∧ w' = w := by
  go_enter Tryd.func107, Tryd.ntmps107
  go_wp2_with (go_at_call 81; refine (in_spec _ _ _ _).mono ?_; rintro e w' ⟨rfl, rfl⟩)
  go_ret
  exact ⟨rfl, rfl⟩
set_option maxHeartbeats 1000000 in
theorem okE_spec (w : World) (g off : Nat) (a : Int) (b : ByteArray) (c : Int) (p0 : w.cell? ⟨g, off, none⟩ = some (.int .i64 a)) (p1 : w.cell? ⟨g, off + 1, none⟩ = some (.string b)) (p2 : w.cell? ⟨g, off + 2, none⟩ = some (.int .i64 c)) :
    Calls Tryd.prog 57 #[.pointer (some ⟨g, off, none⟩)] w fun e w' => e = .returned (.bool (okEntryB (a, b, c))) ∧ w' = w := by
  rcases h1 : inB a 0 100000 with _ | _
  · go_enter Tryd.func57, Tryd.ntmps57
    go_wp2_with (first | (go_at_call 81; refine (in_spec _ _ _ _).mono ?_; rintro e w1 ⟨rfl, hw⟩; have hw := hw.symm; subst hw) | (go_at_call 108; refine (name_spec _ _).mono ?_; rintro e w1 ⟨rfl, hw⟩; have hw := hw.symm; subst hw) | (go_at_call 107; refine (day_spec _ _).mono ?_; rintro e w1 ⟨rfl, hw⟩; have hw := hw.symm; subst hw))
    go_ret
    exact ⟨by simp [okEntryB, h1], rfl⟩
  rcases h2 : isNameB b with _ | _
  · go_enter Tryd.func57, Tryd.ntmps57
    go_wp2_with (first | (go_at_call 81; refine (in_spec _ _ _ _).mono ?_; rintro e w1 ⟨rfl, hw⟩; have hw := hw.symm; subst hw) | (go_at_call 108; refine (name_spec _ _).mono ?_; rintro e w1 ⟨rfl, hw⟩; have hw := hw.symm; subst hw) | (go_at_call 107; refine (day_spec _ _).mono ?_; rintro e w1 ⟨rfl, hw⟩; have hw := hw.symm; subst hw))
    go_ret
    exact ⟨by simp [okEntryB, h1, h2], rfl⟩
  rcases h3 : inB c (-1000000) 1000000 with _ | _
  · go_enter Tryd.func57, Tryd.ntmps57
    go_wp2_with (first | (go_at_call 81; refine (in_spec _ _ _ _).mono ?_; rintro e w1 ⟨rfl, hw⟩; have hw := hw.symm; subst hw) | (go_at_call 108; refine (name_spec _ _).mono ?_; rintro e w1 ⟨rfl, hw⟩; have hw := hw.symm; subst hw) | (go_at_call 107; refine (day_spec _ _).mono ?_; rintro e w1 ⟨rfl, hw⟩; have hw := hw.symm; subst hw))
    go_ret
    exact ⟨by simp [okEntryB, h1, h2, h3], rfl⟩
  · go_enter Tryd.func57, Tryd.ntmps57
    go_wp2_with (first | (go_at_call 81; refine (in_spec _ _ _ _).mono ?_; rintro e w1 ⟨rfl, hw⟩; have hw := hw.symm; subst hw) | (go_at_call 108; refine (name_spec _ _).mono ?_; rintro e w1 ⟨rfl, hw⟩; have hw := hw.symm; subst hw) | (go_at_call 107; refine (day_spec _ _).mono ?_; rintro e w1 ⟨rfl, hw⟩; have hw := hw.symm; subst hw))
    go_ret
    exact ⟨by simp [okEntryB, h1, h2, h3], rfl⟩

end Go.Proofs.YtiofpmmbgohnhaaDoor
