/- Facts of this program that every law's last step wants, and the opening of its arguments. No condition. -/
import Derived.Test.YtnpejedeidnjnaaDoorRows
import Derived.Test.YtnpejedeidnjnaaDoorInts
import Derived.Test.YtnpejedeidnjnaaDoorOpen
namespace Go.Proofs.YtnpejedeidnjnaaDoor
open Go Go.RowKit Go.ChangeShapes Go.WideShapes Go.ChangeAt
set_option linter.unusedSimpArgs false
set_option linter.unusedVariables false

theorem own_knob : ownKnob Tryd.prog.godebug = none := by kernel_rfl
theorem laid_out : laidOutB Tryd.prog = true := by kernel_rfl

def eB (x : Int) : List Value := [.int .u8 x]

section
variable {H : Type} {enc : TypeId × Value → H} {P : Program} {w : World} {base : Nat} {spare : Nat → Bool} {held : Bool}
theorem sl_of_i64s {r : Reach} {b0 : Nat} {t e : TypeId} {v : Value} {d : DataW H} {p : List MemPlace} (ht : P.underlying t = some (.slice e)) (he : P.underlying e = some (.int .i64)) (hC : P.cellsOf e = 1)
    (hv : Value.okWide P w r b0 t v) (h : DataW.Trod enc P w base spare held t v d p) : ∃ l : List Int, Sl w 1 v eI l ∧ ∀ x ∈ l, -9223372036854775808 ≤ x ∧ x ≤ 9223372036854775807 := by
  obtain ⟨a, n, c, rfl⟩ := okWide_slice ht hv
  obtain ⟨fuel, hf⟩ := h
  refine sl_of_trod (K := 1) ht hC (by omega) (fun n cs y hy => ?_) (by simpa [Value.cells] using hf)
  obtain ⟨x, rfl, -, hw⟩ := DataW.trod_int he hy
  exact ⟨x, rfl, i64_range hw⟩
theorem u8_range {n : Int} (h : (Lit.int .u8 n).wf = true) : 0 ≤ n ∧ n ≤ 255 := by
  simp [Lit.wf, IntKind.min, IntKind.max, IntKind.signed, IntKind.bits] at h
  omega
theorem sl_of_bytes {r : Reach} {b0 : Nat} {t e : TypeId} {v : Value} {d : DataW H} {p : List MemPlace} (ht : P.underlying t = some (.slice e)) (he : P.underlying e = some (.int .u8)) (hC : P.cellsOf e = 1)
    (hv : Value.okWide P w r b0 t v) (h : DataW.Trod enc P w base spare held t v d p) : ∃ l : List Int, Sl w 1 v eB l ∧ ∀ x ∈ l, 0 ≤ x ∧ x ≤ 255 := by
  obtain ⟨a, n, c, rfl⟩ := okWide_slice ht hv
  obtain ⟨fuel, hf⟩ := h
  refine sl_of_trod (K := 1) ht hC (by omega) (fun n cs y hy => ?_) (by simpa [Value.cells] using hf)
  obtain ⟨x, rfl, -, hw⟩ := DataW.trod_int he hy
  exact ⟨x, rfl, u8_range hw⟩
end

/-! ### a number within bounds -/
def inB (n lo hi : Int) : Bool := decide (lo ≤ n ∧ n ≤ hi)
theorem inB_true {n lo hi : Int} (h : inB n lo hi = true) : lo ≤ n ∧ n ≤ hi := by unfold inB at h; simpa using h
theorem inB_mk {n lo hi : Int} (h : lo ≤ n ∧ n ≤ hi) : inB n lo hi = true := by unfold inB; simpa using h
theorem inB_false {n lo hi : Int} (h : inB n lo hi = false) : n < lo ∨ hi < n := by unfold inB at h; simp at h; omega
theorem inB_not {n lo hi : Int} (h : n < lo ∨ hi < n) : inB n lo hi = false := by unfold inB; simp; omega

theorem in_spec (n lo hi : Int) (w : World) : Calls Tryd.prog 46 #[.int .i64 n, .int .i64 lo, .int .i64 hi] w fun e w' => e = .returned (.bool (inB n lo hi)) ∧ w' = w := by
  by_cases h1 : lo ≤ n
  · go_enter Tryd.func46, Tryd.ntmps46
    go_wp2
    go_ret
    refine ⟨?_, rfl⟩
    show Ending.returned (.bool (decide (n ≤ hi))) = _
    simp [inB, h1]
  · have h2 : n < lo := by omega
    go_enter Tryd.func46, Tryd.ntmps46
    go_wp2
    go_ret
    refine ⟨?_, rfl⟩
    show Ending.returned (.bool false) = _
    rw [inB_not (.inl h2)]
theorem in_impl (n lo hi : Int) (w : World) : Calls Tryd.prog 34 #[.int .i64 n, .int .i64 lo, .int .i64 hi] w fun e w' => e = .returned (.bool (inB n lo hi)) ∧ w' = w := by
  by_cases h1 : lo ≤ n
  · go_enter Tryd.func34, Tryd.ntmps34
    go_wp2
    go_ret
    refine ⟨?_, rfl⟩
    show Ending.returned (.bool (decide (n ≤ hi))) = _
    simp [inB, h1]
  · have h2 : n < lo := by omega
    go_enter Tryd.func34, Tryd.ntmps34
    go_wp2
    go_ret
    refine ⟨?_, rfl⟩
    show Ending.returned (.bool false) = _
    rw [inB_not (.inl h2)]
theorem calm_in_spec (w : World) (x : Ext w) (n lo hi : Int) : Calls Tryd.prog 46 #[.int .i64 n, .int .i64 lo, .int .i64 hi] (gro w x) fun e w'' => e = .returned (.bool (inB n lo hi)) ∧ ∃ y, w'' = gro w y := calm_of_same (in_spec _ _ _ _)
theorem calm_in_impl (w : World) (x : Ext w) (n lo hi : Int) : Calls Tryd.prog 34 #[.int .i64 n, .int .i64 lo, .int .i64 hi] (gro w x) fun e w'' => e = .returned (.bool (inB n lo hi)) ∧ ∃ y, w'' = gro w y := calm_of_same (in_impl _ _ _ _)
end Go.Proofs.YtnpejedeidnjnaaDoor
