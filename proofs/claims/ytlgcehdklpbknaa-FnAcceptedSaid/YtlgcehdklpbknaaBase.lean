/- Facts of this program that every law's last step wants, and the opening of its arguments. No condition. -/
import Derived.Test.YtlgcehdklpbknaaRows
import Derived.Test.YtlgcehdklpbknaaInts
import Derived.Test.YtlgcehdklpbknaaOpen
namespace Go.Proofs.Ytlgcehdklpbknaa
open Go Go.RowKit Go.ChangeShapes Go.WideShapes Go.ChangeAt
set_option linter.unusedSimpArgs false
set_option linter.unusedVariables false

theorem own_knob : ownKnob Try.prog.godebug = none := by kernel_rfl
theorem laid_out : laidOutB Try.prog = true := by kernel_rfl

def eB (x : Int) : List Value := [.int .u8 x]

section
variable {H : Type} {enc : TypeId × Value → H} {P : Program} {w : World} {base : Nat} {spare : Nat → Bool} {held : Bool}
theorem sl_of_i64s {r : Reach} {b0 : Nat} {t e : TypeId} {v : Value} {d : DataW H} {p : List MemPlace} (ht : P.underlying t = some (.slice e)) (he : P.underlying e = some (.int .i64)) (hC : P.cellsOf e = 1)
    (hv : Value.okWide P w r b0 t v) (h : DataW.Trod enc P w base spare held t v d p) : ∃ l : List Int, Sl w 1 v eI l ∧ ∀ x ∈ l, -9223372036854775808 ≤ x ∧ x ≤ 9223372036854775807 := by
  obtain ⟨a, n, c, rfl⟩ := okWide_slice ht hv
  obtain ⟨fuel, hf⟩ := h
  refine sl_of_trod (K := 1) ht hC (by omega) (fun n cs y hy => ?_) (by simpa [Value.cells] using hf)
  obtain ⟨x, rfl, -, hw⟩ := DataW.trod_int he hy
  exact ⟨x, rfl, i64_range hw⟩
theorem u8_range {n : Int} (h : (Lit.int .u8 n).wf = true) : 0 ≤ n ∧ n ≤ 255 := by
  simp [Lit.wf, IntKind.min, IntKind.max, IntKind.signed, IntKind.bits] at h
  omega
theorem sl_of_bytes {r : Reach} {b0 : Nat} {t e : TypeId} {v : Value} {d : DataW H} {p : List MemPlace} (ht : P.underlying t = some (.slice e)) (he : P.underlying e = some (.int .u8)) (hC : P.cellsOf e = 1)
    (hv : Value.okWide P w r b0 t v) (h : DataW.Trod enc P w base spare held t v d p) : ∃ l : List Int, Sl w 1 v eB l ∧ ∀ x ∈ l, 0 ≤ x ∧ x ≤ 255 := by
  obtain ⟨a, n, c, rfl⟩ := okWide_slice ht hv
  obtain ⟨fuel, hf⟩ := h
  refine sl_of_trod (K := 1) ht hC (by omega) (fun n cs y hy => ?_) (by simpa [Value.cells] using hf)
  obtain ⟨x, rfl, -, hw⟩ := DataW.trod_int he hy
  exact ⟨x, rfl, u8_range hw⟩
end

/-! ### a number within bounds -/
def inB (n lo hi : Int) : Bool := decide (lo ≤ n ∧ n ≤ hi)
theorem inB_true {n lo hi : Int} (h : inB n lo hi = true) : lo ≤ n ∧ n ≤ hi := by unfold inB at h; simpa using h
theorem inB_mk {n lo hi : Int} (h : lo ≤ n ∧ n ≤ hi) : inB n lo hi = true := by unfold inB; simpa using h
theorem inB_false {n lo hi : Int} (h : inB n lo hi = false) : n < lo ∨ hi < n := by unfold inB at h; simp at h; omega
theorem inB_not {n lo hi : Int} (h : n < lo ∨ hi < n) : inB n lo hi = false := by unfold inB; simp; omega

theorem in_spec (n lo hi : Int) (w : World) : Calls Try.prog 109 #[.int .i64 n, .int .i64 lo, .int .i64 hi] w fun e w' => e = .returned (.bool (inB n lo hi)) ∧ w' = w := by
  by_cases h1 : lo ≤ n
  · go_enter Try.func109, Try.ntmps109
    go_wp2
    go_ret
    refine ⟨?_, rfl⟩
    show Ending.returned (.bool (decide (n ≤ hi))) = _
    simp [inB, h1]
  · have h2 : n < lo := by omega
    go_enter Try.func109, Try.ntmps109
    go_wp2
    go_ret
    refine ⟨?_, rfl⟩
    show Ending.returned (.bool false) = _
    rw [inB_not (.inl h2)]
theorem in_impl (n lo hi : Int) (w : World) : Calls Try.prog 111 #[.int .i64 n, .int .i64 lo, .int .i64 hi] w fun e w' => e = .returned (.bool (inB n lo hi)) ∧ w' = w := by
  by_cases h1 : lo ≤ n
  · go_enter Try.func111, Try.ntmps111
    go_wp2
    go_ret
    refine ⟨?_, rfl⟩
    show Ending.returned (.bool (decide (n ≤ hi))) = _
    simp [inB, h1]
  · have h2 : n < lo := by omega
    go_enter Try.func111, Try.ntmps111
    go_wp2
    go_ret
    refine ⟨?_, rfl⟩
    show Ending.returned (.bool false) = _
    rw [inB_not (.inl h2)]
theorem calm_in_spec (w : World) (x : Ext w) (n lo hi : Int) : Calls Try.prog 109 #[.int .i64 n, .int .i64 lo, .int .i64 hi] (gro w x) fun e w'' => e = .returned (.bool (inB n lo hi)) ∧ ∃ y, w'' = gro w y := calm_of_same (in_spec _ _ _ _)
theorem calm_in_impl (w : World) (x : Ext w) (n lo hi : Int) : Calls Try.prog 111 #[.int .i64 n, .int .i64 lo, .int .i64 hi] (gro w x) fun e w'' => e = .returned (.bool (inB n lo hi)) ∧ ∃ y, w'' = gro w y := calm_of_same (in_impl _ _ _ _)
/-! What the claim's closed facts ask of the program's own head line, read sign by sign (one kernel computation over the whole line holds too much memory where a seat has many laws). -/
theorem mayEnter_of {P : Program} {c : List Char} {rest : List (List Char)} (h : behindMainWord (wordsSigns P.initOrder.toList) = c :: rest)
    (hs : stripLifts liftWords (c :: rest) = ([], c :: rest)) (hc : c = "cut".toList) (hl : P.laysLater = false) (hb : P.bearsReflect = false) (hd : P.doorRows = []) : P.mayEnter = true := by
  unfold Program.mayEnter
  rw [h]
  dsimp only
  rw [hs]
  subst hc
  simp [hl, hb, Program.doorFits, hd]
theorem make_of {P : Program} {c : List Char} {rest : List (List Char)} (h : behindMainWord (wordsSigns P.initOrder.toList) = c :: rest) (hc : c = "cut".toList) : P.make = some .cut := by
  unfold Program.make
  rw [h]
  subst hc
  rfl
theorem doors_none : Try.pinned.checked.prog.doorRows = [] := by kernel_rfl
theorem reflect_none : Try.pinned.checked.prog.bearsReflect = false := by kernel_rfl
theorem later_none : Try.pinned.checked.prog.laysLater = false := by kernel_rfl
set_option maxRecDepth 100000 in
theorem init_is : Try.pinned.checked.prog.initOrder = String.ofList ['h', 'a', 'r', 'n', 'e', 's', 's', ' ', 'c', '8', '3', '1', '2', '9', '3', 'c', '8', '7', '6', 'a', 'a', '2', '9', '7', 'd', 'f', 'a', '1', 'd', 'f', 'b', 'b', '6', 'b', '8', '5', '4', '1', '2', 'e', '3', '2', '5', '0', 'a', 'b', '1', '1', 'f', '8', '7', 'c', '3', '0', '0', '8', 'c', 'f', 'f', '3', '5', '5', 'e', 'b', '9', '9', '2', '2', '0', '5', '5', '4', ' ', 'c', 'u', 't', ' ', 'a', 't', ' ', 'l', 'o', 'o', 'p', '.', 'e', 'x', 'a', 'm', 'p', 'l', 'e', '/', 'g', '0', '1', '0', '6', '3', '/', 'l', 'a', 'w', 's', '.', 'F', 'n', 'R', 'o', 'a', 'd', 's', ' ', 'l', 'o', 'o', 'p', '.', 'e', 'x', 'a', 'm', 'p', 'l', 'e', '/', 'g', '0', '1', '0', '6', '3', '/', 'l', 'a', 'w', 's', '.', 'F', 'n', 'E', 'x', 'a', 'c', 't', 'S', 'h', 'o', 'r', 't', 'e', 'r', 'R', 'o', 'a', 'd', 's', ' ', 'l', 'o', 'o', 'p', '.', 'e', 'x', 'a', 'm', 'p', 'l', 'e', '/', 'g', '0', '1', '0', '6', '3', '/', 'l', 'a', 'w', 's', '.', 'F', 'n', 'E', 'x', 'a', 'c', 't', 'A', 'd', 'd', 'T', 'i', 't', 'l', 'e', ' ', 'l', 'o', 'o', 'p', '.', 'e', 'x', 'a', 'm', 'p', 'l', 'e', '/', 'g', '0', '1', '0', '6', '3', '/', 'l', 'a', 'w', 's', '.', 'F', 'n', 'E', 'x', 'a', 'c', 't', 'M', 'o', 's', 't', 'A', 'c', 'c', 'e', 'p', 't', 'e', 'd', ' ', 'l', 'o', 'o', 'p', '.', 'e', 'x', 'a', 'm', 'p', 'l', 'e', '/', 'g', '0', '1', '0', '6', '3', '/', 'l', 'a', 'w', 's', '.', 'F', 'n', 'A', 'c', 'c', 'e', 'p', 't', 'e', 'd', ' ', 'l', 'o', 'o', 'p', '.', 'e', 'x', 'a', 'm', 'p', 'l', 'e', '/', 'g', '0', '1', '0', '6', '3', '/', 'l', 'a', 'w', 's', '.', 'F', 'n', 'T', 'i', 't', 'l', 'e', 'S', 'h', 'o', 'w', 's', ' ', 'l', 'o', 'o', 'p', '.', 'e', 'x', 'a', 'm', 'p', 'l', 'e', '/', 'g', '0', '1', '0', '6', '3', '/', 'l', 'a', 'w', 's', '.', 'F', 'n', 'E', 'x', 'a', 'c', 't', 'S', 'h', 'o', 'w', 'W', 'i', 't', 'h'] := by kernel_rfl
set_option maxRecDepth 100000 in
theorem init_words : wordsSigns Try.pinned.checked.prog.initOrder.toList = [['h', 'a', 'r', 'n', 'e', 's', 's'], ['c', '8', '3', '1', '2', '9', '3', 'c', '8', '7', '6', 'a', 'a', '2', '9', '7', 'd', 'f', 'a', '1', 'd', 'f', 'b', 'b', '6', 'b', '8', '5', '4', '1', '2', 'e', '3', '2', '5', '0', 'a', 'b', '1', '1', 'f', '8', '7', 'c', '3', '0', '0', '8', 'c', 'f', 'f', '3', '5', '5', 'e', 'b', '9', '9', '2', '2', '0', '5', '5', '4'], ['c', 'u', 't'], ['a', 't'], ['l', 'o', 'o', 'p', '.', 'e', 'x', 'a', 'm', 'p', 'l', 'e', '/', 'g', '0', '1', '0', '6', '3', '/', 'l', 'a', 'w', 's', '.', 'F', 'n', 'R', 'o', 'a', 'd', 's'], ['l', 'o', 'o', 'p', '.', 'e', 'x', 'a', 'm', 'p', 'l', 'e', '/', 'g', '0', '1', '0', '6', '3', '/', 'l', 'a', 'w', 's', '.', 'F', 'n', 'E', 'x', 'a', 'c', 't', 'S', 'h', 'o', 'r', 't', 'e', 'r', 'R', 'o', 'a', 'd', 's'], ['l', 'o', 'o', 'p', '.', 'e', 'x', 'a', 'm', 'p', 'l', 'e', '/', 'g', '0', '1', '0', '6', '3', '/', 'l', 'a', 'w', 's', '.', 'F', 'n', 'E', 'x', 'a', 'c', 't', 'A', 'd', 'd', 'T', 'i', 't', 'l', 'e'], ['l', 'o', 'o', 'p', '.', 'e', 'x', 'a', 'm', 'p', 'l', 'e', '/', 'g', '0', '1', '0', '6', '3', '/', 'l', 'a', 'w', 's', '.', 'F', 'n', 'E', 'x', 'a', 'c', 't', 'M', 'o', 's', 't', 'A', 'c', 'c', 'e', 'p', 't', 'e', 'd'], ['l', 'o', 'o', 'p', '.', 'e', 'x', 'a', 'm', 'p', 'l', 'e', '/', 'g', '0', '1', '0', '6', '3', '/', 'l', 'a', 'w', 's', '.', 'F', 'n', 'A', 'c', 'c', 'e', 'p', 't', 'e', 'd'], ['l', 'o', 'o', 'p', '.', 'e', 'x', 'a', 'm', 'p', 'l', 'e', '/', 'g', '0', '1', '0', '6', '3', '/', 'l', 'a', 'w', 's', '.', 'F', 'n', 'T', 'i', 't', 'l', 'e', 'S', 'h', 'o', 'w', 's'], ['l', 'o', 'o', 'p', '.', 'e', 'x', 'a', 'm', 'p', 'l', 'e', '/', 'g', '0', '1', '0', '6', '3', '/', 'l', 'a', 'w', 's', '.', 'F', 'n', 'E', 'x', 'a', 'c', 't', 'S', 'h', 'o', 'w', 'W', 'i', 't', 'h']] := by rw [init_is, String.toList_ofList]; kernel_rfl
set_option maxRecDepth 100000 in
theorem init_behind : behindMainWord (wordsSigns Try.pinned.checked.prog.initOrder.toList) = [['c', 'u', 't'], ['a', 't'], ['l', 'o', 'o', 'p', '.', 'e', 'x', 'a', 'm', 'p', 'l', 'e', '/', 'g', '0', '1', '0', '6', '3', '/', 'l', 'a', 'w', 's', '.', 'F', 'n', 'R', 'o', 'a', 'd', 's'], ['l', 'o', 'o', 'p', '.', 'e', 'x', 'a', 'm', 'p', 'l', 'e', '/', 'g', '0', '1', '0', '6', '3', '/', 'l', 'a', 'w', 's', '.', 'F', 'n', 'E', 'x', 'a', 'c', 't', 'S', 'h', 'o', 'r', 't', 'e', 'r', 'R', 'o', 'a', 'd', 's'], ['l', 'o', 'o', 'p', '.', 'e', 'x', 'a', 'm', 'p', 'l', 'e', '/', 'g', '0', '1', '0', '6', '3', '/', 'l', 'a', 'w', 's', '.', 'F', 'n', 'E', 'x', 'a', 'c', 't', 'A', 'd', 'd', 'T', 'i', 't', 'l', 'e'], ['l', 'o', 'o', 'p', '.', 'e', 'x', 'a', 'm', 'p', 'l', 'e', '/', 'g', '0', '1', '0', '6', '3', '/', 'l', 'a', 'w', 's', '.', 'F', 'n', 'E', 'x', 'a', 'c', 't', 'M', 'o', 's', 't', 'A', 'c', 'c', 'e', 'p', 't', 'e', 'd'], ['l', 'o', 'o', 'p', '.', 'e', 'x', 'a', 'm', 'p', 'l', 'e', '/', 'g', '0', '1', '0', '6', '3', '/', 'l', 'a', 'w', 's', '.', 'F', 'n', 'A', 'c', 'c', 'e', 'p', 't', 'e', 'd'], ['l', 'o', 'o', 'p', '.', 'e', 'x', 'a', 'm', 'p', 'l', 'e', '/', 'g', '0', '1', '0', '6', '3', '/', 'l', 'a', 'w', 's', '.', 'F', 'n', 'T', 'i', 't', 'l', 'e', 'S', 'h', 'o', 'w', 's'], ['l', 'o', 'o', 'p', '.', 'e', 'x', 'a', 'm', 'p', 'l', 'e', '/', 'g', '0', '1', '0', '6', '3', '/', 'l', 'a', 'w', 's', '.', 'F', 'n', 'E', 'x', 'a', 'c', 't', 'S', 'h', 'o', 'w', 'W', 'i', 't', 'h']] := by rw [init_words]; kernel_rfl
set_option maxRecDepth 100000 in
theorem seat_lifts : Try.pinned.checked.prog.liftsFinal = false := by unfold Program.liftsFinal Program.headLifts; rw [init_behind]; kernel_rfl
set_option maxRecDepth 100000 in
theorem seat_make : Try.pinned.checked.prog.make = some .cut := make_of init_behind (by kernel_rfl)
set_option maxRecDepth 100000 in
theorem seat_enter : Try.pinned.checked.prog.mayEnter = true := mayEnter_of init_behind (by kernel_rfl) (by kernel_rfl) later_none reflect_none doors_none

end Go.Proofs.Ytlgcehdklpbknaa
