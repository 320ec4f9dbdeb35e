/- FnExactSeatsNeeded: for all arguments the program's SeatsNeeded returns what the reference's returns. No condition. -/
import Derived.Test.YtfgbjfhhkbdimaaBase
namespace Go.Proofs.Ytfgbjfhhkbdimaa
open Go Go.RowKit Go.ChangeShapes Go.WideShapes Go.ChangeAt

theorem mul_bd (b c : Int) (hb : 1 ≤ b ∧ b ≤ 10000000) (hc : 1 ≤ c ∧ c ≤ 1000) : 1 ≤ b * c ∧ b * c ≤ 10000000000 := by
  obtain ⟨n, rfl⟩ := Int.eq_ofNat_of_zero_le (by omega : 0 ≤ b)
  obtain ⟨m, rfl⟩ := Int.eq_ofNat_of_zero_le (by omega : 0 ≤ c)
  have h1 : n * m ≤ 10000000 * 1000 := Nat.mul_le_mul (by omega) (by omega)
  have h2 : 1 * 1 ≤ n * m := Nat.mul_le_mul (by omega) (by omega)
  omega
/-- what both answer -/
def seats (a b c : Int) : Int × Int := if inB a 0 10000000 && inB b 1 10000000 && inB c 1 1000 then ((a * 1000 + b * c - 1) / (b * c), 0) else (0, 2)

set_option maxHeartbeats 400000 in
theorem seats_spec (a b c : Int) (w : World) :
    Calls Try.prog 15 #[.int .i64 a, .int .i64 b, .int .i64 c] w fun e w' => e = .returned (.tuple #[.int .i64 (seats a b c).1, .int .i64 (seats a b c).2]) ∧ w' = w := by
  unfold seats
  rcases h1 : inB a 0 10000000 with _ | _
  · go_enter Try.func15, Try.ntmps15
    go_wp2_with (first | (go_at_call 54; refine (in_spec _ _ _ _).mono ?_; rintro e w' ⟨rfl, rfl⟩))
    go_ret2
    exact ⟨by simp, rfl⟩
  rcases h2 : inB b 1 10000000 with _ | _
  · go_enter Try.func15, Try.ntmps15
    go_wp2_with (first | (go_at_call 54; refine (in_spec _ _ _ _).mono ?_; rintro e w' ⟨rfl, rfl⟩))
    go_ret2
    exact ⟨by simp, rfl⟩
  rcases h3 : inB c 1 1000 with _ | _
  · go_enter Try.func15, Try.ntmps15
    go_wp2_with (first | (go_at_call 54; refine (in_spec _ _ _ _).mono ?_; rintro e w' ⟨rfl, rfl⟩))
    go_ret2
    exact ⟨by simp, rfl⟩
  · obtain ⟨a1, a2⟩ := inB_true h1
    obtain ⟨b1, b2⟩ := inB_true h2
    obtain ⟨c1, c2⟩ := inB_true h3
    obtain ⟨m1, m2⟩ := mul_bd b c ⟨b1, b2⟩ ⟨c1, c2⟩
    go_enter Try.func15, Try.ntmps15
    go_wp2_with (first | (go_at_call 54; refine (in_spec _ _ _ _).mono ?_; rintro e w' ⟨rfl, rfl⟩))
    go_ret2
    exact ⟨by simp [Int.mul_comm], rfl⟩

set_option maxHeartbeats 400000 in
theorem seats_impl (a b c : Int) (w : World) :
    Calls Try.prog 16 #[.int .i64 a, .int .i64 b, .int .i64 c] w fun e w' => e = .returned (.tuple #[.int .i64 (seats a b c).1, .int .i64 (seats a b c).2]) ∧ w' = w := by
  unfold seats
  rcases h1 : inB a 0 10000000 with _ | _
  · go_enter Try.func16, Try.ntmps16
    go_wp2_with (first | (go_at_call 56; refine (in_impl _ _ _ _).mono ?_; rintro e w' ⟨rfl, rfl⟩) | (go_at_call 55; go_in))
    go_ret2
    exact ⟨by simp, rfl⟩
  rcases h2 : inB b 1 10000000 with _ | _
  · go_enter Try.func16, Try.ntmps16
    go_wp2_with (first | (go_at_call 56; refine (in_impl _ _ _ _).mono ?_; rintro e w' ⟨rfl, rfl⟩) | (go_at_call 55; go_in))
    go_ret2
    exact ⟨by simp, rfl⟩
  rcases h3 : inB c 1 1000 with _ | _
  · go_enter Try.func16, Try.ntmps16
    go_wp2_with (first | (go_at_call 56; refine (in_impl _ _ _ _).mono ?_; rintro e w' ⟨rfl, rfl⟩) | (go_at_call 55; go_in))
    go_ret2
    exact ⟨by simp, rfl⟩
  · obtain ⟨a1, a2⟩ := inB_true h1
    obtain ⟨b1, b2⟩ := inB_true h2
    obtain ⟨c1, c2⟩ := inB_true h3
    obtain ⟨m1, m2⟩ := mul_bd b c ⟨b1, b2⟩ ⟨c1, c2⟩
    go_enter Try.func16, Try.ntmps16
    go_wp2_with (first | (go_at_call 56; refine (in_impl _ _ _ _).mono ?_; rintro e w' ⟨rfl, rfl⟩) | (go_at_call 55; go_in))
    go_ret2
    exact ⟨by simp, rfl⟩

set_option maxHeartbeats 400000 in
theorem law_FnExactSeatsNeeded (w : World) (a : Int) (_ : -9223372036854775808 ≤ a ∧ a ≤ 9223372036854775807) (b : Int) (_ : -9223372036854775808 ≤ b ∧ b ≤ 9223372036854775807) (c : Int) (_ : -9223372036854775808 ≤ c ∧ c ≤ 9223372036854775807) :
    Calls Try.prog 3 #[.int .i64 a, .int .i64 b, .int .i64 c] w fun e w' => e = .returned (.bool true) ∧ Below w.heap.size w w' := by
  go_enter Try.func3, Try.ntmps3
  go_wp2_with (first | (go_at_call 15; refine (seats_spec _ _ _ _).mono ?_; rintro e w' ⟨rfl, rfl⟩) | (go_at_call 16; refine (seats_impl _ _ _ _).mono ?_; rintro e w' ⟨rfl, rfl⟩))
  go_ret
  exact ⟨rfl, Below.refl _ _⟩

set_option maxRecDepth 100000 in
theorem FnExactSeatsNeeded_lifted (os : Os) (started : os.Started) (H : Type) (enc : TypeId × Value → H) :
    ReturnsInHanded {} Try.checked os 3 .any (Rows.fnExactSeatsNeededSpec.pre6 enc Try.prog Try.f3 Rows.fnExactSeatsNeededRow.domain false) (Rows.fnExactSeatsNeededSpec.post enc Try.prog Try.f3 false true false false) := by
  refine returnsInHanded_of_change (C := Try.checked) own_knob started (by kernel_rfl) Try.func3
    (ChangeSpec.witness6 (enc := enc) (C := Try.checked) false ⟨#[], #[.int .i64 0, .int .i64 0, .int .i64 0], []⟩ 8 (by kernel_rfl) (by kernel_rfl) (by kernel_rfl) (by kernel_rfl)) ?_
  intro W base args ds gs before hval0 hW hcnd _
  have hval : ∀ (j : Nat) t v, Try.f3.params[j]? = some t → args[j]? = some v → Value.okWide Try.prog W .any base t v := hval0
  have hW' := hW
  obtain ⟨p, q, hA0, hV, rfl, hfz, hnd⟩ := hW
  have hA : DataW.TrodAll enc Try.prog W 0 (fun _ => true) true Try.f3.params.toList args.toList ds p := hA0
  rw [Try.params3] at hA hval
  obtain ⟨v0, vs0, d0, ds0, p0, q0, hargs, rfl, rfl, h0, r0⟩ := trodAll_cons hA
  obtain ⟨v1, vs1, d1, ds1, p1, q1, rfl, rfl, rfl, h1, r1⟩ := trodAll_cons r0
  obtain ⟨v2, vs2, d2, ds2, p2, q2, rfl, rfl, rfl, h2, r2⟩ := trodAll_cons r1
  obtain ⟨rfl, rfl, rfl⟩ := trodAll_nil r2
  obtain rfl : args = #[v0, v1, v2] := by cases args; simp_all
  obtain ⟨rfl, rfl⟩ := trodVars_none hV
  have k0 := h0
  have lt0 : ∀ x ∈ p0, x.block < W.heap.size := by obtain ⟨m, hm⟩ := k0; exact DataW.trod_lt m _ _ _ hm
  have k1 := h1
  have lt1 : ∀ x ∈ p1, x.block < W.heap.size := by obtain ⟨m, hm⟩ := k1; exact DataW.trod_lt m _ _ _ hm
  have k2 := h2
  have lt2 : ∀ x ∈ p2, x.block < W.heap.size := by obtain ⟨m, hm⟩ := k2; exact DataW.trod_lt m _ _ _ hm
  obtain ⟨a0, rfl, _, _, wf0⟩ := open_int Try.underlying2 (hval 0 2 v0 rfl rfl) h0
  obtain ⟨a1, rfl, _, _, wf1⟩ := open_int Try.underlying2 (hval 1 2 v1 rfl rfl) h1
  obtain ⟨a2, rfl, _, _, wf2⟩ := open_int Try.underlying2 (hval 2 2 v2 rfl rfl) h2
  refine (law_FnExactSeatsNeeded W a0 (i64_range wf0) a1 (i64_range wf1) a2 (i64_range wf2)).mono fun e W' ⟨he, bel⟩ => ?_
  subst he
  exact ⟨_, rfl, _, _, _, [], _, [], hW', trodAll_mk1 (shut_bool Try.underlying4 _), (trodAll_cons_mk (Below.trod laid_out (by kernel_rfl) (of_decide_eq_true (by kernel_rfl)) k0 bel lt0) (trodAll_cons_mk (Below.trod laid_out (by kernel_rfl) (of_decide_eq_true (by kernel_rfl)) k1 bel lt1) (trodAll_cons_mk (Below.trod laid_out (by kernel_rfl) (of_decide_eq_true (by kernel_rfl)) k2 bel lt2) trodAll_mk0))), rfl, bel.frame _, fun h => by cases h⟩

theorem FnExactSeatsNeeded_holds : Rows.FnExactSeatsNeededSaid :=
  OpenClaim.holds_of_wide 3 Try.f3 rfl rfl rfl rfl rfl rfl rfl ⟨rfl, rfl, rfl, rfl, rfl⟩ rfl rfl rfl rfl rfl (by kernel_rfl) Try.func3 (by kernel_rfl)
    (of_decide_eq_true (by kernel_rfl)) (by unfold Func.isWrapper; first | (rw [if_pos (by decide +kernel)]; kernel_rfl) | (rw [if_neg (by decide +kernel)]; exact ⟨rfl, rfl⟩))
    (fun os started H enc _ => FnExactSeatsNeeded_lifted os started H enc)
#print axioms FnExactSeatsNeeded_holds

end Go.Proofs.Ytfgbjfhhkbdimaa
