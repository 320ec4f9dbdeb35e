/- Contracts of the laws' helpers on []Rate: a copy, a comparison, marks. No condition but that the slice reads. -/
import Derived.Test.YtiofpmmbgohnhaaDoorBase
namespace Go.Proofs.YtiofpmmbgohnhaaDoor
open Go Go.RowKit Go.ChangeShapes Go.WideShapes
set_option linter.unusedSimpArgs false
set_option linter.unusedVariables false

abbrev TRate := Int × Int
def eRate (x : TRate) : List Value := [.int .i64 x.1, .int .i64 x.2]
theorem eRate_len (x : TRate) : (eRate x).length = 2 := rfl

theorem Sl.Rate_at {w : World} {A : Option Addr} {n c : Nat} {l : List TRate} (h : Sl w 2 (.slice A n c) eRate l) {i : Nat} (hi : i < l.length) :
    ∃ b o, A = some ⟨b, o, none⟩ ∧ b < w.heap.size ∧ w.cell? ⟨b, o + i * 2, none⟩ = some (.int .i64 l[i].1) ∧ w.cell? ⟨b, o + i * 2 + 1, none⟩ = some (.int .i64 l[i].2) := by
  obtain ⟨b, o, x, hx, hA, hb, hc⟩ := h.at_ hi
  have : x = l[i] := by rw [List.getElem?_eq_getElem hi] at hx; exact (Option.some.inj hx).symm
  subst this
  exact ⟨b, o, hA, hb, hc 0 _ rfl, hc 1 _ rfl⟩

def okRate (x : TRate) : Prop := (-9223372036854775808 ≤ x.1 ∧ x.1 ≤ 9223372036854775807) ∧ (-9223372036854775808 ≤ x.2 ∧ x.2 ≤ 9223372036854775807)

set_option maxHeartbeats 2000000 in
theorem equalRates (w : World) (v1 v2 : Value) (l1 l2 : List TRate) (h1 : Sl w 2 v1 eRate l1) (h2 : Sl w 2 v2 eRate l2) :
    Calls Tryd.prog 95 #[v1, v2] w fun e w' => e = .returned (.bool (decide (l1 = l2))) ∧ Below w.heap.size w w' := by
  have m1 := h1.len
  have m2 := h2.len
  obtain ⟨-, A1, c1, rfl, -, -, -⟩ := id h1
  obtain ⟨-, A2, c2, rfl, -, -, -⟩ := id h2
  by_cases hlen : l1.length = l2.length
  · have hb : (((l1.length : Nat) : Int) != ((l2.length : Nat) : Int)) = false := by simp [hlen]
    have HL := hd hlen
    clear hlen
    go_enter Tryd.func95, Tryd.ntmps95
    go_wp2
    go_loopw [13] (fun i wr => ∃ k : Nat, k ≤ l1.length ∧ i = .int .i64 k ∧ Below w.heap.size w wr ∧ Hid (l1.take k = l2.take k)) (fun i _ => l1.length - (intOf i).toNat)
    case atStart => exact ⟨0, Nat.zero_le _, rfl, Below.refl _ _, hd (by simp)⟩
    case round =>
      obtain ⟨k, hk, rfl, hbel, HT⟩ := hrel
      by_cases hlt : k < l1.length
      · have hlt2 : k < l2.length := HL.out ▸ hlt
        obtain ⟨a1, o1, rfl, -, p0, p1⟩ := (h1.below hbel).Rate_at hlt
        obtain ⟨a2, o2, rfl, -, q0, q1⟩ := (h2.below hbel).Rate_at hlt2
        have HX := hd (List.getElem?_eq_getElem hlt)
        have HY := hd (List.getElem?_eq_getElem hlt2)
        have HT1 := hd (show l1.take (k + 1) = l1.take k ++ [l1[k]] from List.take_succ_eq_append_getElem hlt)
        have HT2 := hd (show l2.take (k + 1) = l2.take k ++ [l2[k]] from List.take_succ_eq_append_getElem hlt2)
        generalize l1[k] = x at p0 p1 HX HT1
        generalize l2[k] = y at q0 q1 HY HT2
        obtain ⟨a0, a1⟩ := x
        obtain ⟨b0, b1⟩ := y
        dsimp only at p0 q0 p1 q1
        have hz2 : (k : Int) < (l2.length : Int) := by omega
        have gp0 := gro_cell p0
        have gq0 := gro_cell q0
        have gp1 := gro_cell p1
        have gq1 := gro_cell q1
        by_cases hq : a0 = b0
        case neg =>
          have k2 : (a0 == b0) = false := by simpa using hq
          have H2 := hd hq
          clear hq
          go_wp2_with fail
          refine wp_region_calm (by kernel_rfl) (by kernel_rfl) ?_
          repeat (first | go_big_quiet_step (fail) | quiet_step (fail))
          refine wpQuiet_nil ?_
          rintro w1 ⟨xw, rfl⟩
          have hb1 := below_step hbel (gro_below xw)
          go_wp2_with fail
          go_ret
          refine ⟨?_, hb1⟩
          have : l1 ≠ l2 := by
            rintro rfl
            have := HX.out.symm.trans HY.out
            simp only [Option.some.injEq, Prod.mk.injEq] at this
            simp_all [H2.out]
          simp [this]
        subst hq
        by_cases hq : a1 = b1
        case neg =>
          have k2 : (a1 == b1) = false := by simpa using hq
          have H2 := hd hq
          clear hq
          go_wp2_with fail
          refine wp_region_calm (by kernel_rfl) (by kernel_rfl) ?_
          repeat (first | go_big_quiet_step (fail) | quiet_step (fail))
          refine wpQuiet_nil ?_
          rintro w1 ⟨xw, rfl⟩
          have hb1 := below_step hbel (gro_below xw)
          go_wp2_with fail
          go_ret
          refine ⟨?_, hb1⟩
          have : l1 ≠ l2 := by
            rintro rfl
            have := HX.out.symm.trans HY.out
            simp only [Option.some.injEq, Prod.mk.injEq] at this
            simp_all [H2.out]
          simp [this]
        subst hq
        go_wp2_with fail
        refine wp_region_calm (by kernel_rfl) (by kernel_rfl) ?_
        repeat (first | go_big_quiet_step (fail) | quiet_step (fail))
        refine wpQuiet_nil ?_
        rintro w1 ⟨xw, rfl⟩
        have hb1 := below_step hbel (gro_below xw)
        go_wp2_with fail
        go_roundw
        case rel => exact ⟨k + 1, by omega, by go_num, hb1, hd (by rw [HT1.out, HT2.out, HT.out])⟩
        case measure => simp [intOf]; omega
      · go_wp2
        go_ret
        refine ⟨?_, hbel⟩
        have h3 := HT.out
        rw [List.take_of_length_le (by omega), List.take_of_length_le (by have := HL.out; omega)] at h3
        simp [h3]
  · have hb : (((l1.length : Nat) : Int) != ((l2.length : Nat) : Int)) = true := by simp; omega
    have HL := hd hlen
    clear hlen
    go_enter Tryd.func95, Tryd.ntmps95
    go_wp2
    go_ret
    refine ⟨?_, Below.refl _ _⟩
    have : l1 ≠ l2 := by rintro rfl; exact HL.out rfl
    simp [this]

set_option maxHeartbeats 2000000 in
theorem sameRates_spec (w : World) (v1 v2 : Value) (l1 l2 : List TRate) (h1 : Sl w 2 v1 eRate l1) (h2 : Sl w 2 v2 eRate l2) :
    Calls Tryd.prog 39 #[v1, v2] w fun e w' => e = .returned (.bool (decide (l1 = l2))) ∧ Below w.heap.size w w' := by
  have m1 := h1.len
  have m2 := h2.len
  obtain ⟨-, A1, c1, rfl, -, -, -⟩ := id h1
  obtain ⟨-, A2, c2, rfl, -, -, -⟩ := id h2
  by_cases hlen : l1.length = l2.length
  · have hb : (((l1.length : Nat) : Int) != ((l2.length : Nat) : Int)) = false := by simp [hlen]
    have HL := hd hlen
    clear hlen
    go_enter Tryd.func39, Tryd.ntmps39
    go_wp2
    go_loopw [5] (fun i wr => ∃ k : Nat, k ≤ l1.length ∧ i = .int .i64 k ∧ Below w.heap.size w wr ∧ Hid (l1.take k = l2.take k)) (fun i _ => l1.length - (intOf i).toNat)
    case atStart => exact ⟨0, Nat.zero_le _, rfl, Below.refl _ _, hd (by simp)⟩
    case round =>
      obtain ⟨k, hk, rfl, hbel, HT⟩ := hrel
      by_cases hlt : k < l1.length
      · have hlt2 : k < l2.length := HL.out ▸ hlt
        obtain ⟨a1, o1, rfl, -, p0, p1⟩ := (h1.below hbel).Rate_at hlt
        obtain ⟨a2, o2, rfl, -, q0, q1⟩ := (h2.below hbel).Rate_at hlt2
        have HX := hd (List.getElem?_eq_getElem hlt)
        have HY := hd (List.getElem?_eq_getElem hlt2)
        have HT1 := hd (show l1.take (k + 1) = l1.take k ++ [l1[k]] from List.take_succ_eq_append_getElem hlt)
        have HT2 := hd (show l2.take (k + 1) = l2.take k ++ [l2[k]] from List.take_succ_eq_append_getElem hlt2)
        generalize l1[k] = x at p0 p1 HX HT1
        generalize l2[k] = y at q0 q1 HY HT2
        obtain ⟨a0, a1⟩ := x
        obtain ⟨b0, b1⟩ := y
        dsimp only at p0 q0 p1 q1
        have hz2 : (k : Int) < (l2.length : Int) := by omega
        have gp0 := gro_cell p0
        have gq0 := gro_cell q0
        have gp1 := gro_cell p1
        have gq1 := gro_cell q1
        by_cases hq : a0 = b0
        case neg =>
          have k2 : (a0 == b0) = false := by simpa using hq
          have H2 := hd hq
          clear hq
          go_wp2_with fail
          refine wp_region_calm (by kernel_rfl) (by kernel_rfl) ?_
          repeat (first | go_big_quiet_step (fail) | quiet_step (fail))
          refine wpQuiet_nil ?_
          rintro w1 ⟨xw, rfl⟩
          have hb1 := below_step hbel (gro_below xw)
          go_wp2_with fail
          go_ret
          refine ⟨?_, hb1⟩
          have : l1 ≠ l2 := by
            rintro rfl
            have := HX.out.symm.trans HY.out
            simp only [Option.some.injEq, Prod.mk.injEq] at this
            simp_all [H2.out]
          simp [this]
        subst hq
        by_cases hq : a1 = b1
        case neg =>
          have k2 : (a1 == b1) = false := by simpa using hq
          have H2 := hd hq
          clear hq
          go_wp2_with fail
          refine wp_region_calm (by kernel_rfl) (by kernel_rfl) ?_
          repeat (first | go_big_quiet_step (fail) | quiet_step (fail))
          refine wpQuiet_nil ?_
          rintro w1 ⟨xw, rfl⟩
          have hb1 := below_step hbel (gro_below xw)
          go_wp2_with fail
          go_ret
          refine ⟨?_, hb1⟩
          have : l1 ≠ l2 := by
            rintro rfl
            have := HX.out.symm.trans HY.out
            simp only [Option.some.injEq, Prod.mk.injEq] at this
            simp_all [H2.out]
          simp [this]
        subst hq
        go_wp2_with fail
        refine wp_region_calm (by kernel_rfl) (by kernel_rfl) ?_
        repeat (first | go_big_quiet_step (fail) | quiet_step (fail))
        refine wpQuiet_nil ?_
        rintro w1 ⟨xw, rfl⟩
        have hb1 := below_step hbel (gro_below xw)
        go_wp2_with fail
        go_roundw
        case rel => exact ⟨k + 1, by omega, by go_num, hb1, hd (by rw [HT1.out, HT2.out, HT.out])⟩
        case measure => simp [intOf]; omega
      · go_wp2
        go_ret
        refine ⟨?_, hbel⟩
        have h3 := HT.out
        rw [List.take_of_length_le (by omega), List.take_of_length_le (by have := HL.out; omega)] at h3
        simp [h3]
  · have hb : (((l1.length : Nat) : Int) != ((l2.length : Nat) : Int)) = true := by simp; omega
    have HL := hd hlen
    clear hlen
    go_enter Tryd.func39, Tryd.ntmps39
    go_wp2
    go_ret
    refine ⟨?_, Below.refl _ _⟩
    have : l1 ≠ l2 := by rintro rfl; exact HL.out rfl
    simp [this]

theorem sameRates_impl (w : World) (v1 v2 : Value) (l1 l2 : List TRate) (h1 : Sl w 2 v1 eRate l1) (h2 : Sl w 2 v2 eRate l2) :
    Calls Tryd.prog 38 #[v1, v2] w fun e w' => e = .returned (.bool (decide (l1 = l2))) ∧ Below w.heap.size w w' := by
  go_enter Tryd.func38, Tryd.ntmps38
  go_wp2_with (go_at_call 95; refine (equalRates _ _ _ _ _ h1 h2).mono ?_; rintro e w1 ⟨rfl, hb⟩)
  go_ret
  exact ⟨rfl, hb⟩

theorem info_Rate : (Tryd.prog.info? 117).map (fun i => (i.zero, i.size, i.bytes)) = some (some (.agg #[.int .i64 0, .int .i64 0]), 2, 16) := by kernel_rfl

end Go.Proofs.YtiofpmmbgohnhaaDoor
