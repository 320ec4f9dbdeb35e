/- Contracts of the laws' helpers on []Title: a copy, a comparison, marks. No condition but that the slice reads. -/
import Derived.Test.YtnpejedeidnjnaaDoorStrs
namespace Go.Proofs.YtnpejedeidnjnaaDoor
open Go Go.RowKit Go.ChangeShapes Go.WideShapes
set_option linter.unusedSimpArgs false
set_option linter.unusedVariables false

abbrev TTitle := Int × ByteArray × Int × Int
def eTitle (x : TTitle) : List Value := [.int .i64 x.1, .string x.2.1, .int .i64 x.2.2.1, .int .i64 x.2.2.2]
theorem eTitle_len (x : TTitle) : (eTitle x).length = 4 := rfl

theorem Sl.Title_at {w : World} {A : Option Addr} {n c : Nat} {l : List TTitle} (h : Sl w 4 (.slice A n c) eTitle l) {i : Nat} (hi : i < l.length) :
    ∃ b o, A = some ⟨b, o, none⟩ ∧ b < w.heap.size ∧ w.cell? ⟨b, o + i * 4, none⟩ = some (.int .i64 l[i].1) ∧ w.cell? ⟨b, o + i * 4 + 1, none⟩ = some (.string l[i].2.1) ∧ w.cell? ⟨b, o + i * 4 + 2, none⟩ = some (.int .i64 l[i].2.2.1) ∧ w.cell? ⟨b, o + i * 4 + 3, none⟩ = some (.int .i64 l[i].2.2.2) := by
  obtain ⟨b, o, x, hx, hA, hb, hc⟩ := h.at_ hi
  have : x = l[i] := by rw [List.getElem?_eq_getElem hi] at hx; exact (Option.some.inj hx).symm
  subst this
  exact ⟨b, o, hA, hb, hc 0 _ rfl, hc 1 _ rfl, hc 2 _ rfl, hc 3 _ rfl⟩

def okTitle (x : TTitle) : Prop := (-9223372036854775808 ≤ x.1 ∧ x.1 ≤ 9223372036854775807) ∧ x.2.1.size ≤ maxLen ∧ (-9223372036854775808 ≤ x.2.2.1 ∧ x.2.2.1 ≤ 9223372036854775807) ∧ (-9223372036854775808 ≤ x.2.2.2 ∧ x.2.2.2 ≤ 9223372036854775807)

set_option maxHeartbeats 2000000 in
theorem sameTitles_spec (w : World) (v1 v2 : Value) (l1 l2 : List TTitle) (h1 : Sl w 4 v1 eTitle l1) (h2 : Sl w 4 v2 eTitle l2) :
    Calls Tryd.prog 12 #[v1, v2] w fun e w' => e = .returned (.bool (decide (l1 = l2))) ∧ Below w.heap.size w w' := by
  have m1 := h1.len
  have m2 := h2.len
  obtain ⟨-, A1, c1, rfl, -, -, -⟩ := id h1
  obtain ⟨-, A2, c2, rfl, -, -, -⟩ := id h2
  by_cases hlen : l1.length = l2.length
  · have hb : (((l1.length : Nat) : Int) != ((l2.length : Nat) : Int)) = false := by simp [hlen]
    have HL := hd hlen
    clear hlen
    go_enter Tryd.func12, Tryd.ntmps12
    go_wp2
    go_loopw [5] (fun i wr => ∃ k : Nat, k ≤ l1.length ∧ i = .int .i64 k ∧ Below w.heap.size w wr ∧ Hid (l1.take k = l2.take k)) (fun i _ => l1.length - (intOf i).toNat)
    case atStart => exact ⟨0, Nat.zero_le _, rfl, Below.refl _ _, hd (by simp)⟩
    case round =>
      obtain ⟨k, hk, rfl, hbel, HT⟩ := hrel
      by_cases hlt : k < l1.length
      · have hlt2 : k < l2.length := HL.out ▸ hlt
        obtain ⟨a1, o1, rfl, -, p0, p1, p2, p3⟩ := (h1.below hbel).Title_at hlt
        obtain ⟨a2, o2, rfl, -, q0, q1, q2, q3⟩ := (h2.below hbel).Title_at hlt2
        have HX := hd (List.getElem?_eq_getElem hlt)
        have HY := hd (List.getElem?_eq_getElem hlt2)
        have HT1 := hd (show l1.take (k + 1) = l1.take k ++ [l1[k]] from List.take_succ_eq_append_getElem hlt)
        have HT2 := hd (show l2.take (k + 1) = l2.take k ++ [l2[k]] from List.take_succ_eq_append_getElem hlt2)
        generalize l1[k] = x at p0 p1 p2 p3 HX HT1
        generalize l2[k] = y at q0 q1 q2 q3 HY HT2
        obtain ⟨a0, a1, a2, a3⟩ := x
        obtain ⟨b0, b1, b2, b3⟩ := y
        dsimp only at p0 q0 p1 q1 p2 q2 p3 q3
        have hz2 : (k : Int) < (l2.length : Int) := by omega
        have gp0 := gro_cell p0
        have gq0 := gro_cell q0
        have gp1 := gro_cell p1
        have gq1 := gro_cell q1
        have gp2 := gro_cell p2
        have gq2 := gro_cell q2
        have gp3 := gro_cell p3
        have gq3 := gro_cell q3
        by_cases hq : a0 = b0
        case neg =>
          have k2 : (a0 == b0) = false := by simpa using hq
          have H2 := hd hq
          clear hq
          go_wp2_with fail
          refine wp_region_calm (by kernel_rfl) (by kernel_rfl) ?_
          repeat (first | go_big_quiet_step (fail) | quiet_step (fail))
          refine wpQuiet_nil ?_
          rintro w1 ⟨xw, rfl⟩
          have hb1 := below_step hbel (gro_below xw)
          go_wp2_with fail
          go_ret
          refine ⟨?_, hb1⟩
          have : l1 ≠ l2 := by
            rintro rfl
            have := HX.out.symm.trans HY.out
            simp only [Option.some.injEq, Prod.mk.injEq] at this
            simp_all [H2.out]
          simp [this]
        subst hq
        by_cases hq : a1 = b1
        case neg =>
          have k2 : (a1.toList == b1.toList) = false := beq_eq_false_iff_ne.2 (fun e => hq (bytes_of_toList e))
          have H2 := hd hq
          clear hq
          go_wp2_with fail
          refine wp_region_calm (by kernel_rfl) (by kernel_rfl) ?_
          repeat (first | go_big_quiet_step (fail) | quiet_step (fail))
          refine wpQuiet_nil ?_
          rintro w1 ⟨xw, rfl⟩
          have hb1 := below_step hbel (gro_below xw)
          go_wp2_with fail
          go_ret
          refine ⟨?_, hb1⟩
          have : l1 ≠ l2 := by
            rintro rfl
            have := HX.out.symm.trans HY.out
            simp only [Option.some.injEq, Prod.mk.injEq] at this
            simp_all [H2.out]
          simp [this]
        subst hq
        by_cases hq : a2 = b2
        case neg =>
          have k2 : (a2 == b2) = false := by simpa using hq
          have H2 := hd hq
          clear hq
          go_wp2_with fail
          refine wp_region_calm (by kernel_rfl) (by kernel_rfl) ?_
          repeat (first | go_big_quiet_step (fail) | quiet_step (fail))
          refine wpQuiet_nil ?_
          rintro w1 ⟨xw, rfl⟩
          have hb1 := below_step hbel (gro_below xw)
          go_wp2_with fail
          go_ret
          refine ⟨?_, hb1⟩
          have : l1 ≠ l2 := by
            rintro rfl
            have := HX.out.symm.trans HY.out
            simp only [Option.some.injEq, Prod.mk.injEq] at this
            simp_all [H2.out]
          simp [this]
        subst hq
        by_cases hq : a3 = b3
        case neg =>
          have k2 : (a3 == b3) = false := by simpa using hq
          have H2 := hd hq
          clear hq
          go_wp2_with fail
          refine wp_region_calm (by kernel_rfl) (by kernel_rfl) ?_
          repeat (first | go_big_quiet_step (fail) | quiet_step (fail))
          refine wpQuiet_nil ?_
          rintro w1 ⟨xw, rfl⟩
          have hb1 := below_step hbel (gro_below xw)
          go_wp2_with fail
          go_ret
          refine ⟨?_, hb1⟩
          have : l1 ≠ l2 := by
            rintro rfl
            have := HX.out.symm.trans HY.out
            simp only [Option.some.injEq, Prod.mk.injEq] at this
            simp_all [H2.out]
          simp [this]
        subst hq
        go_wp2_with fail
        refine wp_region_calm (by kernel_rfl) (by kernel_rfl) ?_
        repeat (first | go_big_quiet_step (fail) | quiet_step (fail))
        refine wpQuiet_nil ?_
        rintro w1 ⟨xw, rfl⟩
        have hb1 := below_step hbel (gro_below xw)
        go_wp2_with fail
        go_roundw
        case rel => exact ⟨k + 1, by omega, by go_num, hb1, hd (by rw [HT1.out, HT2.out, HT.out])⟩
        case measure => simp [intOf]; omega
      · go_wp2
        go_ret
        refine ⟨?_, hbel⟩
        have h3 := HT.out
        rw [List.take_of_length_le (by omega), List.take_of_length_le (by have := HL.out; omega)] at h3
        simp [h3]
  · have hb : (((l1.length : Nat) : Int) != ((l2.length : Nat) : Int)) = true := by simp; omega
    have HL := hd hlen
    clear hlen
    go_enter Tryd.func12, Tryd.ntmps12
    go_wp2
    go_ret
    refine ⟨?_, Below.refl _ _⟩
    have : l1 ≠ l2 := by rintro rfl; exact HL.out rfl
    simp [this]

theorem info_Title : (Tryd.prog.info? 29).map (fun i => (i.zero, i.size, i.bytes)) = some (some (.agg #[.int .i64 0, .string ByteArray.empty, .int .i64 0, .int .i64 0]), 4, 40) := by kernel_rfl

def sumTitle (l : List TTitle) : Nat := (l.map fun x => x.2.1.size).sum
theorem sumTitle_snoc (l : List TTitle) (k : Nat) (h : k < l.length) : sumTitle (l.take (k + 1)) = sumTitle (l.take k) + l[k].2.1.size := by
  unfold sumTitle
  rw [List.take_succ_eq_append_getElem h, List.map_append, List.sum_append]
  simp
theorem sumTitle_le (l : List TTitle) (k : Nat) : sumTitle (l.take k) ≤ sumTitle l := by
  have h : sumTitle l = sumTitle (l.take k) + sumTitle (l.drop k) := by
    unfold sumTitle
    rw [← List.sum_append, ← List.map_append, List.take_append_drop]
  omega
def totTitle (l : List TTitle) : Nat := l.length + sumTitle l
def szRTitle (l : List TTitle) (left : Int) : Int := if (totTitle l : Int) ≤ left then left - (totTitle l : Int) else -1
theorem szRTitle_yes {l : List TTitle} {left : Int} (h : (totTitle l : Int) ≤ left) : szRTitle l left = left - (totTitle l : Int) := if_pos h
theorem szRTitle_no {l : List TTitle} {left : Int} (h : left < (totTitle l : Int)) : szRTitle l left = -1 := if_neg (by omega)
theorem szRTitle_part {l : List TTitle} {left : Int} {k : Nat} (h : left < (l.length : Int) + (sumTitle (l.take k) : Int)) : szRTitle l left = -1 := by
  refine szRTitle_no ?_
  have := sumTitle_le l k
  unfold totTitle
  omega
theorem szRTitle_all {l : List TTitle} {left : Int} {k : Nat} (hk : ¬ k < l.length) (h : (l.length : Int) + (sumTitle (l.take k) : Int) ≤ left) : left - (l.length : Int) - (sumTitle (l.take k) : Int) = szRTitle l left := by
  rw [List.take_of_length_le (by omega)] at h ⊢
  rw [szRTitle_yes (by unfold totTitle; omega)]
  unfold totTitle
  omega
/-- the marks from k on -/
def marksTitle (k n : Nat) : List TTitle := (List.range n).map fun (i : Nat) => (((k + 4 * i : Nat) : Int), markB (k + 4 * i + 1), ((k + 4 * i + 1 + 1 : Nat) : Int), ((k + 4 * i + 1 + 1 + 1 : Nat) : Int))
theorem marksTitle_len (k n : Nat) : (marksTitle k n).length = n := by simp [marksTitle]
theorem marksTitle_get (k n i : Nat) (h : i < (marksTitle k n).length) : (marksTitle k n)[i] = (((k + 4 * i : Nat) : Int), markB (k + 4 * i + 1), ((k + 4 * i + 1 + 1 : Nat) : Int), ((k + 4 * i + 1 + 1 + 1 : Nat) : Int)) := by simp [marksTitle]
end Go.Proofs.YtnpejedeidnjnaaDoor
