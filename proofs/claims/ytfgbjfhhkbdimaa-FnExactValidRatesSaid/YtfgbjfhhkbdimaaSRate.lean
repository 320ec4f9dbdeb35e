/- Contracts of the laws' helpers on []Rate: a copy, a comparison, marks. No condition but that the slice reads. -/
import Derived.Test.YtfgbjfhhkbdimaaBase
namespace Go.Proofs.Ytfgbjfhhkbdimaa
open Go Go.RowKit Go.ChangeShapes Go.WideShapes
set_option linter.unusedSimpArgs false
set_option linter.unusedVariables false

abbrev TRate := Int × Int
def eRate (x : TRate) : List Value := [.int .i64 x.1, .int .i64 x.2]
theorem eRate_len (x : TRate) : (eRate x).length = 2 := rfl

theorem Sl.Rate_at {w : World} {A : Option Addr} {n c : Nat} {l : List TRate} (h : Sl w 2 (.slice A n c) eRate l) {i : Nat} (hi : i < l.length) :
    ∃ b o, A = some ⟨b, o, none⟩ ∧ b < w.heap.size ∧ w.cell? ⟨b, o + i * 2, none⟩ = some (.int .i64 l[i].1) ∧ w.cell? ⟨b, o + i * 2 + 1, none⟩ = some (.int .i64 l[i].2) := by
  obtain ⟨b, o, x, hx, hA, hb, hc⟩ := h.at_ hi
  have : x = l[i] := by rw [List.getElem?_eq_getElem hi] at hx; exact (Option.some.inj hx).symm
  subst this
  exact ⟨b, o, hA, hb, hc 0 _ rfl, hc 1 _ rfl⟩

def okRate (x : TRate) : Prop := (-9223372036854775808 ≤ x.1 ∧ x.1 ≤ 9223372036854775807) ∧ (-9223372036854775808 ≤ x.2 ∧ x.2 ≤ 9223372036854775807)

section
variable {H : Type} {enc : TypeId × Value → H} {w : World} {base : Nat} {spare : Nat → Bool} {held : Bool}
theorem trod_Rate (n : Nat) (cs : List Value) (y : DataW H × List MemPlace) (h : DataW.trod enc Try.prog w base spare held n 73 cs = some y) : ∃ x : TRate, cs = eRate x ∧ okRate x := by
  obtain ⟨hlen, hf⟩ := struct_cells Try.underlying73 (by kernel_rfl) (by kernel_rfl) h
  obtain ⟨v0, n0, y0, hv0, ht0⟩ := hf 0 _ rfl
  obtain ⟨x0, e0, -, wf0⟩ := DataW.trod_int Try.underlying2 ht0
  simp at e0
  subst e0
  obtain ⟨v1, n1, y1, hv1, ht1⟩ := hf 1 _ rfl
  obtain ⟨x1, e1, -, wf1⟩ := DataW.trod_int Try.underlying2 ht1
  simp at e1
  subst e1
  refine ⟨(x0, x1), ?_, i64_range wf0, i64_range wf1⟩
  have hsz : cs.length = 2 := hlen
  match cs, hsz with
  | [c0, c1], _ =>
    simp at hv0 hv1
    subst hv0 hv1
    rfl
theorem sl_of_Rates {r : Reach} {b0 : Nat} {v : Value} {d : DataW H} {p : List MemPlace} (hv : Value.okWide Try.prog w r b0 37 v) (h : DataW.Trod enc Try.prog w base spare held 37 v d p) :
    ∃ l : List TRate, Sl w 2 v eRate l ∧ ∀ x ∈ l, okRate x := by
  obtain ⟨a, n, c, rfl⟩ := okWide_slice Try.underlying37 hv
  obtain ⟨fuel, hf⟩ := h
  exact sl_of_trod (K := 2) Try.underlying37 (by kernel_rfl) (by omega) trod_Rate (by simpa [Value.cells] using hf)
end
section
variable {H : Type} {enc : TypeId × Value → H} {w : World} {base : Nat} {spare : Nat → Bool} {held : Bool}
theorem agg_of_Rate {r : Reach} {b0 : Nat} {v : Value} {d : DataW H} {p : List MemPlace} (hv : Value.okWide Try.prog w r b0 73 v) (h : DataW.Trod enc Try.prog w base spare held 73 v d p) :
    ∃ x : TRate, v = .agg (eRate x).toArray ∧ okRate x := by
  obtain ⟨cs, rfl, -⟩ := okWide_struct Try.underlying73 hv
  obtain ⟨fuel, hf⟩ := h
  obtain ⟨x, hx, hg⟩ := trod_Rate _ _ _ hf
  exact ⟨x, by rw [← hx]; simp [Value.cells], hg⟩
end

set_option maxHeartbeats 400000 in
theorem toRate (w : World) (a : Int) (b : Int) : Calls Try.prog 62 #[.agg #[.int .i64 a, .int .i64 b]] w fun e w' => e = .returned (.agg #[.int .i64 a, .int .i64 b]) ∧ Below w.heap.size w w' := by
  go_enter Try.func62, Try.ntmps62
  go_wp2
  refine bodyPost_ret (v := .agg #[.int .i64 a, .int .i64 b]) (by simp [results, Try.results62, go_sem]) rfl ⟨rfl, ?_⟩
  repeat (first | exact Below.refl _ _ | refine Below.alloc ?_ (by first | (simp; done) | (simp; omega)) _ | refine Below.setCell ?_ (by first | (simp; done) | (simp; omega)) _ | refine Below.drew ?_)

set_option maxHeartbeats 800000 in
theorem eqRate (w : World) (x y : TRate) : Calls Try.prog 63 #[.agg #[.int .i64 x.1, .int .i64 x.2], .agg #[.int .i64 y.1, .int .i64 y.2]] w fun e w' => e = .returned (.bool (decide (x = y))) ∧ Below w.heap.size w w' := by
  obtain ⟨a, b⟩ := x
  obtain ⟨a', b'⟩ := y
  by_cases hq : a = a'
  case neg =>
    have k2 : (a != a') = true := by simpa using hq
    have H2 := hd hq
    clear hq
    go_enter Try.func63, Try.ntmps63; go_wp2; go_ret
    refine ⟨by simp [H2.out], ?_⟩
    repeat (first | exact Below.refl _ _ | refine Below.alloc ?_ (by first | (simp; done) | (simp; omega)) _ | refine Below.setCell ?_ (by first | (simp; done) | (simp; omega)) _ | refine Below.drew ?_)
  subst hq
  by_cases hq : b = b'
  case neg =>
    have k2 : (b != b') = true := by simpa using hq
    have H2 := hd hq
    clear hq
    go_enter Try.func63, Try.ntmps63; go_wp2; go_ret
    refine ⟨by simp [H2.out], ?_⟩
    repeat (first | exact Below.refl _ _ | refine Below.alloc ?_ (by first | (simp; done) | (simp; omega)) _ | refine Below.setCell ?_ (by first | (simp; done) | (simp; omega)) _ | refine Below.drew ?_)
  subst hq
  go_enter Try.func63, Try.ntmps63; go_wp2; go_ret
  refine ⟨by simp, ?_⟩
  repeat (first | exact Below.refl _ _ | refine Below.alloc ?_ (by first | (simp; done) | (simp; omega)) _ | refine Below.setCell ?_ (by first | (simp; done) | (simp; omega)) _ | refine Below.drew ?_)

theorem calm_eqRate (w : World) (x : Ext w) (a b : TRate) : Calls Try.prog 63 #[.agg #[.int .i64 a.1, .int .i64 a.2], .agg #[.int .i64 b.1, .int .i64 b.2]] (gro w x) fun e w'' => e = .returned (.bool (decide (a = b))) ∧ ∃ y, w'' = gro w y := calm_of (eqRate _ _ _)
set_option maxHeartbeats 800000 in
theorem eqRates (w : World) (v1 v2 : Value) (l1 l2 : List TRate) (h1 : Sl w 2 v1 eRate l1) (h2 : Sl w 2 v2 eRate l2) :
    Calls Try.prog 30 #[v1, v2] w fun e w' => e = .returned (.bool (decide (l1 = l2))) ∧ Below w.heap.size w w' := by
  have m1 := h1.len
  have m2 := h2.len
  obtain ⟨-, A1, c1, rfl, -, -, -⟩ := id h1
  obtain ⟨-, A2, c2, rfl, -, -, -⟩ := id h2
  by_cases hlen : l1.length = l2.length
  · have hb : (((l1.length : Nat) : Int) != ((l2.length : Nat) : Int)) = false := by simp [hlen]
    have HL := hd hlen
    clear hlen
    go_enter Try.func30, Try.ntmps30
    go_wp2
    go_loopw [5] (fun i wr => ∃ k : Nat, k ≤ l1.length ∧ i = .int .i64 k ∧ Below w.heap.size w wr ∧ Hid (l1.take k = l2.take k)) (fun i _ => l1.length - (intOf i).toNat)
    case atStart => exact ⟨0, Nat.zero_le _, rfl, Below.refl _ _, hd (by simp)⟩
    case round =>
      obtain ⟨k, hk, rfl, hbel, HT⟩ := hrel
      by_cases hlt : k < l1.length
      · have hlt2 : k < l2.length := HL.out ▸ hlt
        obtain ⟨a1, o1, rfl, -, p0, p1⟩ := (h1.below hbel).Rate_at hlt
        obtain ⟨a2, o2, rfl, -, q0, q1⟩ := (h2.below hbel).Rate_at hlt2
        have gp0 := gro_cell p0
        have gq0 := gro_cell q0
        have gp1 := gro_cell p1
        have gq1 := gro_cell q1
        go_wp2_with fail
        refine wp_region_calm (by kernel_rfl) (by kernel_rfl) ?_
        repeat (first | go_big_quiet_step ((go_at_call 63; exact calm_eqRate _ _ _ _)) | quiet_step ((go_at_call 63; exact calm_eqRate _ _ _ _)))
        refine wpQuiet_nil ?_
        rintro w1 ⟨x, rfl⟩
        have hb1 := below_step hbel (gro_below x)
        go_wp2_with fail
        · have hne : (!decide (l1[k] = l2[k])) = true := by assumption
          go_ret
          refine ⟨?_, hb1⟩
          have : l1 ≠ l2 := by rintro rfl; simp at hne
          simp [this]
        · have heq : (!decide (l1[k] = l2[k])) = false := by assumption
          go_roundw
          case rel => exact ⟨k + 1, by omega, by go_num, hb1, hd (by rw [List.take_succ_eq_append_getElem hlt, List.take_succ_eq_append_getElem hlt2, HT.out]; simp at heq; rw [heq])⟩
          case measure => simp [intOf]; omega
      · go_wp2
        go_ret
        refine ⟨?_, hbel⟩
        have h3 := HT.out
        rw [List.take_of_length_le (by omega), List.take_of_length_le (by have := HL.out; omega)] at h3
        simp [h3]
  · have hb : (((l1.length : Nat) : Int) != ((l2.length : Nat) : Int)) = true := by simp; omega
    have HL := hd hlen
    clear hlen
    go_enter Try.func30, Try.ntmps30
    go_wp2
    go_ret
    refine ⟨?_, Below.refl _ _⟩
    have : l1 ≠ l2 := by rintro rfl; exact HL.out rfl
    simp [this]

set_option maxHeartbeats 2000000 in
theorem equalRates (w : World) (v1 v2 : Value) (l1 l2 : List TRate) (h1 : Sl w 2 v1 eRate l1) (h2 : Sl w 2 v2 eRate l2) :
    Calls Try.prog 64 #[v1, v2] w fun e w' => e = .returned (.bool (decide (l1 = l2))) ∧ Below w.heap.size w w' := by
  have m1 := h1.len
  have m2 := h2.len
  obtain ⟨-, A1, c1, rfl, -, -, -⟩ := id h1
  obtain ⟨-, A2, c2, rfl, -, -, -⟩ := id h2
  by_cases hlen : l1.length = l2.length
  · have hb : (((l1.length : Nat) : Int) != ((l2.length : Nat) : Int)) = false := by simp [hlen]
    have HL := hd hlen
    clear hlen
    go_enter Try.func64, Try.ntmps64
    go_wp2
    go_loopw [13] (fun i wr => ∃ k : Nat, k ≤ l1.length ∧ i = .int .i64 k ∧ Below w.heap.size w wr ∧ Hid (l1.take k = l2.take k)) (fun i _ => l1.length - (intOf i).toNat)
    case atStart => exact ⟨0, Nat.zero_le _, rfl, Below.refl _ _, hd (by simp)⟩
    case round =>
      obtain ⟨k, hk, rfl, hbel, HT⟩ := hrel
      by_cases hlt : k < l1.length
      · have hlt2 : k < l2.length := HL.out ▸ hlt
        obtain ⟨a1, o1, rfl, -, p0, p1⟩ := (h1.below hbel).Rate_at hlt
        obtain ⟨a2, o2, rfl, -, q0, q1⟩ := (h2.below hbel).Rate_at hlt2
        have HX := hd (List.getElem?_eq_getElem hlt)
        have HY := hd (List.getElem?_eq_getElem hlt2)
        have HT1 := hd (show l1.take (k + 1) = l1.take k ++ [l1[k]] from List.take_succ_eq_append_getElem hlt)
        have HT2 := hd (show l2.take (k + 1) = l2.take k ++ [l2[k]] from List.take_succ_eq_append_getElem hlt2)
        generalize l1[k] = x at p0 p1 HX HT1
        generalize l2[k] = y at q0 q1 HY HT2
        obtain ⟨a0, a1⟩ := x
        obtain ⟨b0, b1⟩ := y
        dsimp only at p0 q0 p1 q1
        have hz2 : (k : Int) < (l2.length : Int) := by omega
        have gp0 := gro_cell p0
        have gq0 := gro_cell q0
        have gp1 := gro_cell p1
        have gq1 := gro_cell q1
        by_cases hq : a0 = b0
        case neg =>
          have k2 : (a0 == b0) = false := by simpa using hq
          have H2 := hd hq
          clear hq
          go_wp2_with fail
          refine wp_region_calm (by kernel_rfl) (by kernel_rfl) ?_
          repeat (first | go_big_quiet_step (fail) | quiet_step (fail))
          refine wpQuiet_nil ?_
          rintro w1 ⟨xw, rfl⟩
          have hb1 := below_step hbel (gro_below xw)
          go_wp2_with fail
          go_ret
          refine ⟨?_, hb1⟩
          have : l1 ≠ l2 := by
            rintro rfl
            have := HX.out.symm.trans HY.out
            simp only [Option.some.injEq, Prod.mk.injEq] at this
            simp_all [H2.out]
          simp [this]
        subst hq
        by_cases hq : a1 = b1
        case neg =>
          have k2 : (a1 == b1) = false := by simpa using hq
          have H2 := hd hq
          clear hq
          go_wp2_with fail
          refine wp_region_calm (by kernel_rfl) (by kernel_rfl) ?_
          repeat (first | go_big_quiet_step (fail) | quiet_step (fail))
          refine wpQuiet_nil ?_
          rintro w1 ⟨xw, rfl⟩
          have hb1 := below_step hbel (gro_below xw)
          go_wp2_with fail
          go_ret
          refine ⟨?_, hb1⟩
          have : l1 ≠ l2 := by
            rintro rfl
            have := HX.out.symm.trans HY.out
            simp only [Option.some.injEq, Prod.mk.injEq] at this
            simp_all [H2.out]
          simp [this]
        subst hq
        go_wp2_with fail
        refine wp_region_calm (by kernel_rfl) (by kernel_rfl) ?_
        repeat (first | go_big_quiet_step (fail) | quiet_step (fail))
        refine wpQuiet_nil ?_
        rintro w1 ⟨xw, rfl⟩
        have hb1 := below_step hbel (gro_below xw)
        go_wp2_with fail
        go_roundw
        case rel => exact ⟨k + 1, by omega, by go_num, hb1, hd (by rw [HT1.out, HT2.out, HT.out])⟩
        case measure => simp [intOf]; omega
      · go_wp2
        go_ret
        refine ⟨?_, hbel⟩
        have h3 := HT.out
        rw [List.take_of_length_le (by omega), List.take_of_length_le (by have := HL.out; omega)] at h3
        simp [h3]
  · have hb : (((l1.length : Nat) : Int) != ((l2.length : Nat) : Int)) = true := by simp; omega
    have HL := hd hlen
    clear hlen
    go_enter Try.func64, Try.ntmps64
    go_wp2
    go_ret
    refine ⟨?_, Below.refl _ _⟩
    have : l1 ≠ l2 := by rintro rfl; exact HL.out rfl
    simp [this]

set_option maxHeartbeats 2000000 in
theorem sameRates_spec (w : World) (v1 v2 : Value) (l1 l2 : List TRate) (h1 : Sl w 2 v1 eRate l1) (h2 : Sl w 2 v2 eRate l2) :
    Calls Try.prog 31 #[v1, v2] w fun e w' => e = .returned (.bool (decide (l1 = l2))) ∧ Below w.heap.size w w' := by
  have m1 := h1.len
  have m2 := h2.len
  obtain ⟨-, A1, c1, rfl, -, -, -⟩ := id h1
  obtain ⟨-, A2, c2, rfl, -, -, -⟩ := id h2
  by_cases hlen : l1.length = l2.length
  · have hb : (((l1.length : Nat) : Int) != ((l2.length : Nat) : Int)) = false := by simp [hlen]
    have HL := hd hlen
    clear hlen
    go_enter Try.func31, Try.ntmps31
    go_wp2
    go_loopw [5] (fun i wr => ∃ k : Nat, k ≤ l1.length ∧ i = .int .i64 k ∧ Below w.heap.size w wr ∧ Hid (l1.take k = l2.take k)) (fun i _ => l1.length - (intOf i).toNat)
    case atStart => exact ⟨0, Nat.zero_le _, rfl, Below.refl _ _, hd (by simp)⟩
    case round =>
      obtain ⟨k, hk, rfl, hbel, HT⟩ := hrel
      by_cases hlt : k < l1.length
      · have hlt2 : k < l2.length := HL.out ▸ hlt
        obtain ⟨a1, o1, rfl, -, p0, p1⟩ := (h1.below hbel).Rate_at hlt
        obtain ⟨a2, o2, rfl, -, q0, q1⟩ := (h2.below hbel).Rate_at hlt2
        have HX := hd (List.getElem?_eq_getElem hlt)
        have HY := hd (List.getElem?_eq_getElem hlt2)
        have HT1 := hd (show l1.take (k + 1) = l1.take k ++ [l1[k]] from List.take_succ_eq_append_getElem hlt)
        have HT2 := hd (show l2.take (k + 1) = l2.take k ++ [l2[k]] from List.take_succ_eq_append_getElem hlt2)
        generalize l1[k] = x at p0 p1 HX HT1
        generalize l2[k] = y at q0 q1 HY HT2
        obtain ⟨a0, a1⟩ := x
        obtain ⟨b0, b1⟩ := y
        dsimp only at p0 q0 p1 q1
        have hz2 : (k : Int) < (l2.length : Int) := by omega
        have gp0 := gro_cell p0
        have gq0 := gro_cell q0
        have gp1 := gro_cell p1
        have gq1 := gro_cell q1
        by_cases hq : a0 = b0
        case neg =>
          have k2 : (a0 == b0) = false := by simpa using hq
          have H2 := hd hq
          clear hq
          go_wp2_with fail
          refine wp_region_calm (by kernel_rfl) (by kernel_rfl) ?_
          repeat (first | go_big_quiet_step (fail) | quiet_step (fail))
          refine wpQuiet_nil ?_
          rintro w1 ⟨xw, rfl⟩
          have hb1 := below_step hbel (gro_below xw)
          go_wp2_with fail
          go_ret
          refine ⟨?_, hb1⟩
          have : l1 ≠ l2 := by
            rintro rfl
            have := HX.out.symm.trans HY.out
            simp only [Option.some.injEq, Prod.mk.injEq] at this
            simp_all [H2.out]
          simp [this]
        subst hq
        by_cases hq : a1 = b1
        case neg =>
          have k2 : (a1 == b1) = false := by simpa using hq
          have H2 := hd hq
          clear hq
          go_wp2_with fail
          refine wp_region_calm (by kernel_rfl) (by kernel_rfl) ?_
          repeat (first | go_big_quiet_step (fail) | quiet_step (fail))
          refine wpQuiet_nil ?_
          rintro w1 ⟨xw, rfl⟩
          have hb1 := below_step hbel (gro_below xw)
          go_wp2_with fail
          go_ret
          refine ⟨?_, hb1⟩
          have : l1 ≠ l2 := by
            rintro rfl
            have := HX.out.symm.trans HY.out
            simp only [Option.some.injEq, Prod.mk.injEq] at this
            simp_all [H2.out]
          simp [this]
        subst hq
        go_wp2_with fail
        refine wp_region_calm (by kernel_rfl) (by kernel_rfl) ?_
        repeat (first | go_big_quiet_step (fail) | quiet_step (fail))
        refine wpQuiet_nil ?_
        rintro w1 ⟨xw, rfl⟩
        have hb1 := below_step hbel (gro_below xw)
        go_wp2_with fail
        go_roundw
        case rel => exact ⟨k + 1, by omega, by go_num, hb1, hd (by rw [HT1.out, HT2.out, HT.out])⟩
        case measure => simp [intOf]; omega
      · go_wp2
        go_ret
        refine ⟨?_, hbel⟩
        have h3 := HT.out
        rw [List.take_of_length_le (by omega), List.take_of_length_le (by have := HL.out; omega)] at h3
        simp [h3]
  · have hb : (((l1.length : Nat) : Int) != ((l2.length : Nat) : Int)) = true := by simp; omega
    have HL := hd hlen
    clear hlen
    go_enter Try.func31, Try.ntmps31
    go_wp2
    go_ret
    refine ⟨?_, Below.refl _ _⟩
    have : l1 ≠ l2 := by rintro rfl; exact HL.out rfl
    simp [this]

theorem sameRates_impl (w : World) (v1 v2 : Value) (l1 l2 : List TRate) (h1 : Sl w 2 v1 eRate l1) (h2 : Sl w 2 v2 eRate l2) :
    Calls Try.prog 32 #[v1, v2] w fun e w' => e = .returned (.bool (decide (l1 = l2))) ∧ Below w.heap.size w w' := by
  go_enter Try.func32, Try.ntmps32
  go_wp2_with (go_at_call 64; refine (equalRates _ _ _ _ _ h1 h2).mono ?_; rintro e w1 ⟨rfl, hb⟩)
  go_ret
  exact ⟨rfl, hb⟩

theorem info_Rate : (Try.prog.info? 71).map (fun i => (i.zero, i.size, i.bytes)) = some (some (.agg #[.int .i64 0, .int .i64 0]), 2, 16) := by kernel_rfl

set_option maxHeartbeats 800000 in
theorem toRates (w : World) (v : Value) (l : List TRate) (h : Sl w 2 v eRate l) (hl : l.length ≤ 1048576) :
    Calls Try.prog 28 #[v] w (GivesOwn w 71 2 eRate l) := by
  obtain ⟨-, A, c, rfl, -, -, -⟩ := id h
  obtain ⟨i0, hi, hz0, hz1, hz2⟩ := info_parts info_Rate
  go_enter Try.func28, Try.ntmps28
  go_wp2_with (first | (at_make; refine wpList_make_full _ rfl _ _ 40 rfl w.heap.size 71 i0 (.agg #[.int .i64 0, .int .i64 0]) 2 Try.underlying40 hi hz0 hz1 .i64 .i64 _ _ l.length rfl rfl rfl rfl (by rw [hz2]; omega) (by unfold maxLen; omega) (Nat.le_refl _) ?_))
  intro w1 hown hgr
  have H0 : CopyTo w 71 2 (.slice (some ⟨w.heap.size, 0, none⟩) l.length l.length) l.length eRate l 0 w1 := ⟨_, hown, by simp, below_of_grown hgr (Nat.le_refl _) (by simp)⟩
  clear hown hgr hi hz0 hz1 hz2
  go_wp2
  go_loopw [4] (fun i wr => ∃ k : Nat, k ≤ l.length ∧ i = .int .i64 k ∧ CopyTo w 71 2 (.slice (some ⟨w.heap.size, 0, none⟩) l.length l.length) l.length eRate l k wr) (fun i _ => l.length - (intOf i).toNat)
  case atStart => exact ⟨0, Nat.zero_le _, rfl, H0⟩
  case round =>
    obtain ⟨k, hk, rfl, H⟩ := hrel
    clear H0
    by_cases hlt : k < l.length
    · obtain ⟨ys, hown, hys, hbel⟩ := H
      obtain ⟨b, o, rfl, hb, p0, p1⟩ := (h.below hbel).Rate_at hlt
      have hy1 := hown.1
      go_wp2_with fail
      refine (toRate _ _ _).mono ?_
      rintro e w2 ⟨rfl, hb1⟩
      have hb2 := below_step hbel hb1
      have hown1 := hown.kept (grownBy_of_below hb1 none) (.inr (by simp [Value.ownBlock]))
      clear hown
      have hky0 : k * 2 < ys.length := by omega
      have r0 := hown1.cellAt (k * 2) (by omega)
      rw [List.getElem?_eq_getElem hky0] at r0
      have f0 := hown1.frozenAt (k * 2)
      have hky1 : k * 2 + 1 < ys.length := by omega
      have r1 := hown1.cellAt (k * 2 + 1) (by omega)
      rw [List.getElem?_eq_getElem hky1] at r1
      have f1 := hown1.frozenAt (k * 2 + 1)
      go_wp2_with fail
      go_roundw
      case rel =>
          have st0 := hown1.stored (k * 2) (.int .i64 l[k].1)
          have st1 := st0.1.stored (k * 2 + 1) (.int .i64 l[k].2)
          refine ⟨k + 1, by omega, by go_num, _, st1.1, ?_, ((hb2.setCell (Nat.le_refl _) _).setCell (Nat.le_refl _) _)⟩
          rw [flatMap_snoc _ _ _ hlt, Nat.succ_mul]
          have := take_set_snoc (take_set_snoc hys hky0 (.int .i64 l[k].1)) (by simp; omega) (.int .i64 l[k].2)
          simpa [eRate, List.append_assoc] using this
      case measure => simp [intOf]; omega
    · go_wp2_with fail
      go_ret
      obtain ⟨ys, hown, hys, hbel⟩ := H
      have hkl : k = l.length := by omega
      refine ⟨_, rfl, ?_, hbel⟩
      unfold Own
      have e1 : ys = l.flatMap eRate := by
        rw [hkl, List.take_of_length_le (by rw [hown.1]; exact Nat.le_refl _), List.take_length] at hys
        exact hys
      rw [← e1]
      exact hown

theorem szRates_yes (w : World) (v : Value) (l : List TRate) (h : Sl w 2 v eRate l) (left : Int) (h0 : 0 ≤ left) (h1 : left ≤ 1048576) (hle : (l.length : Int) ≤ left) :
    Calls Try.prog 26 #[v, .int .i64 left] w fun e w' => e = .returned (.int .i64 (left - (l.length : Int))) ∧ w' = w := by
  have m1 := h.len
  obtain ⟨-, A, c, rfl, -, -, -⟩ := h
  go_enter Try.func26, Try.ntmps26
  go_wp2
  go_ret
  exact ⟨rfl, rfl⟩

theorem szRates_no (w : World) (v : Value) (l : List TRate) (h : Sl w 2 v eRate l) (left : Int) (h0 : 0 ≤ left) (h1 : left ≤ 1048576) (hle : left < (l.length : Int)) :
    Calls Try.prog 26 #[v, .int .i64 left] w fun e w' => e = .returned (.int .i64 (-1)) ∧ w' = w := by
  have m1 := h.len
  obtain ⟨-, A, c, rfl, -, -, -⟩ := h
  go_enter Try.func26, Try.ntmps26
  go_wp2
  go_ret
  exact ⟨rfl, rfl⟩

/-- the marks from k on -/
def marksRate (k : Int) (n : Nat) : List TRate := (List.range n).map fun (i : Nat) => (k + 2 * (i : Int), k + 2 * (i : Int) + 1)
theorem marksRate_len (k : Int) (n : Nat) : (marksRate k n).length = n := by simp [marksRate]
theorem marksRate_get (k : Int) (n i : Nat) (h : i < (marksRate k n).length) : (marksRate k n)[i] = (k + 2 * (i : Int), k + 2 * (i : Int) + 1) := by simp [marksRate]

end Go.Proofs.Ytfgbjfhhkbdimaa
