/- Contracts of the laws' helpers on []Hire: a copy, a comparison, marks. No condition but that the slice reads. -/
import Derived.Test.YtlgcehdklpbknaaBase
namespace Go.Proofs.Ytlgcehdklpbknaa
open Go Go.RowKit Go.ChangeShapes Go.WideShapes
set_option linter.unusedSimpArgs false
set_option linter.unusedVariables false

abbrev THire := Int × Int × Int
def eHire (x : THire) : List Value := [.int .i64 x.1, .int .i64 x.2.1, .int .i64 x.2.2]
theorem eHire_len (x : THire) : (eHire x).length = 3 := rfl

theorem Sl.Hire_at {w : World} {A : Option Addr} {n c : Nat} {l : List THire} (h : Sl w 3 (.slice A n c) eHire l) {i : Nat} (hi : i < l.length) :
    ∃ b o, A = some ⟨b, o, none⟩ ∧ b < w.heap.size ∧ w.cell? ⟨b, o + i * 3, none⟩ = some (.int .i64 l[i].1) ∧ w.cell? ⟨b, o + i * 3 + 1, none⟩ = some (.int .i64 l[i].2.1) ∧ w.cell? ⟨b, o + i * 3 + 2, none⟩ = some (.int .i64 l[i].2.2) := by
  obtain ⟨b, o, x, hx, hA, hb, hc⟩ := h.at_ hi
  have : x = l[i] := by rw [List.getElem?_eq_getElem hi] at hx; exact (Option.some.inj hx).symm
  subst this
  exact ⟨b, o, hA, hb, hc 0 _ rfl, hc 1 _ rfl, hc 2 _ rfl⟩

def okHire (x : THire) : Prop := (-9223372036854775808 ≤ x.1 ∧ x.1 ≤ 9223372036854775807) ∧ (-9223372036854775808 ≤ x.2.1 ∧ x.2.1 ≤ 9223372036854775807) ∧ (-9223372036854775808 ≤ x.2.2 ∧ x.2.2 ≤ 9223372036854775807)

section
variable {H : Type} {enc : TypeId × Value → H} {w : World} {base : Nat} {spare : Nat → Bool} {held : Bool}
set_option maxRecDepth 100000 in
theorem trod_Hire (n : Nat) (cs : List Value) (y : DataW H × List MemPlace) (h : DataW.trod enc Try.prog w base spare held n 118 cs = some y) : ∃ x : THire, cs = eHire x ∧ okHire x := by
  obtain ⟨hlen, hf⟩ := struct_cells Try.underlying118 (by kernel_rfl) (by kernel_rfl) h
  obtain ⟨v0, n0, y0, hv0, ht0⟩ := hf 0 _ rfl
  obtain ⟨x0, e0, -, wf0⟩ := DataW.trod_int Try.underlying2 ht0
  simp at e0
  subst e0
  obtain ⟨v1, n1, y1, hv1, ht1⟩ := hf 1 _ rfl
  obtain ⟨x1, e1, -, wf1⟩ := DataW.trod_int Try.underlying2 ht1
  simp at e1
  subst e1
  obtain ⟨v2, n2, y2, hv2, ht2⟩ := hf 2 _ rfl
  obtain ⟨x2, e2, -, wf2⟩ := DataW.trod_int Try.underlying2 ht2
  simp at e2
  subst e2
  refine ⟨(x0, x1, x2), ?_, i64_range wf0, i64_range wf1, i64_range wf2⟩
  have hsz : cs.length = 3 := hlen
  match cs, hsz with
  | [c0, c1, c2], _ =>
    simp at hv0 hv1 hv2
    subst hv0 hv1 hv2
    rfl
end
section
variable {H : Type} {enc : TypeId × Value → H} {w : World} {base : Nat} {spare : Nat → Bool} {held : Bool}
set_option maxRecDepth 100000 in
theorem sl_of_Hires {r : Reach} {b0 : Nat} {v : Value} {d : DataW H} {p : List MemPlace} (hv : Value.okWide Try.prog w r b0 60 v) (h : DataW.Trod enc Try.prog w base spare held 60 v d p) :
    ∃ l : List THire, Sl w 3 v eHire l ∧ ∀ x ∈ l, okHire x := by
  obtain ⟨a, n, c, rfl⟩ := okWide_slice Try.underlying60 hv
  obtain ⟨fuel, hf⟩ := h
  exact sl_of_trod (K := 3) Try.underlying60 (by kernel_rfl) (by omega) trod_Hire (by simpa [Value.cells] using hf)
end
section
variable {H : Type} {enc : TypeId × Value → H} {w : World} {base : Nat} {spare : Nat → Bool} {held : Bool}
set_option maxRecDepth 100000 in
theorem agg_of_Hire {r : Reach} {b0 : Nat} {v : Value} {d : DataW H} {p : List MemPlace} (hv : Value.okWide Try.prog w r b0 118 v) (h : DataW.Trod enc Try.prog w base spare held 118 v d p) :
    ∃ x : THire, v = .agg (eHire x).toArray ∧ okHire x := by
  obtain ⟨cs, rfl, -⟩ := okWide_struct Try.underlying118 hv
  obtain ⟨fuel, hf⟩ := h
  obtain ⟨x, hx, hg⟩ := trod_Hire _ _ _ hf
  exact ⟨x, by rw [← hx]; simp [Value.cells], hg⟩
end

set_option maxHeartbeats 400000 in
theorem toHire (w : World) (a : Int) (b : Int) (c : Int) : Calls Try.prog 91 #[.agg #[.int .i64 a, .int .i64 b, .int .i64 c]] w fun e w' => e = .returned (.agg #[.int .i64 a, .int .i64 b, .int .i64 c]) ∧ Below w.heap.size w w' := by
  go_enter Try.func91, Try.ntmps91
  go_wp2
  refine bodyPost_ret (v := .agg #[.int .i64 a, .int .i64 b, .int .i64 c]) (by simp [results, Try.results91, go_sem]) rfl ⟨rfl, ?_⟩
  repeat (first | exact Below.refl _ _ | refine Below.alloc ?_ (by first | (simp; done) | (simp; omega)) _ | refine Below.setCell ?_ (by first | (simp; done) | (simp; omega)) _ | refine Below.drew ?_)

set_option maxHeartbeats 800000 in
theorem eqHire (w : World) (x y : THire) : Calls Try.prog 99 #[.agg #[.int .i64 x.1, .int .i64 x.2.1, .int .i64 x.2.2], .agg #[.int .i64 y.1, .int .i64 y.2.1, .int .i64 y.2.2]] w fun e w' => e = .returned (.bool (decide (x = y))) ∧ Below w.heap.size w w' := by
  obtain ⟨a, b, c⟩ := x
  obtain ⟨a', b', c'⟩ := y
  by_cases hq : a = a'
  case neg =>
    have k2 : (a != a') = true := by simpa using hq
    have H2 := hd hq
    clear hq
    go_enter Try.func99, Try.ntmps99; go_wp2; go_ret
    refine ⟨by simp [H2.out], ?_⟩
    repeat (first | exact Below.refl _ _ | refine Below.alloc ?_ (by first | (simp; done) | (simp; omega)) _ | refine Below.setCell ?_ (by first | (simp; done) | (simp; omega)) _ | refine Below.drew ?_)
  subst hq
  by_cases hq : b = b'
  case neg =>
    have k2 : (b != b') = true := by simpa using hq
    have H2 := hd hq
    clear hq
    go_enter Try.func99, Try.ntmps99; go_wp2; go_ret
    refine ⟨by simp [H2.out], ?_⟩
    repeat (first | exact Below.refl _ _ | refine Below.alloc ?_ (by first | (simp; done) | (simp; omega)) _ | refine Below.setCell ?_ (by first | (simp; done) | (simp; omega)) _ | refine Below.drew ?_)
  subst hq
  by_cases hq : c = c'
  case neg =>
    have k2 : (c != c') = true := by simpa using hq
    have H2 := hd hq
    clear hq
    go_enter Try.func99, Try.ntmps99; go_wp2; go_ret
    refine ⟨by simp [H2.out], ?_⟩
    repeat (first | exact Below.refl _ _ | refine Below.alloc ?_ (by first | (simp; done) | (simp; omega)) _ | refine Below.setCell ?_ (by first | (simp; done) | (simp; omega)) _ | refine Below.drew ?_)
  subst hq
  go_enter Try.func99, Try.ntmps99; go_wp2; go_ret
  refine ⟨by simp, ?_⟩
  repeat (first | exact Below.refl _ _ | refine Below.alloc ?_ (by first | (simp; done) | (simp; omega)) _ | refine Below.setCell ?_ (by first | (simp; done) | (simp; omega)) _ | refine Below.drew ?_)

theorem calm_eqHire (w : World) (x : Ext w) (a b : THire) : Calls Try.prog 99 #[.agg #[.int .i64 a.1, .int .i64 a.2.1, .int .i64 a.2.2], .agg #[.int .i64 b.1, .int .i64 b.2.1, .int .i64 b.2.2]] (gro w x) fun e w'' => e = .returned (.bool (decide (a = b))) ∧ ∃ y, w'' = gro w y := calm_of (eqHire _ _ _)
set_option maxHeartbeats 800000 in
theorem eqHires (w : World) (v1 v2 : Value) (l1 l2 : List THire) (h1 : Sl w 3 v1 eHire l1) (h2 : Sl w 3 v2 eHire l2) :
    Calls Try.prog 41 #[v1, v2] w fun e w' => e = .returned (.bool (decide (l1 = l2))) ∧ Below w.heap.size w w' := by
  have m1 := h1.len
  have m2 := h2.len
  obtain ⟨-, A1, c1, rfl, -, -, -⟩ := id h1
  obtain ⟨-, A2, c2, rfl, -, -, -⟩ := id h2
  by_cases hlen : l1.length = l2.length
  · have hb : (((l1.length : Nat) : Int) != ((l2.length : Nat) : Int)) = false := by simp [hlen]
    have HL := hd hlen
    clear hlen
    go_enter Try.func41, Try.ntmps41
    go_wp2
    go_loopw [5] (fun i wr => ∃ k : Nat, k ≤ l1.length ∧ i = .int .i64 k ∧ Below w.heap.size w wr ∧ Hid (l1.take k = l2.take k)) (fun i _ => l1.length - (intOf i).toNat)
    case atStart => exact ⟨0, Nat.zero_le _, rfl, Below.refl _ _, hd (by simp)⟩
    case round =>
      obtain ⟨k, hk, rfl, hbel, HT⟩ := hrel
      by_cases hlt : k < l1.length
      · have hlt2 : k < l2.length := HL.out ▸ hlt
        obtain ⟨a1, o1, rfl, -, p0, p1, p2⟩ := (h1.below hbel).Hire_at hlt
        obtain ⟨a2, o2, rfl, -, q0, q1, q2⟩ := (h2.below hbel).Hire_at hlt2
        have gp0 := gro_cell p0
        have gq0 := gro_cell q0
        have gp1 := gro_cell p1
        have gq1 := gro_cell q1
        have gp2 := gro_cell p2
        have gq2 := gro_cell q2
        go_wp2_with fail
        refine wp_region_calm (by kernel_rfl) (by kernel_rfl) ?_
        repeat (first | go_big_quiet_step ((go_at_call 99; exact calm_eqHire _ _ _ _)) | quiet_step ((go_at_call 99; exact calm_eqHire _ _ _ _)))
        refine wpQuiet_nil ?_
        rintro w1 ⟨x, rfl⟩
        have hb1 := below_step hbel (gro_below x)
        go_wp2_with fail
        · have hne : (!decide (l1[k] = l2[k])) = true := by assumption
          go_ret
          refine ⟨?_, hb1⟩
          have : l1 ≠ l2 := by rintro rfl; simp at hne
          simp [this]
        · have heq : (!decide (l1[k] = l2[k])) = false := by assumption
          go_roundw
          case rel => exact ⟨k + 1, by omega, by go_num, hb1, hd (by rw [List.take_succ_eq_append_getElem hlt, List.take_succ_eq_append_getElem hlt2, HT.out]; simp at heq; rw [heq])⟩
          case measure => simp [intOf]; omega
      · go_wp2
        go_ret
        refine ⟨?_, hbel⟩
        have h3 := HT.out
        rw [List.take_of_length_le (by omega), List.take_of_length_le (by have := HL.out; omega)] at h3
        simp [h3]
  · have hb : (((l1.length : Nat) : Int) != ((l2.length : Nat) : Int)) = true := by simp; omega
    have HL := hd hlen
    clear hlen
    go_enter Try.func41, Try.ntmps41
    go_wp2
    go_ret
    refine ⟨?_, Below.refl _ _⟩
    have : l1 ≠ l2 := by rintro rfl; exact HL.out rfl
    simp [this]

theorem info_Hire : (Try.prog.info? 76).map (fun i => (i.zero, i.size, i.bytes)) = some (some (.agg #[.int .i64 0, .int .i64 0, .int .i64 0]), 3, 24) := by kernel_rfl

set_option maxHeartbeats 800000 in
theorem toHires (w : World) (v : Value) (l : List THire) (h : Sl w 3 v eHire l) (hl : l.length ≤ 1048576) :
    Calls Try.prog 38 #[v] w (GivesOwn w 76 3 eHire l) := by
  obtain ⟨-, A, c, rfl, -, -, -⟩ := id h
  obtain ⟨i0, hi, hz0, hz1, hz2⟩ := info_parts info_Hire
  go_enter Try.func38, Try.ntmps38
  go_wp2_with (first | (at_make; refine wpList_make_full _ rfl _ _ 64 rfl w.heap.size 76 i0 (.agg #[.int .i64 0, .int .i64 0, .int .i64 0]) 3 Try.underlying64 hi hz0 hz1 .i64 .i64 _ _ l.length rfl rfl rfl rfl (by rw [hz2]; omega) (by unfold maxLen; omega) (Nat.le_refl _) ?_))
  intro w1 hown hgr
  have H0 : CopyTo w 76 3 (.slice (some ⟨w.heap.size, 0, none⟩) l.length l.length) l.length eHire l 0 w1 := ⟨_, hown, by simp, below_of_grown hgr (Nat.le_refl _) (by simp)⟩
  clear hown hgr hi hz0 hz1 hz2
  go_wp2
  go_loopw [4] (fun i wr => ∃ k : Nat, k ≤ l.length ∧ i = .int .i64 k ∧ CopyTo w 76 3 (.slice (some ⟨w.heap.size, 0, none⟩) l.length l.length) l.length eHire l k wr) (fun i _ => l.length - (intOf i).toNat)
  case atStart => exact ⟨0, Nat.zero_le _, rfl, H0⟩
  case round =>
    obtain ⟨k, hk, rfl, H⟩ := hrel
    clear H0
    by_cases hlt : k < l.length
    · obtain ⟨ys, hown, hys, hbel⟩ := H
      obtain ⟨b, o, rfl, hb, p0, p1, p2⟩ := (h.below hbel).Hire_at hlt
      have hy1 := hown.1
      go_wp2_with fail
      refine (toHire _ _ _ _).mono ?_
      rintro e w2 ⟨rfl, hb1⟩
      have hb2 := below_step hbel hb1
      have hown1 := hown.kept (grownBy_of_below hb1 none) (.inr (by simp [Value.ownBlock]))
      clear hown
      have hky0 : k * 3 < ys.length := by omega
      have r0 := hown1.cellAt (k * 3) (by omega)
      rw [List.getElem?_eq_getElem hky0] at r0
      have f0 := hown1.frozenAt (k * 3)
      have hky1 : k * 3 + 1 < ys.length := by omega
      have r1 := hown1.cellAt (k * 3 + 1) (by omega)
      rw [List.getElem?_eq_getElem hky1] at r1
      have f1 := hown1.frozenAt (k * 3 + 1)
      have hky2 : k * 3 + 2 < ys.length := by omega
      have r2 := hown1.cellAt (k * 3 + 2) (by omega)
      rw [List.getElem?_eq_getElem hky2] at r2
      have f2 := hown1.frozenAt (k * 3 + 2)
      go_wp2_with fail
      go_roundw
      case rel =>
          have st0 := hown1.stored (k * 3) (.int .i64 l[k].1)
          have st1 := st0.1.stored (k * 3 + 1) (.int .i64 l[k].2.1)
          have st2 := st1.1.stored (k * 3 + 2) (.int .i64 l[k].2.2)
          refine ⟨k + 1, by omega, by go_num, _, st2.1, ?_, (((hb2.setCell (Nat.le_refl _) _).setCell (Nat.le_refl _) _).setCell (Nat.le_refl _) _)⟩
          rw [flatMap_snoc _ _ _ hlt, Nat.succ_mul]
          have := take_set_snoc (take_set_snoc (take_set_snoc hys hky0 (.int .i64 l[k].1)) (by simp; omega) (.int .i64 l[k].2.1)) (by simp; omega) (.int .i64 l[k].2.2)
          simpa [eHire, List.append_assoc] using this
      case measure => simp [intOf]; omega
    · go_wp2_with fail
      go_ret
      obtain ⟨ys, hown, hys, hbel⟩ := H
      have hkl : k = l.length := by omega
      refine ⟨_, rfl, ?_, hbel⟩
      unfold Own
      have e1 : ys = l.flatMap eHire := by
        rw [hkl, List.take_of_length_le (by rw [hown.1]; exact Nat.le_refl _), List.take_length] at hys
        exact hys
      rw [← e1]
      exact hown

theorem szHires_yes (w : World) (v : Value) (l : List THire) (h : Sl w 3 v eHire l) (left : Int) (h0 : 0 ≤ left) (h1 : left ≤ 1048576) (hle : (l.length : Int) ≤ left) :
    Calls Try.prog 35 #[v, .int .i64 left] w fun e w' => e = .returned (.int .i64 (left - (l.length : Int))) ∧ w' = w := by
  have m1 := h.len
  obtain ⟨-, A, c, rfl, -, -, -⟩ := h
  go_enter Try.func35, Try.ntmps35
  go_wp2
  go_ret
  exact ⟨rfl, rfl⟩

theorem szHires_no (w : World) (v : Value) (l : List THire) (h : Sl w 3 v eHire l) (left : Int) (h0 : 0 ≤ left) (h1 : left ≤ 1048576) (hle : left < (l.length : Int)) :
    Calls Try.prog 35 #[v, .int .i64 left] w fun e w' => e = .returned (.int .i64 (-1)) ∧ w' = w := by
  have m1 := h.len
  obtain ⟨-, A, c, rfl, -, -, -⟩ := h
  go_enter Try.func35, Try.ntmps35
  go_wp2
  go_ret
  exact ⟨rfl, rfl⟩

/-- the marks from k on -/
def marksHire (k : Int) (n : Nat) : List THire := (List.range n).map fun (i : Nat) => (k + 3 * (i : Int), k + 3 * (i : Int) + 1, k + 3 * (i : Int) + 1 + 1)
theorem marksHire_len (k : Int) (n : Nat) : (marksHire k n).length = n := by simp [marksHire]
theorem marksHire_get (k : Int) (n i : Nat) (h : i < (marksHire k n).length) : (marksHire k n)[i] = (k + 3 * (i : Int), k + 3 * (i : Int) + 1, k + 3 * (i : Int) + 1 + 1) := by simp [marksHire]

end Go.Proofs.Ytlgcehdklpbknaa
