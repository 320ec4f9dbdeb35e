/- Contracts of the laws' helpers on []Hall: a copy, a comparison, marks. No condition but that the slice reads. -/
import Derived.Test.YtmflfealodgdeaaBase
namespace Go.Proofs.Ytmflfealodgdeaa
open Go Go.RowKit Go.ChangeShapes Go.WideShapes
set_option linter.unusedSimpArgs false
set_option linter.unusedVariables false

abbrev THall := Int × Int × Int
def eHall (x : THall) : List Value := [.int .i64 x.1, .int .i64 x.2.1, .int .i64 x.2.2]
theorem eHall_len (x : THall) : (eHall x).length = 3 := rfl

theorem Sl.Hall_at {w : World} {A : Option Addr} {n c : Nat} {l : List THall} (h : Sl w 3 (.slice A n c) eHall l) {i : Nat} (hi : i < l.length) :
    ∃ b o, A = some ⟨b, o, none⟩ ∧ b < w.heap.size ∧ w.cell? ⟨b, o + i * 3, none⟩ = some (.int .i64 l[i].1) ∧ w.cell? ⟨b, o + i * 3 + 1, none⟩ = some (.int .i64 l[i].2.1) ∧ w.cell? ⟨b, o + i * 3 + 2, none⟩ = some (.int .i64 l[i].2.2) := by
  obtain ⟨b, o, x, hx, hA, hb, hc⟩ := h.at_ hi
  have : x = l[i] := by rw [List.getElem?_eq_getElem hi] at hx; exact (Option.some.inj hx).symm
  subst this
  exact ⟨b, o, hA, hb, hc 0 _ rfl, hc 1 _ rfl, hc 2 _ rfl⟩

def okHall (x : THall) : Prop := (-9223372036854775808 ≤ x.1 ∧ x.1 ≤ 9223372036854775807) ∧ (-9223372036854775808 ≤ x.2.1 ∧ x.2.1 ≤ 9223372036854775807) ∧ (-9223372036854775808 ≤ x.2.2 ∧ x.2.2 ≤ 9223372036854775807)

section
variable {H : Type} {enc : TypeId × Value → H} {w : World} {base : Nat} {spare : Nat → Bool} {held : Bool}
set_option maxRecDepth 100000 in
theorem trod_Hall (n : Nat) (cs : List Value) (y : DataW H × List MemPlace) (h : DataW.trod enc Try.prog w base spare held n 66 cs = some y) : ∃ x : THall, cs = eHall x ∧ okHall x := by
  obtain ⟨hlen, hf⟩ := struct_cells Try.underlying66 (by kernel_rfl) (by kernel_rfl) h
  obtain ⟨v0, n0, y0, hv0, ht0⟩ := hf 0 _ rfl
  obtain ⟨x0, e0, -, wf0⟩ := DataW.trod_int Try.underlying2 ht0
  simp at e0
  subst e0
  obtain ⟨v1, n1, y1, hv1, ht1⟩ := hf 1 _ rfl
  obtain ⟨x1, e1, -, wf1⟩ := DataW.trod_int Try.underlying2 ht1
  simp at e1
  subst e1
  obtain ⟨v2, n2, y2, hv2, ht2⟩ := hf 2 _ rfl
  obtain ⟨x2, e2, -, wf2⟩ := DataW.trod_int Try.underlying2 ht2
  simp at e2
  subst e2
  refine ⟨(x0, x1, x2), ?_, i64_range wf0, i64_range wf1, i64_range wf2⟩
  have hsz : cs.length = 3 := hlen
  match cs, hsz with
  | [c0, c1, c2], _ =>
    simp at hv0 hv1 hv2
    subst hv0 hv1 hv2
    rfl
end
section
variable {H : Type} {enc : TypeId × Value → H} {w : World} {base : Nat} {spare : Nat → Bool} {held : Bool}
set_option maxRecDepth 100000 in
theorem sl_of_Halls {r : Reach} {b0 : Nat} {v : Value} {d : DataW H} {p : List MemPlace} (hv : Value.okWide Try.prog w r b0 22 v) (h : DataW.Trod enc Try.prog w base spare held 22 v d p) :
    ∃ l : List THall, Sl w 3 v eHall l ∧ ∀ x ∈ l, okHall x := by
  obtain ⟨a, n, c, rfl⟩ := okWide_slice Try.underlying22 hv
  obtain ⟨fuel, hf⟩ := h
  exact sl_of_trod (K := 3) Try.underlying22 (by kernel_rfl) (by omega) trod_Hall (by simpa [Value.cells] using hf)
end
section
variable {H : Type} {enc : TypeId × Value → H} {w : World} {base : Nat} {spare : Nat → Bool} {held : Bool}
set_option maxRecDepth 100000 in
theorem agg_of_Hall {r : Reach} {b0 : Nat} {v : Value} {d : DataW H} {p : List MemPlace} (hv : Value.okWide Try.prog w r b0 66 v) (h : DataW.Trod enc Try.prog w base spare held 66 v d p) :
    ∃ x : THall, v = .agg (eHall x).toArray ∧ okHall x := by
  obtain ⟨cs, rfl, -⟩ := okWide_struct Try.underlying66 hv
  obtain ⟨fuel, hf⟩ := h
  obtain ⟨x, hx, hg⟩ := trod_Hall _ _ _ hf
  exact ⟨x, by rw [← hx]; simp [Value.cells], hg⟩
end

set_option maxHeartbeats 400000 in
theorem toHall (w : World) (a : Int) (b : Int) (c : Int) : Calls Try.prog 52 #[.agg #[.int .i64 a, .int .i64 b, .int .i64 c]] w fun e w' => e = .returned (.agg #[.int .i64 a, .int .i64 b, .int .i64 c]) ∧ Below w.heap.size w w' := by
  go_enter Try.func52, Try.ntmps52
  go_wp2
  refine bodyPost_ret (v := .agg #[.int .i64 a, .int .i64 b, .int .i64 c]) (by simp [results, Try.results52, go_sem]) rfl ⟨rfl, ?_⟩
  repeat (first | exact Below.refl _ _ | refine Below.alloc ?_ (by first | (simp; done) | (simp; omega)) _ | refine Below.setCell ?_ (by first | (simp; done) | (simp; omega)) _ | refine Below.drew ?_)

set_option maxHeartbeats 800000 in
theorem eqHall (w : World) (x y : THall) : Calls Try.prog 58 #[.agg #[.int .i64 x.1, .int .i64 x.2.1, .int .i64 x.2.2], .agg #[.int .i64 y.1, .int .i64 y.2.1, .int .i64 y.2.2]] w fun e w' => e = .returned (.bool (decide (x = y))) ∧ Below w.heap.size w w' := by
  obtain ⟨a, b, c⟩ := x
  obtain ⟨a', b', c'⟩ := y
  by_cases hq : a = a'
  case neg =>
    have k2 : (a != a') = true := by simpa using hq
    have H2 := hd hq
    clear hq
    go_enter Try.func58, Try.ntmps58; go_wp2; go_ret
    refine ⟨by simp [H2.out], ?_⟩
    repeat (first | exact Below.refl _ _ | refine Below.alloc ?_ (by first | (simp; done) | (simp; omega)) _ | refine Below.setCell ?_ (by first | (simp; done) | (simp; omega)) _ | refine Below.drew ?_)
  subst hq
  by_cases hq : b = b'
  case neg =>
    have k2 : (b != b') = true := by simpa using hq
    have H2 := hd hq
    clear hq
    go_enter Try.func58, Try.ntmps58; go_wp2; go_ret
    refine ⟨by simp [H2.out], ?_⟩
    repeat (first | exact Below.refl _ _ | refine Below.alloc ?_ (by first | (simp; done) | (simp; omega)) _ | refine Below.setCell ?_ (by first | (simp; done) | (simp; omega)) _ | refine Below.drew ?_)
  subst hq
  by_cases hq : c = c'
  case neg =>
    have k2 : (c != c') = true := by simpa using hq
    have H2 := hd hq
    clear hq
    go_enter Try.func58, Try.ntmps58; go_wp2; go_ret
    refine ⟨by simp [H2.out], ?_⟩
    repeat (first | exact Below.refl _ _ | refine Below.alloc ?_ (by first | (simp; done) | (simp; omega)) _ | refine Below.setCell ?_ (by first | (simp; done) | (simp; omega)) _ | refine Below.drew ?_)
  subst hq
  go_enter Try.func58, Try.ntmps58; go_wp2; go_ret
  refine ⟨by simp, ?_⟩
  repeat (first | exact Below.refl _ _ | refine Below.alloc ?_ (by first | (simp; done) | (simp; omega)) _ | refine Below.setCell ?_ (by first | (simp; done) | (simp; omega)) _ | refine Below.drew ?_)

theorem calm_eqHall (w : World) (x : Ext w) (a b : THall) : Calls Try.prog 58 #[.agg #[.int .i64 a.1, .int .i64 a.2.1, .int .i64 a.2.2], .agg #[.int .i64 b.1, .int .i64 b.2.1, .int .i64 b.2.2]] (gro w x) fun e w'' => e = .returned (.bool (decide (a = b))) ∧ ∃ y, w'' = gro w y := calm_of (eqHall _ _ _)
set_option maxHeartbeats 800000 in
theorem eqHalls (w : World) (v1 v2 : Value) (l1 l2 : List THall) (h1 : Sl w 3 v1 eHall l1) (h2 : Sl w 3 v2 eHall l2) :
    Calls Try.prog 19 #[v1, v2] w fun e w' => e = .returned (.bool (decide (l1 = l2))) ∧ Below w.heap.size w w' := by
  have m1 := h1.len
  have m2 := h2.len
  obtain ⟨-, A1, c1, rfl, -, -, -⟩ := id h1
  obtain ⟨-, A2, c2, rfl, -, -, -⟩ := id h2
  by_cases hlen : l1.length = l2.length
  · have hb : (((l1.length : Nat) : Int) != ((l2.length : Nat) : Int)) = false := by simp [hlen]
    have HL := hd hlen
    clear hlen
    go_enter Try.func19, Try.ntmps19
    go_wp2
    go_loopw [5] (fun i wr => ∃ k : Nat, k ≤ l1.length ∧ i = .int .i64 k ∧ Below w.heap.size w wr ∧ Hid (l1.take k = l2.take k)) (fun i _ => l1.length - (intOf i).toNat)
    case atStart => exact ⟨0, Nat.zero_le _, rfl, Below.refl _ _, hd (by simp)⟩
    case round =>
      obtain ⟨k, hk, rfl, hbel, HT⟩ := hrel
      by_cases hlt : k < l1.length
      · have hlt2 : k < l2.length := HL.out ▸ hlt
        obtain ⟨a1, o1, rfl, -, p0, p1, p2⟩ := (h1.below hbel).Hall_at hlt
        obtain ⟨a2, o2, rfl, -, q0, q1, q2⟩ := (h2.below hbel).Hall_at hlt2
        have gp0 := gro_cell p0
        have gq0 := gro_cell q0
        have gp1 := gro_cell p1
        have gq1 := gro_cell q1
        have gp2 := gro_cell p2
        have gq2 := gro_cell q2
        go_wp2_with fail
        refine wp_region_calm (by kernel_rfl) (by kernel_rfl) ?_
        repeat (first | go_big_quiet_step ((go_at_call 58; exact calm_eqHall _ _ _ _)) | quiet_step ((go_at_call 58; exact calm_eqHall _ _ _ _)))
        refine wpQuiet_nil ?_
        rintro w1 ⟨x, rfl⟩
        have hb1 := below_step hbel (gro_below x)
        go_wp2_with fail
        · have hne : (!decide (l1[k] = l2[k])) = true := by assumption
          go_ret
          refine ⟨?_, hb1⟩
          have : l1 ≠ l2 := by rintro rfl; simp at hne
          simp [this]
        · have heq : (!decide (l1[k] = l2[k])) = false := by assumption
          go_roundw
          case rel => exact ⟨k + 1, by omega, by go_num, hb1, hd (by rw [List.take_succ_eq_append_getElem hlt, List.take_succ_eq_append_getElem hlt2, HT.out]; simp at heq; rw [heq])⟩
          case measure => simp [intOf]; omega
      · go_wp2
        go_ret
        refine ⟨?_, hbel⟩
        have h3 := HT.out
        rw [List.take_of_length_le (by omega), List.take_of_length_le (by have := HL.out; omega)] at h3
        simp [h3]
  · have hb : (((l1.length : Nat) : Int) != ((l2.length : Nat) : Int)) = true := by simp; omega
    have HL := hd hlen
    clear hlen
    go_enter Try.func19, Try.ntmps19
    go_wp2
    go_ret
    refine ⟨?_, Below.refl _ _⟩
    have : l1 ≠ l2 := by rintro rfl; exact HL.out rfl
    simp [this]

theorem info_Hall : (Try.prog.info? 64).map (fun i => (i.zero, i.size, i.bytes)) = some (some (.agg #[.int .i64 0, .int .i64 0, .int .i64 0]), 3, 24) := by kernel_rfl

set_option maxHeartbeats 800000 in
theorem toHalls (w : World) (v : Value) (l : List THall) (h : Sl w 3 v eHall l) (hl : l.length ≤ 1048576) :
    Calls Try.prog 16 #[v] w (GivesOwn w 64 3 eHall l) := by
  obtain ⟨-, A, c, rfl, -, -, -⟩ := id h
  obtain ⟨i0, hi, hz0, hz1, hz2⟩ := info_parts info_Hall
  go_enter Try.func16, Try.ntmps16
  go_wp2_with (first | (at_make; refine wpList_make_full _ rfl _ _ 30 rfl w.heap.size 64 i0 (.agg #[.int .i64 0, .int .i64 0, .int .i64 0]) 3 Try.underlying30 hi hz0 hz1 .i64 .i64 _ _ l.length rfl rfl rfl rfl (by rw [hz2]; omega) (by unfold maxLen; omega) (Nat.le_refl _) ?_))
  intro w1 hown hgr
  have H0 : CopyTo w 64 3 (.slice (some ⟨w.heap.size, 0, none⟩) l.length l.length) l.length eHall l 0 w1 := ⟨_, hown, by simp, below_of_grown hgr (Nat.le_refl _) (by simp)⟩
  clear hown hgr hi hz0 hz1 hz2
  go_wp2
  go_loopw [4] (fun i wr => ∃ k : Nat, k ≤ l.length ∧ i = .int .i64 k ∧ CopyTo w 64 3 (.slice (some ⟨w.heap.size, 0, none⟩) l.length l.length) l.length eHall l k wr) (fun i _ => l.length - (intOf i).toNat)
  case atStart => exact ⟨0, Nat.zero_le _, rfl, H0⟩
  case round =>
    obtain ⟨k, hk, rfl, H⟩ := hrel
    clear H0
    by_cases hlt : k < l.length
    · obtain ⟨ys, hown, hys, hbel⟩ := H
      obtain ⟨b, o, rfl, hb, p0, p1, p2⟩ := (h.below hbel).Hall_at hlt
      have hy1 := hown.1
      go_wp2_with fail
      refine (toHall _ _ _ _).mono ?_
      rintro e w2 ⟨rfl, hb1⟩
      have hb2 := below_step hbel hb1
      have hown1 := hown.kept (grownBy_of_below hb1 none) (.inr (by simp [Value.ownBlock]))
      clear hown
      have hky0 : k * 3 < ys.length := by omega
      have r0 := hown1.cellAt (k * 3) (by omega)
      rw [List.getElem?_eq_getElem hky0] at r0
      have f0 := hown1.frozenAt (k * 3)
      have hky1 : k * 3 + 1 < ys.length := by omega
      have r1 := hown1.cellAt (k * 3 + 1) (by omega)
      rw [List.getElem?_eq_getElem hky1] at r1
      have f1 := hown1.frozenAt (k * 3 + 1)
      have hky2 : k * 3 + 2 < ys.length := by omega
      have r2 := hown1.cellAt (k * 3 + 2) (by omega)
      rw [List.getElem?_eq_getElem hky2] at r2
      have f2 := hown1.frozenAt (k * 3 + 2)
      go_wp2_with fail
      go_roundw
      case rel =>
          have st0 := hown1.stored (k * 3) (.int .i64 l[k].1)
          have st1 := st0.1.stored (k * 3 + 1) (.int .i64 l[k].2.1)
          have st2 := st1.1.stored (k * 3 + 2) (.int .i64 l[k].2.2)
          refine ⟨k + 1, by omega, by go_num, _, st2.1, ?_, (((hb2.setCell (Nat.le_refl _) _).setCell (Nat.le_refl _) _).setCell (Nat.le_refl _) _)⟩
          rw [flatMap_snoc _ _ _ hlt, Nat.succ_mul]
          have := take_set_snoc (take_set_snoc (take_set_snoc hys hky0 (.int .i64 l[k].1)) (by simp; omega) (.int .i64 l[k].2.1)) (by simp; omega) (.int .i64 l[k].2.2)
          simpa [eHall, List.append_assoc] using this
      case measure => simp [intOf]; omega
    · go_wp2_with fail
      go_ret
      obtain ⟨ys, hown, hys, hbel⟩ := H
      have hkl : k = l.length := by omega
      refine ⟨_, rfl, ?_, hbel⟩
      unfold Own
      have e1 : ys = l.flatMap eHall := by
        rw [hkl, List.take_of_length_le (by rw [hown.1]; exact Nat.le_refl _), List.take_length] at hys
        exact hys
      rw [← e1]
      exact hown

theorem szHalls_yes (w : World) (v : Value) (l : List THall) (h : Sl w 3 v eHall l) (left : Int) (h0 : 0 ≤ left) (h1 : left ≤ 1048576) (hle : (l.length : Int) ≤ left) :
    Calls Try.prog 13 #[v, .int .i64 left] w fun e w' => e = .returned (.int .i64 (left - (l.length : Int))) ∧ w' = w := by
  have m1 := h.len
  obtain ⟨-, A, c, rfl, -, -, -⟩ := h
  go_enter Try.func13, Try.ntmps13
  go_wp2
  go_ret
  exact ⟨rfl, rfl⟩

theorem szHalls_no (w : World) (v : Value) (l : List THall) (h : Sl w 3 v eHall l) (left : Int) (h0 : 0 ≤ left) (h1 : left ≤ 1048576) (hle : left < (l.length : Int)) :
    Calls Try.prog 13 #[v, .int .i64 left] w fun e w' => e = .returned (.int .i64 (-1)) ∧ w' = w := by
  have m1 := h.len
  obtain ⟨-, A, c, rfl, -, -, -⟩ := h
  go_enter Try.func13, Try.ntmps13
  go_wp2
  go_ret
  exact ⟨rfl, rfl⟩

/-- the marks from k on -/
def marksHall (k : Int) (n : Nat) : List THall := (List.range n).map fun (i : Nat) => (k + 3 * (i : Int), k + 3 * (i : Int) + 1, k + 3 * (i : Int) + 1 + 1)
theorem marksHall_len (k : Int) (n : Nat) : (marksHall k n).length = n := by simp [marksHall]
theorem marksHall_get (k : Int) (n i : Nat) (h : i < (marksHall k n).length) : (marksHall k n)[i] = (k + 3 * (i : Int), k + 3 * (i : Int) + 1, k + 3 * (i : Int) + 1 + 1) := by simp [marksHall]

set_option maxHeartbeats 800000 in
theorem markHalls (w : World) (B : Nat) (E : TypeId) (v : Value) (l : List THall) (h : Own w B E 3 v eHall l) (k : Int) (h0 : 0 ≤ k) (hk : k + 3 * (l.length : Int) ≤ 4611686018427387904) :
    Calls Try.prog 35 #[v, .int .i64 k] w fun e w' => e = .returned (.int .i64 (k + 3 * (l.length : Int))) ∧ Own w' B E 3 v eHall (marksHall k l.length) ∧ w.grownBy w' v.ownBlock := by
  have hfin : ∀ wr, MarkTo w B E 3 v l.length eHall (marksHall k l.length) l.length wr → Own wr B E 3 v eHall (marksHall k l.length) ∧ w.grownBy wr v.ownBlock := by
    rintro wr ⟨ys, hown, hys, hgr⟩
    refine ⟨?_, hgr⟩
    unfold Own
    rw [marksHall_len]
    have e1 : ys = (marksHall k l.length).flatMap eHall := by
      rw [List.take_of_length_le (by rw [hown.1]; exact Nat.le_refl _)] at hys
      rw [hys]
      have := marksHall_len k l.length
      rw [List.take_of_length_le (by omega)]
    rw [← e1]
    exact hown
  have H0 : MarkTo w B E 3 v l.length eHall (marksHall k l.length) 0 w := ⟨_, h, by simp, World.grownBy.refl _ _⟩
  have HF := hd hfin
  clear hfin
  rcases h.form with ⟨rfl, rfl⟩ | ⟨g, cap, rfl, hBg, hgw, hlc, hcm⟩
  · go_enter Try.func35, Try.ntmps35
    go_wp2
    go_loopw [1, 5] (fun kk i wr => wr = w ∧ kk = .int .i64 k ∧ i = .int .i64 0) (fun _ _ _ => 0)
    case atStart => exact ⟨rfl, rfl, rfl⟩
    case round =>
      obtain ⟨rfl, rfl, rfl⟩ := hrel
      go_wp2
      go_ret
      exact ⟨by simp, HF.out _ H0⟩
  · go_enter Try.func35, Try.ntmps35
    go_wp2
    go_loopw [1, 5] (fun kk i wr => ∃ j : Nat, j ≤ l.length ∧ i = .int .i64 j ∧ kk = .int .i64 (k + 3 * (j : Int)) ∧ MarkTo w B E 3 (.slice (some ⟨g, 0, none⟩) l.length cap) l.length eHall (marksHall k l.length) j wr) (fun _ i _ => l.length - (intOf i).toNat)
    case atStart => exact ⟨0, Nat.zero_le _, rfl, by simp, H0⟩
    case round =>
      obtain ⟨j, hj, rfl, rfl, H⟩ := hrel
      clear H0
      by_cases hlt : j < l.length
      · obtain ⟨ys, hown, hys, hgr⟩ := H
        have hy1 := hown.1
        have hky0 : j * 3 < ys.length := by omega
        have r0 := hown.cellAt (j * 3) (by omega)
        rw [List.getElem?_eq_getElem hky0] at r0
        have f0 := hown.frozenAt (j * 3)
        have hky1 : j * 3 + 1 < ys.length := by omega
        have r1 := hown.cellAt (j * 3 + 1) (by omega)
        rw [List.getElem?_eq_getElem hky1] at r1
        have f1 := hown.frozenAt (j * 3 + 1)
        have hky2 : j * 3 + 2 < ys.length := by omega
        have r2 := hown.cellAt (j * 3 + 2) (by omega)
        rw [List.getElem?_eq_getElem hky2] at r2
        have f2 := hown.frozenAt (j * 3 + 2)
        go_wp2
        go_roundw
        case rel =>
          have st0 := hown.stored (j * 3) (.int .i64 (k + 3 * (j : Int)))
          have st1 := st0.1.stored (j * 3 + 1) (.int .i64 (k + 3 * (j : Int) + 1))
          have st2 := st1.1.stored (j * 3 + 2) (.int .i64 (k + 3 * (j : Int) + 1 + 1))
          refine ⟨j + 1, by omega, by go_num, by go_num, _, st2.1, ?_, grownBy_trans hgr (grownBy_trans (grownBy_trans st0.2 st1.2) st2.2)⟩
          have hjm : j < (marksHall k l.length).length := by rw [marksHall_len]; exact hlt
          rw [flatMap_snoc _ _ _ hjm, marksHall_get, Nat.succ_mul]
          have := take_set_snoc (take_set_snoc (take_set_snoc hys hky0 (.int .i64 (k + 3 * (j : Int)))) (by simp; omega) (.int .i64 (k + 3 * (j : Int) + 1))) (by simp; omega) (.int .i64 (k + 3 * (j : Int) + 1 + 1))
          simpa [eHall, List.append_assoc] using this
        case measure => simp [intOf]; omega
      · go_wp2
        go_ret
        have hjl : j = l.length := by omega
        subst hjl
        exact ⟨rfl, HF.out _ H⟩

end Go.Proofs.Ytmflfealodgdeaa
