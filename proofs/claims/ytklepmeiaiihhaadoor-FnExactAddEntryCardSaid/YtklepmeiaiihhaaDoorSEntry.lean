/- Contracts of the laws' helpers on []Entry: a copy, a comparison, marks. No condition but that the slice reads. -/
import Derived.Test.YtklepmeiaiihhaaDoorStrs
namespace Go.Proofs.YtklepmeiaiihhaaDoor
open Go Go.RowKit Go.ChangeShapes Go.WideShapes
set_option linter.unusedSimpArgs false
set_option linter.unusedVariables false

abbrev TEntry := Int × ByteArray × Int
def eEntry (x : TEntry) : List Value := [.int .i64 x.1, .string x.2.1, .int .i64 x.2.2]
theorem eEntry_len (x : TEntry) : (eEntry x).length = 3 := rfl

theorem Sl.Entry_at {w : World} {A : Option Addr} {n c : Nat} {l : List TEntry} (h : Sl w 3 (.slice A n c) eEntry l) {i : Nat} (hi : i < l.length) :
    ∃ b o, A = some ⟨b, o, none⟩ ∧ b < w.heap.size ∧ w.cell? ⟨b, o + i * 3, none⟩ = some (.int .i64 l[i].1) ∧ w.cell? ⟨b, o + i * 3 + 1, none⟩ = some (.string l[i].2.1) ∧ w.cell? ⟨b, o + i * 3 + 2, none⟩ = some (.int .i64 l[i].2.2) := by
  obtain ⟨b, o, x, hx, hA, hb, hc⟩ := h.at_ hi
  have : x = l[i] := by rw [List.getElem?_eq_getElem hi] at hx; exact (Option.some.inj hx).symm
  subst this
  exact ⟨b, o, hA, hb, hc 0 _ rfl, hc 1 _ rfl, hc 2 _ rfl⟩

def okEntry (x : TEntry) : Prop := (-9223372036854775808 ≤ x.1 ∧ x.1 ≤ 9223372036854775807) ∧ x.2.1.size ≤ maxLen ∧ (-9223372036854775808 ≤ x.2.2 ∧ x.2.2 ≤ 9223372036854775807)

section
variable {H : Type} {enc : TypeId × Value → H} {w : World} {base : Nat} {spare : Nat → Bool} {held : Bool}
set_option maxRecDepth 100000 in
theorem trod_Entry (n : Nat) (cs : List Value) (y : DataW H × List MemPlace) (h : DataW.trod enc Tryd.prog w base spare held n 53 cs = some y) : ∃ x : TEntry, cs = eEntry x ∧ okEntry x := by
  obtain ⟨hlen, hf⟩ := struct_cells Tryd.underlying53 (by kernel_rfl) (by kernel_rfl) h
  obtain ⟨v0, n0, y0, hv0, ht0⟩ := hf 0 _ rfl
  obtain ⟨x0, e0, -, wf0⟩ := DataW.trod_int Tryd.underlying2 ht0
  simp at e0
  subst e0
  obtain ⟨v1, n1, y1, hv1, ht1⟩ := hf 1 _ rfl
  obtain ⟨x1, e1, -, wf1⟩ := DataW.trod_string Tryd.underlying9 ht1
  simp at e1
  subst e1
  obtain ⟨v2, n2, y2, hv2, ht2⟩ := hf 2 _ rfl
  obtain ⟨x2, e2, -, wf2⟩ := DataW.trod_int Tryd.underlying2 ht2
  simp at e2
  subst e2
  refine ⟨(x0, x1, x2), ?_, i64_range wf0, wf1, i64_range wf2⟩
  have hsz : cs.length = 3 := hlen
  match cs, hsz with
  | [c0, c1, c2], _ =>
    simp at hv0 hv1 hv2
    subst hv0 hv1 hv2
    rfl
end
section
variable {H : Type} {enc : TypeId × Value → H} {w : World} {base : Nat} {spare : Nat → Bool} {held : Bool}
set_option maxRecDepth 100000 in
theorem agg_of_Entry {r : Reach} {b0 : Nat} {v : Value} {d : DataW H} {p : List MemPlace} (hv : Value.okWide Tryd.prog w r b0 53 v) (h : DataW.Trod enc Tryd.prog w base spare held 53 v d p) :
    ∃ x : TEntry, v = .agg (eEntry x).toArray ∧ okEntry x := by
  obtain ⟨cs, rfl, -⟩ := okWide_struct Tryd.underlying53 hv
  obtain ⟨fuel, hf⟩ := h
  obtain ⟨x, hx, hg⟩ := trod_Entry _ _ _ hf
  exact ⟨x, by rw [← hx]; simp [Value.cells], hg⟩
end

set_option maxHeartbeats 400000 in
theorem toEntry (w : World) (a : Int) (b : ByteArray) (c : Int) : Calls Tryd.prog 40 #[.agg #[.int .i64 a, .string b, .int .i64 c]] w fun e w' => e = .returned (.agg #[.int .i64 a, .string b, .int .i64 c]) ∧ Below w.heap.size w w' := by
  go_enter Tryd.func40, Tryd.ntmps40
  go_wp2
  refine bodyPost_ret (v := .agg #[.int .i64 a, .string b, .int .i64 c]) (by simp [results, Tryd.results40, go_sem]) rfl ⟨rfl, ?_⟩
  repeat (first | exact Below.refl _ _ | refine Below.alloc ?_ (by first | (simp; done) | (simp; omega)) _ | refine Below.setCell ?_ (by first | (simp; done) | (simp; omega)) _ | refine Below.drew ?_)

set_option maxHeartbeats 800000 in
theorem eqEntry (w : World) (x y : TEntry) : Calls Tryd.prog 62 #[.agg #[.int .i64 x.1, .string x.2.1, .int .i64 x.2.2], .agg #[.int .i64 y.1, .string y.2.1, .int .i64 y.2.2]] w fun e w' => e = .returned (.bool (decide (x = y))) ∧ Below w.heap.size w w' := by
  obtain ⟨a, b, c⟩ := x
  obtain ⟨a', b', c'⟩ := y
  by_cases hq : a = a'
  case neg =>
    have k2 : (a != a') = true := by simpa using hq
    have H2 := hd hq
    clear hq
    go_enter Tryd.func62, Tryd.ntmps62; go_wp2; go_ret
    refine ⟨by simp [H2.out], ?_⟩
    repeat (first | exact Below.refl _ _ | refine Below.alloc ?_ (by first | (simp; done) | (simp; omega)) _ | refine Below.setCell ?_ (by first | (simp; done) | (simp; omega)) _ | refine Below.drew ?_)
  subst hq
  by_cases hq : b = b'
  case neg =>
    have k2 : (b.toList == b'.toList) = false := beq_eq_false_iff_ne.2 (fun e => hq (bytes_of_toList e))
    have H2 := hd hq
    clear hq
    go_enter Tryd.func62, Tryd.ntmps62; go_wp2; go_ret
    refine ⟨by simp [H2.out], ?_⟩
    repeat (first | exact Below.refl _ _ | refine Below.alloc ?_ (by first | (simp; done) | (simp; omega)) _ | refine Below.setCell ?_ (by first | (simp; done) | (simp; omega)) _ | refine Below.drew ?_)
  subst hq
  by_cases hq : c = c'
  case neg =>
    have k2 : (c != c') = true := by simpa using hq
    have H2 := hd hq
    clear hq
    go_enter Tryd.func62, Tryd.ntmps62; go_wp2; go_ret
    refine ⟨by simp [H2.out], ?_⟩
    repeat (first | exact Below.refl _ _ | refine Below.alloc ?_ (by first | (simp; done) | (simp; omega)) _ | refine Below.setCell ?_ (by first | (simp; done) | (simp; omega)) _ | refine Below.drew ?_)
  subst hq
  go_enter Tryd.func62, Tryd.ntmps62; go_wp2; go_ret
  refine ⟨by simp, ?_⟩
  repeat (first | exact Below.refl _ _ | refine Below.alloc ?_ (by first | (simp; done) | (simp; omega)) _ | refine Below.setCell ?_ (by first | (simp; done) | (simp; omega)) _ | refine Below.drew ?_)

theorem calm_eqEntry (w : World) (x : Ext w) (a b : TEntry) : Calls Tryd.prog 62 #[.agg #[.int .i64 a.1, .string a.2.1, .int .i64 a.2.2], .agg #[.int .i64 b.1, .string b.2.1, .int .i64 b.2.2]] (gro w x) fun e w'' => e = .returned (.bool (decide (a = b))) ∧ ∃ y, w'' = gro w y := calm_of (eqEntry _ _ _)
set_option maxHeartbeats 800000 in
theorem eqEntrys (w : World) (v1 v2 : Value) (l1 l2 : List TEntry) (h1 : Sl w 3 v1 eEntry l1) (h2 : Sl w 3 v2 eEntry l2) :
    Calls Tryd.prog 28 #[v1, v2] w fun e w' => e = .returned (.bool (decide (l1 = l2))) ∧ Below w.heap.size w w' := by
  have m1 := h1.len
  have m2 := h2.len
  obtain ⟨-, A1, c1, rfl, -, -, -⟩ := id h1
  obtain ⟨-, A2, c2, rfl, -, -, -⟩ := id h2
  by_cases hlen : l1.length = l2.length
  · have hb : (((l1.length : Nat) : Int) != ((l2.length : Nat) : Int)) = false := by simp [hlen]
    have HL := hd hlen
    clear hlen
    go_enter Tryd.func28, Tryd.ntmps28
    go_wp2
    go_loopw [5] (fun i wr => ∃ k : Nat, k ≤ l1.length ∧ i = .int .i64 k ∧ Below w.heap.size w wr ∧ Hid (l1.take k = l2.take k)) (fun i _ => l1.length - (intOf i).toNat)
    case atStart => exact ⟨0, Nat.zero_le _, rfl, Below.refl _ _, hd (by simp)⟩
    case round =>
      obtain ⟨k, hk, rfl, hbel, HT⟩ := hrel
      by_cases hlt : k < l1.length
      · have hlt2 : k < l2.length := HL.out ▸ hlt
        obtain ⟨a1, o1, rfl, -, p0, p1, p2⟩ := (h1.below hbel).Entry_at hlt
        obtain ⟨a2, o2, rfl, -, q0, q1, q2⟩ := (h2.below hbel).Entry_at hlt2
        have gp0 := gro_cell p0
        have gq0 := gro_cell q0
        have gp1 := gro_cell p1
        have gq1 := gro_cell q1
        have gp2 := gro_cell p2
        have gq2 := gro_cell q2
        go_wp2_with fail
        refine wp_region_calm (by kernel_rfl) (by kernel_rfl) ?_
        repeat (first | go_big_quiet_step ((go_at_call 62; exact calm_eqEntry _ _ _ _)) | quiet_step ((go_at_call 62; exact calm_eqEntry _ _ _ _)))
        refine wpQuiet_nil ?_
        rintro w1 ⟨x, rfl⟩
        have hb1 := below_step hbel (gro_below x)
        go_wp2_with fail
        · have hne : (!decide (l1[k] = l2[k])) = true := by assumption
          go_ret
          refine ⟨?_, hb1⟩
          have : l1 ≠ l2 := by rintro rfl; simp at hne
          simp [this]
        · have heq : (!decide (l1[k] = l2[k])) = false := by assumption
          go_roundw
          case rel => exact ⟨k + 1, by omega, by go_num, hb1, hd (by rw [List.take_succ_eq_append_getElem hlt, List.take_succ_eq_append_getElem hlt2, HT.out]; simp at heq; rw [heq])⟩
          case measure => simp [intOf]; omega
      · go_wp2
        go_ret
        refine ⟨?_, hbel⟩
        have h3 := HT.out
        rw [List.take_of_length_le (by omega), List.take_of_length_le (by have := HL.out; omega)] at h3
        simp [h3]
  · have hb : (((l1.length : Nat) : Int) != ((l2.length : Nat) : Int)) = true := by simp; omega
    have HL := hd hlen
    clear hlen
    go_enter Tryd.func28, Tryd.ntmps28
    go_wp2
    go_ret
    refine ⟨?_, Below.refl _ _⟩
    have : l1 ≠ l2 := by rintro rfl; exact HL.out rfl
    simp [this]

theorem info_Entry : (Tryd.prog.info? 57).map (fun i => (i.zero, i.size, i.bytes)) = some (some (.agg #[.int .i64 0, .string ByteArray.empty, .int .i64 0]), 3, 32) := by kernel_rfl

theorem szEntry_yes (w : World) (a : Int) (b : ByteArray) (c : Int) (left : Int) (hm : b.size ≤ 9223372036854775807) (h0 : 0 ≤ left) (h1 : left ≤ 1048576) (hle : (b.size : Int) ≤ left) :
    Calls Tryd.prog 38 #[.agg #[.int .i64 a, .string b, .int .i64 c], .int .i64 left] w fun e w' => e = .returned (.int .i64 (left - (b.size : Int))) ∧ Below w.heap.size w w' := by
  go_enter Tryd.func38, Tryd.ntmps38
  go_wp2_with fail
  go_ret
  exact ⟨rfl, (Below.refl _ _).alloc (Nat.le_refl _) _⟩

theorem szEntry_no (w : World) (a : Int) (b : ByteArray) (c : Int) (left : Int) (hm : b.size ≤ 9223372036854775807) (h0 : 0 ≤ left) (h1 : left ≤ 1048576) (hle : left < (b.size : Int)) :
    Calls Tryd.prog 38 #[.agg #[.int .i64 a, .string b, .int .i64 c], .int .i64 left] w fun e w' => e = .returned (.int .i64 (-1)) ∧ Below w.heap.size w w' := by
  go_enter Tryd.func38, Tryd.ntmps38
  go_wp2_with fail
  go_ret
  exact ⟨rfl, (Below.refl _ _).alloc (Nat.le_refl _) _⟩

def sumEntry (l : List TEntry) : Nat := (l.map fun x => x.2.1.size).sum
theorem sumEntry_snoc (l : List TEntry) (k : Nat) (h : k < l.length) : sumEntry (l.take (k + 1)) = sumEntry (l.take k) + l[k].2.1.size := by
  unfold sumEntry
  rw [List.take_succ_eq_append_getElem h, List.map_append, List.sum_append]
  simp
theorem sumEntry_le (l : List TEntry) (k : Nat) : sumEntry (l.take k) ≤ sumEntry l := by
  have h : sumEntry l = sumEntry (l.take k) + sumEntry (l.drop k) := by
    unfold sumEntry
    rw [← List.sum_append, ← List.map_append, List.take_append_drop]
  omega
def totEntry (l : List TEntry) : Nat := l.length + sumEntry l
def szREntry (l : List TEntry) (left : Int) : Int := if (totEntry l : Int) ≤ left then left - (totEntry l : Int) else -1
theorem szREntry_yes {l : List TEntry} {left : Int} (h : (totEntry l : Int) ≤ left) : szREntry l left = left - (totEntry l : Int) := if_pos h
theorem szREntry_no {l : List TEntry} {left : Int} (h : left < (totEntry l : Int)) : szREntry l left = -1 := if_neg (by omega)
theorem szREntry_part {l : List TEntry} {left : Int} {k : Nat} (h : left < (l.length : Int) + (sumEntry (l.take k) : Int)) : szREntry l left = -1 := by
  refine szREntry_no ?_
  have := sumEntry_le l k
  unfold totEntry
  omega
theorem szREntry_all {l : List TEntry} {left : Int} {k : Nat} (hk : ¬ k < l.length) (h : (l.length : Int) + (sumEntry (l.take k) : Int) ≤ left) : left - (l.length : Int) - (sumEntry (l.take k) : Int) = szREntry l left := by
  rw [List.take_of_length_le (by omega)] at h ⊢
  rw [szREntry_yes (by unfold totEntry; omega)]
  unfold totEntry
  omega
/-- the marks from k on -/
def marksEntry (k n : Nat) : List TEntry := (List.range n).map fun (i : Nat) => (((k + 3 * i : Nat) : Int), markB (k + 3 * i + 1), ((k + 3 * i + 1 + 1 : Nat) : Int))
theorem marksEntry_len (k n : Nat) : (marksEntry k n).length = n := by simp [marksEntry]
theorem marksEntry_get (k n i : Nat) (h : i < (marksEntry k n).length) : (marksEntry k n)[i] = (((k + 3 * i : Nat) : Int), markB (k + 3 * i + 1), ((k + 3 * i + 1 + 1 : Nat) : Int)) := by simp [marksEntry]
set_option maxHeartbeats 1600000 in
theorem markEntrys (w : World) (B : Nat) (E : TypeId) (v : Value) (l : List TEntry) (h : Own w B E 3 v eEntry l) (k : Nat) (hk : k + 3 * l.length ≤ 4611686018427387904) :
    Calls Tryd.prog 29 #[v, .int .i64 k] w fun e w' => e = .returned (.int .i64 ((k + 3 * l.length : Nat) : Int)) ∧ Own w' B E 3 v eEntry (marksEntry k l.length) ∧ w.grownBy w' v.ownBlock := by
  have hfin : ∀ wr, MarkTo w B E 3 v l.length eEntry (marksEntry k l.length) l.length wr → Own wr B E 3 v eEntry (marksEntry k l.length) ∧ w.grownBy wr v.ownBlock := by
    rintro wr ⟨ys, hown, hys, hgr⟩
    refine ⟨?_, hgr⟩
    unfold Own
    rw [marksEntry_len]
    have e1 : ys = (marksEntry k l.length).flatMap eEntry := by
      rw [List.take_of_length_le (by rw [hown.1]; exact Nat.le_refl _)] at hys
      rw [hys]
      have := marksEntry_len k l.length
      rw [List.take_of_length_le (by omega)]
    rw [← e1]
    exact hown
  have H0 : MarkTo w B E 3 v l.length eEntry (marksEntry k l.length) 0 w := ⟨_, h, by simp, World.grownBy.refl _ _⟩
  have HF := hd hfin
  clear hfin
  rcases h.form with ⟨rfl, rfl⟩ | ⟨g, cap, rfl, hBg, hgw, hlc, hcm⟩
  · go_enter Tryd.func29, Tryd.ntmps29
    go_wp2
    go_loopw [1, 5] (fun kk i wr => wr = w ∧ kk = .int .i64 k ∧ i = .int .i64 0) (fun _ _ _ => 0)
    case atStart => exact ⟨rfl, rfl, rfl⟩
    case round =>
      obtain ⟨rfl, rfl, rfl⟩ := hrel
      go_wp2
      go_ret
      exact ⟨by simp, HF.out _ H0⟩
  · have hlen := h.1
    go_enter Tryd.func29, Tryd.ntmps29
    go_wp2
    go_loopw [1, 5] (fun kk i wr => ∃ j : Nat, j ≤ l.length ∧ i = .int .i64 j ∧ kk = .int .i64 ((k + 3 * j : Nat) : Int) ∧ MarkTo w B E 3 (.slice (some ⟨g, 0, none⟩) l.length cap) l.length eEntry (marksEntry k l.length) j wr) (fun _ i _ => l.length - (intOf i).toNat)
    case atStart => exact ⟨0, Nat.zero_le _, rfl, rfl, H0⟩
    case round =>
      obtain ⟨j, hj, rfl, rfl, H⟩ := hrel
      clear H0
      by_cases hlt : j < l.length
      · obtain ⟨ys, hown0, hys, hgr0⟩ := H
        have hy1 := hown0.1
        have hky0 : j * 3 < ys.length := by omega
        have hky1 : j * 3 + 1 < ys.length := by omega
        have hky2 : j * 3 + 2 < ys.length := by omega
        have r0 := hown0.cellAt (j * 3) (by omega)
        rw [List.getElem?_eq_getElem hky0] at r0
        have f0 := hown0.frozenAt (j * 3)
        go_wp2_with fail
        have st0 := hown0.stored (j * 3) (.int .i64 ((k + 3 * j : Nat) : Int))
        refine (markText _ (k + 3 * j + 1) (by omega)).mono ?_
        rintro e w2 ⟨rfl, hb2⟩
        have hown1 := World.ownsRow.kept st0.1 (grownBy_of_below hb2 none) (Or.inr (by simp [Value.ownBlock]))
        have hgr1 := grownBy_trans (grownBy_trans hgr0 st0.2) (grownBy_of_below hb2 _)
        clear hown0 hgr0 r0 f0 st0
        have r1 := hown1.cellAt (j * 3 + 1) (by omega)
        rw [List.getElem?_eq_getElem (by simp; omega)] at r1
        have f1 := hown1.frozenAt (j * 3 + 1)
        have r2 := hown1.cellAt (j * 3 + 2) (by omega)
        rw [List.getElem?_eq_getElem (by simp; omega)] at r2
        have f2 := hown1.frozenAt (j * 3 + 2)
        go_wp2_with fail
        go_roundw
        case rel =>
          have st1 := hown1.stored (j * 3 + 1) (.string (markB (k + 3 * j + 1)))
          have st2 := st1.1.stored (j * 3 + 2) (.int .i64 ((k + 3 * j + 1 + 1 : Nat) : Int))
          refine ⟨j + 1, by omega, by go_num, by go_num, _, st2.1, ?_, (grownBy_trans (grownBy_trans hgr1 st1.2) st2.2)⟩
          have hjm : j < (marksEntry k l.length).length := by rw [marksEntry_len]; exact hlt
          rw [flatMap_snoc _ _ _ hjm, marksEntry_get, Nat.succ_mul]
          have := take_set_snoc (take_set_snoc (take_set_snoc hys hky0 (.int .i64 ((k + 3 * j : Nat) : Int))) (by simp; omega) (.string (markB (k + 3 * j + 1)))) (by simp; omega) (.int .i64 ((k + 3 * j + 1 + 1 : Nat) : Int))
          simpa [eEntry, List.append_assoc] using this
        case measure => simp [intOf]; omega
      · go_wp2
        go_ret
        have hjl : j = l.length := by omega
        subst hjl
        exact ⟨rfl, HF.out _ H⟩

set_option maxHeartbeats 1600000 in
theorem heldEntrys (w : World) (v : Value) (k n : Nat) (h : Sl w 3 v eEntry (marksEntry k n)) (hk : k + 3 * n ≤ 4611686018427387904) :
    Calls Tryd.prog 30 #[v, .int .i64 k] w fun e w' => e = .returned (.int .i64 ((k + 3 * n : Nat) : Int)) ∧ Below w.heap.size w w' := by
  have hlen := marksEntry_len k n
  obtain ⟨-, A, c, hv, -, -, -⟩ := id h
  rw [hlen] at hv
  subst hv
  have HL := hd hlen
  clear hlen
  go_enter Tryd.func30, Tryd.ntmps30
  go_wp2
  go_loopw [1, 5] (fun kk i wr => ∃ j : Nat, j ≤ n ∧ i = .int .i64 j ∧ kk = .int .i64 ((k + 3 * j : Nat) : Int) ∧ Below w.heap.size w wr) (fun _ i _ => n - (intOf i).toNat)
  case atStart => exact ⟨0, Nat.zero_le _, rfl, rfl, Below.refl _ _⟩
  case round =>
    obtain ⟨j, hj, rfl, rfl, hbel⟩ := hrel
    by_cases hlt : j < n
    · obtain ⟨b, o, rfl, hb, p0, p1, p2⟩ := (h.below hbel).Entry_at (i := j) (by rw [HL.out]; exact hlt)
      rw [marksEntry_get] at p0 p1 p2
      dsimp only at p0 p1 p2
      have g0 := gro_cell p0
      have g1 := gro_cell p1
      have g2 := gro_cell p2
      go_wp2_with fail
      refine wp_region_calm (by kernel_rfl) (by kernel_rfl) ?_
      repeat (first | go_big_quiet_step ((first | (go_at_call 63; exact calm_of (markText _ (k + 3 * j + 1) (by omega))))) | quiet_step ((first | (go_at_call 63; exact calm_of (markText _ (k + 3 * j + 1) (by omega))))))
      refine wpQuiet_nil ?_
      rintro w1 ⟨xw, rfl⟩
      have hb1 := below_step hbel (gro_below xw)
      go_wp2_with fail
      go_roundw
      case rel => exact ⟨j + 1, by omega, by go_num, by go_num, hb1⟩
      case measure => simp [intOf]; omega
    · go_wp2
      go_ret
      have hjl : j = n := by omega
      subst hjl
      exact ⟨rfl, hbel⟩

end Go.Proofs.YtklepmeiaiihhaaDoor
