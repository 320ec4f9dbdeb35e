/- Lemmas for the claim (the walks of its functions and their plain laws), joined. No condition. -/
import Derived.Test.YtgcodjkjdfahdaaGreatDoorJ4
namespace Go.Proofs.YtgcodjkjdfahdaaGreatDoor
open Go Go.RowKit Go.ChangeShapes Go.WideShapes
set_option linter.unusedSimpArgs false
set_option linter.unusedVariables false
abbrev TTitle := Int × ByteArray × Int × Int
def eTitle (x : TTitle) : List Value := [.int .i64 x.1, .string x.2.1, .int .i64 x.2.2.1, .int .i64 x.2.2.2]
theorem eTitle_len (x : TTitle) : (eTitle x).length = 4 := rfl
theorem Sl.Title_at {w : World} {A : Option Addr} {n c : Nat} {l : List TTitle} (h : Sl w 4 (.slice A n c) eTitle l) {i : Nat} (hi : i < l.length) :
    ∃ b o, A = some ⟨b, o, none⟩ ∧ b < w.heap.size ∧ w.cell? ⟨b, o + i * 4, none⟩ = some (.int .i64 l[i].1) ∧ w.cell? ⟨b, o + i * 4 + 1, none⟩ = some (.string l[i].2.1) ∧ w.cell? ⟨b, o + i * 4 + 2, none⟩ = some (.int .i64 l[i].2.2.1) ∧ w.cell? ⟨b, o + i * 4 + 3, none⟩ = some (.int .i64 l[i].2.2.2) := by
  obtain ⟨b, o, x, hx, hA, hb, hc⟩ := h.at_ hi
  have : x = l[i] := by rw [List.getElem?_eq_getElem hi] at hx; exact (Option.some.inj hx).symm
  subst this
  exact ⟨b, o, hA, hb, hc 0 _ rfl, hc 1 _ rfl, hc 2 _ rfl, hc 3 _ rfl⟩
def okTitle (x : TTitle) : Prop := (-9223372036854775808 ≤ x.1 ∧ x.1 ≤ 9223372036854775807) ∧ x.2.1.size ≤ maxLen ∧ (-9223372036854775808 ≤ x.2.2.1 ∧ x.2.2.1 ≤ 9223372036854775807) ∧ (-9223372036854775808 ≤ x.2.2.2 ∧ x.2.2.2 ≤ 9223372036854775807)
section
variable {H : Type} {enc : TypeId × Value → H} {w : World} {base : Nat} {spare : Nat → Bool} {held : Bool}
set_option maxRecDepth 100000 in
theorem trod_Title (n : Nat) (cs : List Value) (y : DataW H × List MemPlace) (h : DataW.trod enc Tryz.prog w base spare held n 144 cs = some y) : ∃ x : TTitle, cs = eTitle x ∧ okTitle x := by
  obtain ⟨hlen, hf⟩ := struct_cells Tryz.underlying144 (by kernel_rfl) (by kernel_rfl) h
  obtain ⟨v0, n0, y0, hv0, ht0⟩ := hf 0 _ rfl
  obtain ⟨x0, e0, -, wf0⟩ := DataW.trod_int Tryz.underlying2 ht0
  simp at e0
  subst e0
  obtain ⟨v1, n1, y1, hv1, ht1⟩ := hf 1 _ rfl
  obtain ⟨x1, e1, -, wf1⟩ := DataW.trod_string Tryz.underlying9 ht1
  simp at e1
  subst e1
  obtain ⟨v2, n2, y2, hv2, ht2⟩ := hf 2 _ rfl
  obtain ⟨x2, e2, -, wf2⟩ := DataW.trod_int Tryz.underlying2 ht2
  simp at e2
  subst e2
  obtain ⟨v3, n3, y3, hv3, ht3⟩ := hf 3 _ rfl
  obtain ⟨x3, e3, -, wf3⟩ := DataW.trod_int Tryz.underlying2 ht3
  simp at e3
  subst e3
  refine ⟨(x0, x1, x2, x3), ?_, i64_range wf0, wf1, i64_range wf2, i64_range wf3⟩
  have hsz : cs.length = 4 := hlen
  match cs, hsz with
  | [c0, c1, c2, c3], _ =>
    simp at hv0 hv1 hv2 hv3
    subst hv0 hv1 hv2 hv3
    rfl
end
section
variable {H : Type} {enc : TypeId × Value → H} {w : World} {base : Nat} {spare : Nat → Bool} {held : Bool}
end
section
variable {H : Type} {enc : TypeId × Value → H} {w : World} {base : Nat} {spare : Nat → Bool} {held : Bool}
end
set_option maxHeartbeats 400000 in
theorem toTitle (w : World) (a : Int) (b : ByteArray) (c : Int) (d : Int) : Calls Tryz.prog 114 #[.agg #[.int .i64 a, .string b, .int .i64 c, .int .i64 d]] w fun e w' => e = .returned (.agg #[.int .i64 a, .string b, .int .i64 c, .int .i64 d]) ∧ Below w.heap.size w w' := by
  go_enter Tryz.func114, Tryz.ntmps114
  go_wp2
  refine bodyPost_ret (v := .agg #[.int .i64 a, .string b, .int .i64 c, .int .i64 d]) (by simp [results, Tryz.results114, go_sem]) rfl ⟨rfl, ?_⟩
  repeat (first | exact Below.refl _ _ | refine Below.alloc ?_ (by first | (simp; done) | (simp; omega)) _ | refine Below.setCell ?_ (by first | (simp; done) | (simp; omega)) _ | refine Below.drew ?_)
set_option maxHeartbeats 800000 in
theorem eqTitle (w : World) (x y : TTitle) : Calls Tryz.prog 116 #[.agg #[.int .i64 x.1, .string x.2.1, .int .i64 x.2.2.1, .int .i64 x.2.2.2], .agg #[.int .i64 y.1, .string y.2.1, .int .i64 y.2.2.1, .int .i64 y.2.2.2]] w fun e w' => e = .returned (.bool (decide (x = y))) ∧ Below w.heap.size w w' := by
  obtain ⟨a, b, c, d⟩ := x
  obtain ⟨a', b', c', d'⟩ := y
  by_cases hq : a = a'
  case neg =>
    have k2 : (a != a') = true := by simpa using hq
    have H2 := hd hq
    clear hq
    go_enter Tryz.func116, Tryz.ntmps116; go_wp2; go_ret
    refine ⟨by simp [H2.out], ?_⟩
    repeat (first | exact Below.refl _ _ | refine Below.alloc ?_ (by first | (simp; done) | (simp; omega)) _ | refine Below.setCell ?_ (by first | (simp; done) | (simp; omega)) _ | refine Below.drew ?_)
  subst hq
  by_cases hq : b = b'
  case neg =>
    have k2 : (b.toList == b'.toList) = false := beq_eq_false_iff_ne.2 (fun e => hq (bytes_of_toList e))
    have H2 := hd hq
    clear hq
    go_enter Tryz.func116, Tryz.ntmps116; go_wp2; go_ret
    refine ⟨by simp [H2.out], ?_⟩
    repeat (first | exact Below.refl _ _ | refine Below.alloc ?_ (by first | (simp; done) | (simp; omega)) _ | refine Below.setCell ?_ (by first | (simp; done) | (simp; omega)) _ | refine Below.drew ?_)
  subst hq
  by_cases hq : c = c'
  case neg =>
    have k2 : (c != c') = true := by simpa using hq
    have H2 := hd hq
    clear hq
    go_enter Tryz.func116, Tryz.ntmps116; go_wp2; go_ret
    refine ⟨by simp [H2.out], ?_⟩
    repeat (first | exact Below.refl _ _ | refine Below.alloc ?_ (by first | (simp; done) | (simp; omega)) _ | refine Below.setCell ?_ (by first | (simp; done) | (simp; omega)) _ | refine Below.drew ?_)
  subst hq
  by_cases hq : d = d'
  case neg =>
    have k2 : (d != d') = true := by simpa using hq
    have H2 := hd hq
    clear hq
    go_enter Tryz.func116, Tryz.ntmps116; go_wp2; go_ret
    refine ⟨by simp [H2.out], ?_⟩
    repeat (first | exact Below.refl _ _ | refine Below.alloc ?_ (by first | (simp; done) | (simp; omega)) _ | refine Below.setCell ?_ (by first | (simp; done) | (simp; omega)) _ | refine Below.drew ?_)
  subst hq
  go_enter Tryz.func116, Tryz.ntmps116; go_wp2; go_ret
  refine ⟨by simp, ?_⟩
  repeat (first | exact Below.refl _ _ | refine Below.alloc ?_ (by first | (simp; done) | (simp; omega)) _ | refine Below.setCell ?_ (by first | (simp; done) | (simp; omega)) _ | refine Below.drew ?_)
theorem calm_eqTitle (w : World) (x : Ext w) (a b : TTitle) : Calls Tryz.prog 116 #[.agg #[.int .i64 a.1, .string a.2.1, .int .i64 a.2.2.1, .int .i64 a.2.2.2], .agg #[.int .i64 b.1, .string b.2.1, .int .i64 b.2.2.1, .int .i64 b.2.2.2]] (gro w x) fun e w'' => e = .returned (.bool (decide (a = b))) ∧ ∃ y, w'' = gro w y := calm_of (eqTitle _ _ _)
set_option maxHeartbeats 800000 in
theorem eqTitles (w : World) (v1 v2 : Value) (l1 l2 : List TTitle) (h1 : Sl w 4 v1 eTitle l1) (h2 : Sl w 4 v2 eTitle l2) :
    Calls Tryz.prog 49 #[v1, v2] w fun e w' => e = .returned (.bool (decide (l1 = l2))) ∧ Below w.heap.size w w' := by
  have m1 := h1.len
  have m2 := h2.len
  obtain ⟨-, A1, c1, rfl, -, -, -⟩ := id h1
  obtain ⟨-, A2, c2, rfl, -, -, -⟩ := id h2
  by_cases hlen : l1.length = l2.length
  · have hb : (((l1.length : Nat) : Int) != ((l2.length : Nat) : Int)) = false := by simp [hlen]
    have HL := hd hlen
    clear hlen
    go_enter Tryz.func49, Tryz.ntmps49
    go_wp2
    go_loopw [5] (fun i wr => ∃ k : Nat, k ≤ l1.length ∧ i = .int .i64 k ∧ Below w.heap.size w wr ∧ Hid (l1.take k = l2.take k)) (fun i _ => l1.length - (intOf i).toNat)
    case atStart => exact ⟨0, Nat.zero_le _, rfl, Below.refl _ _, hd (by simp)⟩
    case round =>
      obtain ⟨k, hk, rfl, hbel, HT⟩ := hrel
      by_cases hlt : k < l1.length
      · have hlt2 : k < l2.length := HL.out ▸ hlt
        obtain ⟨a1, o1, rfl, -, p0, p1, p2, p3⟩ := (h1.below hbel).Title_at hlt
        obtain ⟨a2, o2, rfl, -, q0, q1, q2, q3⟩ := (h2.below hbel).Title_at hlt2
        have gp0 := gro_cell p0
        have gq0 := gro_cell q0
        have gp1 := gro_cell p1
        have gq1 := gro_cell q1
        have gp2 := gro_cell p2
        have gq2 := gro_cell q2
        have gp3 := gro_cell p3
        have gq3 := gro_cell q3
        go_wp2_with fail
        refine wp_region_calm (by kernel_rfl) (by kernel_rfl) ?_
        repeat (first | go_big_quiet_step ((go_at_call 116; exact calm_eqTitle _ _ _ _)) | quiet_step ((go_at_call 116; exact calm_eqTitle _ _ _ _)))
        refine wpQuiet_nil ?_
        rintro w1 ⟨x, rfl⟩
        have hb1 := below_step hbel (gro_below x)
        go_wp2_with fail
        · have hne : (!decide (l1[k] = l2[k])) = true := by assumption
          go_ret
          refine ⟨?_, hb1⟩
          have : l1 ≠ l2 := by rintro rfl; simp at hne
          simp [this]
        · have heq : (!decide (l1[k] = l2[k])) = false := by assumption
          go_roundw
          case rel => exact ⟨k + 1, by omega, by go_num, hb1, hd (by rw [List.take_succ_eq_append_getElem hlt, List.take_succ_eq_append_getElem hlt2, HT.out]; simp at heq; rw [heq])⟩
          case measure => simp [intOf]; omega
      · go_wp2
        go_ret
        refine ⟨?_, hbel⟩
        have h3 := HT.out
        rw [List.take_of_length_le (by omega), List.take_of_length_le (by have := HL.out; omega)] at h3
        simp [h3]
  · have hb : (((l1.length : Nat) : Int) != ((l2.length : Nat) : Int)) = true := by simp; omega
    have HL := hd hlen
    clear hlen
    go_enter Tryz.func49, Tryz.ntmps49
    go_wp2
    go_ret
    refine ⟨?_, Below.refl _ _⟩
    have : l1 ≠ l2 := by rintro rfl; exact HL.out rfl
    simp [this]
theorem info_Title : (Tryz.prog.info? 95).map (fun i => (i.zero, i.size, i.bytes)) = some (some (.agg #[.int .i64 0, .string ByteArray.empty, .int .i64 0, .int .i64 0]), 4, 40) := by kernel_rfl
set_option maxHeartbeats 800000 in
theorem toTitles (w : World) (v : Value) (l : List TTitle) (h : Sl w 4 v eTitle l) (hl : l.length ≤ 1048576) :
    Calls Tryz.prog 47 #[v] w (GivesOwn w 95 4 eTitle l) := by
  obtain ⟨-, A, c, rfl, -, -, -⟩ := id h
  obtain ⟨i0, hi, hz0, hz1, hz2⟩ := info_parts info_Title
  go_enter Tryz.func47, Tryz.ntmps47
  go_wp2_with (first | (at_make; refine wpList_make_full _ rfl _ _ 27 rfl w.heap.size 95 i0 (.agg #[.int .i64 0, .string ByteArray.empty, .int .i64 0, .int .i64 0]) 4 Tryz.underlying27 hi hz0 hz1 .i64 .i64 _ _ l.length rfl rfl rfl rfl (by rw [hz2]; omega) (by unfold maxLen; omega) (Nat.le_refl _) ?_))
  intro w1 hown hgr
  have H0 : CopyTo w 95 4 (.slice (some ⟨w.heap.size, 0, none⟩) l.length l.length) l.length eTitle l 0 w1 := ⟨_, hown, by simp, below_of_grown hgr (Nat.le_refl _) (by simp)⟩
  clear hown hgr hi hz0 hz1 hz2
  go_wp2
  go_loopw [4] (fun i wr => ∃ k : Nat, k ≤ l.length ∧ i = .int .i64 k ∧ CopyTo w 95 4 (.slice (some ⟨w.heap.size, 0, none⟩) l.length l.length) l.length eTitle l k wr) (fun i _ => l.length - (intOf i).toNat)
  case atStart => exact ⟨0, Nat.zero_le _, rfl, H0⟩
  case round =>
    obtain ⟨k, hk, rfl, H⟩ := hrel
    clear H0
    by_cases hlt : k < l.length
    · obtain ⟨ys, hown, hys, hbel⟩ := H
      obtain ⟨b, o, rfl, hb, p0, p1, p2, p3⟩ := (h.below hbel).Title_at hlt
      have hy1 := hown.1
      go_wp2_with fail
      refine (toTitle _ _ _ _ _).mono ?_
      rintro e w2 ⟨rfl, hb1⟩
      have hb2 := below_step hbel hb1
      have hown1 := hown.kept (grownBy_of_below hb1 none) (.inr (by simp [Value.ownBlock]))
      clear hown
      have hky0 : k * 4 < ys.length := by omega
      have r0 := hown1.cellAt (k * 4) (by omega)
      rw [List.getElem?_eq_getElem hky0] at r0
      have f0 := hown1.frozenAt (k * 4)
      have hky1 : k * 4 + 1 < ys.length := by omega
      have r1 := hown1.cellAt (k * 4 + 1) (by omega)
      rw [List.getElem?_eq_getElem hky1] at r1
      have f1 := hown1.frozenAt (k * 4 + 1)
      have hky2 : k * 4 + 2 < ys.length := by omega
      have r2 := hown1.cellAt (k * 4 + 2) (by omega)
      rw [List.getElem?_eq_getElem hky2] at r2
      have f2 := hown1.frozenAt (k * 4 + 2)
      have hky3 : k * 4 + 3 < ys.length := by omega
      have r3 := hown1.cellAt (k * 4 + 3) (by omega)
      rw [List.getElem?_eq_getElem hky3] at r3
      have f3 := hown1.frozenAt (k * 4 + 3)
      go_wp2_with fail
      go_roundw
      case rel =>
          have st0 := hown1.stored (k * 4) (.int .i64 l[k].1)
          have st1 := st0.1.stored (k * 4 + 1) (.string l[k].2.1)
          have st2 := st1.1.stored (k * 4 + 2) (.int .i64 l[k].2.2.1)
          have st3 := st2.1.stored (k * 4 + 3) (.int .i64 l[k].2.2.2)
          refine ⟨k + 1, by omega, by go_num, _, st3.1, ?_, ((((hb2.setCell (Nat.le_refl _) _).setCell (Nat.le_refl _) _).setCell (Nat.le_refl _) _).setCell (Nat.le_refl _) _)⟩
          rw [flatMap_snoc _ _ _ hlt, Nat.succ_mul]
          have := take_set_snoc (take_set_snoc (take_set_snoc (take_set_snoc hys hky0 (.int .i64 l[k].1)) (by simp; omega) (.string l[k].2.1)) (by simp; omega) (.int .i64 l[k].2.2.1)) (by simp; omega) (.int .i64 l[k].2.2.2)
          simpa [eTitle, List.append_assoc] using this
      case measure => simp [intOf]; omega
    · go_wp2_with fail
      go_ret
      obtain ⟨ys, hown, hys, hbel⟩ := H
      have hkl : k = l.length := by omega
      refine ⟨_, rfl, ?_, hbel⟩
      unfold Own
      have e1 : ys = l.flatMap eTitle := by
        rw [hkl, List.take_of_length_le (by rw [hown.1]; exact Nat.le_refl _), List.take_length] at hys
        exact hys
      rw [← e1]
      exact hown
theorem szTitle_yes (w : World) (a : Int) (b : ByteArray) (c : Int) (d : Int) (left : Int) (hm : b.size ≤ 9223372036854775807) (h0 : 0 ≤ left) (h1 : left ≤ 1048576) (hle : (b.size : Int) ≤ left) :
    Calls Tryz.prog 112 #[.agg #[.int .i64 a, .string b, .int .i64 c, .int .i64 d], .int .i64 left] w fun e w' => e = .returned (.int .i64 (left - (b.size : Int))) ∧ Below w.heap.size w w' := by
  go_enter Tryz.func112, Tryz.ntmps112
  go_wp2_with fail
  go_ret
  exact ⟨rfl, (Below.refl _ _).alloc (Nat.le_refl _) _⟩
theorem szTitle_no (w : World) (a : Int) (b : ByteArray) (c : Int) (d : Int) (left : Int) (hm : b.size ≤ 9223372036854775807) (h0 : 0 ≤ left) (h1 : left ≤ 1048576) (hle : left < (b.size : Int)) :
    Calls Tryz.prog 112 #[.agg #[.int .i64 a, .string b, .int .i64 c, .int .i64 d], .int .i64 left] w fun e w' => e = .returned (.int .i64 (-1)) ∧ Below w.heap.size w w' := by
  go_enter Tryz.func112, Tryz.ntmps112
  go_wp2_with fail
  go_ret
  exact ⟨rfl, (Below.refl _ _).alloc (Nat.le_refl _) _⟩
def sumTitle (l : List TTitle) : Nat := (l.map fun x => x.2.1.size).sum
theorem sumTitle_snoc (l : List TTitle) (k : Nat) (h : k < l.length) : sumTitle (l.take (k + 1)) = sumTitle (l.take k) + l[k].2.1.size := by
  unfold sumTitle
  rw [List.take_succ_eq_append_getElem h, List.map_append, List.sum_append]
  simp
theorem sumTitle_le (l : List TTitle) (k : Nat) : sumTitle (l.take k) ≤ sumTitle l := by
  have h : sumTitle l = sumTitle (l.take k) + sumTitle (l.drop k) := by
    unfold sumTitle
    rw [← List.sum_append, ← List.map_append, List.take_append_drop]
  omega
def totTitle (l : List TTitle) : Nat := l.length + sumTitle l
def szRTitle (l : List TTitle) (left : Int) : Int := if (totTitle l : Int) ≤ left then left - (totTitle l : Int) else -1
theorem szRTitle_yes {l : List TTitle} {left : Int} (h : (totTitle l : Int) ≤ left) : szRTitle l left = left - (totTitle l : Int) := if_pos h
theorem szRTitle_no {l : List TTitle} {left : Int} (h : left < (totTitle l : Int)) : szRTitle l left = -1 := if_neg (by omega)
theorem szRTitle_part {l : List TTitle} {left : Int} {k : Nat} (h : left < (l.length : Int) + (sumTitle (l.take k) : Int)) : szRTitle l left = -1 := by
  refine szRTitle_no ?_
  have := sumTitle_le l k
  unfold totTitle
  omega
theorem szRTitle_all {l : List TTitle} {left : Int} {k : Nat} (hk : ¬ k < l.length) (h : (l.length : Int) + (sumTitle (l.take k) : Int) ≤ left) : left - (l.length : Int) - (sumTitle (l.take k) : Int) = szRTitle l left := by
  rw [List.take_of_length_le (by omega)] at h ⊢
  rw [szRTitle_yes (by unfold totTitle; omega)]
  unfold totTitle
  omega
set_option maxHeartbeats 800000 in
theorem szTitles (w : World) (v : Value) (l : List TTitle) (h : Sl w 4 v eTitle l) (hg : ∀ x ∈ l, x.2.1.size ≤ maxLen) (left : Int) (h0 : 0 ≤ left) (h1 : left ≤ 1048576) :
    Calls Tryz.prog 44 #[v, .int .i64 left] w fun e w' => e = .returned (.int .i64 (szRTitle l left)) ∧ Below w.heap.size w w' := by
  have m1 := h.len
  obtain ⟨-, A, c, rfl, -, -, -⟩ := id h
  have HG := hd hg
  clear hg
  by_cases hn : (l.length : Int) ≤ left
  case neg =>
    have HR := hd (szRTitle_part (l := l) (left := left) (k := 0) (by omega))
    have hn' : left < (l.length : Int) := by omega
    clear hn
    go_enter Tryz.func44, Tryz.ntmps44
    go_wp2_with fail
    go_ret
    exact ⟨by rw [HR.out]; rfl, Below.refl _ _⟩
  go_enter Tryz.func44, Tryz.ntmps44
  go_wp2_with fail
  go_loopw [1, 5] (fun lf i wr => ∃ k : Nat, k ≤ l.length ∧ i = .int .i64 k ∧ lf = .int .i64 (left - (l.length : Int) - (sumTitle (l.take k) : Int)) ∧ Below w.heap.size w wr ∧ (l.length : Int) + (sumTitle (l.take k) : Int) ≤ left) (fun _ i _ => l.length - (intOf i).toNat)
  case atStart => exact ⟨0, Nat.zero_le _, rfl, by simp [sumTitle], Below.refl _ _, by simp [sumTitle]; omega⟩
  case round =>
    obtain ⟨k, hk, rfl, rfl, hbel, hs⟩ := hrel
    by_cases hlt : k < l.length
    · obtain ⟨b, o, rfl, -, p0, p1, p2, p3⟩ := (h.below hbel).Title_at hlt
      have hx : l[k].2.1.size ≤ 9223372036854775807 := by have := HG.out _ (List.getElem_mem hlt); unfold maxLen at this; omega
      have HS := sumTitle_snoc l k hlt
      by_cases hfit : (l.length : Int) + (sumTitle (l.take (k + 1)) : Int) ≤ left
      · go_wp2_with fail
        refine (szTitle_yes _ _ _ _ _ _ hx (by omega) (by omega) (by omega)).mono ?_
        rintro e w2 ⟨rfl, hb2⟩
        have hbel' := below_step hbel hb2
        go_wp2_with fail
        go_roundw
        case rel => exact ⟨k + 1, by omega, by go_num, by rw [HS]; go_num, hbel', hfit⟩
        case measure => simp [intOf]; omega
      · have HR := hd (szRTitle_part (l := l) (left := left) (k := k + 1) (by omega))
        go_wp2_with fail
        refine (szTitle_no _ _ _ _ _ _ hx (by omega) (by omega) (by omega)).mono ?_
        rintro e w2 ⟨rfl, hb2⟩
        have hbel' := below_step hbel hb2
        go_wp2_with fail
        go_ret
        exact ⟨by rw [HR.out]; rfl, hbel'⟩
    · have HR := hd (szRTitle_all hlt hs)
      go_wp2_with fail
      go_ret
      exact ⟨by rw [← HR.out]; rfl, hbel⟩
theorem szTitles_yes (w : World) (v : Value) (l : List TTitle) (h : Sl w 4 v eTitle l) (hg : ∀ x ∈ l, x.2.1.size ≤ maxLen) (left : Int) (h0 : 0 ≤ left) (h1 : left ≤ 1048576) (hle : (totTitle l : Int) ≤ left) :
    Calls Tryz.prog 44 #[v, .int .i64 left] w fun e w' => e = .returned (.int .i64 (left - (totTitle l : Int))) ∧ Below w.heap.size w w' := by
  have := szTitles w v l h hg left h0 h1
  rw [szRTitle_yes hle] at this
  exact this
theorem szTitles_no (w : World) (v : Value) (l : List TTitle) (h : Sl w 4 v eTitle l) (hg : ∀ x ∈ l, x.2.1.size ≤ maxLen) (left : Int) (h0 : 0 ≤ left) (h1 : left ≤ 1048576) (hle : left < (totTitle l : Int)) :
    Calls Tryz.prog 44 #[v, .int .i64 left] w fun e w' => e = .returned (.int .i64 (-1)) ∧ Below w.heap.size w w' := by
  have := szTitles w v l h hg left h0 h1
  rw [szRTitle_no hle] at this
  exact this
def marksTitle (k n : Nat) : List TTitle := (List.range n).map fun (i : Nat) => (((k + 4 * i : Nat) : Int), markB (k + 4 * i + 1), ((k + 4 * i + 1 + 1 : Nat) : Int), ((k + 4 * i + 1 + 1 + 1 : Nat) : Int))
theorem marksTitle_len (k n : Nat) : (marksTitle k n).length = n := by simp [marksTitle]
theorem marksTitle_get (k n i : Nat) (h : i < (marksTitle k n).length) : (marksTitle k n)[i] = (((k + 4 * i : Nat) : Int), markB (k + 4 * i + 1), ((k + 4 * i + 1 + 1 : Nat) : Int), ((k + 4 * i + 1 + 1 + 1 : Nat) : Int)) := by simp [marksTitle]
set_option maxHeartbeats 1600000 in
theorem markTitles (w : World) (B : Nat) (E : TypeId) (v : Value) (l : List TTitle) (h : Own w B E 4 v eTitle l) (k : Nat) (hk : k + 4 * l.length ≤ 4611686018427387904) :
    Calls Tryz.prog 51 #[v, .int .i64 k] w fun e w' => e = .returned (.int .i64 ((k + 4 * l.length : Nat) : Int)) ∧ Own w' B E 4 v eTitle (marksTitle k l.length) ∧ w.grownBy w' v.ownBlock := by
  have hfin : ∀ wr, MarkTo w B E 4 v l.length eTitle (marksTitle k l.length) l.length wr → Own wr B E 4 v eTitle (marksTitle k l.length) ∧ w.grownBy wr v.ownBlock := by
    rintro wr ⟨ys, hown, hys, hgr⟩
    refine ⟨?_, hgr⟩
    unfold Own
    rw [marksTitle_len]
    have e1 : ys = (marksTitle k l.length).flatMap eTitle := by
      rw [List.take_of_length_le (by rw [hown.1]; exact Nat.le_refl _)] at hys
      rw [hys]
      have := marksTitle_len k l.length
      rw [List.take_of_length_le (by omega)]
    rw [← e1]
    exact hown
  have H0 : MarkTo w B E 4 v l.length eTitle (marksTitle k l.length) 0 w := ⟨_, h, by simp, World.grownBy.refl _ _⟩
  have HF := hd hfin
  clear hfin
  rcases h.form with ⟨rfl, rfl⟩ | ⟨g, cap, rfl, hBg, hgw, hlc, hcm⟩
  · go_enter Tryz.func51, Tryz.ntmps51
    go_wp2
    go_loopw [1, 5] (fun kk i wr => wr = w ∧ kk = .int .i64 k ∧ i = .int .i64 0) (fun _ _ _ => 0)
    case atStart => exact ⟨rfl, rfl, rfl⟩
    case round =>
      obtain ⟨rfl, rfl, rfl⟩ := hrel
      go_wp2
      go_ret
      exact ⟨by simp, HF.out _ H0⟩
  · have hlen := h.1
    go_enter Tryz.func51, Tryz.ntmps51
    go_wp2
    go_loopw [1, 5] (fun kk i wr => ∃ j : Nat, j ≤ l.length ∧ i = .int .i64 j ∧ kk = .int .i64 ((k + 4 * j : Nat) : Int) ∧ MarkTo w B E 4 (.slice (some ⟨g, 0, none⟩) l.length cap) l.length eTitle (marksTitle k l.length) j wr) (fun _ i _ => l.length - (intOf i).toNat)
    case atStart => exact ⟨0, Nat.zero_le _, rfl, rfl, H0⟩
    case round =>
      obtain ⟨j, hj, rfl, rfl, H⟩ := hrel
      clear H0
      by_cases hlt : j < l.length
      · obtain ⟨ys, hown0, hys, hgr0⟩ := H
        have hy1 := hown0.1
        have hky0 : j * 4 < ys.length := by omega
        have hky1 : j * 4 + 1 < ys.length := by omega
        have hky2 : j * 4 + 2 < ys.length := by omega
        have hky3 : j * 4 + 3 < ys.length := by omega
        have r0 := hown0.cellAt (j * 4) (by omega)
        rw [List.getElem?_eq_getElem hky0] at r0
        have f0 := hown0.frozenAt (j * 4)
        go_wp2_with fail
        have st0 := hown0.stored (j * 4) (.int .i64 ((k + 4 * j : Nat) : Int))
        refine (markText _ (k + 4 * j + 1) (by omega)).mono ?_
        rintro e w2 ⟨rfl, hb2⟩
        have hown1 := World.ownsRow.kept st0.1 (grownBy_of_below hb2 none) (Or.inr (by simp [Value.ownBlock]))
        have hgr1 := grownBy_trans (grownBy_trans hgr0 st0.2) (grownBy_of_below hb2 _)
        clear hown0 hgr0 r0 f0 st0
        have r1 := hown1.cellAt (j * 4 + 1) (by omega)
        rw [List.getElem?_eq_getElem (by simp; omega)] at r1
        have f1 := hown1.frozenAt (j * 4 + 1)
        have r2 := hown1.cellAt (j * 4 + 2) (by omega)
        rw [List.getElem?_eq_getElem (by simp; omega)] at r2
        have f2 := hown1.frozenAt (j * 4 + 2)
        have r3 := hown1.cellAt (j * 4 + 3) (by omega)
        rw [List.getElem?_eq_getElem (by simp; omega)] at r3
        have f3 := hown1.frozenAt (j * 4 + 3)
        go_wp2_with fail
        go_roundw
        case rel =>
          have st1 := hown1.stored (j * 4 + 1) (.string (markB (k + 4 * j + 1)))
          have st2 := st1.1.stored (j * 4 + 2) (.int .i64 ((k + 4 * j + 1 + 1 : Nat) : Int))
          have st3 := st2.1.stored (j * 4 + 3) (.int .i64 ((k + 4 * j + 1 + 1 + 1 : Nat) : Int))
          refine ⟨j + 1, by omega, by go_num, by go_num, _, st3.1, ?_, (grownBy_trans (grownBy_trans (grownBy_trans hgr1 st1.2) st2.2) st3.2)⟩
          have hjm : j < (marksTitle k l.length).length := by rw [marksTitle_len]; exact hlt
          rw [flatMap_snoc _ _ _ hjm, marksTitle_get, Nat.succ_mul]
          have := take_set_snoc (take_set_snoc (take_set_snoc (take_set_snoc hys hky0 (.int .i64 ((k + 4 * j : Nat) : Int))) (by simp; omega) (.string (markB (k + 4 * j + 1)))) (by simp; omega) (.int .i64 ((k + 4 * j + 1 + 1 : Nat) : Int))) (by simp; omega) (.int .i64 ((k + 4 * j + 1 + 1 + 1 : Nat) : Int))
          simpa [eTitle, List.append_assoc] using this
        case measure => simp [intOf]; omega
      · go_wp2
        go_ret
        have hjl : j = l.length := by omega
        subst hjl
        exact ⟨rfl, HF.out _ H⟩
set_option maxHeartbeats 1600000 in
theorem heldTitles (w : World) (v : Value) (k n : Nat) (h : Sl w 4 v eTitle (marksTitle k n)) (hk : k + 4 * n ≤ 4611686018427387904) :
    Calls Tryz.prog 54 #[v, .int .i64 k] w fun e w' => e = .returned (.int .i64 ((k + 4 * n : Nat) : Int)) ∧ Below w.heap.size w w' := by
  have hlen := marksTitle_len k n
  obtain ⟨-, A, c, hv, -, -, -⟩ := id h
  rw [hlen] at hv
  subst hv
  have HL := hd hlen
  clear hlen
  go_enter Tryz.func54, Tryz.ntmps54
  go_wp2
  go_loopw [1, 5] (fun kk i wr => ∃ j : Nat, j ≤ n ∧ i = .int .i64 j ∧ kk = .int .i64 ((k + 4 * j : Nat) : Int) ∧ Below w.heap.size w wr) (fun _ i _ => n - (intOf i).toNat)
  case atStart => exact ⟨0, Nat.zero_le _, rfl, rfl, Below.refl _ _⟩
  case round =>
    obtain ⟨j, hj, rfl, rfl, hbel⟩ := hrel
    by_cases hlt : j < n
    · obtain ⟨b, o, rfl, hb, p0, p1, p2, p3⟩ := (h.below hbel).Title_at (i := j) (by rw [HL.out]; exact hlt)
      rw [marksTitle_get] at p0 p1 p2 p3
      dsimp only at p0 p1 p2 p3
      have g0 := gro_cell p0
      have g1 := gro_cell p1
      have g2 := gro_cell p2
      have g3 := gro_cell p3
      go_wp2_with fail
      refine wp_region_calm (by kernel_rfl) (by kernel_rfl) ?_
      repeat (first | go_big_quiet_step ((first | (go_at_call 52; exact calm_of (markText _ (k + 4 * j + 1) (by omega))))) | quiet_step ((first | (go_at_call 52; exact calm_of (markText _ (k + 4 * j + 1) (by omega))))))
      refine wpQuiet_nil ?_
      rintro w1 ⟨xw, rfl⟩
      have hb1 := below_step hbel (gro_below xw)
      go_wp2_with fail
      go_roundw
      case rel => exact ⟨j + 1, by omega, by go_num, by go_num, hb1⟩
      case measure => simp [intOf]; omega
    · go_wp2
      go_ret
      have hjl : j = n := by omega
      subst hjl
      exact ⟨rfl, hbel⟩
end Go.Proofs.YtgcodjkjdfahdaaGreatDoor
