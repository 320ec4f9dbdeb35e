/- Lemmas for the claim (the walks of its functions and their plain laws), joined. No condition. -/
import Derived.Test.YtgcodjkjdfahdaaGreatDoorJ33
import Derived.Test.YtgcodjkjdfahdaaGreatDoorJ4
namespace Go.Proofs.YtgcodjkjdfahdaaGreatDoor
open Go Go.RowKit Go.ChangeShapes Go.WideShapes
set_option linter.unusedSimpArgs false
set_option linter.unusedVariables false
def lampB (h c l : Int) : Bool := inB h 1 20 && (inB c 1 20 && inB l 1 100)
def lampC (h c l n : Int) : Int := if lampB h c l then (if inB n 0 60 then 0 else 2) else 1
theorem lampC_bad {h c l n : Int} (h1 : lampB h c l = false) : lampC h c l n = 1 := by unfold lampC; rw [h1]; rfl
theorem lampC_range {h c l n : Int} (h1 : lampB h c l = true) (h2 : inB n 0 60 = false) : lampC h c l n = 2 := by unfold lampC; rw [h1, h2]; rfl
theorem lampC_good {h c l n : Int} (h1 : lampB h c l = true) (h2 : inB n 0 60 = true) : lampC h c l n = 0 := by unfold lampC; rw [h1, h2]; rfl
theorem lampC_zero {h c l n : Int} (h0 : lampC h c l n = 0) : lampB h c l = true ∧ inB n 0 60 = true := by
  rcases h1 : lampB h c l with _ | _
  · rw [lampC_bad h1] at h0; cases h0
  rcases h2 : inB n 0 60 with _ | _
  · rw [lampC_range h1 h2] at h0; cases h0
  exact ⟨rfl, rfl⟩
theorem lampB_bd {h c l : Int} (h1 : lampB h c l = true) : (1 ≤ h ∧ h ≤ 20) ∧ (1 ≤ c ∧ c ≤ 20) ∧ (1 ≤ l ∧ l ≤ 100) := by
  unfold lampB at h1
  rw [Bool.and_eq_true, Bool.and_eq_true] at h1
  exact ⟨inB_true h1.1, inB_true h1.2.1, inB_true h1.2.2⟩
def burnB (h c l n : Nat) : ByteArray := ⟨(burnS h c l n 0).toArray⟩
def lampR (h c l n : Int) : ByteArray × Int := if lampC h c l n = 0 then (burnB h.toNat c.toNat l.toNat n.toNat, 0) else (⟨#[]⟩, lampC h c l n)
theorem lampR_bad {h c l n k : Int} (h1 : lampC h c l n = k) (hk : k ≠ 0) : lampR h c l n = (⟨#[]⟩, k) := by unfold lampR; rw [h1, if_neg hk]
theorem lampR_good {h c l n : Int} (h1 : lampC h c l n = 0) : lampR h c l n = (burnB h.toNat c.toNat l.toNat n.toNat, 0) := by unfold lampR; rw [if_pos h1]
theorem burnB_size (h c l n : Nat) : (burnB h c l n).size = n := (List.size_toArray ..).trans (burnS_len h c l n 0)
theorem lampR_size (h c l n : Int) : (lampR h c l n).1.size ≤ 60 := by
  by_cases h1 : lampC h c l n = 0
  · rw [lampR_good h1]
    have := inB_true (lampC_zero h1).2
    show (burnB _ _ _ _).size ≤ 60
    rw [burnB_size]
    omega
  · rw [lampR_bad rfl h1]; exact Nat.zero_le _
set_option maxRecDepth 100000 in
set_option maxHeartbeats 8000000 in
theorem vlamp_impl (w : World) (h c l : Int) : Calls Tryz.prog 201 #[.agg #[.int .i64 h, .int .i64 c, .int .i64 l]] w fun e w' => e = .returned (.bool (lampB h c l)) ∧ Below w.heap.size w w' := by
  have c0 := new_cell w #[.int .i64 h, .int .i64 c, .int .i64 l] 120 0 _ rfl
  have c1 := new_cell w #[.int .i64 h, .int .i64 c, .int .i64 l] 120 1 _ rfl
  have c2 := new_cell w #[.int .i64 h, .int .i64 c, .int .i64 l] 120 2 _ rfl
  have hb0 := (Below.refl w.heap.size w).alloc (Nat.le_refl _) (.cells #[.int .i64 h, .int .i64 c, .int .i64 l] 120)
  rcases h1 : inB h 1 20 with _ | _
  · have HR := hd (show lampB h c l = false by unfold lampB; rw [h1]; rfl)
    go_enter Tryz.func201, Tryz.ntmps201
    go_wp2_with (go_at_call 67; refine (in_impl _ _ _ _).mono ?_; rintro e w1 ⟨rfl, hw⟩; have hw := hw.symm; subst hw)
    go_ret
    exact ⟨by rw [HR.out]; simp [h1], hb0⟩
  rcases h2 : inB c 1 20 with _ | _
  · have HR := hd (show lampB h c l = false by unfold lampB; rw [h1, h2]; rfl)
    go_enter Tryz.func201, Tryz.ntmps201
    go_wp2_with (go_at_call 67; refine (in_impl _ _ _ _).mono ?_; rintro e w1 ⟨rfl, hw⟩; have hw := hw.symm; subst hw)
    go_ret
    exact ⟨by rw [HR.out]; simp [h1, h2], hb0⟩
  have HR := hd (show lampB h c l = inB l 1 100 by unfold lampB; rw [h1, h2]; rfl)
  go_enter Tryz.func201, Tryz.ntmps201
  go_wp2_with (go_at_call 67; refine (in_impl _ _ _ _).mono ?_; rintro e w1 ⟨rfl, hw⟩; have hw := hw.symm; subst hw)
  go_ret
  exact ⟨by rw [HR.out]; simp [h1, h2], hb0⟩
set_option maxRecDepth 100000 in
set_option maxHeartbeats 8000000 in
theorem hot_impl (w : World) (h c l t : Nat) (hh : h ≤ 1000) (ht : t ≤ 1000) : Calls Tryz.prog 202 #[.agg #[.int .i64 (h : Int), .int .i64 (c : Int), .int .i64 (l : Int)], .int .i64 (t : Int), .bool true] w fun e w' => e = .returned (.int .i64 ((t + h : Nat) : Int)) ∧ Below w.heap.size w w' := by
  have c0 := new_cell w #[.int .i64 (h : Int), .int .i64 (c : Int), .int .i64 (l : Int)] 120 0 _ rfl
  have c1 := new_cell w #[.int .i64 (h : Int), .int .i64 (c : Int), .int .i64 (l : Int)] 120 1 _ rfl
  have c2 := new_cell w #[.int .i64 (h : Int), .int .i64 (c : Int), .int .i64 (l : Int)] 120 2 _ rfl
  have hb0 := (Below.refl w.heap.size w).alloc (Nat.le_refl _) (.cells #[.int .i64 (h : Int), .int .i64 (c : Int), .int .i64 (l : Int)] 120)
  go_enter Tryz.func202, Tryz.ntmps202
  go_wp2_with fail
  go_ret
  exact ⟨by show Ending.returned (.int .i64 ((t : Int) + (h : Int))) = _; rw [Int.natCast_add], hb0⟩
set_option maxRecDepth 100000 in
set_option maxHeartbeats 8000000 in
theorem cool_impl (w : World) (h c l t : Nat) (hc : c ≤ 1000) (ht : t ≤ 1000) : Calls Tryz.prog 202 #[.agg #[.int .i64 (h : Int), .int .i64 (c : Int), .int .i64 (l : Int)], .int .i64 (t : Int), .bool false] w fun e w' => e = .returned (.int .i64 ((t - c : Nat) : Int)) ∧ Below w.heap.size w w' := by
  have c0 := new_cell w #[.int .i64 (h : Int), .int .i64 (c : Int), .int .i64 (l : Int)] 120 0 _ rfl
  have c1 := new_cell w #[.int .i64 (h : Int), .int .i64 (c : Int), .int .i64 (l : Int)] 120 1 _ rfl
  have c2 := new_cell w #[.int .i64 (h : Int), .int .i64 (c : Int), .int .i64 (l : Int)] 120 2 _ rfl
  have hb0 := (Below.refl w.heap.size w).alloc (Nat.le_refl _) (.cells #[.int .i64 (h : Int), .int .i64 (c : Int), .int .i64 (l : Int)] 120)
  have HE := hd (show ((t - c : Nat) : Int) = max ((t : Int) - (c : Int)) 0 by omega)
  go_enter Tryz.func202, Tryz.ntmps202
  go_wp2_with fail
  go_ret
  exact ⟨by rw [HE.out]; rfl, hb0⟩
set_option maxRecDepth 100000 in
set_option maxHeartbeats 8000000 in
theorem lampC_impl (w : World) (h c l n : Int) : Calls Tryz.prog 145 #[.agg #[.int .i64 h, .int .i64 c, .int .i64 l], .int .i64 n] w fun e w' => e = .returned (.int .i64 (lampC h c l n)) ∧ Below w.heap.size w w' := by
  have c0 := new_cell w #[.int .i64 h, .int .i64 c, .int .i64 l] 120 0 _ rfl
  have c1 := new_cell w #[.int .i64 h, .int .i64 c, .int .i64 l] 120 1 _ rfl
  have c2 := new_cell w #[.int .i64 h, .int .i64 c, .int .i64 l] 120 2 _ rfl
  have hb0 := (Below.refl w.heap.size w).alloc (Nat.le_refl _) (.cells #[.int .i64 h, .int .i64 c, .int .i64 l] 120)
  rcases h1 : lampB h c l with _ | _
  · have HR := hd (lampC_bad (n := n) h1)
    go_enter Tryz.func145, Tryz.ntmps145
    go_wp2_with fail
    generalize w.alloc (.cells #[.int .i64 h, .int .i64 c, .int .i64 l] 120) = W at hb0 c0 c1 c2 ⊢
    refine (vlamp_impl _ _ _ _).mono ?_
    rintro e w1 ⟨rfl, hb1⟩
    rw [h1]
    have B := below_step hb0 hb1
    clear c0 c1 c2 hb0 hb1
    go_wp2_with fail
    go_ret
    exact ⟨by rw [HR.out]; rfl, B⟩
  rcases h2 : inB n 0 60 with _ | _
  all_goals
    have HR := hd (show lampC h c l n = _ by first | exact lampC_range h1 h2 | exact lampC_good h1 h2)
    go_enter Tryz.func145, Tryz.ntmps145
    go_wp2_with fail
    generalize w.alloc (.cells #[.int .i64 h, .int .i64 c, .int .i64 l] 120) = W at hb0 c0 c1 c2 ⊢
    refine (vlamp_impl _ _ _ _).mono ?_
    rintro e w1 ⟨rfl, hb1⟩
    rw [h1]
    have B := below_step hb0 hb1
    clear c0 c1 c2 hb0 hb1
    go_wp2_with fail
    refine (in_impl _ _ _ _).mono ?_
    rintro e ww ⟨rfl, hw⟩
    have hw := hw.symm
    subst hw
    rw [h2]
    go_wp2_with fail
    go_ret
    exact ⟨by rw [HR.out]; rfl, B⟩
def LampAt (W : World) (g : Nat) (h c l : Nat) : Prop := g < W.heap.size ∧ W.cell? ⟨g, 0, none⟩ = some (.int .i64 (h : Int)) ∧ W.cell? ⟨g, 1, none⟩ = some (.int .i64 (c : Int)) ∧ W.cell? ⟨g, 2, none⟩ = some (.int .i64 (l : Int))
theorem LampAt.below {W W' : World} {g h c l : Nat} (H : LampAt W g h c l) (hb : Below W.heap.size W W') : LampAt W' g h c l :=
  ⟨Nat.lt_of_lt_of_le H.1 hb.size, (hb.cell (p := ⟨g, 0, none⟩) H.1).trans H.2.1, (hb.cell (p := ⟨g, 1, none⟩) H.1).trans H.2.2.1, (hb.cell (p := ⟨g, 2, none⟩) H.1).trans H.2.2.2⟩
theorem lamp_new (w : World) (h c l : Nat) (T : TypeId) : LampAt (w.alloc (.cells #[.int .i64 (h : Int), .int .i64 (c : Int), .int .i64 (l : Int)] T)) w.heap.size h c l :=
  ⟨by simp, new_cell w _ T 0 _ rfl, new_cell w _ T 1 _ rfl, new_cell w _ T 2 _ rfl⟩
theorem bel_step {N : Nat} {w2 X w4 : World} (K : Below N w2 X) (hN : N ≤ w2.heap.size) (hb : Below X.heap.size X w4) : Below N w2 w4 := K.trans (hb.mono (Nat.le_trans hN K.size))
theorem kmade_ints (w : World) (B : Nat) (E : TypeId) (v : Value) (n : Nat) (h : w.ownsRow B E 1 v n (madeCells #[Value.int .i64 0] n).toList) : Own w B E 1 v eI (List.replicate n 0) := by
  rw [toList_madeCells_one] at h
  have e : List.replicate n (Value.int .i64 0) = (List.replicate n (0 : Int)).flatMap eI := by
    clear h
    induction n with
    | zero => rfl
    | succ n ih => simp [List.replicate_succ, eI, List.flatMap_cons] at ih ⊢; exact ih
  unfold Own
  rw [List.length_replicate, ← e]
  exact h
theorem RowsIs.first {h c l n : Nat} {v : Value} : RowsIs h c l 1 0 ((List.replicate (n + 1) ((Value.slice none 0 0, []) : TRow)).set 0 (v, List.replicate (l + 1) 0)) := by
  intro i hi
  rw [set_row hi]
  by_cases e : 0 = i
  · subst e
    rfl
  · rw [if_neg e, List.getElem_replicate]
    unfold rowAt
    rw [if_neg (by omega)]
    by_cases e2 : i = 1
    · rw [if_pos e2]; rfl
    · rw [if_neg e2]
theorem row_num {W : World} {B gT n : Nat} {M : List TRow} (T : TabR W B gT n M) {i : Nat} (hi : i < M.length) {h c l : Nat} (e : M[i].2 = tabB h c l i) {j : Nat} (hj : j < l + 1) :
    ∃ rb ro rc, M[i].1 = .slice (some ⟨rb, ro, none⟩) (l + 1) rc ∧ rb < W.heap.size ∧ W.cell? ⟨rb, ro + j, none⟩ = some (.int .i64 ((tabB h c l i).getD j 0)) := by
  obtain ⟨-, -, S⟩ := T.get hi
  rw [e] at S
  have hl := tabB_len h c l i
  obtain ⟨A, cc, hv⟩ := S.isSlice
  rw [hv] at S
  obtain ⟨b, oo, hA, hb, hc⟩ := S.int_at (i := j) (by rw [hl]; exact hj)
  subst hA
  refine ⟨b, oo, cc, by rw [hv, hl], hb, ?_⟩
  rw [hc, tabB_get _ _ _ _ _ (by rw [hl]; exact hj)]
set_option maxRecDepth 100000 in
set_option maxHeartbeats 40000000 in
theorem burn_impl (w : World) (h c l n : Nat) (hh : 1 ≤ h ∧ h ≤ 20) (hc : 1 ≤ c ∧ c ≤ 20) (hl : 1 ≤ l ∧ l ≤ 100) (hn : n ≤ 60) :
    Calls Tryz.prog 146 #[.agg #[.int .i64 (h : Int), .int .i64 (c : Int), .int .i64 (l : Int)], .int .i64 (n : Int)] w fun e w' => ∃ k : Int, e = .returned (.tuple #[.string (burnB h c l n), .int .i64 k]) ∧ Below w.heap.size w w' := by
  obtain ⟨i0, hi, hz0, hz1, hz2⟩ := info_parts info_i64
  obtain ⟨r0, ri, rz0, rz1, rz2⟩ := info_parts info_row
  obtain ⟨u0, ui, uz0, uz1, uz2⟩ := info_parts info_u8
  have HCV := hd (fun (w : World) (v : Value) (l : List UInt8) (hv : Sl w 1 v eU l) => conv_bytes (P := Tryz.prog) w 22 9 5 Tryz.underlying22 Tryz.underlying5 Tryz.underlying9 hv)
  have HLA := lamp_new w h c l 120
  have hb0 := (Below.refl w.heap.size w).alloc (Nat.le_refl _) (.cells #[.int .i64 (h : Int), .int .i64 (c : Int), .int .i64 (l : Int)] 120)
  have hz : (w.alloc (.cells #[.int .i64 (h : Int), .int .i64 (c : Int), .int .i64 (l : Int)] 120)).heap.size = w.heap.size + 1 := by simp
  have HZ := hd hz
  have HB0 := hd hb0
  obtain ⟨hgl, k0, k1, k2⟩ := id HLA
  have HLA0 := hd HLA
  clear hz hb0 HLA
  have hn1 : (n : Int) + 1 = ((n + 1 : Nat) : Int) := by omega
  have hl1 : (l : Int) + 1 = ((l + 1 : Nat) : Int) := by omega
  have HN1 := hd hn1
  have HL1 := hd hl1
  clear hn1 hl1
  go_enter Tryz.func146, Tryz.ntmps146
  go_wp2_with (at_make; refine wpList_make_full _ rfl _ _ 219 rfl (w.heap.size + 1) 56 r0 (.slice none 0 0) 1 Tryz.underlying219 ri rz0 rz1 .i64 .i64 _ _ (n + 1) rfl rfl HN1.out HN1.out (by rw [rz2]; omega) (by unfold maxLen; omega) (by rw [HZ.out]; exact Nat.le_refl _) ?_)
  intro w1 hT0 hgr
  have hB1 : Below (w.heap.size + 1) (w.alloc (.cells #[.int .i64 (h : Int), .int .i64 (c : Int), .int .i64 (l : Int)] 120)) w1 := below_of_grown hgr (by rw [HZ.out]; exact Nat.le_refl _) (by simp)
  have HLA1 := hd (HLA0.out.below (by rw [HZ.out]; exact hB1))
  have hT := made_rows w1 _ _ _ hT0
  generalize hW0 : w.alloc (.cells #[.int .i64 (h : Int), .int .i64 (c : Int), .int .i64 (l : Int)] 120) = W0 at HLA0 HZ HB0 hB1
  generalize hgTe : w.heap.size + 1 = gT at hT hB1 HZ ⊢
  generalize hge : w.heap.size = g at HLA0 HLA1 HB0 ⊢
  have HGE := hd hge
  have HGT := hd (show gT = g + 1 by omega)
  clear hT0 hgr k0 k1 k2 hgl hgTe hge hW0
  obtain ⟨-, q0, q1, q2⟩ := HLA1.out
  have hgT := hT.out.lt gT rfl
  obtain ⟨t0, f0, -⟩ := hT.get (i := 0) (by simp)
  rw [List.getElem_replicate] at t0
  have HB1 := hd hB1
  have hz1' := hB1.size
  clear hB1
  go_wp2_with (at_make; refine wpList_make_full _ rfl _ _ 56 rfl w1.heap.size 2 i0 (.int .i64 0) 1 Tryz.underlying56 hi hz0 hz1 .i64 .i64 _ _ (l + 1) rfl rfl HL1.out HL1.out (by rw [hz2]; omega) (by unfold maxLen; omega) (Nat.le_refl _) ?_)
  intro w2 hR0 hgr2
  have hR := kmade_ints _ _ _ _ _ hR0
  have hb12 : Below w1.heap.size w1 w2 := below_of_grown hgr2 (Nat.le_refl _) (by simp)
  have t2 := (hb12.cell (p := ⟨gT, 0, none⟩) hgT.2).trans t0
  have f2 := (hb12.frozen (p := ⟨gT, 0, none⟩) hgT.2).trans f0
  have hPUT := hT.put (j := 0) (v' := .slice (some ⟨w1.heap.size, 0, none⟩) (l + 1) (l + 1)) (l' := List.replicate (l + 1) 0) (by simp) (Below.refl _ _) (hR.base (Nat.le_of_lt hgT.2)) (by rw [List.getElem_replicate]; exact hgr2) (.inr fun q hq => by have hq' : some w1.heap.size = some q := hq; injection hq' with hq'; omega)
  have hRI := RowsIs.first (h := h) (c := c) (l := l) (n := n) (v := .slice (some ⟨w1.heap.size, 0, none⟩) (l + 1) (l + 1))
  have hB3 : Below gT W0 (w2.setCell ⟨gT, 0, none⟩ (.slice (some ⟨w1.heap.size, 0, none⟩) (l + 1) (l + 1))) := (HB1.out.trans (hb12.mono (Nat.le_of_lt hgT.2))).setCell (p := ⟨gT, 0, none⟩) (Nat.le_refl _) _
  have HPUT := hd hPUT
  have HRI := hd hRI
  have HB3 := hd hB3
  clear hT hR0 hR hgr2 hb12 t0 f0 hPUT hRI hB3 q0 q1 q2
  go_wp2_with fail
  clear t2 f2
  generalize (w2.setCell ⟨gT, 0, none⟩ (.slice (some ⟨w1.heap.size, 0, none⟩) (l + 1) (l + 1))) = W3 at HPUT HB3 ⊢
  have HLW := hd (show ∀ W, Below gT W0 W → LampAt W g h c l from fun W hb => HLA0.out.below (by rw [HZ.out]; exact hb))
  have HLEN : Hid (((List.replicate (n + 1) ((Value.slice none 0 0, []) : TRow)).set 0 (.slice (some ⟨w1.heap.size, 0, none⟩) (l + 1) (l + 1), List.replicate (l + 1) 0)).length = n + 1) := hd (by simp)
  generalize ((List.replicate (n + 1) ((Value.slice none 0 0, []) : TRow)).set 0 (.slice (some ⟨w1.heap.size, 0, none⟩) (l + 1) (l + 1), List.replicate (l + 1) 0)) = M0 at HPUT HRI HLEN
  clear hgT hz1' HB1 HLA1
  as_aux_lemma =>
  go_loopw [7, 8, 9, 10] (fun lv _ _ _ wr => ∃ (k : Nat) (M : List TRow), k ≤ n ∧ lv = .int .i64 ((k : Int) + 1) ∧ TabR wr gT gT (n + 1) M ∧ Hid (RowsIs h c l (k + 1) 0 M) ∧ Below gT W0 wr) (fun lv _ _ _ _ => n + 1 - (intOf lv).toNat)
  case atStart => exact ⟨0, M0, Nat.zero_le _, rfl, HPUT.out, hd HRI.out, HB3.out⟩
  case round =>
    obtain ⟨k, M, hk, rfl, hT, HR, hbel⟩ := hrel
    clear HPUT HRI HB3 HLEN
    by_cases hlt : k < n
    · as_aux_lemma =>
      have hlt' : (k : Int) + 1 ≤ (n : Int) := by omega
      have HT := hd hT
      have HB := hd hbel
      clear hT hbel
      go_wp2_with fail
      go_loopw [8, 9, 10] (fun hv _ _ wr => ∃ (t : Nat) (M : List TRow), t ≤ l + 1 ∧ hv = .int .i64 (t : Int) ∧ TabR wr gT gT (n + 1) M ∧ Hid (RowsIs h c l (k + 1) t M) ∧ Below gT W0 wr) (fun hv _ _ _ => l + 1 - (intOf hv).toNat)
      case atStart => exact ⟨0, M, Nat.zero_le _, rfl, HT.out, HR, HB.out⟩
      case round =>
        obtain ⟨t, M, ht, rfl, hT, HR, hbel⟩ := hrel
        clear HT HB
        obtain ⟨g0, d0, d1, d2⟩ := HLW.out _ hbel
        by_cases htl : t ≤ l
        · as_aux_lemma =>
          have hML := hT.len
          have hkM : k < M.length := by omega
          have hkM1 : k + 1 < M.length := by omega
          have HPR := hd (HR.out.tab hkM (Nat.lt_succ_self k))
          obtain ⟨rb, ro, rc, e1, hrb, y1c⟩ := row_num hT hkM HPR.out (show t - c < l + 1 by omega)
          obtain ⟨kc, -, -⟩ := hT.get hkM
          rw [e1] at kc
          obtain ⟨y1, hy1⟩ : ∃ y1, (tabB h c l k).getD (t - c) 0 = y1 := ⟨_, rfl⟩
          have hyb := tabB_at h c l k (t - c)
          rw [hy1] at y1c hyb
          have HY1 := hd hy1
          have hkw : IntKind.i64.wrap ((k : Int) + 1 - 1) = (k : Int) := by rw [Int.add_sub_cancel]; exact IntWalk.i64_in _ (by omega)
          have HTK := hd (hT.out.lt gT rfl)
          have HS := hd (show ∀ ww, Below wr.heap.size wr ww → ww.cell? ⟨gT, k, none⟩ = some (.slice (some ⟨rb, ro, none⟩) (l + 1) rc) ∧ ww.cell? ⟨g, 0, none⟩ = some (.int .i64 (h : Int)) ∧ ww.cell? ⟨g, 1, none⟩ = some (.int .i64 (c : Int)) ∧ ww.cell? ⟨g, 2, none⟩ = some (.int .i64 (l : Int)) ∧ ww.cell? ⟨rb, ro + (t - c), none⟩ = some (.int .i64 y1) from fun ww K =>
            ⟨(K.cell (p := ⟨gT, k, none⟩) HTK.out.2).trans kc, (K.cell (p := ⟨g, 0, none⟩) g0).trans d0, (K.cell (p := ⟨g, 1, none⟩) g0).trans d1, (K.cell (p := ⟨g, 2, none⟩) g0).trans d2, (K.cell (p := ⟨rb, ro + (t - c), none⟩) hrb).trans y1c⟩)
          have K := Below.refl wr.heap.size wr
          have HT := hd hT
          have HB := hd hbel
          have hkw2 : IntKind.i64.wrap (k : Int) = (k : Int) := IntWalk.i64_in _ (by omega)
          have htc : (((t - c : Nat) : Int)) < (l : Int) + 1 := by omega
          have htn : t - c < l + 1 := by omega
          have hk3 : (k : Int) < (n : Int) + 1 := by omega
          have hk4 : k < n + 1 := by omega
          have hk5 : (0 : Int) ≤ (k : Int) := by omega
          clear hT hbel hy1
          go_wp2_with fail
          go_region_held3 (fun ww => ww.cell? ⟨gT, k, none⟩ = some (.slice (some ⟨rb, ro, none⟩) (l + 1) rc) ∧ ww.cell? ⟨g, 0, none⟩ = some (.int .i64 (h : Int)) ∧ ww.cell? ⟨g, 1, none⟩ = some (.int .i64 (c : Int)) ∧ ww.cell? ⟨g, 2, none⟩ = some (.int .i64 (l : Int)) ∧ ww.cell? ⟨rb, ro + (t - c), none⟩ = some (.int .i64 y1)) (first | with_reducible exact HS.out _ K | with_reducible exact HS.out _ (Below.drew K)) (first | (go_at_call 202; replace K := Below.drew K; (with_reducible refine (cool_impl _ h c l t (by omega) (by omega)).mono ?_); rintro e w4 ⟨rfl, hb4⟩; replace K := below_step K hb4; clear hb4))
          clear d0 d1 d2 kc y1c
          obtain ⟨a0, a1, a2, a3, a4⟩ := HS.out _ K
          have hg4 := Nat.lt_of_lt_of_le g0 K.size
          have K4 := hd K
          clear K hkw hkw2
          go_wp2_with fail
          refine (hot_impl _ h c l t (by omega) (by omega)).mono ?_
          rintro e w5 ⟨rfl, hb5⟩
          obtain ⟨u, hu⟩ : ∃ u, u = t + h := ⟨_, rfl⟩
          rw [← hu]
          have HU := hd hu
          have hu1 : u ≤ 200 := by omega
          have HLE := hd (show (t + h ≤ l) = (u ≤ l) by rw [hu])
          clear hu
          have K5 := below_step K4.out hb5
          have T5 := HT.out.below K5
          have B5 : Below gT W0 w5 := HB.out.trans (K5.mono (by have := HB.out.size; have := HZ.out; omega))
          obtain ⟨f0, f1, f2, f3, f4⟩ := HS.out _ K5
          have HCUR := hd (HR.out.cur hkM1)
          rw [Nat.add_sub_cancel] at HCUR
          clear a0 a1 a2 a3 a4 hb5
          by_cases huh : u ≤ l
          · obtain ⟨rb2, ro2, rc2, e12, hrb2, y2c⟩ := row_num T5 hkM HPR.out (show u < l + 1 by omega)
            rw [e1] at e12
            injection e12 with e3 _ e4
            injection e3 with e3
            injection e3 with e5 e6 _
            subst e5 e6 e4
            obtain ⟨y2, hy2⟩ : ∃ y2, (tabB h c l k).getD u 0 = y2 := ⟨_, rfl⟩
            have hyb2 := tabB_at h c l k u
            rw [hy2] at y2c hyb2
            have HX := hd (show max y1 (y2 + 1) = burnAt h c l (tabB h c l k) t by unfold burnAt; rw [if_pos (by rw [HLE.out]; exact huh), HY1.out, ← HU.out, hy2])
            have huh' : (u : Int) ≤ (l : Int) := by omega
            have hul : (u : Int) < (l : Int) + 1 := by omega
            clear hy2
            obtain ⟨A2, c2, e2⟩ := (T5.row (k + 1) hkM1).isSlice
            have hlen2 : M[k + 1].2.length = t := by rw [HCUR.out, burnTo_len]
            have OR := T5.row (k + 1) hkM1
            obtain ⟨m1, m2, -⟩ := T5.get hkM1
            have HAP := hd (T5.off (k + 1) hkM1)
            rw [hlen2] at e2
            rw [e2] at m1 OR HAP
            have HE2 := hd e2
            have HLE2 := hd hlen2
            have hk2 : ((k : Int) + 1).toNat = k + 1 := by omega
            have hlt2 : (k : Int) + 1 < (n : Int) + 1 := by omega
            have ht60 : M[k + 1].2.length ≤ 200 := by omega
            clear hlen2 e2
            go_wp2_with (at_builtin; refine wpList_push_at _ rfl _ _ 56 rfl i0 (.int .i64 0) 8 Tryz.underlying56 hi hz0 hz1 hz2 rfl (by decide) _ _ (max y1 (y2 + 1)) rfl (OR.alloc _) w5.heap.size rfl #[.int .i64 (max y1 (y2 + 1))] 2 (heap_alloc_new _ _) rfl rfl (by intro u hu; simp [eI] at hu; subst hu; rfl) (by unfold maxLen; omega) (by omega) (by have := B5.size; have := HZ.out; simp; omega) ?_)
            intro v' w6 hown hgr hat
            obtain ⟨A6, c6, hv6⟩ := hown.isSlice
            rw [List.length_append, List.length_singleton] at hv6
            subst hv6
            have HOUT := ((T5.out.below ((Below.refl w5.heap.size w5).alloc (Nat.le_refl _) (.cells #[.int .i64 (max y1 (y2 + 1))] 2)) (Nat.le_refl _)).grown hgr (apart_symm HAP.out))
            obtain ⟨s1, s2⟩ := HOUT.cell_one eV_len (k + 1) hkM1 (u := M[k + 1].1) rfl
            rw [HE2.out] at s1
            have PUT := hd (T5.put hkM1 ((Below.refl w5.heap.size w5).alloc (Nat.le_refl _) (.cells #[.int .i64 (max y1 (y2 + 1))] 2)) hown (by rw [HE2.out]; exact hgr) (by
              rw [HE2.out]
              rcases hat with q | q
              · exact .inl q
              · refine .inr fun g hg => ?_
                rw [q] at hg
                injection hg with hg
                subst hg
                simp))
            have RI := hd (HR.out.set (v' := .slice A6 (M[k + 1].2.length + 1) c6) hkM1 (max y1 (y2 + 1)) (by rw [Nat.add_sub_cancel]; exact HX.out))
            have B6 : Below gT W0 w6 := (B5.alloc (by have := B5.size; have := HZ.out; omega) (.cells #[.int .i64 (max y1 (y2 + 1))] 2)).grown hgr (by have := B5.size; have := HZ.out; simp; omega) (fun g hg => (OR.lt g hg).1)
            have B7 := hd (show Below gT W0 (w6.setCell ⟨gT, k + 1, none⟩ (.slice A6 (M[k + 1].2.length + 1) c6)) from B6.setCell (p := ⟨gT, k + 1, none⟩) (Nat.le_refl _) _)
            clear hown hgr hat OR m1 m2 HOUT B6
            go_wp2_with fail
            go_roundw
            case rel => exact ⟨t + 1, M.set (k + 1) (.slice A6 (M[k + 1].2.length + 1) c6, M[k + 1].2 ++ [max y1 (y2 + 1)]), by omega, by go_num, PUT.out, RI, B7.out⟩
            case measure => first | (simp [intOf]; done) | (simp [intOf]; omega)
          · have HX := hd (show y1 = burnAt h c l (tabB h c l k) t by unfold burnAt; rw [if_neg (by rw [HLE.out]; exact huh), HY1.out])
            have huh' : (l : Int) < (u : Int) := by omega
            obtain ⟨A2, c2, e2⟩ := (T5.row (k + 1) hkM1).isSlice
            have hlen2 : M[k + 1].2.length = t := by rw [HCUR.out, burnTo_len]
            have OR := T5.row (k + 1) hkM1
            obtain ⟨m1, m2, -⟩ := T5.get hkM1
            have HAP := hd (T5.off (k + 1) hkM1)
            rw [hlen2] at e2
            rw [e2] at m1 OR HAP
            have HE2 := hd e2
            have HLE2 := hd hlen2
            have hk2 : ((k : Int) + 1).toNat = k + 1 := by omega
            have hlt2 : (k : Int) + 1 < (n : Int) + 1 := by omega
            have ht60 : M[k + 1].2.length ≤ 200 := by omega
            clear hlen2 e2
            go_wp2_with (at_builtin; refine wpList_push_at _ rfl _ _ 56 rfl i0 (.int .i64 0) 8 Tryz.underlying56 hi hz0 hz1 hz2 rfl (by decide) _ _ (y1) rfl (OR.alloc _) w5.heap.size rfl #[.int .i64 (y1)] 2 (heap_alloc_new _ _) rfl rfl (by intro u hu; simp [eI] at hu; subst hu; rfl) (by unfold maxLen; omega) (by omega) (by have := B5.size; have := HZ.out; simp; omega) ?_)
            intro v' w6 hown hgr hat
            obtain ⟨A6, c6, hv6⟩ := hown.isSlice
            rw [List.length_append, List.length_singleton] at hv6
            subst hv6
            have HOUT := ((T5.out.below ((Below.refl w5.heap.size w5).alloc (Nat.le_refl _) (.cells #[.int .i64 (y1)] 2)) (Nat.le_refl _)).grown hgr (apart_symm HAP.out))
            obtain ⟨s1, s2⟩ := HOUT.cell_one eV_len (k + 1) hkM1 (u := M[k + 1].1) rfl
            rw [HE2.out] at s1
            have PUT := hd (T5.put hkM1 ((Below.refl w5.heap.size w5).alloc (Nat.le_refl _) (.cells #[.int .i64 (y1)] 2)) hown (by rw [HE2.out]; exact hgr) (by
              rw [HE2.out]
              rcases hat with q | q
              · exact .inl q
              · refine .inr fun g hg => ?_
                rw [q] at hg
                injection hg with hg
                subst hg
                simp))
            have RI := hd (HR.out.set (v' := .slice A6 (M[k + 1].2.length + 1) c6) hkM1 (y1) (by rw [Nat.add_sub_cancel]; exact HX.out))
            have B6 : Below gT W0 w6 := (B5.alloc (by have := B5.size; have := HZ.out; omega) (.cells #[.int .i64 (y1)] 2)).grown hgr (by have := B5.size; have := HZ.out; simp; omega) (fun g hg => (OR.lt g hg).1)
            have B7 := hd (show Below gT W0 (w6.setCell ⟨gT, k + 1, none⟩ (.slice A6 (M[k + 1].2.length + 1) c6)) from B6.setCell (p := ⟨gT, k + 1, none⟩) (Nat.le_refl _) _)
            clear hown hgr hat OR m1 m2 HOUT B6
            go_wp2_with fail
            go_roundw
            case rel => exact ⟨t + 1, M.set (k + 1) (.slice A6 (M[k + 1].2.length + 1) c6, M[k + 1].2 ++ [y1]), by omega, by go_num, PUT.out, RI, B7.out⟩
            case measure => first | (simp [intOf]; done) | (simp [intOf]; omega)
        · have hte : t = l + 1 := by omega
          have HN := hd (show RowsIs h c l (k + 1 + 1) 0 M from RowsIs.next (by rw [← hte]; exact HR.out) (by omega))
          have hlt3 : (l : Int) < (t : Int) := by omega
          clear hte
          go_wp2_with fail
          go_roundw
          case rel => exact ⟨k + 1, M, by omega, by go_num, hT, HN, hbel⟩
          case measure => first | (simp [intOf]; done) | (simp [intOf]; omega)
    · as_aux_lemma =>
      obtain rfl : k = n := by omega
      have hlt3 : (k : Int) < (k : Int) + 1 := by omega
      obtain ⟨V, hV⟩ : ∃ V, V = wr := ⟨_, rfl⟩
      obtain ⟨NB, hNB⟩ : ∃ NB, NB = wr.heap.size := ⟨_, rfl⟩
      have HTV := hd (show ∀ W, Below NB V W → TabR W gT gT (k + 1) M from fun W hb => hT.below (by rw [hNB, hV] at hb; exact hb))
      have HLV := hd (show ∀ W, Below NB V W → LampAt W g h c l from fun W hb => (HLW.out _ hbel).below (by rw [hNB, hV] at hb; exact hb))
      have HNB := hd (show NB ≤ V.heap.size by rw [hNB, hV]; exact Nat.le_refl _)
      have HFIN := hd (show ∀ W, Below NB V W → Below gT W0 W from fun W hb => hbel.trans (by rw [hV] at hb; exact hb.mono (by rw [hNB]; have := hbel.size; have := HZ.out; omega)))
      have own0 : Own (wr.alloc (.cells #[] 5)) NB 5 1 (.slice (some ⟨wr.heap.size, 0, none⟩) 0 0) eU [] := by rw [hNB]; exact Own.made0 wr wr.heap.size 5 1 eU (Nat.le_refl _)
      have bel0 : Below NB V (wr.alloc (.cells #[] 5)) := by rw [hNB, hV]; exact (Below.refl wr.heap.size wr).alloc (Nat.le_refl _) _
      have HML := hd hT.len
      have HR2 := hd HR.out
      clear hV hNB hT hbel
      go_wp2_with fail
      go_loopw [11, 12, 13, 14] (fun ov tv jv _ wr => ∃ (j t : Nat) (L : List UInt8), t ≤ l ∧ j ≤ k ∧ L.length + j = k ∧ Own wr NB 5 1 ov eU L ∧ tv = .int .i64 (t : Int) ∧ jv = .int .i64 (j : Int) ∧ Hid (burnS h c l k 0 = L ++ burnS h c l j t) ∧ Below NB V wr) (fun _ _ jv _ _ => (intOf jv).toNat)
      case atStart => exact ⟨k, 0, [], by omega, Nat.le_refl _, by simp, own0, rfl, rfl, hd rfl, bel0⟩
      case round =>
        obtain ⟨j, t, L, ht, hjk, hLl, hown, rfl, rfl, HF, hbel⟩ := hrel
        clear own0 bel0
        by_cases hj0 : j = 0
        · have HR := hd (show burnB h c l k = ⟨L.toArray⟩ by unfold burnB; rw [HF.out, hj0]; simp [burnS])
          have HTW := HTV.out _ hbel
          have hkM : k < M.length := by rw [HML.out]; omega
          obtain ⟨rb, ro, rc, e1, hrb, y1c⟩ := row_num HTW hkM ((HR2.out).tab hkM (by omega)) (show 0 < l + 1 by omega)
          obtain ⟨kc, -, -⟩ := HTW.get hkM
          rw [e1] at kc
          generalize (tabB h c l k).getD 0 0 = y1 at y1c
          rw [Nat.add_zero] at y1c
          have hjz : ¬ ((0 : Int) < (j : Int)) := by omega
          have HB := hd (HFIN.out _ hbel)
          have hcv := fun q => HCV.out (wr.drewN q) _ L ((hown.drewN q).sl eU_len)
          have hcv1 := HCV.out wr.drew _ L (hown.drew.sl eU_len)
          have hcv0 := HCV.out wr _ L (hown.sl eU_len)
          obtain ⟨A, cc, rfl⟩ := hown.isSlice
          clear hown hbel HTW
          have hk4 : (k : Int) < (k : Int) + 1 := by omega
          have hk5 : k < k + 1 := by omega
          have hl4 : (0 : Int) < (l : Int) + 1 := by omega
          have hl5 : 0 < l + 1 := by omega
          go_wp2_with fail
          go_region
          go_wp2_with fail
          go_ret2
          exact ⟨y1, by rw [HR.out]; rfl, by rw [HGE.out]; exact HB0.out.trans ((Below.drew HB.out).mono (by have := HGT.out; omega))⟩
        · obtain ⟨i, rfl⟩ : ∃ i, j = i + 1 := ⟨j - 1, by omega⟩
          obtain ⟨g0, d0, d1, d2⟩ := HLV.out _ hbel
          have hjp : (0 : Int) < ((i + 1 : Nat) : Int) := by omega
          have hjp2 : (0 : Int) < (i : Int) + 1 := by omega
          go_wp2_with fail
          refine (hot_impl _ h c l t (by omega) (by omega)).mono ?_
          rintro e w5 ⟨rfl, hb5⟩
          obtain ⟨u, hu⟩ : ∃ u, u = t + h := ⟨_, rfl⟩
          rw [← hu]
          have HU := hd hu
          have hu1 : u ≤ 200 := by omega
          clear hu d0 d1 d2
          have K5 := bel_step hbel HNB.out hb5
          have hown5 := hown.below hb5 (Nat.le_refl _)
          obtain ⟨-, f0, f1, f2⟩ := HLV.out _ K5
          clear hb5 hown hbel
          by_cases huh : u ≤ l
          · have HTW := HTV.out _ K5
            have hkM : i < M.length := by rw [HML.out]; omega
            have hkM1 : i + 1 < M.length := by rw [HML.out]; omega
            obtain ⟨rb, ro, rc, e1, hrb, y1c⟩ := row_num HTW hkM ((HR2.out).tab hkM (by omega)) (show u < l + 1 by omega)
            obtain ⟨rb2, ro2, rc2, e2, hrb2, y2c⟩ := row_num HTW hkM1 ((HR2.out).tab hkM1 (by omega)) (show t < l + 1 by omega)
            obtain ⟨kc, -, -⟩ := HTW.get hkM
            obtain ⟨kc2, -, -⟩ := HTW.get hkM1
            rw [e1] at kc
            rw [e2] at kc2
            have yb1 := tabB_at h c l i u
            have HBU := hd (show burnsB h c l (i + 1) t = decide ((tabB h c l i).getD u 0 + 1 = (tabB h c l (i + 1)).getD t 0) by unfold burnsB; rw [← HU.out, decide_eq_true huh, Bool.true_and, Nat.add_sub_cancel])
            generalize (tabB h c l i).getD u 0 = y1 at y1c yb1 HBU
            generalize (tabB h c l (i + 1)).getD t 0 = y2 at y2c HBU
            have huh2 : decide (u ≤ l) = true := decide_eq_true huh
            have hu5 : (u : Int) < (l : Int) + 1 := by omega
            have hu6 : u < l + 1 := by omega
            have ht5 : (t : Int) < (l : Int) + 1 := by omega
            have ht6 : t < l + 1 := by omega
            have hi5 : (i : Int) < (k : Int) + 1 := by omega
            have hi6 : i < k + 1 := by omega
            have hi7 : (i : Int) + 1 < (k : Int) + 1 := by omega
            have hi8 : i + 1 < k + 1 := by omega
            have hw1 : IntKind.i64.wrap ((i : Int) + 1 - 1) = (i : Int) := by rw [Int.add_sub_cancel]; exact IntWalk.i64_in _ (by omega)
            have hw2 : IntKind.i64.wrap (i : Int) = (i : Int) := IntWalk.i64_in _ (by omega)
            have hw3 : IntKind.i64.wrap (y1 + 1) = y1 + 1 := IntWalk.i64_in _ (by omega)
            clear HTW e1 e2
            by_cases hq : y1 + 1 = y2
            · have HBN := hd (show burnsB h c l (i + 1) t = true by rw [HBU.out, decide_eq_true hq])
              have hq2 : ((y1 + 1 : Int) == y2) = true := by simpa using hq
              have HSUC := hd (HF.out.trans (by rw [burnS_yes HBN.out]))
              clear hq huh
              go_wp2_with fail
              go_quiet (fail)
              clear hw1 hw2 hw3 hq2 kc kc2 y1c y2c
              have K6 := below_drewN K5 nq
              have hown6 := hown5.drewN nq
              generalize w5.drewN nq = w6 at K6 hown6 ⊢
              have hL60 : L.length ≤ 60 := by omega
              have HLL := hd hLl
              clear hown5 K5 hLl f0 f1 f2
              go_wp2_with (at_builtin; refine wpList_push_at _ rfl _ _ 22 rfl u0 (.int .u8 0) 1 Tryz.underlying22 ui uz0 uz1 uz2 rfl (by decide) _ L (49 : UInt8) rfl (hown6.alloc _) w6.heap.size rfl #[.int .u8 49] 5 (heap_alloc_new _ _) rfl rfl (by intro u hu; simp [eU] at hu; subst hu; rfl) (by unfold maxLen; omega) (by omega) (Nat.le_trans HNB.out (K6.alloc (Nat.le_trans HNB.out K6.size) (.cells #[.int .u8 49] 5)).size) ?_)
              intro v7 w7 hown7 hgr7 hat7
              have K7 : Below NB V w7 := (K6.alloc (Nat.le_trans HNB.out K6.size) (.cells #[.int .u8 49] 5)).grown hgr7 (Nat.le_trans HNB.out (K6.alloc (Nat.le_trans HNB.out K6.size) (.cells #[.int .u8 49] 5)).size) (fun q hq => (hown6.lt q hq).1)
              clear hown6 K6 hgr7 hat7
              go_wp2_with fail
              go_roundw
              case rel => exact ⟨i, u, L ++ [49], by omega, by omega, by rw [List.length_append]; have := HLL.out; simp only [List.length_cons, List.length_nil]; omega, hown7, by go_num, by go_num, hd (by rw [HSUC.out, List.append_assoc, HU.out]; rfl), K7⟩
              case measure => first | (simp [intOf]; done) | (simp [intOf]; omega)
            · have HBN := hd (show burnsB h c l (i + 1) t = false by rw [HBU.out, decide_eq_false hq])
              have hq2 : ((y1 + 1 : Int) == y2) = false := by simpa using hq
              clear hq huh
              go_wp2_with fail
              go_quiet (fail)
              clear hw1 hw2 hw3 hq2 kc kc2 y1c y2c
              have K5n := below_drewN K5 nq
              have hown5n := hown5.drewN nq
              generalize w5.drewN nq = w6 at K5n hown5n ⊢
              have HSUC := hd (HF.out.trans (by rw [burnS_no HBN.out]))
              have HS := hd (show ∀ ww, Below NB V ww → ww.cell? ⟨g, 0, none⟩ = some (.int .i64 (h : Int)) ∧ ww.cell? ⟨g, 1, none⟩ = some (.int .i64 (c : Int)) ∧ ww.cell? ⟨g, 2, none⟩ = some (.int .i64 (l : Int)) from fun ww K => (HLV.out ww K).2)
              have K := K5n
              have O := hown5n
              have hL60 : L.length ≤ 60 := by omega
              have HLL := hd hLl
              clear f0 f1 f2 hown5n K5n hLl
              go_wp2_with fail
              go_region_held3 (fun ww => ww.cell? ⟨g, 0, none⟩ = some (.int .i64 (h : Int)) ∧ ww.cell? ⟨g, 1, none⟩ = some (.int .i64 (c : Int)) ∧ ww.cell? ⟨g, 2, none⟩ = some (.int .i64 (l : Int))) (first | with_reducible exact HS.out _ K | with_reducible exact HS.out _ (Below.drew K) | exact HS.out _ (K.alloc (Nat.le_trans HNB.out K.size) _) | exact HS.out _ (K.drew.alloc (Nat.le_trans HNB.out K.size) _)) (first | (go_at_call 202; (with_reducible refine (cool_impl _ h c l t (by omega) (by omega)).mono ?_); rintro e w8 ⟨rfl, hb8⟩; (first | (have K8 := bel_step K HNB.out hb8; have O8 := O.below hb8 (Nat.le_refl _)) | (have K8 := bel_step K.drew HNB.out hb8; have O8 := O.drew.below hb8 (Nat.le_refl _)) | (have K8 := bel_step (K.drew.alloc (Nat.le_trans HNB.out K.size) (.cells #[.int .u8 48] 5)) HNB.out hb8; have O8 := (O.drew.alloc (.cells #[.int .u8 48] 5)).below hb8 (Nat.le_refl _); have E8 : w8.heap[w6.heap.size]? = some (.cells #[.int .u8 48] 5 (0, 0)) := (hb8.block w6.heap.size (by simp)).trans (heap_alloc_new w6.drew (.cells #[.int .u8 48] 5)))); replace K := K8; replace O := O8; clear hb8 K8 O8) | (first | (refine step_push_at (w6.drew.alloc (.cells #[.int .u8 48] 5)) rfl _ _ 22 rfl u0 (.int .u8 0) 1 Tryz.underlying22 ui uz0 uz1 uz2 rfl (by decide) _ L (48 : UInt8) rfl (O.drew.alloc (.cells #[.int .u8 48] 5)) (w6.heap.size) rfl #[.int .u8 48] 5 (heap_alloc_new _ _) rfl rfl (by intro u hu; simp [eU] at hu; subst hu; rfl) (by unfold maxLen; omega) (by omega) (Nat.le_trans HNB.out (K.drew.alloc (Nat.le_trans HNB.out K.size) (.cells #[.int .u8 48] 5)).size) ?_; intro v3 w9 O9 hg9 hat9; have K9 : Below NB V w9 := (K.drew.alloc (Nat.le_trans HNB.out K.size) (.cells #[.int .u8 48] 5)).grown hg9 (Nat.le_trans HNB.out (K.drew.alloc (Nat.le_trans HNB.out K.size) (.cells #[.int .u8 48] 5)).size) (fun q hq => ((O.drew.alloc (.cells #[.int .u8 48] 5)).lt q hq).1); replace O := O9; replace K := K9; clear O9 K9 hg9 hat9) | (refine step_push_at (w8) rfl _ _ 22 rfl u0 (.int .u8 0) 1 Tryz.underlying22 ui uz0 uz1 uz2 rfl (by decide) _ L (48 : UInt8) rfl (O) (w6.heap.size) rfl #[.int .u8 48] 5 (E8) rfl rfl (by intro u hu; simp [eU] at hu; subst hu; rfl) (by unfold maxLen; omega) (by omega) (Nat.le_trans HNB.out (K).size) ?_; intro v3 w9 O9 hg9 hat9; have K9 : Below NB V w9 := (K).grown hg9 (Nat.le_trans HNB.out (K).size) (fun q hq => ((O).lt q hq).1); replace O := O9; replace K := K9; clear O9 K9 hg9 hat9) | (refine step_push_at (w8.alloc (.cells #[.int .u8 48] 5)) rfl _ _ 22 rfl u0 (.int .u8 0) 1 Tryz.underlying22 ui uz0 uz1 uz2 rfl (by decide) _ L (48 : UInt8) rfl (O.alloc (.cells #[.int .u8 48] 5)) (w8.heap.size) rfl #[.int .u8 48] 5 (heap_alloc_new _ _) rfl rfl (by intro u hu; simp [eU] at hu; subst hu; rfl) (by unfold maxLen; omega) (by omega) (Nat.le_trans HNB.out (K.alloc (Nat.le_trans HNB.out K.size) (.cells #[.int .u8 48] 5)).size) ?_; intro v3 w9 O9 hg9 hat9; have K9 : Below NB V w9 := (K.alloc (Nat.le_trans HNB.out K.size) (.cells #[.int .u8 48] 5)).grown hg9 (Nat.le_trans HNB.out (K.alloc (Nat.le_trans HNB.out K.size) (.cells #[.int .u8 48] 5)).size) (fun q hq => ((O.alloc (.cells #[.int .u8 48] 5)).lt q hq).1); replace O := O9; replace K := K9; clear O9 K9 hg9 hat9)))
              all_goals
                go_wp2_with fail
                go_roundw
                case rel => exact ⟨i, t - c, L ++ [48], by omega, by omega, by rw [List.length_append]; have := HLL.out; simp only [List.length_cons, List.length_nil]; omega, O, by go_num, by go_num, hd (by rw [HSUC.out, List.append_assoc]; rfl), K⟩
                case measure => first | (simp [intOf]; done) | (simp [intOf]; omega)
          · have huh' : (l : Int) < (u : Int) := by omega
            have HBN := hd (show burnsB h c l (i + 1) t = false by unfold burnsB; rw [← HU.out, decide_eq_false huh]; rfl)
            have huh2 : decide (u ≤ l) = false := decide_eq_false huh
            clear huh
            go_wp2_with fail
            go_quiet (fail)
            have K5n := below_drewN K5 nq
            have hown5n := hown5.drewN nq
            generalize w5.drewN nq = w6 at K5n hown5n ⊢
            have HSUC := hd (HF.out.trans (by rw [burnS_no HBN.out]))
            have HS := hd (show ∀ ww, Below NB V ww → ww.cell? ⟨g, 0, none⟩ = some (.int .i64 (h : Int)) ∧ ww.cell? ⟨g, 1, none⟩ = some (.int .i64 (c : Int)) ∧ ww.cell? ⟨g, 2, none⟩ = some (.int .i64 (l : Int)) from fun ww K => (HLV.out ww K).2)
            have K := K5n
            have O := hown5n
            have hL60 : L.length ≤ 60 := by omega
            have HLL := hd hLl
            clear f0 f1 f2 hown5n K5n hLl
            go_wp2_with fail
            go_region_held3 (fun ww => ww.cell? ⟨g, 0, none⟩ = some (.int .i64 (h : Int)) ∧ ww.cell? ⟨g, 1, none⟩ = some (.int .i64 (c : Int)) ∧ ww.cell? ⟨g, 2, none⟩ = some (.int .i64 (l : Int))) (first | with_reducible exact HS.out _ K | with_reducible exact HS.out _ (Below.drew K) | exact HS.out _ (K.alloc (Nat.le_trans HNB.out K.size) _) | exact HS.out _ (K.drew.alloc (Nat.le_trans HNB.out K.size) _)) (first | (go_at_call 202; (with_reducible refine (cool_impl _ h c l t (by omega) (by omega)).mono ?_); rintro e w8 ⟨rfl, hb8⟩; (first | (have K8 := bel_step K HNB.out hb8; have O8 := O.below hb8 (Nat.le_refl _)) | (have K8 := bel_step K.drew HNB.out hb8; have O8 := O.drew.below hb8 (Nat.le_refl _)) | (have K8 := bel_step (K.drew.alloc (Nat.le_trans HNB.out K.size) (.cells #[.int .u8 48] 5)) HNB.out hb8; have O8 := (O.drew.alloc (.cells #[.int .u8 48] 5)).below hb8 (Nat.le_refl _); have E8 : w8.heap[w6.heap.size]? = some (.cells #[.int .u8 48] 5 (0, 0)) := (hb8.block w6.heap.size (by simp)).trans (heap_alloc_new w6.drew (.cells #[.int .u8 48] 5)))); replace K := K8; replace O := O8; clear hb8 K8 O8) | (first | (refine step_push_at (w6.drew.alloc (.cells #[.int .u8 48] 5)) rfl _ _ 22 rfl u0 (.int .u8 0) 1 Tryz.underlying22 ui uz0 uz1 uz2 rfl (by decide) _ L (48 : UInt8) rfl (O.drew.alloc (.cells #[.int .u8 48] 5)) (w6.heap.size) rfl #[.int .u8 48] 5 (heap_alloc_new _ _) rfl rfl (by intro u hu; simp [eU] at hu; subst hu; rfl) (by unfold maxLen; omega) (by omega) (Nat.le_trans HNB.out (K.drew.alloc (Nat.le_trans HNB.out K.size) (.cells #[.int .u8 48] 5)).size) ?_; intro v3 w9 O9 hg9 hat9; have K9 : Below NB V w9 := (K.drew.alloc (Nat.le_trans HNB.out K.size) (.cells #[.int .u8 48] 5)).grown hg9 (Nat.le_trans HNB.out (K.drew.alloc (Nat.le_trans HNB.out K.size) (.cells #[.int .u8 48] 5)).size) (fun q hq => ((O.drew.alloc (.cells #[.int .u8 48] 5)).lt q hq).1); replace O := O9; replace K := K9; clear O9 K9 hg9 hat9) | (refine step_push_at (w8) rfl _ _ 22 rfl u0 (.int .u8 0) 1 Tryz.underlying22 ui uz0 uz1 uz2 rfl (by decide) _ L (48 : UInt8) rfl (O) (w6.heap.size) rfl #[.int .u8 48] 5 (E8) rfl rfl (by intro u hu; simp [eU] at hu; subst hu; rfl) (by unfold maxLen; omega) (by omega) (Nat.le_trans HNB.out (K).size) ?_; intro v3 w9 O9 hg9 hat9; have K9 : Below NB V w9 := (K).grown hg9 (Nat.le_trans HNB.out (K).size) (fun q hq => ((O).lt q hq).1); replace O := O9; replace K := K9; clear O9 K9 hg9 hat9) | (refine step_push_at (w8.alloc (.cells #[.int .u8 48] 5)) rfl _ _ 22 rfl u0 (.int .u8 0) 1 Tryz.underlying22 ui uz0 uz1 uz2 rfl (by decide) _ L (48 : UInt8) rfl (O.alloc (.cells #[.int .u8 48] 5)) (w8.heap.size) rfl #[.int .u8 48] 5 (heap_alloc_new _ _) rfl rfl (by intro u hu; simp [eU] at hu; subst hu; rfl) (by unfold maxLen; omega) (by omega) (Nat.le_trans HNB.out (K.alloc (Nat.le_trans HNB.out K.size) (.cells #[.int .u8 48] 5)).size) ?_; intro v3 w9 O9 hg9 hat9; have K9 : Below NB V w9 := (K.alloc (Nat.le_trans HNB.out K.size) (.cells #[.int .u8 48] 5)).grown hg9 (Nat.le_trans HNB.out (K.alloc (Nat.le_trans HNB.out K.size) (.cells #[.int .u8 48] 5)).size) (fun q hq => ((O.alloc (.cells #[.int .u8 48] 5)).lt q hq).1); replace O := O9; replace K := K9; clear O9 K9 hg9 hat9)))
            all_goals
              go_wp2_with fail
              go_roundw
              case rel => exact ⟨i, t - c, L ++ [48], by omega, by omega, by rw [List.length_append]; have := HLL.out; simp only [List.length_cons, List.length_nil]; omega, O, by go_num, by go_num, hd (by rw [HSUC.out, List.append_assoc]; rfl), K⟩
              case measure => first | (simp [intOf]; done) | (simp [intOf]; omega)
set_option maxRecDepth 100000 in
set_option maxHeartbeats 8000000 in
theorem lamp_impl (w : World) (h c l n : Int) :
    Calls Tryz.prog 78 #[.agg #[.int .i64 h, .int .i64 c, .int .i64 l], .int .i64 n] w fun e w' => e = .returned (.tuple #[.string (lampR h c l n).1, .int .i64 (lampR h c l n).2]) ∧ Below w.heap.size w w' := by
  have c0 := new_cell w #[.int .i64 h, .int .i64 c, .int .i64 l] 120 0 _ rfl
  have c1 := new_cell w #[.int .i64 h, .int .i64 c, .int .i64 l] 120 1 _ rfl
  have c2 := new_cell w #[.int .i64 h, .int .i64 c, .int .i64 l] 120 2 _ rfl
  have hb0 := (Below.refl w.heap.size w).alloc (Nat.le_refl _) (.cells #[.int .i64 h, .int .i64 c, .int .i64 l] 120)
  by_cases hc : lampC h c l n = 0
  case neg =>
    obtain ⟨k, hcc⟩ : ∃ k, lampC h c l n = k := ⟨_, rfl⟩
    have HR := hd (lampR_bad hcc (by rw [← hcc]; exact hc))
    have kc : (k != 0) = true := by rw [← hcc]; simpa using hc
    have HC := hd hcc
    clear hc hcc
    go_enter Tryz.func78, Tryz.ntmps78
    go_wp2_with fail
    generalize w.alloc (.cells #[.int .i64 h, .int .i64 c, .int .i64 l] 120) = W at hb0 c0 c1 c2 ⊢
    refine (lampC_impl _ _ _ _ _).mono ?_
    rintro e w1 ⟨rfl, hb1⟩
    rw [HC.out]
    have B := below_step hb0 hb1
    clear c0 c1 c2 hb0 hb1
    go_wp2_with fail
    go_ret2
    exact ⟨by rw [HR.out]; rfl, B⟩
  have HR := lampR_good hc
  obtain ⟨h1, h2⟩ := lampC_zero hc
  obtain ⟨⟨a1, a2⟩, ⟨b1, b2⟩, d1, d2⟩ := lampB_bd h1
  have hn := inB_true h2
  obtain ⟨h', rfl⟩ := Int.eq_ofNat_of_zero_le (show 0 ≤ h by omega)
  obtain ⟨c', rfl⟩ := Int.eq_ofNat_of_zero_le (show 0 ≤ c by omega)
  obtain ⟨l', rfl⟩ := Int.eq_ofNat_of_zero_le (show 0 ≤ l by omega)
  obtain ⟨n', rfl⟩ := Int.eq_ofNat_of_zero_le (show 0 ≤ n by omega)
  rw [Int.toNat_natCast, Int.toNat_natCast, Int.toNat_natCast, Int.toNat_natCast] at HR
  have HR := hd HR
  have HC := hd hc
  have HLA := lamp_new w h' c' l' 120
  clear hc h1 h2
  go_enter Tryz.func78, Tryz.ntmps78
  go_wp2_with fail
  generalize w.alloc (.cells #[.int .i64 (h' : Int), .int .i64 (c' : Int), .int .i64 (l' : Int)] 120) = W at hb0 c0 c1 c2 HLA ⊢
  refine (lampC_impl _ _ _ _ _).mono ?_
  rintro e w1 ⟨rfl, hb1⟩
  rw [HC.out]
  have B := below_step hb0 hb1
  clear c0 c1 c2
  obtain ⟨-, c0, c1, c2⟩ := HLA.below hb1
  clear hb0 hb1 HLA
  go_wp2_with fail
  refine (burn_impl _ _ _ _ _ (by omega) (by omega) (by omega) (by omega)).mono ?_
  rintro e w2 ⟨k, rfl, hb2⟩
  have B2 := below_step B hb2
  clear c0 c1 c2 hb2 B
  go_wp2_with fail
  go_ret2
  exact ⟨by rw [HR.out]; rfl, B2⟩
end Go.Proofs.YtgcodjkjdfahdaaGreatDoor
