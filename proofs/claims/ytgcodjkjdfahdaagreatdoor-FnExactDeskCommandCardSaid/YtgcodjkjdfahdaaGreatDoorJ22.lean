/- Lemmas for the claim (the walks of its functions and their plain laws), joined. No condition. -/
import Derived.Test.YtgcodjkjdfahdaaGreatDoorJ21
import Derived.OneCell
import Derived.Deep.RegionLaw
import Derived.Deep.RegionHeld3
import Derived.Laws.EntriesVeiled
namespace Go.Proofs.YtgcodjkjdfahdaaGreatDoor
open Go Go.RowKit Go.ChangeShapes Go.WideShapes
set_option linter.unusedSimpArgs false
set_option linter.unusedVariables false
structure BestAt (W : World) (B N gL gl gh gb : Nat) (vL : Value) (h : Int) (st : TBest) : Prop where
  lt : gL < N ∧ gl < N ∧ gh < N ∧ gb < N ∧ N ≤ W.heap.size ∧ B ≤ N
  ne : gl ≠ gb ∧ gL ≠ gl ∧ gL ≠ gb ∧ gh ≠ gl ∧ gh ≠ gb
  cL : W.heap[gL]? = some (.cells #[vL] 26 (0, 0))
  ch : W.heap[gh]? = some (.cells #[.int .i64 h] 2 (0, 0))
  cl : W.heap[gl]? = some (.cells #[.int .i64 st.2] 2 (0, 0))
  cb : ∃ vb, W.heap[gb]? = some (.cells #[vb] 56 (0, 0)) ∧ Own W B 2 1 vb eI st.1 ∧ ∀ b ∈ [some gl, some gb], apart vb.ownBlock b
theorem BestAt.below {W W' : World} {B N gL gl gh gb : Nat} {vL : Value} {h : Int} {st : TBest} (H : BestAt W B N gL gl gh gb vL h st) (hb : Below W.heap.size W W') : BestAt W' B N gL gl gh gb vL h st := by
  obtain ⟨l1, l2, l3, l4, l5, l6⟩ := H.lt
  obtain ⟨vb, c, O, ap⟩ := H.cb
  exact ⟨⟨l1, l2, l3, l4, Nat.le_trans l5 hb.size, l6⟩, H.ne, (hb.block gL (by omega)).trans H.cL, (hb.block gh (by omega)).trans H.ch, (hb.block gl (by omega)).trans H.cl, vb, (hb.block gb (by omega)).trans c, O.below hb (Nat.le_refl _), ap⟩
theorem touch_two {W w : World} (hb : Below W.heap.size W w) (gb gl : Nat) (a b : Value) : TouchL W ((w.setCell ⟨gb, 0, none⟩ a).setCell ⟨gl, 0, none⟩ b) [some gl, some gb] := by
  refine ⟨hb.os, hb.tape, hb.output, by simpa using hb.size, fun k hk hn => ?_⟩
  have h1 := hn (some gl) (by simp)
  have h2 := hn (some gb) (by simp)
  rw [heap_setCell_other _ _ _ _ (fun e => h1 (by rw [e])), heap_setCell_other _ _ _ _ (fun e => h2 (by rw [e]))]
  exact hb.block k hk
theorem touch_none {W w : World} (hb : Below W.heap.size W w) (bs : List (Option Nat)) : TouchL W w bs := ⟨hb.os, hb.tape, hb.output, hb.size, fun k hk _ => hb.block k hk⟩
theorem BestAt.set {W : World} {B N gL gl gh gb : Nat} {vL : Value} {h : Int} {st : TBest} (H : BestAt W B N gL gl gh gb vL h st) {v : Value} {sh : List Int} (O : Own W B 2 1 v eI sh) (ap : ∀ b ∈ [some gl, some gb], apart v.ownBlock b) (s : Int) :
    BestAt ((W.setCell ⟨gb, 0, none⟩ v).setCell ⟨gl, 0, none⟩ (.int .i64 s)) B N gL gl gh gb vL h (sh, s) := by
  obtain ⟨l1, l2, l3, l4, l5, l6⟩ := H.lt
  obtain ⟨n1, n2, n3, n4, n5⟩ := H.ne
  obtain ⟨vb, c, -, -⟩ := H.cb
  have k1 := one_setCell (u := v) c
  refine ⟨⟨l1, l2, l3, l4, by simpa using l5, l6⟩, H.ne, ?_, ?_, ?_, v, ?_, ?_, ap⟩
  · rw [heap_setCell_other _ _ _ _ n2, heap_setCell_other _ _ _ _ n3]; exact H.cL
  · rw [heap_setCell_other _ _ _ _ n4, heap_setCell_other _ _ _ _ n5]; exact H.ch
  · refine one_setCell (v := .int .i64 st.2) ?_
    rw [heap_setCell_other _ _ _ _ n1]
    exact H.cl
  · rw [heap_setCell_other _ _ _ _ (Ne.symm n1)]; exact k1
  · exact O.touched (touch_two (Below.refl _ _) gb gl v (.int .i64 s)) ap
theorem apart_above {v : Value} {M gl gb : Nat} (h : ∀ g, v.ownBlock = some g → M ≤ g) (h1 : gl < M) (h2 : gb < M) : ∀ b ∈ [some gl, some gb], apart v.ownBlock b := by
  intro b hbm
  rcases hv : v.ownBlock with _ | g
  · exact .inl rfl
  · refine .inr fun e => ?_
    have h3 := h g hv
    simp only [List.mem_cons, List.mem_nil_iff, or_false] at hbm
    rcases hbm with rfl | rfl
    · injection e with e; omega
    · injection e with e; omega
theorem sumI_sumZ (l : List Int) (a : Int) (h0 : 0 ≤ a) (hl : ∀ x ∈ l, 0 ≤ x ∧ x ≤ 6) (hb : a + 6 * l.length ≤ 1000) : l.foldl (fun s x => wrap64 (s + x)) a = a + sumZ l := by
  induction l generalizing a with
  | nil => simp [sumZ]
  | cons x l ih =>
    have hx := hl x (by simp)
    simp only [List.length_cons] at hb
    rw [List.foldl_cons, IntWalk.wrap64_in _ ⟨by omega, by omega⟩, ih (a + x) (by omega) (fun y hy => hl y (by simp [hy])) (by omega)]
    simp only [sumZ]
    omega
theorem sumZ_bd (l : List Int) (hl : ∀ x ∈ l, 0 ≤ x ∧ x ≤ 6) : 0 ≤ sumZ l ∧ sumZ l ≤ 6 * l.length := by
  induction l with
  | nil => simp [sumZ]
  | cons x l ih =>
    have hx := hl x (by simp)
    have := ih (fun y hy => hl y (by simp [hy]))
    simp only [sumZ, List.length_cons]
    omega
theorem shiftL_bd {l : List TCue} {sh : List Int} (hok : ∀ x ∈ l, okC x) (hsh : ∀ x ∈ sh, 0 ≤ x ∧ x ≤ 6) : ∀ x ∈ shiftL l sh, bdCue x := by
  intro x hx
  unfold shiftL at hx
  rw [List.mem_iff_getElem] at hx
  obtain ⟨i, hi, rfl⟩ := hx
  rw [List.getElem_zipWith]
  exact bd_ok (hok _ (List.getElem_mem _)) (hsh _ (List.getElem_mem _))
theorem stepS_no {l : List TCue} {h : Int} {st : TBest} {sh : List Int} (hb : better st (sumZ sh) = false) : stepS l h st sh = st := by unfold stepS; rw [hb]; rfl
theorem stepS_much {l : List TCue} {h : Int} {st : TBest} {sh : List Int} (hb : ¬ mostL (shiftL l sh) ≤ h) : stepS l h st sh = st := by unfold stepS; rw [decide_eq_false hb, Bool.and_false]; rfl
theorem stepS_yes {l : List TCue} {h : Int} {st : TBest} {sh : List Int} (h1 : better st (sumZ sh) = true) (hb : mostL (shiftL l sh) ≤ h) : stepS l h st sh = (sh, sumZ sh) := by unfold stepS; rw [h1, decide_eq_true hb]; rfl
set_option maxRecDepth 100000 in
set_option maxHeartbeats 8000000 in
theorem best_step (W : World) (B N gL gl gh gb : Nat) (vL : Value) (l : List TCue) (h : Int) (st : TBest) (H : BestAt W B N gL gl gh gb vL h st) (hL : Sl W 4 vL eCue l) (vs : Value) (sh : List Int) (hs : Sl W 1 vs eI sh)
    (hlen : sh.length = l.length) (hl : l.length ≤ 6) (hok : ∀ x ∈ l, okC x) (hsh : ∀ x ∈ sh, 0 ≤ x ∧ x ≤ 6) (hst : -1 ≤ st.2 ∧ st.2 ≤ 1000) :
    Calls Tryz.prog 138 #[vs, .pointer (some ⟨gl, 0, none⟩), .pointer (some ⟨gL, 0, none⟩), .pointer (some ⟨gh, 0, none⟩), .pointer (some ⟨gb, 0, none⟩)] W fun e W' =>
      e = .returned (.tuple #[]) ∧ BestAt W' B N gL gl gh gb vL h (stepS l h st sh) ∧ TouchL W W' [some gl, some gb] := by
  obtain ⟨AL, cL, rfl⟩ := hL.isSlice
  obtain ⟨As, cs, rfl⟩ := hs.isSlice
  have HB := hd H
  have HSUM := hd (show sumI sh = sumZ sh by unfold sumI; rw [sumI_sumZ sh 0 (by omega) hsh (by omega)]; omega)
  have hsz := sumZ_bd sh hsh
  have HLEN := hd hlen
  have HOK := hd hok
  have HSH := hd hsh
  have HBD := hd (shiftL_bd hok hsh)
  have HSL := hd (shiftL_len l sh hlen)
  obtain ⟨l1, l2, l3, l4, l5, l6⟩ := H.lt
  have k1 := cell_of_one H.cL
  have k2 := cell_of_one H.ch
  have k3 := cell_of_one H.cl
  obtain ⟨s2, hs2⟩ : ∃ s2, s2 = st.2 := ⟨_, rfl⟩
  rw [← hs2] at k3 hst
  have HS2 := hd hs2
  have hs6 : sumZ sh ≤ 36 := by omega
  clear H hlen hok hsh hs2
  by_cases hbt : better st (sumZ sh) = true
  case neg =>
    have HR := hd (stepS_no (l := l) (h := h) (Bool.eq_false_iff.2 hbt))
    have hx : 0 ≤ s2 ∧ s2 ≤ sumZ sh := by
      unfold better at hbt
      rw [← HS2.out] at hbt
      simp only [Bool.or_eq_true, decide_eq_true_eq] at hbt
      omega
    obtain ⟨hx1, hx2⟩ := hx
    clear hbt
    go_enter Tryz.func138, Tryz.ntmps138
    go_wp2_with fail
    refine (sum_impl _ _ _ hs).mono ?_
    rintro e w1 ⟨rfl, hw⟩
    have hw := hw.symm
    subst hw
    rw [HSUM.out]
    generalize sumZ sh = s at hsz hs6 hx2 HR HSUM ⊢
    go_wp2_with fail
    have q1 : decide (s2 < 0) = false := decide_eq_false (by omega)
    have q2 : decide (s < s2) = false := decide_eq_false (by omega)
    go_quiet (fail)
    go_wp2_with fail
    go_end0
    refine ⟨rfl, ?_, touch_none (below_drewN (Below.refl _ _) _) _⟩
    rw [HR.out]
    exact HB.out.below (below_drewN (Below.refl _ _) _)
  have hcase : s2 < 0 ∨ (0 ≤ s2 ∧ sumZ sh < s2) := by
    unfold better at hbt
    rw [← HS2.out] at hbt
    simp only [Bool.or_eq_true, decide_eq_true_eq] at hbt
    omega
  have HS := hd (show ∀ ww, Below W.heap.size W ww → ww.cell? ⟨gl, 0, none⟩ = some (.int .i64 s2) ∧ ww.cell? ⟨gL, 0, none⟩ = some (.slice AL l.length cL) ∧ ww.cell? ⟨gh, 0, none⟩ = some (.int .i64 h) from fun ww K =>
    ⟨(K.cell (p := ⟨gl, 0, none⟩) (show gl < W.heap.size by omega)).trans k3, (K.cell (p := ⟨gL, 0, none⟩) (show gL < W.heap.size by omega)).trans k1, (K.cell (p := ⟨gh, 0, none⟩) (show gh < W.heap.size by omega)).trans k2⟩)
  by_cases hm : mostL (shiftL l sh) ≤ h
  case neg =>
    have HR := hd (stepS_much (st := st) hm)
    have hm' : h < mostL (shiftL l sh) := by omega
    rcases (show (decide (s2 < 0) = true ∧ s2 < 0) ∨ (decide (s2 < 0) = false ∧ decide (sumZ sh < s2) = true ∧ 0 ≤ s2 ∧ sumZ sh < s2) by rcases hcase with hc | ⟨hc, hc2⟩; exact .inl ⟨decide_eq_true hc, hc⟩; exact .inr ⟨decide_eq_false (by omega), decide_eq_true hc2, hc, hc2⟩) with ⟨q1, q2⟩ | ⟨q1, q2, q3, q4⟩
    all_goals
      go_enter Tryz.func138, Tryz.ntmps138
      go_wp2_with fail
      refine (sum_impl _ _ _ hs).mono ?_
      rintro e w1 ⟨rfl, hw⟩
      have hw := hw.symm
      subst hw
      rw [HSUM.out]
      have K := Below.refl W.heap.size W
      go_wp2_with fail
    · first | (go_region_law (first | (go_simp; go_at_call 140; replace K := Below.drew K; (with_reducible refine (shift_impl _ _ _ (hL.below K) _ _ (hs.below K) HLEN.out hl HOK.out HSH.out).mono ?_); rintro e w2 ⟨v2, rfl, O2, hb2⟩; obtain ⟨A2, c2, rfl⟩ := O2.isSlice; replace K := below_step K hb2; have kh := (HS.out _ K).2.2; clear hb2) | (go_simp; go_at_call 139; (with_reducible refine (most_impl _ _ _ (O2.sl eCue_len) HBD.out (by rw [HSL.out]; exact hl)).mono ?_); rintro e w3 ⟨rfl, hb3⟩; replace K := below_step K hb3; replace kh := (HS.out _ K).2.2; clear hb3))) | fail
      all_goals
        go_wp2_with fail
        go_end0
        refine ⟨rfl, ?_, touch_none K _⟩
        rw [HR.out]
        exact HB.out.below K
    · go_region_held3 (fun ww => ww.cell? ⟨gl, 0, none⟩ = some (.int .i64 s2) ∧ ww.cell? ⟨gL, 0, none⟩ = some (.slice AL l.length cL) ∧ ww.cell? ⟨gh, 0, none⟩ = some (.int .i64 h)) (first | with_reducible exact HS.out _ K | with_reducible exact HS.out _ (Below.drew K)) (first | (go_at_call 140; replace K := Below.drew K; (with_reducible refine (shift_impl _ _ _ (hL.below K) _ _ (hs.below K) HLEN.out hl HOK.out HSH.out).mono ?_); rintro e w2 ⟨v2, rfl, O2, hb2⟩; obtain ⟨A2, c2, rfl⟩ := O2.isSlice; replace K := below_step K hb2; clear hb2) | (go_at_call 139; (with_reducible refine (most_impl _ _ _ (O2.sl eCue_len) HBD.out (by rw [HSL.out]; exact hl)).mono ?_); rintro e w3 ⟨rfl, hb3⟩; replace K := below_step K hb3; clear hb3))
      all_goals
        go_wp2_with fail
        go_end0
        refine ⟨rfl, ?_, touch_none K _⟩
        rw [HR.out]
        exact HB.out.below K
  have HR := hd (stepS_yes hbt hm)
  clear hbt
  rcases (show (decide (s2 < 0) = true ∧ s2 < 0) ∨ (decide (s2 < 0) = false ∧ decide (sumZ sh < s2) = true ∧ 0 ≤ s2 ∧ sumZ sh < s2) by rcases hcase with hc | ⟨hc, hc2⟩; exact .inl ⟨decide_eq_true hc, hc⟩; exact .inr ⟨decide_eq_false (by omega), decide_eq_true hc2, hc, hc2⟩) with ⟨q1, q2⟩ | ⟨q1, q2, q3, q4⟩
  all_goals
    go_enter Tryz.func138, Tryz.ntmps138
    go_wp2_with fail
    refine (sum_impl _ _ _ hs).mono ?_
    rintro e w1 ⟨rfl, hw⟩
    have hw := hw.symm
    subst hw
    rw [HSUM.out]
    have K := Below.refl W.heap.size W
    go_wp2_with fail
  · first | (go_region_law (first | (go_simp; go_at_call 140; replace K := Below.drew K; (with_reducible refine (shift_impl _ _ _ (hL.below K) _ _ (hs.below K) HLEN.out hl HOK.out HSH.out).mono ?_); rintro e w2 ⟨v2, rfl, O2, hb2⟩; obtain ⟨A2, c2, rfl⟩ := O2.isSlice; replace K := below_step K hb2; have kh := (HS.out _ K).2.2; clear hb2) | (go_simp; go_at_call 139; (with_reducible refine (most_impl _ _ _ (O2.sl eCue_len) HBD.out (by rw [HSL.out]; exact hl)).mono ?_); rintro e w3 ⟨rfl, hb3⟩; replace K := below_step K hb3; replace kh := (HS.out _ K).2.2; clear hb3))) | fail
    all_goals
      clear O2
      go_wp2_with fail
      refine (clone_I _ _ _ (hs.below K) (by rw [HLEN.out]; omega)).mono ?_
      rintro e w4 ⟨v4, rfl, O4, hb4⟩
      have K4 := below_step K hb4
      have H4 := HB.out.below K4
      have q1 := cell_of_one H4.cl
      obtain ⟨vb, q0, -, -⟩ := H4.cb
      have q2 := cell_of_one q0
      have f1 := free_of_one H4.cl
      have f2 := free_of_one q0
      have HSET := hd (H4.set (O4.base (Nat.le_trans l6 (Nat.le_trans l5 K.size))) (apart_above (M := w3.heap.size) (fun g hg => (O4.lt g hg).1) (Nat.lt_of_lt_of_le l2 (Nat.le_trans l5 K.size)) (Nat.lt_of_lt_of_le l4 (Nat.le_trans l5 K.size))) (sumZ sh))
      have HT := hd (touch_two K4 gb gl v4 (.int .i64 (sumZ sh)))
      obtain ⟨n1, -⟩ := H4.ne
      obtain ⟨A4, c4, rfl⟩ := O4.isSlice
      clear H4 O4 hb4 K4 q0 hs hL
      go_wp2_with fail
      go_end0
      refine ⟨rfl, ?_, HT.out⟩
      rw [HR.out]
      exact HSET.out
  · go_region_held3 (fun ww => ww.cell? ⟨gl, 0, none⟩ = some (.int .i64 s2) ∧ ww.cell? ⟨gL, 0, none⟩ = some (.slice AL l.length cL) ∧ ww.cell? ⟨gh, 0, none⟩ = some (.int .i64 h)) (first | with_reducible exact HS.out _ K | with_reducible exact HS.out _ (Below.drew K)) (first | (go_at_call 140; replace K := Below.drew K; (with_reducible refine (shift_impl _ _ _ (hL.below K) _ _ (hs.below K) HLEN.out hl HOK.out HSH.out).mono ?_); rintro e w2 ⟨v2, rfl, O2, hb2⟩; obtain ⟨A2, c2, rfl⟩ := O2.isSlice; replace K := below_step K hb2; clear hb2) | (go_at_call 139; (with_reducible refine (most_impl _ _ _ (O2.sl eCue_len) HBD.out (by rw [HSL.out]; exact hl)).mono ?_); rintro e w3 ⟨rfl, hb3⟩; replace K := below_step K hb3; clear hb3))
    all_goals
      clear O2
      go_wp2_with fail
      refine (clone_I _ _ _ (hs.below K) (by rw [HLEN.out]; omega)).mono ?_
      rintro e w4 ⟨v4, rfl, O4, hb4⟩
      have K4 := below_step K hb4
      have H4 := HB.out.below K4
      have q1 := cell_of_one H4.cl
      obtain ⟨vb, q0, -, -⟩ := H4.cb
      have q2 := cell_of_one q0
      have f1 := free_of_one H4.cl
      have f2 := free_of_one q0
      have HSET := hd (H4.set (O4.base (Nat.le_trans l6 (Nat.le_trans l5 K.size))) (apart_above (M := w3.heap.size) (fun g hg => (O4.lt g hg).1) (Nat.lt_of_lt_of_le l2 (Nat.le_trans l5 K.size)) (Nat.lt_of_lt_of_le l4 (Nat.le_trans l5 K.size))) (sumZ sh))
      have HT := hd (touch_two K4 gb gl v4 (.int .i64 (sumZ sh)))
      obtain ⟨n1, -⟩ := H4.ne
      obtain ⟨A4, c4, rfl⟩ := O4.isSlice
      clear H4 O4 hb4 K4 q0 hs hL
      go_wp2_with fail
      go_end0
      refine ⟨rfl, ?_, HT.out⟩
      rw [HR.out]
      exact HSET.out
end Go.Proofs.YtgcodjkjdfahdaaGreatDoor
