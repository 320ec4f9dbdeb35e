/- The days of the hires of each item; reference and program alike. No condition but that the slices read. -/
import Derived.Test.YtlgcehdklpbknaaOut
namespace Go.Proofs.Ytlgcehdklpbknaa
open Go Go.RowKit Go.ChangeShapes Go.WideShapes
set_option linter.unusedSimpArgs false
set_option linter.unusedVariables false

theorem made_ints (w : World) (B : Nat) (E : TypeId) (v : Value) (n : Nat) (h : w.ownsRow B E 1 v n (madeCells #[Value.int .i64 0] n).toList) : Own w B E 1 v eI (List.replicate n 0) := by
  rw [toList_madeCells_one] at h
  have e : List.replicate n (Value.int .i64 0) = (List.replicate n (0 : Int)).flatMap eI := by
    clear h
    induction n with
    | zero => rfl
    | succ n ih => simp [List.replicate_succ, eI, List.flatMap_cons] at ih ⊢; exact ih
  unfold Own
  rw [List.length_replicate, ← e]
  exact h
def daysStep (st : List Int) (x : THire) : List Int := st.set x.1.toNat (wrap64 (st.getD x.1.toNat 0 + (x.2.2 - x.2.1)))
def daysTo (S : List Int) (L : List THire) (k : Nat) : List Int := (L.take k).foldl daysStep (List.replicate S.length 0)
theorem daysTo_snoc (S : List Int) (L : List THire) (k : Nat) (h : k < L.length) : daysTo S L (k + 1) = daysStep (daysTo S L k) L[k] := by
  unfold daysTo
  rw [List.take_succ_eq_append_getElem h, List.foldl_append]
  rfl
theorem daysFold_len (l : List THire) (st : List Int) : (l.foldl daysStep st).length = st.length := by
  induction l generalizing st with
  | nil => rfl
  | cons x l ih => rw [List.foldl_cons, ih]; simp [daysStep]
theorem daysTo_len (S : List Int) (L : List THire) (k : Nat) : (daysTo S L k).length = S.length := by
  unfold daysTo
  rw [daysFold_len, List.length_replicate]
def daysR (S : List Int) (L : List THire) : List Int × Int := if okHires S L then (daysTo S L L.length, 0) else ([], 1)
theorem daysR_len (S : List Int) (L : List THire) : (daysR S L).1.length ≤ S.length := by
  unfold daysR
  split
  · rw [daysTo_len]; exact Nat.le_refl _
  · simp
theorem GivesOwnI.mk' {α : Type} {enc : α → List Value} {w wr : World} {E : TypeId} {k : Nat} {r : List α × Int} {c : Int} {l : List α} {v : Value} (h : r = (l, c)) (ho : Own wr w.heap.size E k v enc l) (hb : Below w.heap.size w wr) : GivesOwnI w E k enc r (.returned (.tuple #[v, .int .i64 c])) wr := by
  subst h
  exact ⟨_, rfl, ho, hb⟩
theorem GivesOwnI.mk_nil' {α : Type} {enc : α → List Value} {w : World} {E : TypeId} {k : Nat} {r : List α × Int} {c : Int} (h : r = ([], c)) (wr : World) (hb : Below w.heap.size w wr) : GivesOwnI w E k enc r (.returned (.tuple #[.slice none 0 0, .int .i64 c])) wr := by
  subst h
  exact ⟨_, rfl, Own.nil _ _ _ _ _, hb⟩

set_option maxHeartbeats 4000000 in
theorem days_impl (w : World) (vS : Value) (S : List Int) (hS : Sl w 1 vS eI S) (vL : Value) (L : List THire) (hL : Sl w 3 vL eHire L) : Calls Try.prog 46 #[vS, vL] w (GivesOwnI w 2 1 eI (daysR S L)) := by
  have m1 := hS.len
  have m2 := hL.len
  obtain ⟨-, A1, c1, rfl, -, -, -⟩ := id hS
  obtain ⟨-, A2, c2, rfl, -, -, -⟩ := id hL
  rcases h1 : okHires S L with _ | _
  · have HR := hd (show daysR S L = ([], 1) by simp [daysR, h1])
    go_enter Try.func46, Try.ntmps46
    go_wp2_with (first | (go_at_call 104; refine (hires_impl _ _ _ hS _ _ hL).mono ?_; rintro e w1 ⟨rfl, hb⟩) | (go_at_call 111; refine (in_impl _ _ _ _).mono ?_; rintro e w1 ⟨rfl, hw⟩; have hw := hw.symm; subst hw))
    go_ret2
    exact GivesOwnI.mk_nil' HR.out _ hb
  have HR := hd (show daysR S L = (daysTo S L L.length, 0) by unfold daysR; rw [h1, if_pos rfl])
  have HE := hd (okHires_el h1)
  obtain ⟨-, z1, z20, -⟩ := okHires_stock h1
  obtain ⟨i0, hi, hz0, hz1, hz2⟩ := info_parts info_i64
  go_enter Try.func46, Try.ntmps46
  go_wp2_with (first | (go_at_call 104; refine (hires_impl _ _ _ hS _ _ hL).mono ?_; rintro e w1 ⟨rfl, hb⟩) | (go_at_call 111; refine (in_impl _ _ _ _).mono ?_; rintro e w1 ⟨rfl, hw⟩; have hw := hw.symm; subst hw) | (at_make; refine wpList_make_full _ rfl _ _ 25 rfl w.heap.size 2 i0 (.int .i64 0) 1 Try.underlying25 hi hz0 hz1 .i64 .i64 _ _ S.length rfl rfl rfl rfl (by rw [hz2]; omega) (by unfold maxLen; omega) hb.size ?_))
  intro w2 hown0 hgr
  have hown0 := made_ints _ _ _ _ _ hown0
  have hbel0 : Below w.heap.size w w2 := below_step hb (below_of_grown hgr (Nat.le_refl _) (by simp))
  have hgb : w.heap.size ≤ w1.heap.size := hb.size
  clear hgr hb hi hz0 hz1 hz2
  go_wp2_with fail
  go_loopw [18] (fun i wr => ∃ k : Nat, k ≤ L.length ∧ i = .int .i64 k ∧ Own wr w.heap.size 2 1 (.slice (some ⟨w1.heap.size, 0, none⟩) S.length S.length) eI (daysTo S L k) ∧ Below w.heap.size w wr) (fun i _ => L.length - (intOf i).toNat)
  case atStart => exact ⟨0, Nat.zero_le _, rfl, hown0, hbel0⟩
  case round =>
    obtain ⟨k, hk, rfl, hown, hbel⟩ := hrel
    clear hown0 hbel0
    by_cases hlt : k < L.length
    · have HS := hd (daysTo_snoc S L k hlt)
      obtain ⟨⟨t0, t1⟩, u0, u1, u2⟩ := isHireB_bd (HE.out L[k] (List.getElem_mem _))
      obtain ⟨b, o, rfl, -, p0, p1, p2⟩ := (hL.below hbel).Hire_at hlt
      generalize L[k] = x at p0 p1 p2 HS t0 t1 u0 u1 u2
      obtain ⟨xa, xb, xc⟩ := x
      dsimp only at p0 p1 p2 t0 t1 u0 u1 u2
      obtain ⟨m, rfl⟩ := Int.eq_ofNat_of_zero_le t0
      have hmo : m < (daysTo S L k).length := by rw [daysTo_len]; omega
      have hmi : (m : Int) < (S.length : Int) := by omega
      have HG := hd (show (daysTo S L k).getD m 0 = (daysTo S L k)[m] by simp [hmo])
      generalize daysTo S L k = st at hown hmo HG HS
      have hbel' := hbel.alloc hbel.size (.cells #[.int .i64 (m : Int), .int .i64 xb, .int .i64 xc] 76)
      have hxo := hown.alloc (.cells #[.int .i64 (m : Int), .int .i64 xb, .int .i64 xc] 76)
      obtain ⟨hcell, hfr⟩ := hxo.cell1 m hmo
      have n0 := new_cell wr #[.int .i64 (m : Int), .int .i64 xb, .int .i64 xc] 76 0 _ rfl
      have n1 := new_cell wr #[.int .i64 (m : Int), .int .i64 xb, .int .i64 xc] 76 1 _ rfl
      have n2 := new_cell wr #[.int .i64 (m : Int), .int .i64 xb, .int .i64 xc] 76 2 _ rfl
      generalize st[m] = y at hcell HG
      clear t0 t1
      have hd1 : IntKind.i64.wrap (xc - xb) = xc - xb := wrap_i64 _ (by omega)
      go_wp2_with fail
      go_region
      go_wp2_with fail
      go_roundw
      case rel => exact ⟨k + 1, by omega, by go_num, by rw [HS.out]; simp only [daysStep, Int.toNat_natCast, HG.out]; exact (hxo.set1 m _), below_drewN (hbel'.setCell (p := ⟨w1.heap.size, m, none⟩) hgb _) 1⟩
      case measure => simp [intOf]; omega
    · obtain rfl : k = L.length := by omega
      go_wp2_with fail
      go_ret2
      exact GivesOwnI.mk' HR.out hown hbel

set_option maxHeartbeats 4000000 in
theorem days_spec (w : World) (vS : Value) (S : List Int) (hS : Sl w 1 vS eI S) (vL : Value) (L : List THire) (hL : Sl w 3 vL eHire L) : Calls Try.prog 47 #[vS, vL] w (GivesOwnI w 2 1 eI (daysR S L)) := by
  have m1 := hS.len
  have m2 := hL.len
  obtain ⟨-, A1, c1, rfl, -, -, -⟩ := id hS
  obtain ⟨-, A2, c2, rfl, -, -, -⟩ := id hL
  rcases h1 : okHires S L with _ | _
  · have HR := hd (show daysR S L = ([], 1) by simp [daysR, h1])
    go_enter Try.func47, Try.ntmps47
    go_wp2_with (first | (go_at_call 105; refine (hires_spec0 _ _ _ hS _ _ hL).mono ?_; rintro e w1 ⟨rfl, hb⟩) | (go_at_call 109; refine (in_spec _ _ _ _).mono ?_; rintro e w1 ⟨rfl, hw⟩; have hw := hw.symm; subst hw))
    go_ret2
    exact GivesOwnI.mk_nil' HR.out _ hb
  have HR := hd (show daysR S L = (daysTo S L L.length, 0) by unfold daysR; rw [h1, if_pos rfl])
  have HE := hd (okHires_el h1)
  obtain ⟨-, z1, z20, -⟩ := okHires_stock h1
  obtain ⟨i0, hi, hz0, hz1, hz2⟩ := info_parts info_i64
  go_enter Try.func47, Try.ntmps47
  go_wp2_with (first | (go_at_call 105; refine (hires_spec0 _ _ _ hS _ _ hL).mono ?_; rintro e w1 ⟨rfl, hb⟩) | (go_at_call 109; refine (in_spec _ _ _ _).mono ?_; rintro e w1 ⟨rfl, hw⟩; have hw := hw.symm; subst hw) | (at_make; refine wpList_make_full _ rfl _ _ 25 rfl w.heap.size 2 i0 (.int .i64 0) 1 Try.underlying25 hi hz0 hz1 .i64 .i64 _ _ S.length rfl rfl rfl rfl (by rw [hz2]; omega) (by unfold maxLen; omega) hb.size ?_))
  intro w2 hown0 hgr
  have hown0 := made_ints _ _ _ _ _ hown0
  have hbel0 : Below w.heap.size w w2 := below_step hb (below_of_grown hgr (Nat.le_refl _) (by simp))
  have hgb : w.heap.size ≤ w1.heap.size := hb.size
  clear hgr hb hi hz0 hz1 hz2
  go_wp2_with fail
  go_loopw [7] (fun i wr => ∃ k : Nat, k ≤ L.length ∧ i = .int .i64 k ∧ Own wr w.heap.size 2 1 (.slice (some ⟨w1.heap.size, 0, none⟩) S.length S.length) eI (daysTo S L k) ∧ Below w.heap.size w wr) (fun i _ => L.length - (intOf i).toNat)
  case atStart => exact ⟨0, Nat.zero_le _, rfl, hown0, hbel0⟩
  case round =>
    obtain ⟨k, hk, rfl, hown, hbel⟩ := hrel
    clear hown0 hbel0
    by_cases hlt : k < L.length
    · have HS := hd (daysTo_snoc S L k hlt)
      obtain ⟨⟨t0, t1⟩, u0, u1, u2⟩ := isHireB_bd (HE.out L[k] (List.getElem_mem _))
      obtain ⟨b, o, rfl, -, p0, p1, p2⟩ := (hL.below hbel).Hire_at hlt
      generalize L[k] = x at p0 p1 p2 HS t0 t1 u0 u1 u2
      obtain ⟨xa, xb, xc⟩ := x
      dsimp only at p0 p1 p2 t0 t1 u0 u1 u2
      obtain ⟨m, rfl⟩ := Int.eq_ofNat_of_zero_le t0
      have hmo : m < (daysTo S L k).length := by rw [daysTo_len]; omega
      have hmi : (m : Int) < (S.length : Int) := by omega
      have HG := hd (show (daysTo S L k).getD m 0 = (daysTo S L k)[m] by simp [hmo])
      generalize daysTo S L k = st at hown hmo HG HS
      obtain ⟨hcell, hfr⟩ := hown.cell1 m hmo
      generalize st[m] = y at hcell HG
      clear t0 t1
      have hd1 : IntKind.i64.wrap (xc - xb) = xc - xb := wrap_i64 _ (by omega)
      go_wp2_with fail
      go_region
      go_wp2_with fail
      go_roundw
      case rel => exact ⟨k + 1, by omega, by go_num, by rw [HS.out]; simp only [daysStep, Int.toNat_natCast, HG.out]; exact (hown.set1 m _), below_drewN (hbel.setCell (p := ⟨w1.heap.size, m, none⟩) hgb _) 1⟩
      case measure => simp [intOf]; omega
    · obtain rfl : k = L.length := by omega
      go_wp2_with fail
      go_ret2
      exact GivesOwnI.mk' HR.out hown hbel

end Go.Proofs.Ytlgcehdklpbknaa
