/- The first lack, whether a hire can be added, the first free days; reference and program alike. No condition but that the slices read. -/
import Derived.Test.YtidmpjlkdghmeaaOut
namespace Go.Proofs.Ytidmpjlkdghmeaa
open Go Go.RowKit Go.ChangeShapes Go.WideShapes
set_option linter.unusedSimpArgs false
set_option linter.unusedVariables false

def stk (S : List Int) (i : Int) : Int := S.getD i.toNat 0
theorem stk_at (S : List Int) (m : Nat) (h : m < S.length) : stk S (m : Int) = S[m] := by simp [stk, h]

def lackStep (S : List Int) (L : List THire) (st : Int × Int) (x : THire) : Int × Int :=
  if decide (stk S x.1 < outOn L x.1 x.2.1) && (decide (st.1 < 0) || (decide (x.2.1 < st.1) || ((x.2.1 == st.1) && decide (x.1 < st.2)))) then (x.2.1, x.1) else st
def lackTo (S : List Int) (L : List THire) (k : Nat) : Int × Int := (L.take k).foldl (lackStep S L) (-1, 0)
theorem lackTo_snoc (S : List Int) (L : List THire) (k : Nat) (h : k < L.length) : lackTo S L (k + 1) = lackStep S L (lackTo S L k) L[k] := by
  unfold lackTo
  rw [List.take_succ_eq_append_getElem h, List.foldl_append]
  rfl
def lackR (S : List Int) (L : List THire) : Int × Int × Int := if okHires S L then if (lackTo S L L.length).1 < 0 then (0, 0, 3) else ((lackTo S L L.length).1, (lackTo S L L.length).2, 0) else (0, 0, 1)
theorem lackR_bad {S : List Int} {L : List THire} (h : okHires S L = false) : lackR S L = (0, 0, 1) := by simp [lackR, h]
theorem lackR_no {S : List Int} {L : List THire} {d it : Int} (h : okHires S L = true) (e : lackTo S L L.length = (d, it)) (hd : d < 0) : lackR S L = (0, 0, 3) := by simp [lackR, h, e, hd]
theorem lackR_yes {S : List Int} {L : List THire} {d it : Int} (h : okHires S L = true) (e : lackTo S L L.length = (d, it)) (hd : ¬ d < 0) : lackR S L = (d, it, 0) := by
  unfold lackR
  rw [h, e, if_pos rfl, if_neg hd]

set_option maxHeartbeats 4000000 in
theorem lack_impl (w : World) (vS : Value) (S : List Int) (hS : Sl w 1 vS eI S) (vL : Value) (L : List THire) (hL : Sl w 3 vL eHire L) :
    Calls Try.prog 59 #[vS, vL] w fun e w' => e = .returned (.tuple #[.int .i64 (lackR S L).1, .int .i64 (lackR S L).2.1, .int .i64 (lackR S L).2.2]) ∧ Below w.heap.size w w' := by
  have m1 := hS.len
  have m2 := hL.len
  obtain ⟨-, A1, c1, rfl, -, -, -⟩ := id hS
  obtain ⟨-, A2, c2, rfl, -, -, -⟩ := id hL
  rcases h1 : okHires S L with _ | _
  · go_enter Try.func59, Try.ntmps59
    go_wp2_with (first | (go_at_call 64; refine (hires_impl _ _ _ hS _ _ hL).mono ?_; rintro e w1 ⟨rfl, hb⟩) | (go_at_call 136; refine (in_impl _ _ _ _).mono ?_; rintro e w1 ⟨rfl, hw⟩; have hw := hw.symm; subst hw))
    go_ret3
    exact ⟨by rw [lackR_bad h1]; rfl, hb⟩
  have HG := hd (good_of h1)
  have HE := hd (okHires_el h1)
  go_enter Try.func59, Try.ntmps59
  go_wp2_with (first | (go_at_call 64; refine (hires_impl _ _ _ hS _ _ hL).mono ?_; rintro e w1 ⟨rfl, hb⟩) | (go_at_call 136; refine (in_impl _ _ _ _).mono ?_; rintro e w1 ⟨rfl, hw⟩; have hw := hw.symm; subst hw))
  have HB := hd hb
  clear hb
  go_loopw [7, 8, 17] (fun dv iv i wr => ∃ k : Nat, k ≤ L.length ∧ i = .int .i64 k ∧ ∃ d it : Int, Hid (lackTo S L k = (d, it)) ∧ dv = .int .i64 d ∧ iv = .int .i64 it ∧ Below w.heap.size w wr) (fun _ _ i _ => L.length - (intOf i).toNat)
  case atStart => exact ⟨0, Nat.zero_le _, rfl, -1, 0, hd rfl, rfl, rfl, HB.out⟩
  case round =>
    obtain ⟨k, hk, rfl, d, it, HST, rfl, rfl, hbel⟩ := hrel
    clear HB
    by_cases hlt : k < L.length
    · have HS := hd (show lackTo S L (k + 1) = lackStep S L (d, it) L[k] by rw [lackTo_snoc S L k hlt, HST.out])
      obtain ⟨⟨t0, t1⟩, -, -, -⟩ := isHireB_bd (HE.out L[k] (List.getElem_mem _))
      obtain ⟨b, o, rfl, -, p0, p1, p2⟩ := (hL.below hbel).Hire_at hlt
      generalize L[k] = x at p0 p1 p2 HS t0 t1
      obtain ⟨xa, xb, xc⟩ := x
      dsimp only at p0 p1 p2 t0 t1
      obtain ⟨m, rfl⟩ := Int.eq_ofNat_of_zero_le t0
      have hm : m < S.length := by omega
      have hmi : (m : Int) < (S.length : Int) := by omega
      clear t0 t1
      have HK := hd (stk_at S m hm)
      have hbel' := hbel.alloc hbel.size (.cells #[.int .i64 (m : Int), .int .i64 xb, .int .i64 xc] 74)
      have hLx := (hL.below hbel).alloc (.cells #[.int .i64 (m : Int), .int .i64 xb, .int .i64 xc] 74)
      obtain ⟨b2, o2, rfl, -, cS⟩ := ((hS.below hbel).alloc (.cells #[.int .i64 (m : Int), .int .i64 xb, .int .i64 xc] 74)).int_at hm
      generalize S[m] = s at cS HK
      have gS := gro_cell cS
      have gA := gro_cell (new_cell wr #[.int .i64 (m : Int), .int .i64 xb, .int .i64 xc] 74 0 _ rfl)
      have gB := gro_cell (new_cell wr #[.int .i64 (m : Int), .int .i64 xb, .int .i64 xc] 74 1 _ rfl)
      rcases q1 : decide (s < outOn L (m : Int) xb) with _ | _
      · have q1' : decide (outOn L (m : Int) xb ≤ s) = true := by have := of_decide_eq_false q1; simp; omega
        go_wp2_with fail
        refine wp_region_calm (by kernel_rfl) (by kernel_rfl) ?_
        repeat (first | go_big_quiet_step ((first | (go_at_call 137; exact calm_of (out_impl _ _ _ (hLx.gro _) _ _)))) | quiet_step ((first | (go_at_call 137; exact calm_of (out_impl _ _ _ (hLx.gro _) _ _)))))
        refine wpQuiet_nil ?_
        rintro w1 ⟨xw, rfl⟩
        have hb1 := below_step hbel' (gro_below xw)
        go_wp2_with fail
        go_roundw
        case rel => exact ⟨k + 1, by omega, by go_num, d, it, hd (by rw [HS.out]; simp [lackStep, HK.out, q1]), rfl, rfl, hb1⟩
        case measure => simp [intOf]; omega
      have q1' : decide (outOn L (m : Int) xb ≤ s) = false := by have := of_decide_eq_true q1; simp; omega
      rcases q2 : decide (d < 0) with _ | _
      case true =>
        go_wp2_with fail
        refine wp_region_calm (by kernel_rfl) (by kernel_rfl) ?_
        repeat (first | go_big_quiet_step ((first | (go_at_call 137; exact calm_of (out_impl _ _ _ (hLx.gro _) _ _)))) | quiet_step ((first | (go_at_call 137; exact calm_of (out_impl _ _ _ (hLx.gro _) _ _)))))
        refine wpQuiet_nil ?_
        rintro w1 ⟨xw, rfl⟩
        have hb1 := below_step hbel' (gro_below xw)
        have gX0 := gro_cell (gA xw)
        have gX1 := gro_cell (gB xw)
        go_wp2_with fail
        refine wp_region_calm (by kernel_rfl) (by kernel_rfl) ?_
        repeat (first | go_big_quiet_step ((fail)) | quiet_step ((fail)))
        refine wpQuiet_nil ?_
        rintro w3 ⟨xw2, rfl⟩
        have hb2 := below_step hb1 (gro_below xw2)
        go_wp2_with fail
        go_roundw
        case rel => exact ⟨k + 1, by omega, by go_num, xb, m, hd (by rw [HS.out]; simp [lackStep, HK.out, q1, q2]), rfl, rfl, hb2⟩
        case measure => simp [intOf]; omega
      rcases q3 : decide (xb < d) with _ | _
      case true =>
        go_wp2_with fail
        refine wp_region_calm (by kernel_rfl) (by kernel_rfl) ?_
        repeat (first | go_big_quiet_step ((first | (go_at_call 137; exact calm_of (out_impl _ _ _ (hLx.gro _) _ _)))) | quiet_step ((first | (go_at_call 137; exact calm_of (out_impl _ _ _ (hLx.gro _) _ _)))))
        refine wpQuiet_nil ?_
        rintro w1 ⟨xw, rfl⟩
        have hb1 := below_step hbel' (gro_below xw)
        have gX0 := gro_cell (gA xw)
        have gX1 := gro_cell (gB xw)
        go_wp2_with fail
        refine wp_region_calm (by kernel_rfl) (by kernel_rfl) ?_
        repeat (first | go_big_quiet_step ((fail)) | quiet_step ((fail)))
        refine wpQuiet_nil ?_
        rintro w3 ⟨xw2, rfl⟩
        have hb2 := below_step hb1 (gro_below xw2)
        go_wp2_with fail
        go_roundw
        case rel => exact ⟨k + 1, by omega, by go_num, xb, m, hd (by rw [HS.out]; simp [lackStep, HK.out, q1, q2, q3]), rfl, rfl, hb2⟩
        case measure => simp [intOf]; omega
      rcases q4 : (xb == d) with _ | _
      · go_wp2_with fail
        refine wp_region_calm (by kernel_rfl) (by kernel_rfl) ?_
        repeat (first | go_big_quiet_step ((first | (go_at_call 137; exact calm_of (out_impl _ _ _ (hLx.gro _) _ _)))) | quiet_step ((first | (go_at_call 137; exact calm_of (out_impl _ _ _ (hLx.gro _) _ _)))))
        refine wpQuiet_nil ?_
        rintro w1 ⟨xw, rfl⟩
        have hb1 := below_step hbel' (gro_below xw)
        go_wp2_with fail
        go_roundw
        case rel => exact ⟨k + 1, by omega, by go_num, d, it, hd (by rw [HS.out]; simp [lackStep, HK.out, q1, q2, q3, q4]), rfl, rfl, hb1⟩
        case measure => simp [intOf]; omega
      rcases q5 : decide ((m : Int) < it) with _ | _
      · go_wp2_with fail
        refine wp_region_calm (by kernel_rfl) (by kernel_rfl) ?_
        repeat (first | go_big_quiet_step ((first | (go_at_call 137; exact calm_of (out_impl _ _ _ (hLx.gro _) _ _)))) | quiet_step ((first | (go_at_call 137; exact calm_of (out_impl _ _ _ (hLx.gro _) _ _)))))
        refine wpQuiet_nil ?_
        rintro w1 ⟨xw, rfl⟩
        have hb1 := below_step hbel' (gro_below xw)
        go_wp2_with fail
        go_roundw
        case rel => exact ⟨k + 1, by omega, by go_num, d, it, hd (by rw [HS.out]; simp [lackStep, HK.out, q1, q2, q3, q4, q5]), rfl, rfl, hb1⟩
        case measure => simp [intOf]; omega
      · go_wp2_with fail
        refine wp_region_calm (by kernel_rfl) (by kernel_rfl) ?_
        repeat (first | go_big_quiet_step ((first | (go_at_call 137; exact calm_of (out_impl _ _ _ (hLx.gro _) _ _)))) | quiet_step ((first | (go_at_call 137; exact calm_of (out_impl _ _ _ (hLx.gro _) _ _)))))
        refine wpQuiet_nil ?_
        rintro w1 ⟨xw, rfl⟩
        have hb1 := below_step hbel' (gro_below xw)
        have gX0 := gro_cell (gA xw)
        have gX1 := gro_cell (gB xw)
        go_wp2_with fail
        refine wp_region_calm (by kernel_rfl) (by kernel_rfl) ?_
        repeat (first | go_big_quiet_step ((fail)) | quiet_step ((fail)))
        refine wpQuiet_nil ?_
        rintro w3 ⟨xw2, rfl⟩
        have hb2 := below_step hb1 (gro_below xw2)
        go_wp2_with fail
        go_roundw
        case rel => exact ⟨k + 1, by omega, by go_num, xb, m, hd (by rw [HS.out]; simp [lackStep, HK.out, q1, q2, q3, q4, q5]), rfl, rfl, hb2⟩
        case measure => simp [intOf]; omega
    · obtain rfl : k = L.length := by omega
      by_cases hd0 : d < 0
      · go_wp2_with fail
        go_ret3
        exact ⟨by rw [lackR_no h1 HST.out hd0]; rfl, hbel⟩
      · go_wp2_with fail
        go_ret3
        exact ⟨by rw [lackR_yes h1 HST.out (by omega)]; rfl, hbel⟩

set_option maxHeartbeats 4000000 in
theorem lack_spec (w : World) (vS : Value) (S : List Int) (hS : Sl w 1 vS eI S) (vL : Value) (L : List THire) (hL : Sl w 3 vL eHire L) :
    Calls Try.prog 60 #[vS, vL] w fun e w' => e = .returned (.tuple #[.int .i64 (lackR S L).1, .int .i64 (lackR S L).2.1, .int .i64 (lackR S L).2.2]) ∧ Below w.heap.size w w' := by
  have m1 := hS.len
  have m2 := hL.len
  obtain ⟨-, A1, c1, rfl, -, -, -⟩ := id hS
  obtain ⟨-, A2, c2, rfl, -, -, -⟩ := id hL
  rcases h1 : okHires S L with _ | _
  · go_enter Try.func60, Try.ntmps60
    go_wp2_with (first | (go_at_call 141; refine (hires_spec0 _ _ _ hS _ _ hL).mono ?_; rintro e w1 ⟨rfl, hb⟩) | (go_at_call 138; refine (in_spec _ _ _ _).mono ?_; rintro e w1 ⟨rfl, hw⟩; have hw := hw.symm; subst hw))
    go_ret3
    exact ⟨by rw [lackR_bad h1]; rfl, hb⟩
  have HG := hd (good_of h1)
  have HE := hd (okHires_el h1)
  go_enter Try.func60, Try.ntmps60
  go_wp2_with (first | (go_at_call 141; refine (hires_spec0 _ _ _ hS _ _ hL).mono ?_; rintro e w1 ⟨rfl, hb⟩) | (go_at_call 138; refine (in_spec _ _ _ _).mono ?_; rintro e w1 ⟨rfl, hw⟩; have hw := hw.symm; subst hw))
  have HB := hd hb
  clear hb
  go_loopw [7, 8, 9] (fun dv iv i wr => ∃ k : Nat, k ≤ L.length ∧ i = .int .i64 k ∧ ∃ d it : Int, Hid (lackTo S L k = (d, it)) ∧ dv = .int .i64 d ∧ iv = .int .i64 it ∧ Below w.heap.size w wr) (fun _ _ i _ => L.length - (intOf i).toNat)
  case atStart => exact ⟨0, Nat.zero_le _, rfl, -1, 0, hd rfl, rfl, rfl, HB.out⟩
  case round =>
    obtain ⟨k, hk, rfl, d, it, HST, rfl, rfl, hbel⟩ := hrel
    clear HB
    by_cases hlt : k < L.length
    · have HS := hd (show lackTo S L (k + 1) = lackStep S L (d, it) L[k] by rw [lackTo_snoc S L k hlt, HST.out])
      obtain ⟨⟨t0, t1⟩, -, -, -⟩ := isHireB_bd (HE.out L[k] (List.getElem_mem _))
      obtain ⟨b, o, rfl, -, p0, p1, p2⟩ := (hL.below hbel).Hire_at hlt
      generalize L[k] = x at p0 p1 p2 HS t0 t1
      obtain ⟨xa, xb, xc⟩ := x
      dsimp only at p0 p1 p2 t0 t1
      obtain ⟨m, rfl⟩ := Int.eq_ofNat_of_zero_le t0
      have hm : m < S.length := by omega
      have hmi : (m : Int) < (S.length : Int) := by omega
      clear t0 t1
      have HK := hd (stk_at S m hm)
      have hbel' := hbel.alloc hbel.size (.cells #[.int .i64 (m : Int), .int .i64 xb, .int .i64 xc] 74)
      have hLx := (hL.below hbel).alloc (.cells #[.int .i64 (m : Int), .int .i64 xb, .int .i64 xc] 74)
      obtain ⟨b2, o2, rfl, -, cS⟩ := ((hS.below hbel).alloc (.cells #[.int .i64 (m : Int), .int .i64 xb, .int .i64 xc] 74)).int_at hm
      generalize S[m] = s at cS HK
      have gS := gro_cell cS
      have gA := gro_cell (new_cell wr #[.int .i64 (m : Int), .int .i64 xb, .int .i64 xc] 74 0 _ rfl)
      have gB := gro_cell (new_cell wr #[.int .i64 (m : Int), .int .i64 xb, .int .i64 xc] 74 1 _ rfl)
      rcases q1 : decide (s < outOn L (m : Int) xb) with _ | _
      · have q1' : decide (outOn L (m : Int) xb ≤ s) = true := by have := of_decide_eq_false q1; simp; omega
        go_wp2_with fail
        refine wp_region_calm (by kernel_rfl) (by kernel_rfl) ?_
        repeat (first | go_big_quiet_step ((first | (go_at_call 139; exact calm_of (out_spec _ _ _ (hLx.gro _) HG.out _ _)))) | quiet_step ((first | (go_at_call 139; exact calm_of (out_spec _ _ _ (hLx.gro _) HG.out _ _)))))
        refine wpQuiet_nil ?_
        rintro w1 ⟨xw, rfl⟩
        have hb1 := below_step hbel' (gro_below xw)
        go_wp2_with fail
        go_roundw
        case rel => exact ⟨k + 1, by omega, by go_num, d, it, hd (by rw [HS.out]; simp [lackStep, HK.out, q1]), rfl, rfl, hb1⟩
        case measure => simp [intOf]; omega
      have q1' : decide (outOn L (m : Int) xb ≤ s) = false := by have := of_decide_eq_true q1; simp; omega
      rcases q2 : decide (d < 0) with _ | _
      case true =>
        go_wp2_with fail
        refine wp_region_calm (by kernel_rfl) (by kernel_rfl) ?_
        repeat (first | go_big_quiet_step ((first | (go_at_call 139; exact calm_of (out_spec _ _ _ (hLx.gro _) HG.out _ _)))) | quiet_step ((first | (go_at_call 139; exact calm_of (out_spec _ _ _ (hLx.gro _) HG.out _ _)))))
        refine wpQuiet_nil ?_
        rintro w1 ⟨xw, rfl⟩
        have hb1 := below_step hbel' (gro_below xw)
        have gX0 := gro_cell (w := wr.alloc (.cells #[.int .i64 (m : Int), .int .i64 xb, .int .i64 xc] 74)) (new_cell wr _ _ 0 _ rfl) xw
        have gX1 := gro_cell (w := wr.alloc (.cells #[.int .i64 (m : Int), .int .i64 xb, .int .i64 xc] 74)) (new_cell wr _ _ 1 _ rfl) xw
        go_wp2_with fail
        go_roundw
        case rel => exact ⟨k + 1, by omega, by go_num, xb, m, hd (by rw [HS.out]; simp [lackStep, HK.out, q1, q2]), rfl, rfl, hb1⟩
        case measure => simp [intOf]; omega
      rcases q3 : decide (xb < d) with _ | _
      case true =>
        go_wp2_with fail
        refine wp_region_calm (by kernel_rfl) (by kernel_rfl) ?_
        repeat (first | go_big_quiet_step ((first | (go_at_call 139; exact calm_of (out_spec _ _ _ (hLx.gro _) HG.out _ _)))) | quiet_step ((first | (go_at_call 139; exact calm_of (out_spec _ _ _ (hLx.gro _) HG.out _ _)))))
        refine wpQuiet_nil ?_
        rintro w1 ⟨xw, rfl⟩
        have hb1 := below_step hbel' (gro_below xw)
        have gX0 := gro_cell (w := wr.alloc (.cells #[.int .i64 (m : Int), .int .i64 xb, .int .i64 xc] 74)) (new_cell wr _ _ 0 _ rfl) xw
        have gX1 := gro_cell (w := wr.alloc (.cells #[.int .i64 (m : Int), .int .i64 xb, .int .i64 xc] 74)) (new_cell wr _ _ 1 _ rfl) xw
        go_wp2_with fail
        go_roundw
        case rel => exact ⟨k + 1, by omega, by go_num, xb, m, hd (by rw [HS.out]; simp [lackStep, HK.out, q1, q2, q3]), rfl, rfl, hb1⟩
        case measure => simp [intOf]; omega
      rcases q4 : (xb == d) with _ | _
      · go_wp2_with fail
        refine wp_region_calm (by kernel_rfl) (by kernel_rfl) ?_
        repeat (first | go_big_quiet_step ((first | (go_at_call 139; exact calm_of (out_spec _ _ _ (hLx.gro _) HG.out _ _)))) | quiet_step ((first | (go_at_call 139; exact calm_of (out_spec _ _ _ (hLx.gro _) HG.out _ _)))))
        refine wpQuiet_nil ?_
        rintro w1 ⟨xw, rfl⟩
        have hb1 := below_step hbel' (gro_below xw)
        go_wp2_with fail
        go_roundw
        case rel => exact ⟨k + 1, by omega, by go_num, d, it, hd (by rw [HS.out]; simp [lackStep, HK.out, q1, q2, q3, q4]), rfl, rfl, hb1⟩
        case measure => simp [intOf]; omega
      rcases q5 : decide ((m : Int) < it) with _ | _
      · go_wp2_with fail
        refine wp_region_calm (by kernel_rfl) (by kernel_rfl) ?_
        repeat (first | go_big_quiet_step ((first | (go_at_call 139; exact calm_of (out_spec _ _ _ (hLx.gro _) HG.out _ _)))) | quiet_step ((first | (go_at_call 139; exact calm_of (out_spec _ _ _ (hLx.gro _) HG.out _ _)))))
        refine wpQuiet_nil ?_
        rintro w1 ⟨xw, rfl⟩
        have hb1 := below_step hbel' (gro_below xw)
        go_wp2_with fail
        go_roundw
        case rel => exact ⟨k + 1, by omega, by go_num, d, it, hd (by rw [HS.out]; simp [lackStep, HK.out, q1, q2, q3, q4, q5]), rfl, rfl, hb1⟩
        case measure => simp [intOf]; omega
      · go_wp2_with fail
        refine wp_region_calm (by kernel_rfl) (by kernel_rfl) ?_
        repeat (first | go_big_quiet_step ((first | (go_at_call 139; exact calm_of (out_spec _ _ _ (hLx.gro _) HG.out _ _)))) | quiet_step ((first | (go_at_call 139; exact calm_of (out_spec _ _ _ (hLx.gro _) HG.out _ _)))))
        refine wpQuiet_nil ?_
        rintro w1 ⟨xw, rfl⟩
        have hb1 := below_step hbel' (gro_below xw)
        have gX0 := gro_cell (w := wr.alloc (.cells #[.int .i64 (m : Int), .int .i64 xb, .int .i64 xc] 74)) (new_cell wr _ _ 0 _ rfl) xw
        have gX1 := gro_cell (w := wr.alloc (.cells #[.int .i64 (m : Int), .int .i64 xb, .int .i64 xc] 74)) (new_cell wr _ _ 1 _ rfl) xw
        go_wp2_with fail
        go_roundw
        case rel => exact ⟨k + 1, by omega, by go_num, xb, m, hd (by rw [HS.out]; simp [lackStep, HK.out, q1, q2, q3, q4, q5]), rfl, rfl, hb1⟩
        case measure => simp [intOf]; omega
    · obtain rfl : k = L.length := by omega
      by_cases hd0 : d < 0
      · go_wp2_with fail
        go_ret3
        exact ⟨by rw [lackR_no h1 HST.out hd0]; rfl, hbel⟩
      · go_wp2_with fail
        go_ret3
        exact ⟨by rw [lackR_yes h1 HST.out (by omega)]; rfl, hbel⟩

def canGo (S : List Int) (L : List THire) (item : Int) : Nat → Int → Bool
  | 0, _ => true
  | f + 1, d => if decide (stk S item ≤ outOn L item d) then false else canGo S L item f (d + 1)
def canB (S : List Int) (L : List THire) (x : THire) : Bool := canGo S L x.1 (x.2.2 - x.2.1).toNat x.2.1
def canR (S : List Int) (L : List THire) (x : THire) : Bool × Int := if okHires S L then if isHireB S.length x then (canB S L x, 0) else (false, 2) else (false, 1)

set_option maxHeartbeats 4000000 in
theorem can_impl (w : World) (vS : Value) (S : List Int) (hS : Sl w 1 vS eI S) (vL : Value) (L : List THire) (hL : Sl w 3 vL eHire L) (xa xb xc : Int) (hx : isHireB S.length (xa, xb, xc) = true) :
    Calls Try.prog 132 #[vS, vL, .agg #[.int .i64 xa, .int .i64 xb, .int .i64 xc]] w fun e w' => e = .returned (.bool (canB S L (xa, xb, xc))) ∧ Below w.heap.size w w' := by
  have m1 := hS.len
  have m2 := hL.len
  obtain ⟨-, A1, c1, rfl, -, -, -⟩ := id hS
  obtain ⟨-, A2, c2, rfl, -, -, -⟩ := id hL

  obtain ⟨⟨t0, t1⟩, t2, t3, t4⟩ := isHireB_bd hx
  dsimp only at t0 t1 t2 t3 t4
  clear hx
  obtain ⟨m, rfl⟩ := Int.eq_ofNat_of_zero_le t0
  have hm : m < S.length := by omega
  have hmi : (m : Int) < (S.length : Int) := by omega
  clear t0 t1
  have HK := hd (stk_at S m hm)
  obtain ⟨r, hr⟩ : ∃ r, r = canB S L ((m : Int), xb, xc) := ⟨_, rfl⟩
  rw [← hr]
  have HR := hd (show canGo S L m (xc - xb).toNat xb = r from hr.symm)
  clear hr
  have hw0 := (Below.refl w.heap.size w).alloc (Nat.le_refl _) (.cells #[.int .i64 (m : Int), .int .i64 xb, .int .i64 xc] 74)
  go_enter Try.func132, Try.ntmps132
  go_wp2_with fail
  go_loopw [7] (fun dv wr => ∃ (f : Nat) (d : Int), d + f = xc ∧ 0 ≤ d ∧ dv = .int .i64 d ∧ Below (w.alloc (.cells #[.int .i64 (m : Int), .int .i64 xb, .int .i64 xc] 74)).heap.size (w.alloc (.cells #[.int .i64 (m : Int), .int .i64 xb, .int .i64 xc] 74)) wr ∧ Hid (canGo S L m f d = r)) (fun dv _ => (xc - intOf dv).toNat)
  case atStart => exact ⟨(xc - xb).toNat, xb, by omega, t2, rfl, Below.refl _ _, HR⟩
  case round =>
    obtain ⟨f, d, hf, hd0, rfl, hbel, HT⟩ := hrel
    have r0 := (hbel.cell (p := ⟨w.heap.size, 0, none⟩) (by simp)).trans (new_cell w _ _ 0 _ rfl)
    have r1 := (hbel.cell (p := ⟨w.heap.size, 1, none⟩) (by simp)).trans (new_cell w _ _ 1 _ rfl)
    have r2 := (hbel.cell (p := ⟨w.heap.size, 2, none⟩) (by simp)).trans (new_cell w _ _ 2 _ rfl)
    have HF := hd hf
    rcases f with _ | f
    · have hge : ¬ d < xc := by omega
      clear hf
      go_wp2_with fail
      go_ret
      exact ⟨by rw [← HT.out]; rfl, (below_step hw0 hbel)⟩
    · have hltd : d < xc := by omega
      clear hf
      have hLx := ((hL.alloc (.cells #[.int .i64 (m : Int), .int .i64 xb, .int .i64 xc] 74)).below hbel)
      obtain ⟨b2, o2, rfl, -, cS⟩ := ((hS.alloc (.cells #[.int .i64 (m : Int), .int .i64 xb, .int .i64 xc] 74)).below hbel).int_at hm
      have HS := hd HK.out
      generalize S[m] = s at cS HS
      have gS := gro_cell cS
      have g0 := gro_cell r0
      have HT' : Hid ((if decide (s ≤ outOn L m d) then false else canGo S L m f (d + 1)) = r) := hd (by rw [← HS.out]; exact HT.out)
      rcases q1 : decide (s ≤ outOn L m d) with _ | _
      · go_wp2_with fail
        refine wp_region_calm (by kernel_rfl) (by kernel_rfl) ?_
        repeat (first | go_big_quiet_step ((first | (go_at_call 137; exact calm_of (out_impl _ _ _ (hLx.gro _) _ _)))) | quiet_step ((first | (go_at_call 137; exact calm_of (out_impl _ _ _ (hLx.gro _) _ _)))))
        refine wpQuiet_nil ?_
        rintro w1 ⟨xw, rfl⟩
        have hb1 := below_step hbel (gro_below xw)
        go_wp2_with fail
        go_roundw
        case rel => exact ⟨f, d + 1, by have := HF.out; omega, by omega, rfl, hb1, hd (by have := HT'.out; rw [q1] at this; exact this)⟩
        case measure => simp [intOf]; omega
      · go_wp2_with fail
        refine wp_region_calm (by kernel_rfl) (by kernel_rfl) ?_
        repeat (first | go_big_quiet_step ((first | (go_at_call 137; exact calm_of (out_impl _ _ _ (hLx.gro _) _ _)))) | quiet_step ((first | (go_at_call 137; exact calm_of (out_impl _ _ _ (hLx.gro _) _ _)))))
        refine wpQuiet_nil ?_
        rintro w1 ⟨xw, rfl⟩
        have hb1 := below_step hbel (gro_below xw)
        go_wp2_with fail
        go_ret
        exact ⟨by have := HT'.out; rw [q1] at this; rw [← this]; rfl, (below_step hw0 hb1)⟩

set_option maxHeartbeats 4000000 in
theorem can_spec (w : World) (vS : Value) (S : List Int) (hS : Sl w 1 vS eI S) (vL : Value) (L : List THire) (hL : Sl w 3 vL eHire L) (xa xb xc : Int) (g off : Nat) (p0 : w.cell? ⟨g, off, none⟩ = some (.int .i64 xa)) (p1 : w.cell? ⟨g, off + 1, none⟩ = some (.int .i64 xb)) (p2 : w.cell? ⟨g, off + 2, none⟩ = some (.int .i64 xc)) (hgood : Good L) (hx : isHireB S.length (xa, xb, xc) = true) :
    Calls Try.prog 130 #[vS, vL, .pointer (some ⟨g, off, none⟩)] w fun e w' => e = .returned (.bool (canB S L (xa, xb, xc))) ∧ Below w.heap.size w w' := by
  have m1 := hS.len
  have m2 := hL.len
  obtain ⟨-, A1, c1, rfl, -, -, -⟩ := id hS
  obtain ⟨-, A2, c2, rfl, -, -, -⟩ := id hL
  have HG := hd hgood
  clear hgood
  obtain ⟨⟨t0, t1⟩, t2, t3, t4⟩ := isHireB_bd hx
  dsimp only at t0 t1 t2 t3 t4
  clear hx
  obtain ⟨m, rfl⟩ := Int.eq_ofNat_of_zero_le t0
  have hm : m < S.length := by omega
  have hmi : (m : Int) < (S.length : Int) := by omega
  clear t0 t1
  have HK := hd (stk_at S m hm)
  obtain ⟨r, hr⟩ : ∃ r, r = canB S L ((m : Int), xb, xc) := ⟨_, rfl⟩
  rw [← hr]
  have HR := hd (show canGo S L m (xc - xb).toNat xb = r from hr.symm)
  clear hr

  go_enter Try.func130, Try.ntmps130
  go_wp2_with fail
  go_loopw [7] (fun dv wr => ∃ (f : Nat) (d : Int), d + f = xc ∧ 0 ≤ d ∧ dv = .int .i64 d ∧ Below w.heap.size w wr ∧ Hid (canGo S L m f d = r)) (fun dv _ => (xc - intOf dv).toNat)
  case atStart => exact ⟨(xc - xb).toNat, xb, by omega, t2, rfl, Below.refl _ _, HR⟩
  case round =>
    obtain ⟨f, d, hf, hd0, rfl, hbel, HT⟩ := hrel
    have hlg := World.block_lt_of_cell? w _ p0
    have r0 := (hbel.cell (p := ⟨g, off, none⟩) hlg).trans p0
    have r1 := (hbel.cell (p := ⟨g, off + 1, none⟩) hlg).trans p1
    have r2 := (hbel.cell (p := ⟨g, off + 2, none⟩) hlg).trans p2
    clear hlg
    have HF := hd hf
    rcases f with _ | f
    · have hge : ¬ d < xc := by omega
      clear hf
      go_wp2_with fail
      go_ret
      exact ⟨by rw [← HT.out]; rfl, hbel⟩
    · have hltd : d < xc := by omega
      clear hf
      have hLx := (hL.below hbel)
      obtain ⟨b2, o2, rfl, -, cS⟩ := (hS.below hbel).int_at hm
      have HS := hd HK.out
      generalize S[m] = s at cS HS
      have gS := gro_cell cS
      have g0 := gro_cell r0
      have HT' : Hid ((if decide (s ≤ outOn L m d) then false else canGo S L m f (d + 1)) = r) := hd (by rw [← HS.out]; exact HT.out)
      rcases q1 : decide (s ≤ outOn L m d) with _ | _
      · go_wp2_with fail
        refine wp_region_calm (by kernel_rfl) (by kernel_rfl) ?_
        repeat (first | go_big_quiet_step ((first | (go_at_call 139; exact calm_of (out_spec _ _ _ (hLx.gro _) HG.out _ _)))) | quiet_step ((first | (go_at_call 139; exact calm_of (out_spec _ _ _ (hLx.gro _) HG.out _ _)))))
        refine wpQuiet_nil ?_
        rintro w1 ⟨xw, rfl⟩
        have hb1 := below_step hbel (gro_below xw)
        go_wp2_with fail
        go_roundw
        case rel => exact ⟨f, d + 1, by have := HF.out; omega, by omega, rfl, hb1, hd (by have := HT'.out; rw [q1] at this; exact this)⟩
        case measure => simp [intOf]; omega
      · go_wp2_with fail
        refine wp_region_calm (by kernel_rfl) (by kernel_rfl) ?_
        repeat (first | go_big_quiet_step ((first | (go_at_call 139; exact calm_of (out_spec _ _ _ (hLx.gro _) HG.out _ _)))) | quiet_step ((first | (go_at_call 139; exact calm_of (out_spec _ _ _ (hLx.gro _) HG.out _ _)))))
        refine wpQuiet_nil ?_
        rintro w1 ⟨xw, rfl⟩
        have hb1 := below_step hbel (gro_below xw)
        go_wp2_with fail
        go_ret
        exact ⟨by have := HT'.out; rw [q1] at this; rw [← this]; rfl, hb1⟩

def askCode (S : List Int) (L : List THire) (x : THire) : Int := if okHires S L then if isHireB S.length x then 0 else 2 else 1
set_option maxHeartbeats 1000000 in
theorem asked_spec (w : World) (vS : Value) (S : List Int) (hS : Sl w 1 vS eI S) (vL : Value) (L : List THire) (hL : Sl w 3 vL eHire L) (xa xb xc : Int) (g off : Nat) (p0 : w.cell? ⟨g, off, none⟩ = some (.int .i64 xa)) (p1 : w.cell? ⟨g, off + 1, none⟩ = some (.int .i64 xb)) (p2 : w.cell? ⟨g, off + 2, none⟩ = some (.int .i64 xc)) :
    Calls Try.prog 129 #[vS, vL, .pointer (some ⟨g, off, none⟩)] w fun e w' => e = .returned (.int .i64 (askCode S L (xa, xb, xc))) ∧ Below w.heap.size w w' := by
  have m1 := hS.len
  have m2 := hL.len
  obtain ⟨-, A1, c1, rfl, -, -, -⟩ := id hS
  obtain ⟨-, A2, c2, rfl, -, -, -⟩ := id hL
  unfold askCode
  rcases h1 : okHires S L with _ | _
  · go_enter Try.func129, Try.ntmps129
    go_wp2_with (first | (go_at_call 141; refine (hires_spec0 _ _ _ hS _ _ hL).mono ?_; rintro e w1 ⟨rfl, hb⟩) | (go_at_call 176; refine (one_spec _ _ m1 _ _ _ _ _ ((hb.cell (World.block_lt_of_cell? w _ p0)).trans p0) ((hb.cell (World.block_lt_of_cell? w _ p1)).trans p1) ((hb.cell (World.block_lt_of_cell? w _ p2)).trans p2)).mono ?_; rintro e w2 ⟨rfl, hb2⟩))
    go_ret
    exact ⟨by simp, hb⟩
  rcases h2 : isHireB S.length (xa, xb, xc) with _ | _
  · go_enter Try.func129, Try.ntmps129
    go_wp2_with (first | (go_at_call 141; refine (hires_spec0 _ _ _ hS _ _ hL).mono ?_; rintro e w1 ⟨rfl, hb⟩) | (go_at_call 176; refine (one_spec _ _ m1 _ _ _ _ _ ((hb.cell (World.block_lt_of_cell? w _ p0)).trans p0) ((hb.cell (World.block_lt_of_cell? w _ p1)).trans p1) ((hb.cell (World.block_lt_of_cell? w _ p2)).trans p2)).mono ?_; rintro e w2 ⟨rfl, hb2⟩))
    go_ret
    exact ⟨by simp, below_step hb hb2⟩
  · go_enter Try.func129, Try.ntmps129
    go_wp2_with (first | (go_at_call 141; refine (hires_spec0 _ _ _ hS _ _ hL).mono ?_; rintro e w1 ⟨rfl, hb⟩) | (go_at_call 176; refine (one_spec _ _ m1 _ _ _ _ _ ((hb.cell (World.block_lt_of_cell? w _ p0)).trans p0) ((hb.cell (World.block_lt_of_cell? w _ p1)).trans p1) ((hb.cell (World.block_lt_of_cell? w _ p2)).trans p2)).mono ?_; rintro e w2 ⟨rfl, hb2⟩))
    go_ret
    exact ⟨by simp, below_step hb hb2⟩

set_option maxHeartbeats 4000000 in
theorem canHire_impl (w : World) (vS : Value) (S : List Int) (hS : Sl w 1 vS eI S) (vL : Value) (L : List THire) (hL : Sl w 3 vL eHire L) (xa xb xc : Int) :
    Calls Try.prog 53 #[vS, vL, .agg #[.int .i64 xa, .int .i64 xb, .int .i64 xc]] w fun e w' => e = .returned (.tuple #[.bool (canR S L (xa, xb, xc)).1, .int .i64 (canR S L (xa, xb, xc)).2]) ∧ Below w.heap.size w w' := by
  have m1 := hS.len
  have m2 := hL.len
  obtain ⟨-, A1, c1, rfl, -, -, -⟩ := id hS
  obtain ⟨-, A2, c2, rfl, -, -, -⟩ := id hL
  unfold canR
  have hw0 := (Below.refl w.heap.size w).alloc (Nat.le_refl _) (.cells #[.int .i64 xa, .int .i64 xb, .int .i64 xc] 74)
  rcases h1 : okHires S L with _ | _
  · go_enter Try.func53, Try.ntmps53
    go_wp2_with (first | (go_at_call 64; refine (hires_impl _ _ _ (hS.alloc _) _ _ (hL.alloc _)).mono ?_; rintro e w1 ⟨rfl, hb⟩))
    go_ret2
    exact ⟨by simp, below_step hw0 hb⟩
  rcases h2 : isHireB S.length (xa, xb, xc) with _ | _
  all_goals
    go_enter Try.func53, Try.ntmps53
    go_wp2_with fail
    refine (hires_impl _ _ _ (hS.alloc _) _ _ (hL.alloc _)).mono ?_
    rintro e w1 ⟨rfl, hb⟩
    have r0 := (hb.cell (p := ⟨w.heap.size, 0, none⟩) (by simp)).trans (new_cell w _ _ 0 _ rfl)
    have r1 := (hb.cell (p := ⟨w.heap.size, 1, none⟩) (by simp)).trans (new_cell w _ _ 1 _ rfl)
    have r2 := (hb.cell (p := ⟨w.heap.size, 2, none⟩) (by simp)).trans (new_cell w _ _ 2 _ rfl)
    have hb0 := below_step hw0 hb
    simp only [h1]
    go_wp2_with fail
    refine (isHire_impl _ _ _ _ m1 _ _ _).mono ?_
    rintro e w2 ⟨rfl, hb2⟩
    have hb3 := below_step hb0 hb2
    have s0 := (hb2.cell (World.block_lt_of_cell? w1 _ r0)).trans r0
    have s1 := (hb2.cell (World.block_lt_of_cell? w1 _ r1)).trans r1
    have s2 := (hb2.cell (World.block_lt_of_cell? w1 _ r2)).trans r2
    simp only [h2]
    go_wp2_with fail
  · go_ret2
    exact ⟨by simp, hb3⟩
  · refine (can_impl _ _ _ (hS.below hb3) _ _ (hL.below hb3) _ _ _ h2).mono ?_
    rintro e w4 ⟨rfl, hb4⟩
    have hb5 := below_step hb3 hb4
    go_wp2_with fail
    go_ret2
    exact ⟨by simp, hb5⟩
set_option maxHeartbeats 4000000 in
theorem canHire_spec (w : World) (vS : Value) (S : List Int) (hS : Sl w 1 vS eI S) (vL : Value) (L : List THire) (hL : Sl w 3 vL eHire L) (xa xb xc : Int) :
    Calls Try.prog 54 #[vS, vL, .agg #[.int .i64 xa, .int .i64 xb, .int .i64 xc]] w fun e w' => e = .returned (.tuple #[.bool (canR S L (xa, xb, xc)).1, .int .i64 (canR S L (xa, xb, xc)).2]) ∧ Below w.heap.size w w' := by
  have m1 := hS.len
  have m2 := hL.len
  obtain ⟨-, A1, c1, rfl, -, -, -⟩ := id hS
  obtain ⟨-, A2, c2, rfl, -, -, -⟩ := id hL
  unfold canR
  have hw0 := (Below.refl w.heap.size w).alloc (Nat.le_refl _) (.cells #[.int .i64 xa, .int .i64 xb, .int .i64 xc] 74)
  have hA := asked_spec _ _ _ (hS.alloc (.cells #[.int .i64 xa, .int .i64 xb, .int .i64 xc] 74)) _ _ (hL.alloc (.cells #[.int .i64 xa, .int .i64 xb, .int .i64 xc] 74)) xa xb xc w.heap.size 0 (new_cell w _ _ 0 _ rfl) (new_cell w _ _ 1 _ rfl) (new_cell w _ _ 2 _ rfl)
  have HA := hd hA
  clear hA
  rcases h1 : okHires S L with _ | _
  · have hc : askCode S L (xa, xb, xc) = 1 := by simp [askCode, h1]
    go_enter Try.func54, Try.ntmps54
    go_wp2_with (first | (go_at_call 129; refine HA.out.mono ?_; rintro e w1 ⟨rfl, hb⟩))
    go_ret2
    exact ⟨by simp, below_step hw0 hb⟩
  rcases h2 : isHireB S.length (xa, xb, xc) with _ | _
  · have hc : askCode S L (xa, xb, xc) = 2 := by simp [askCode, h1, h2]
    go_enter Try.func54, Try.ntmps54
    go_wp2_with (first | (go_at_call 129; refine HA.out.mono ?_; rintro e w1 ⟨rfl, hb⟩))
    go_ret2
    exact ⟨by simp, below_step hw0 hb⟩
  · have hc : askCode S L (xa, xb, xc) = 0 := by simp [askCode, h1, h2]
    have HG := hd (good_of h1)
    go_enter Try.func54, Try.ntmps54
    go_wp2_with (first | (go_at_call 129; refine HA.out.mono ?_; rintro e w1 ⟨rfl, hb⟩))
    have r0 := (hb.cell (p := ⟨w.heap.size, 0, none⟩) (by simp)).trans (new_cell w _ _ 0 _ rfl)
    have r1 := (hb.cell (p := ⟨w.heap.size, 1, none⟩) (by simp)).trans (new_cell w _ _ 1 _ rfl)
    have r2 := (hb.cell (p := ⟨w.heap.size, 2, none⟩) (by simp)).trans (new_cell w _ _ 2 _ rfl)
    have hb0 := below_step hw0 hb
    refine (can_spec _ _ _ (hS.below hb0) _ _ (hL.below hb0) _ _ _ _ _ r0 r1 r2 HG.out h2).mono ?_
    rintro e w4 ⟨rfl, hb4⟩
    have hb5 := below_step hb0 hb4
    go_wp2_with fail
    go_ret2
    exact ⟨by simp, hb5⟩

end Go.Proofs.Ytidmpjlkdghmeaa
