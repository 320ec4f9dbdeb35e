/- Tours: the program's TourDays, TourIncome, WaitingDays. No condition but that the slices read. -/
import Derived.Test.YtlgcehdklpbknaaTourC
namespace Go.Proofs.Ytlgcehdklpbknaa
open Go Go.RowKit Go.ChangeShapes Go.WideShapes
set_option linter.unusedSimpArgs false
set_option linter.unusedVariables false

def tdR (l : List THall) (H : List Int) (R : List (List Int)) (T : List Int) : List Int × Int := (showsR l H R T, tcode l H R T)
def tiR (l : List THall) (H : List Int) (R : List (List Int)) (T : List Int) : Int × Int := if tcode l H R T = 0 then ((runT l H R startT T).2.2.1, 0) else (0, tcode l H R T)
def twR (l : List THall) (H : List Int) (R : List (List Int)) (T : List Int) : Int × Int := if tcode l H R T = 0 then ((runT l H R startT T).2.2.2.1, 0) else (0, tcode l H R T)
theorem tdR_len (l : List THall) (H : List Int) (R : List (List Int)) (T : List Int) : (tdR l H R T).1.length ≤ T.length := by
  unfold tdR showsR
  split
  · simp [showsT_len]
  · simp
theorem sumI_add (X : List Int) (s : Int) : sumI (X ++ [s]) = wrap64 (sumI X + s) := by
  unfold sumI
  rw [List.foldl_append]
  rfl
theorem wait_sums {l : List THall} {H : List Int} {R : List (List Int)} (h : HallsOk l H R) {T : List Int} (hT : tourOk l.length T = true) (hTl : T.length ≤ 1048576) (k : Nat) (hk : k ≤ T.length) :
    (0 ≤ sumI (showsT l H R startT (T.take k)) ∧ sumI (showsT l H R startT (T.take k)) ≤ 40000000 * (k : Int)) ∧ (0 ≤ sumI (theresT l H R startT (T.take k)) ∧ sumI (theresT l H R startT (T.take k)) ≤ 40000000 * (k : Int)) ∧
      sumI (showsT l H R startT (T.take k)) - sumI (theresT l H R startT (T.take k)) = (runT l H R startT (T.take k)).2.2.2.1 := by
  induction k with
  | zero => simp [showsT, theresT, sumI, runT, startT]
  | succ k ih =>
    obtain ⟨⟨i1, i2⟩, ⟨i3, i4⟩, i5⟩ := ih (by omega)
    obtain ⟨j, hj, hjl⟩ := tourOk_at hT k (by omega)
    have hlt : k < T.length := by omega
    have hbd := run_bd h hT k (by omega)
    obtain ⟨w1, w2⟩ := way_bd h hbd hjl
    obtain ⟨⟨a1, a2, a3⟩, -, -⟩ := h.hall j hjl
    obtain ⟨-, ⟨b1, b2⟩, -, -⟩ := hbd
    rw [shows_take hlt hj, theres_take hlt hj, run_take hlt hj, sumI_add, sumI_add]
    have e1 : showT l H R (runT l H R startT (T.take k)) j = max ((runT l H R startT (T.take k)).2.1 + way H R (runT l H R startT (T.take k)).1 j) (l.getD j (0, 0, 0)).1 := rfl
    have e2 : thereT H R (runT l H R startT (T.take k)) j = (runT l H R startT (T.take k)).2.1 + way H R (runT l H R startT (T.take k)).1 j := rfl
    have e3 : (nextT l H R (runT l H R startT (T.take k)) j).2.2.2.1 = (runT l H R startT (T.take k)).2.2.2.1 + showT l H R (runT l H R startT (T.take k)) j - thereT H R (runT l H R startT (T.take k)) j := rfl
    rw [e3]
    rw [e2] at *
    have hth : 0 ≤ (runT l H R startT (T.take k)).2.1 + way H R (runT l H R startT (T.take k)).1 j ∧ (runT l H R startT (T.take k)).2.1 + way H R (runT l H R startT (T.take k)).1 j ≤ 39000000 := by omega
    generalize (runT l H R startT (T.take k)).2.1 + way H R (runT l H R startT (T.take k)).1 j = th at *
    obtain ⟨hth1, hth2⟩ := hth
    have hs1 : 0 ≤ showT l H R (runT l H R startT (T.take k)) j := by rw [e1]; omega
    have hs2 : showT l H R (runT l H R startT (T.take k)) j ≤ 40000000 := by rw [e1]; omega
    generalize showT l H R (runT l H R startT (T.take k)) j = sh at *
    have r1 : wrap64 (sumI (showsT l H R startT (T.take k)) + sh) = sumI (showsT l H R startT (T.take k)) + sh := IntWalk.wrap64_in _ ⟨by omega, by omega⟩
    have r2 : wrap64 (sumI (theresT l H R startT (T.take k)) + th) = sumI (theresT l H R startT (T.take k)) + th := IntWalk.wrap64_in _ ⟨by omega, by omega⟩
    rw [r1, r2]
    omega

set_option maxHeartbeats 1000000 in
theorem tw_impl (w : World) (v : Value) (l : List THall) (h : Sl w 3 v eHall l) (v1 v2 : Value) (H : List Int) (L : List TRow) (h1 : Sl w 1 v1 eI H) (h2 : SlR w v2 L) (vt : Value) (T : List Int) (ht : Sl w 1 vt eI T) (R : List (List Int)) (hR : rowsOf L = R) (hTl : T.length ≤ 1048576) :
    Calls Try.prog 17 #[v, .agg #[v1, v2], vt] w fun e w' => e = .returned (.tuple #[.int .i64 (twR l H R T).1, .int .i64 (twR l H R T).2]) ∧ Below w.heap.size w w' := by
  subst hR
  obtain ⟨A, c, rfl⟩ := h.slice
  obtain ⟨A1, c1, rfl⟩ := h1.slice
  obtain ⟨A2, c2, rfl⟩ := h2.1.slice
  have hb := (Below.refl w.heap.size w).alloc (Nat.le_refl _) (.cells #[.slice A1 H.length c1, .slice A2 L.length c2] 28)
  by_cases q : tcode l H (rowsOf L) T = 0
  case neg =>
    have HE := hd (show twR l H (rowsOf L) T = (0, tcode l H (rowsOf L) T) by unfold twR; rw [if_neg q])
    have hne : (tcode l H (rowsOf L) T != 0) = true := by simpa using q
    clear q
    go_enter Try.func17, Try.ntmps17
    go_wp2_with fail
    refine (code_implT _ _ _ (h.below hb) _ _ _ _ (h1.below hb) (h2.below hb) _ _ (ht.below hb) hTl).mono ?_
    rintro e w1 ⟨vd, vu, rfl, OD, OU, hb1⟩
    have hb2 := below_step hb hb1
    go_wp2_with fail
    go_ret2
    exact ⟨by rw [HE.out]; rfl, hb2⟩
  obtain ⟨k1, k2, k3⟩ := tcode_zero q
  have HOK := hd (hallsOk_of k1)
  have HTO := hd k2
  have HQ := hd q
  have HE := hd (show twR l H (rowsOf L) T = ((runT l H (rowsOf L) startT T).2.2.2.1, 0) by unfold twR; rw [if_pos q])
  clear q k1 k2 k3
  go_enter Try.func17, Try.ntmps17
  go_wp2_with fail
  refine (code_implT _ _ _ (h.below hb) _ _ _ _ (h1.below hb) (h2.below hb) _ _ (ht.below hb) hTl).mono ?_
  rintro e w1 ⟨vd, vu, rfl, OD, OU, hb1⟩
  have hb2 := below_step hb hb1
  rw [HQ.out]
  have ED : showsR l H (rowsOf L) T = showsT l H (rowsOf L) startT T := by unfold showsR; rw [if_pos HQ.out]
  have EU : theresR l H (rowsOf L) T = theresT l H (rowsOf L) startT T := by unfold theresR; rw [if_pos HQ.out]
  rw [ED] at OD
  rw [EU] at OU
  clear ED EU
  obtain ⟨⟨x1, x2⟩, ⟨x3, x4⟩, x5⟩ := wait_sums HOK.out HTO.out hTl T.length (Nat.le_refl _)
  rw [List.take_length] at x1 x2 x3 x4 x5
  have HX := hd x5
  clear x5
  go_wp2_with fail
  refine (sum_impl _ _ _ (OD.sl eI_len)).mono ?_
  rintro e w3 ⟨rfl, hw⟩
  have hw := hw.symm
  subst hw
  go_wp2_with fail
  refine (sum_impl _ _ _ (OU.sl eI_len)).mono ?_
  rintro e w3 ⟨rfl, hw⟩
  have hw := hw.symm
  subst hw
  generalize sumI (showsT l H (rowsOf L) startT T) = a at x1 x2 HX ⊢
  generalize sumI (theresT l H (rowsOf L) startT T) = b at x3 x4 HX ⊢
  go_wp2_with fail
  go_ret2
  exact ⟨by rw [HE.out, ← HX.out]; rfl, hb2⟩

end Go.Proofs.Ytlgcehdklpbknaa
