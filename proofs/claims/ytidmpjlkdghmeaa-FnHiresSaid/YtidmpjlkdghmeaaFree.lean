/- The first day from which on a piece is free for some days; reference and program alike. No condition but that the slices read. -/
import Derived.Test.YtidmpjlkdghmeaaOut2
namespace Go.Proofs.Ytidmpjlkdghmeaa
open Go Go.RowKit Go.ChangeShapes Go.WideShapes
set_option linter.unusedSimpArgs false
set_option linter.unusedVariables false

def ffGo (S : List Int) (L : List THire) (item days : Int) : Nat → Int → Int → Int × Int
  | 0, _, _ => (0, 3)
  | f + 1, d, r => if ((if decide (outOn L item d < stk S item) then r + 1 else 0) == days) then (d - days + 1, 0) else ffGo S L item days f (d + 1) (if decide (outOn L item d < stk S item) then r + 1 else 0)
def ffR (S : List Int) (L : List THire) (item fr days : Int) : Int × Int :=
  if okHires S L then if inB item 0 ((S.length : Int) - 1) then if inB fr 0 10000 then if inB days 1 1000 then ffGo S L item days (10000 - fr).toNat fr 0 else (0, 2) else (0, 2) else (0, 2) else (0, 1)

set_option maxHeartbeats 4000000 in
theorem ff_impl (w : World) (vS : Value) (S : List Int) (hS : Sl w 1 vS eI S) (vL : Value) (L : List THire) (hL : Sl w 3 vL eHire L) (item fr days : Int) :
    Calls Try.prog 56 #[vS, vL, .int .i64 item, .int .i64 fr, .int .i64 days] w fun e w' => e = .returned (.tuple #[.int .i64 (ffR S L item fr days).1, .int .i64 (ffR S L item fr days).2]) ∧ Below w.heap.size w w' := by
  have m1 := hS.len
  have m2 := hL.len
  obtain ⟨-, A1, c1, rfl, -, -, -⟩ := id hS
  obtain ⟨-, A2, c2, rfl, -, -, -⟩ := id hL
  unfold ffR
  rcases h1 : okHires S L with _ | _
  · have hc : hCode S L item fr = 1 := by simp [hCode, h1]
    go_enter Try.func56, Try.ntmps56
    go_wp2_with (first | (go_at_call 120; refine (hcode_impl _ _ _ hS _ _ hL _ _).mono ?_; rintro e w1 ⟨rfl, hb⟩))
    go_ret2
    exact ⟨by simp, hb⟩
  have HO := hd h1
  rcases h2 : inB item 0 ((S.length : Int) - 1) with _ | _
  · have hc : hCode S L item fr = 2 := by simp [hCode, h1, h2]
    go_enter Try.func56, Try.ntmps56
    go_wp2_with (first | (go_at_call 120; refine (hcode_impl _ _ _ hS _ _ hL _ _).mono ?_; rintro e w1 ⟨rfl, hb⟩))
    go_ret2
    exact ⟨by simp, hb⟩
  rcases h3 : inB fr 0 10000 with _ | _
  · have hc : hCode S L item fr = 2 := by simp [hCode, h1, h2, h3]
    go_enter Try.func56, Try.ntmps56
    go_wp2_with (first | (go_at_call 120; refine (hcode_impl _ _ _ hS _ _ hL _ _).mono ?_; rintro e w1 ⟨rfl, hb⟩))
    go_ret2
    exact ⟨by simp, hb⟩
  have hz : inB 0 0 10000 = true := by decide
  have hc : hCode S L item fr = 0 := by simp [hCode, h1, h2, h3]
  rcases h4 : inB days 1 1000 with _ | _
  · go_enter Try.func56, Try.ntmps56
    go_wp2_with (first | (go_at_call 120; refine (hcode_impl _ _ _ hS _ _ hL _ _).mono ?_; rintro e w1 ⟨rfl, hb⟩) | (go_at_call 136; refine (in_impl _ _ _ _).mono ?_; rintro e w1 ⟨rfl, hw⟩; have hw := hw.symm; subst hw))
    go_ret2
    exact ⟨by simp, hb⟩
  obtain ⟨b1, b2⟩ := inB_true h3
  obtain ⟨e1, e2⟩ := inB_true h4
  obtain ⟨t0, t1⟩ := inB_true h2
  obtain ⟨m, rfl⟩ := Int.eq_ofNat_of_zero_le t0
  have hm : m < S.length := by omega
  have hmi : (m : Int) < (S.length : Int) := by omega
  clear t0 t1
  have HK := hd (stk_at S m hm)
  have HG := hd (good_of HO.out)
  simp only [if_true]
  obtain ⟨r, hr⟩ : ∃ r, r = ffGo S L m days (10000 - fr).toNat fr 0 := ⟨_, rfl⟩
  rw [← hr]
  have HR := hd hr.symm
  clear hr
  go_enter Try.func56, Try.ntmps56
  go_wp2_with (first | (go_at_call 120; refine (hcode_impl _ _ _ hS _ _ hL _ _).mono ?_; rintro e w1 ⟨rfl, hb⟩) | (go_at_call 136; refine (in_impl _ _ _ _).mono ?_; rintro e w1 ⟨rfl, hw⟩; have hw := hw.symm; subst hw))
  have HB := hd hb
  clear hb
  go_loopw [13, 14] (fun rv dv wr => ∃ (f : Nat) (d q : Int), d + f = 10000 ∧ 0 ≤ d ∧ 0 ≤ q ∧ q ≤ d ∧ rv = .int .i64 q ∧ dv = .int .i64 d ∧ Below w.heap.size w wr ∧ Hid (ffGo S L m days f d q = r)) (fun _ dv _ => (10000 - intOf dv).toNat)
  case atStart => exact ⟨(10000 - fr).toNat, fr, 0, by omega, b1, by omega, b1, rfl, rfl, HB.out, HR⟩
  case round =>
    obtain ⟨f, d, q, hf, hd0, hq0, hqd, rfl, rfl, hbel, HT⟩ := hrel
    clear HB
    have HF := hd hf
    rcases f with _ | f
    · have hge : ¬ d < 10000 := by omega
      clear hf
      go_wp2_with fail
      go_ret2
      exact ⟨by rw [← HT.out]; rfl, hbel⟩
    · have hltd : d < 10000 := by omega
      clear hf
      have hLx := hL.below hbel
      obtain ⟨b2, o2, rfl, -, cS⟩ := (hS.below hbel).int_at hm
      have HS := hd HK.out
      generalize S[m] = s at cS HS
      have gS := gro_cell cS
      have HT' : Hid ((if ((if decide (outOn L m d < s) then q + 1 else 0) == days) then (d - days + 1, 0) else ffGo S L m days f (d + 1) (if decide (outOn L m d < s) then q + 1 else 0)) = r) := hd (by rw [← HS.out]; exact HT.out)
      rcases q1 : decide (outOn L m d < s) with _ | _
      · have q1' : decide (s ≤ outOn L m d) = true := by have := of_decide_eq_false q1; simp; omega
        have q2 : ((0 : Int) == days) = false := beq_eq_false_iff_ne.2 (by omega)
        go_wp2_with fail
        refine wp_region_calm (by kernel_rfl) (by kernel_rfl) ?_
        repeat (first | go_big_quiet_step ((first | (go_at_call 137; exact calm_of (out_impl _ _ _ (hLx.gro _) _ _)))) | quiet_step ((first | (go_at_call 137; exact calm_of (out_impl _ _ _ (hLx.gro _) _ _)))))
        refine wpQuiet_nil ?_
        rintro w1 ⟨xw, rfl⟩
        have hb1 := below_step hbel (gro_below xw)
        go_wp2_with fail
        go_roundw
        case rel => exact ⟨f, d + 1, 0, by have := HF.out; omega, by omega, by omega, by omega, rfl, rfl, hb1, hd (by have := HT'.out; simp only [q1, q2, Bool.false_eq_true, reduceIte] at this; exact this)⟩
        case measure => simp [intOf]; omega
      · have q1' : decide (s ≤ outOn L m d) = false := by have := of_decide_eq_true q1; simp; omega
        rcases q2 : (q + 1 == days) with _ | _
        · go_wp2_with fail
          refine wp_region_calm (by kernel_rfl) (by kernel_rfl) ?_
          repeat (first | go_big_quiet_step ((first | (go_at_call 137; exact calm_of (out_impl _ _ _ (hLx.gro _) _ _)))) | quiet_step ((first | (go_at_call 137; exact calm_of (out_impl _ _ _ (hLx.gro _) _ _)))))
          refine wpQuiet_nil ?_
          rintro w1 ⟨xw, rfl⟩
          have hb1 := below_step hbel (gro_below xw)
          go_wp2_with fail
          go_roundw
          case rel => exact ⟨f, d + 1, q + 1, by have := HF.out; omega, by omega, by omega, by omega, rfl, rfl, hb1, hd (by have := HT'.out; simp only [q1, q2, Bool.false_eq_true, reduceIte] at this; exact this)⟩
          case measure => simp [intOf]; omega
        · go_wp2_with fail
          refine wp_region_calm (by kernel_rfl) (by kernel_rfl) ?_
          repeat (first | go_big_quiet_step ((first | (go_at_call 137; exact calm_of (out_impl _ _ _ (hLx.gro _) _ _)))) | quiet_step ((first | (go_at_call 137; exact calm_of (out_impl _ _ _ (hLx.gro _) _ _)))))
          refine wpQuiet_nil ?_
          rintro w1 ⟨xw, rfl⟩
          have hb1 := below_step hbel (gro_below xw)
          go_wp2_with fail
          go_ret2
          exact ⟨by have := HT'.out; simp only [q1, q2, reduceIte] at this; rw [← this]; rfl, hb1⟩

set_option maxHeartbeats 4000000 in
theorem ff_spec (w : World) (vS : Value) (S : List Int) (hS : Sl w 1 vS eI S) (vL : Value) (L : List THire) (hL : Sl w 3 vL eHire L) (item fr days : Int) :
    Calls Try.prog 57 #[vS, vL, .int .i64 item, .int .i64 fr, .int .i64 days] w fun e w' => e = .returned (.tuple #[.int .i64 (ffR S L item fr days).1, .int .i64 (ffR S L item fr days).2]) ∧ Below w.heap.size w w' := by
  have m1 := hS.len
  have m2 := hL.len
  obtain ⟨-, A1, c1, rfl, -, -, -⟩ := id hS
  obtain ⟨-, A2, c2, rfl, -, -, -⟩ := id hL
  unfold ffR
  rcases h1 : okHires S L with _ | _
  · have hc : hCode0 S L item = 1 := by simp [hCode0, h1]
    go_enter Try.func57, Try.ntmps57
    go_wp2_with (first | (go_at_call 118; refine (hcode_spec _ _ _ hS _ _ hL _).mono ?_; rintro e w1 ⟨rfl, hb⟩) | (go_at_call 138; refine (in_spec _ _ _ _).mono ?_; rintro e w1 ⟨rfl, hw⟩; have hw := hw.symm; subst hw))
    go_ret2
    exact ⟨by simp, hb⟩
  have HO := hd h1
  rcases h2 : inB item 0 ((S.length : Int) - 1) with _ | _
  · have hc : hCode0 S L item = 2 := by simp [hCode0, h1, h2]
    go_enter Try.func57, Try.ntmps57
    go_wp2_with (first | (go_at_call 118; refine (hcode_spec _ _ _ hS _ _ hL _).mono ?_; rintro e w1 ⟨rfl, hb⟩) | (go_at_call 138; refine (in_spec _ _ _ _).mono ?_; rintro e w1 ⟨rfl, hw⟩; have hw := hw.symm; subst hw))
    go_ret2
    exact ⟨by simp, hb⟩
  rcases h3 : inB fr 0 10000 with _ | _
  · have hc : hCode0 S L item = 0 := by simp [hCode0, h1, h2, h3]
    go_enter Try.func57, Try.ntmps57
    go_wp2_with (first | (go_at_call 118; refine (hcode_spec _ _ _ hS _ _ hL _).mono ?_; rintro e w1 ⟨rfl, hb⟩) | (go_at_call 138; refine (in_spec _ _ _ _).mono ?_; rintro e w1 ⟨rfl, hw⟩; have hw := hw.symm; subst hw))
    go_ret2
    exact ⟨by simp, hb⟩
  have hz : inB 0 0 10000 = true := by decide
  have hc : hCode0 S L item = 0 := by simp [hCode0, h1, h2, h3]
  rcases h4 : inB days 1 1000 with _ | _
  · go_enter Try.func57, Try.ntmps57
    go_wp2_with (first | (go_at_call 118; refine (hcode_spec _ _ _ hS _ _ hL _).mono ?_; rintro e w1 ⟨rfl, hb⟩) | (go_at_call 138; refine (in_spec _ _ _ _).mono ?_; rintro e w1 ⟨rfl, hw⟩; have hw := hw.symm; subst hw))
    go_ret2
    exact ⟨by simp, hb⟩
  obtain ⟨b1, b2⟩ := inB_true h3
  obtain ⟨e1, e2⟩ := inB_true h4
  obtain ⟨t0, t1⟩ := inB_true h2
  obtain ⟨m, rfl⟩ := Int.eq_ofNat_of_zero_le t0
  have hm : m < S.length := by omega
  have hmi : (m : Int) < (S.length : Int) := by omega
  clear t0 t1
  have HK := hd (stk_at S m hm)
  have HG := hd (good_of HO.out)
  simp only [if_true]
  obtain ⟨r, hr⟩ : ∃ r, r = ffGo S L m days (10000 - fr).toNat fr 0 := ⟨_, rfl⟩
  rw [← hr]
  have HR := hd hr.symm
  clear hr
  go_enter Try.func57, Try.ntmps57
  go_wp2_with (first | (go_at_call 118; refine (hcode_spec _ _ _ hS _ _ hL _).mono ?_; rintro e w1 ⟨rfl, hb⟩) | (go_at_call 138; refine (in_spec _ _ _ _).mono ?_; rintro e w1 ⟨rfl, hw⟩; have hw := hw.symm; subst hw))
  have HB := hd hb
  clear hb
  go_loopw [13, 14] (fun rv dv wr => ∃ (f : Nat) (d q : Int), d + f = 10000 ∧ 0 ≤ d ∧ 0 ≤ q ∧ q ≤ d ∧ rv = .int .i64 q ∧ dv = .int .i64 d ∧ Below w.heap.size w wr ∧ Hid (ffGo S L m days f d q = r)) (fun _ dv _ => (10000 - intOf dv).toNat)
  case atStart => exact ⟨(10000 - fr).toNat, fr, 0, by omega, b1, by omega, b1, rfl, rfl, HB.out, HR⟩
  case round =>
    obtain ⟨f, d, q, hf, hd0, hq0, hqd, rfl, rfl, hbel, HT⟩ := hrel
    clear HB
    have HF := hd hf
    rcases f with _ | f
    · have hge : ¬ d < 10000 := by omega
      clear hf
      go_wp2_with fail
      go_ret2
      exact ⟨by rw [← HT.out]; rfl, hbel⟩
    · have hltd : d < 10000 := by omega
      clear hf
      have hLx := hL.below hbel
      obtain ⟨b2, o2, rfl, -, cS⟩ := (hS.below hbel).int_at hm
      have HS := hd HK.out
      generalize S[m] = s at cS HS
      have gS := gro_cell cS
      have HT' : Hid ((if ((if decide (outOn L m d < s) then q + 1 else 0) == days) then (d - days + 1, 0) else ffGo S L m days f (d + 1) (if decide (outOn L m d < s) then q + 1 else 0)) = r) := hd (by rw [← HS.out]; exact HT.out)
      rcases q1 : decide (outOn L m d < s) with _ | _
      · have q1' : decide (s ≤ outOn L m d) = true := by have := of_decide_eq_false q1; simp; omega
        have q2 : ((0 : Int) == days) = false := beq_eq_false_iff_ne.2 (by omega)
        go_wp2_with fail
        refine wp_region_calm (by kernel_rfl) (by kernel_rfl) ?_
        repeat (first | go_big_quiet_step ((first | (go_at_call 139; exact calm_of (out_spec _ _ _ (hLx.gro _) HG.out _ _)))) | quiet_step ((first | (go_at_call 139; exact calm_of (out_spec _ _ _ (hLx.gro _) HG.out _ _)))))
        refine wpQuiet_nil ?_
        rintro w1 ⟨xw, rfl⟩
        have hb1 := below_step hbel (gro_below xw)
        go_wp2_with fail
        go_roundw
        case rel => exact ⟨f, d + 1, 0, by have := HF.out; omega, by omega, by omega, by omega, rfl, rfl, hb1, hd (by have := HT'.out; simp only [q1, q2, Bool.false_eq_true, reduceIte] at this; exact this)⟩
        case measure => simp [intOf]; omega
      · have q1' : decide (s ≤ outOn L m d) = false := by have := of_decide_eq_true q1; simp; omega
        rcases q2 : (q + 1 == days) with _ | _
        · go_wp2_with fail
          refine wp_region_calm (by kernel_rfl) (by kernel_rfl) ?_
          repeat (first | go_big_quiet_step ((first | (go_at_call 139; exact calm_of (out_spec _ _ _ (hLx.gro _) HG.out _ _)))) | quiet_step ((first | (go_at_call 139; exact calm_of (out_spec _ _ _ (hLx.gro _) HG.out _ _)))))
          refine wpQuiet_nil ?_
          rintro w1 ⟨xw, rfl⟩
          have hb1 := below_step hbel (gro_below xw)
          go_wp2_with fail
          go_roundw
          case rel => exact ⟨f, d + 1, q + 1, by have := HF.out; omega, by omega, by omega, by omega, rfl, rfl, hb1, hd (by have := HT'.out; simp only [q1, q2, Bool.false_eq_true, reduceIte] at this; exact this)⟩
          case measure => simp [intOf]; omega
        · go_wp2_with fail
          refine wp_region_calm (by kernel_rfl) (by kernel_rfl) ?_
          repeat (first | go_big_quiet_step ((first | (go_at_call 139; exact calm_of (out_spec _ _ _ (hLx.gro _) HG.out _ _)))) | quiet_step ((first | (go_at_call 139; exact calm_of (out_spec _ _ _ (hLx.gro _) HG.out _ _)))))
          refine wpQuiet_nil ?_
          rintro w1 ⟨xw, rfl⟩
          have hb1 := below_step hbel (gro_below xw)
          go_wp2_with fail
          go_ret2
          exact ⟨by have := HT'.out; simp only [q1, q2, reduceIte] at this; rw [← this]; rfl, hb1⟩

end Go.Proofs.Ytidmpjlkdghmeaa
