/- Texts of the claim, joined: each says at its head what it proves. No condition. -/
import Derived.Test.YtgcodjkjdfahdaaGreatDoorJ42
import Derived.Test.YtgcodjkjdfahdaaGreatDoorJ44
import Derived.Test.YtgcodjkjdfahdaaGreatDoorJ39
import Derived.Test.YtgcodjkjdfahdaaGreatDoorJ46
import Derived.Test.YtgcodjkjdfahdaaGreatDoorJ40
import Derived.Test.YtgcodjkjdfahdaaGreatDoorJ47
/- A command's line: the reference's do. No condition but that the desk is valid and bounds. -/
namespace Go.Proofs.YtgcodjkjdfahdaaGreatDoor
open Go Go.RowKit Go.ChangeShapes Go.WideShapes
set_option linter.unusedSimpArgs false
set_option linter.unusedVariables false
/-- what a line leaves: a command's desk and lines, or nothing new -/
def DoTo (B g : Nat) (vo : Value) (W : World) (d : TDk) (L : List ByteArray) (r : TRes) (e : Ending) (W' : World) : Prop :=
  e = .returned (.bool (decide (r.2.2 = 0))) ∧ (r.2.2 = 0 → SRes B g vo W r.1 (L ++ r.2.1) W') ∧ (¬ r.2.2 = 0 → SRes B g vo W d L W')
theorem do_yes {B g : Nat} {vo : Value} {W W' : World} {d d' : TDk} {L l : List ByteArray} {r : TRes} (hr : SRes B g vo W d' (L ++ l) W') (h : r = (d', l, 0)) : DoTo B g vo W d L r (.returned (.bool true)) W' := by
  subst h
  exact ⟨rfl, fun _ => hr, fun h => absurd rfl h⟩
theorem do_no {B g : Nat} {vo : Value} {W W' : World} {d : TDk} {L : List ByteArray} {r : TRes} (hr : SRes B g vo W d L W') (h : r.2.2 = 7) : DoTo B g vo W d L r (.returned (.bool false)) W' := by
  have h0 : ¬ r.2.2 = 0 := by rw [h]; decide
  exact ⟨by rw [decide_eq_false h0], fun e => absurd e h0, fun _ => hr⟩
theorem do_set {B g : Nat} {vo : Value} {W W' : World} {d : TDk} {L : List ByteArray} {r q : TRes} (hr : SDone B g vo W (doneG d q) L W') (h : r = doneG d q) : DoTo B g vo W d L r (.returned (.bool true)) W' := by
  subst h
  have h0 : (doneG d q).2.2 = 0 := by unfold doneG; split <;> rfl
  exact ⟨by rw [decide_eq_true h0], fun _ => hr, fun e => absurd h0 e⟩
theorem form_size {w0 : ByteArray} (h : formS w0 ∈ formL) : (formS w0).size ≤ 4 := by
  unfold formL at h
  simp only [List.mem_cons, List.not_mem_nil, or_false] at h
  rcases h with h | h | h | h | h | h | h | h <;> rw [h] <;> decide
theorem form_bytes {fm : ByteArray} (h : fm ∈ formL) : ∀ i (hi : i < fm.size), fm[i] = 110 ∨ fm[i] = 120 ∨ fm[i] = 114 := by
  unfold formL at h
  simp only [List.mem_cons, List.not_mem_nil, or_false] at h
  rcases h with rfl | rfl | rfl | rfl | rfl | rfl | rfl | rfl
  all_goals
    intro i hi
    revert hi
    revert i
    decide
theorem form_rest {fm : ByteArray} (h : fm ∈ formL) : ∀ i (hi : i < fm.size), fm[i] = 114 → i = 0 := by
  unfold formL at h
  simp only [List.mem_cons, List.not_mem_nil, or_false] at h
  rcases h with rfl | rfl | rfl | rfl | rfl | rfl | rfl | rfl
  all_goals
    intro i hi
    revert hi
    revert i
    decide
theorem fit_len {fm : ByteArray} {n : Nat} (h : fitF fm n = true) : fm.size ≤ n := by
  unfold fitF at h
  split at h
  · rename_i h1
    subst h1
    exact of_decide_eq_true h
  · have := of_decide_eq_true h
    omega
set_option maxRecDepth 100000 in
set_option maxHeartbeats 16000000 in
theorem do_spec (W : World) (B g : Nat) (d : TDk) (hok : okD d = true) (vo : Value) (L : List ByteArray) (line : ByteArray) (hz : line.size ≤ 1048576) (hS : SAt W B g d vo L) (hL : L.length ≤ 900000) :
    Calls Tryz.prog 40 #[.pointer (some ⟨g, 0, none⟩), .string line] W (DoTo B g vo W d L (cmdR d line)) := by
  have hL6 : L.length ≤ 1000000 := by omega
  obtain ⟨z1, z2, z3, z4⟩ := okD_bd hok
  have hp : d.1.size ≤ 1048576 := Nat.le_trans z1 (by decide)
  obtain ⟨ws, hws⟩ : ∃ ws, partsB 32 line = ws := ⟨_, rfl⟩
  have hwl := partsB_len_le 32 line
  have hwz := partsB_size 32 line
  have hwn : 0 < ws.length := by rw [← hws]; exact partsB_pos 32 line
  rw [hws] at hwl hwz
  obtain ⟨w0, r, rfl, hrl⟩ := list_cons (show ws.length = (ws.length - 1) + 1 by omega)
  clear hrl hwn
  have hln : (w0 :: r).length = r.length + 1 := rfl
  rw [hln] at hwl
  have HR := hd (show cmdR d line = cmdW d (w0 :: r) w0 by unfold cmdR; rw [hws]; rfl)
  have HJR := hd (join_rest hws)
  have HSPL := hd (split_spec W line 32 hz)
  rw [hws] at HSPL
  have HWZ := hd (show ∀ x ∈ w0 :: r, x.size ≤ 1048576 from fun x hx => Nat.le_trans (hwz x hx) hz)
  have HD := hd hS
  have HOK := hd hok
  clear hws hwz hS hok z1 z2 z3 z4
  go_enter Tryz.func40, Tryz.ntmps40
  go_wp2_with fail
  refine HSPL.out.mono ?_
  rintro e w1 ⟨vw, rfl, OW, hb1⟩
  obtain ⟨bw, ow, cw, hvw, -, hcw, hcell⟩ := (OW.sl eS_len).strs (by rw [hln]; omega)
  have HOW := hd OW
  have HVO := hd (show ∀ k, vw.ownBlock = some k → k ≠ g from fun k e => by have := (OW.lt k e).1; have := HD.out.lt; omega)
  subst hvw
  rw [hln] at HOW HVO ⊢
  have q0 := hcell 0 w0 rfl
  rw [Nat.add_zero] at q0
  have H1 := hd (HD.out.below hb1)
  have HCE := hd (show ∀ W', w1.grownBy W' (some g) → Sl W' 1 (.slice (some ⟨bw, ow, none⟩) (r.length + 1) cw) eS (w0 :: r) from fun W' hg => (HOW.out.grown hg (ne_of_all HVO.out)).sl eS_len)
  clear OW hcell hln HSPL
  go_wp2_with fail
  refine (form_spec w1 w0).mono ?_
  rintro e ww ⟨rfl, hw⟩
  have hw := hw.symm
  subst hw
  clear q0
  by_cases hm : w0 ∈ dWords
  case neg =>
    have HR2 := hd (show (cmdR d line).2.2 = 7 by rw [HR.out]; unfold cmdW; rw [if_pos HOK.out, if_neg (fun h => hm ((Lib.containsS_iff _ _).1 h))])
    rw [form_none hm]
    clear hm
    go_wp2_with fail
    go_ret
    exact do_no (H1.out.same.pre hb1) HR2.out
  have hfm := form_mem hm
  have HFF := hd (fit_form hm r.length)
  have HNF := hd (nums_form hm (w0 :: r))
  have HM := hd hm
  have hfsz := form_size hfm
  obtain ⟨fm, hfe⟩ : ∃ fm, formS w0 = fm := ⟨_, rfl⟩
  have HFE := hd hfe
  rw [hfe] at hfm HFF HNF hfsz ⊢
  have kd : (fm.toList == [45]) = false := lit_ne (fun e => by subst e; revert hfm; unfold formL; simp)
  have HFS := hd (fits_spec w1 fm hfm r.length (by omega))
  have HFM := hd hfm
  clear hfe hfm hm
  rcases hft : fitF fm r.length with _ | _
  · have HR2 := hd (show (cmdR d line).2.2 = 7 by
      rw [HR.out]
      unfold cmdW
      rw [if_pos HOK.out, if_pos ((Lib.containsS_iff _ _).2 HM.out), if_neg (by show ¬ fitN w0 (r.length + 1) = true; rw [← HFF.out, hft]; decide)])
    rw [hft] at HFS
    clear hft
    go_wp2_with fail
    refine HFS.out.mono ?_
    rintro e ww ⟨rfl, hw⟩
    have hw := hw.symm
    subst hw
    go_wp2_with fail
    go_ret
    exact do_no (H1.out.same.pre hb1) HR2.out
  have hfit : fitN w0 (r.length + 1) = true := by rw [← HFF.out, hft]
  have HR2 := hd (show cmdR d line = numG d (w0 :: r) (numsTo (shapeS w0).data.toList (w0 :: r) (shapeS w0).size) by
    rw [HR.out]
    unfold cmdW
    rw [if_pos HOK.out, if_pos ((Lib.containsS_iff _ _).2 HM.out)]
    exact if_pos hfit)
  have HFI := hd (fun ns h => fits_of HM.out hfit (ns := ns) h)
  have hfl := fit_len hft
  have HJ := hd (show ∀ i (h : i < fm.size), fm[i] = 114 → (joinS ⟨#[32]⟩ ((w0 :: r).drop (i + 1))).size ≤ 1048576 from fun i h e => by
    have := form_rest HFM.out i h e
    subst this
    exact Nat.le_trans HJR.out hz)
  have HWS := hd (words_spec28 w1 B g d vo L H1.out (.slice (some ⟨bw, ow, none⟩) (r.length + 1) cw) (w0 :: r) HCE.out fm (by omega) (by show fm.size + 1 ≤ r.length + 1; omega) (form_bytes HFM.out) (by show r.length + 1 ≤ 1048577; omega) HWZ.out HJ.out)
  rw [hft] at HFS
  clear hft hfit
  go_wp2_with fail
  refine HFS.out.mono ?_
  rintro e ww ⟨rfl, hw⟩
  have hw := hw.symm
  subst hw
  go_wp2_with fail
  refine HWS.out.mono ?_
  rintro e w2 ⟨hS2, hg2, hF2, hcase⟩
  rcases hcase with ⟨hno, rfl⟩ | ⟨ns, hns, rfl, hNT⟩
  · have HR3 := hd (show cmdR d line = (d, [errS 7], 0) by rw [HR2.out, ← HNF.out, hno]; rfl)
    clear hno
    have HS2 := hd hS2
    have HF2 := hd hF2
    clear hS2 hF2 hg2
    go_wp2_with fail
    refine (report_err w2 B g d vo L HS2.out hL6 7 (by decide)).mono ?_
    rintro e w3 ⟨rfl, hr⟩
    go_wp2_with fail
    go_ret
    exact do_yes ((hr.after HF2.out).pre hb1) HR3.out
  rw [HNF.out] at hns
  have HR3 := hd (show cmdR d line = doneG d (execR d (w0 :: r) ns) by rw [HR2.out, hns]; rfl)
  have hfits := HFI.out ns hns
  obtain ⟨bw', ow', cw', hv', -, -, hc'⟩ := (HCE.out w2 hg2).strs (by show 0 < r.length + 1; omega)
  injection hv' with e1 _ e3
  injection e1 with e1
  injection e1 with e1 e2 _
  subst e1 e2 e3
  have q0 := hc' 0 w0 rfl
  rw [Nat.add_zero] at q0
  have HS2 := hd hS2
  have HF2 := hd hF2
  have HNT := hd hNT
  have HB1 := hd hb1
  have HWY := hd HWZ.out
  have HJT := hd (Nat.le_trans HJR.out hz)
  clear hc' hg2 hS2 hF2 hNT hns hb1 HWS HFS HCE HFI HJ HFF HNF HR2 HR HJR HVO HOW HWZ kd HFM
  have HFE2 := hd HFE.out
  clear HFE
  unfold fitsB at hfits
  rcases hfits with ⟨s1, s2, n0, n1, hwr, rfl⟩ | ⟨s1, hwr, rfl⟩ | ⟨s1, n0, hwr, rfl⟩ | ⟨s1, hwr, rfl⟩ | ⟨s1, s2, n0, hwr, rfl⟩ | ⟨s1, s2, n0, n1, hwr, rfl⟩ | ⟨s1, s2, s3, s4, n0, n1, n2, n3, hwr, rfl⟩ | ⟨s1, n0, hwr, rfl⟩ | ⟨s1, s2, n0, hwr, rfl⟩ | ⟨s1, s2, s3, s4, n0, n1, n2, n3, hwr, rfl⟩ | ⟨r', hwr, hr', rfl⟩ | ⟨hwr, rfl⟩ | ⟨s1, s2, s3, n0, n1, hwr, rfl⟩ | ⟨hwr, rfl⟩
  · -- seen
    have hw0 : w0 = ⟨#[115, 101, 101, 110]⟩ := by injection hwr
    have hrr : r = [s1, s2] := by injection hwr
    subst hw0
    subst hrr
    have HT := hd (show textsTo fm.data.toList ([⟨#[115, 101, 101, 110]⟩, s1, s2]) fm.size = [] by rw [← HFE2.out, formS_seen]; rfl)
    have HN2 := hd (show NT w2 B g [n0, n1] [] from HT.out ▸ HNT.out)
    have HX := hd (q_seen w2 B g d vo L n0 n1 ([]) HS2.out HN2.out hL6)
    have HR4 := hd (show cmdR d line = (d, _, 0) by rw [HR3.out, execR_seen d s1 s2 n0 n1]; exact done_one _ _ _)
    clear hwr HT HNT HN2
    go_wp2_with fail
    refine HX.out.mono ?_
    rintro e w3 ⟨rfl, hr⟩
    go_wp2_with fail
    go_ret
    exact do_yes ((hr.after HF2.out).pre HB1.out) HR4.out
  · -- disc
    have hw0 : w0 = ⟨#[100, 105, 115, 99]⟩ := by injection hwr
    have hrr : r = [s1] := by injection hwr
    subst hw0
    subst hrr
    have HT := hd (show textsTo fm.data.toList ([⟨#[100, 105, 115, 99]⟩, s1]) fm.size = [s1] by rw [← HFE2.out, formS_disc]; rfl)
    have HN2 := hd (show NT w2 B g [] [s1] from HT.out ▸ HNT.out)
    have HX := hd (c_disc w2 B g d HOK.out vo L s1 (HWY.out _ (by simp)) [] HS2.out HN2.out hL6)
    have HR4 := hd (show cmdR d line = doneG d _ by rw [HR3.out, execR_disc d s1])
    clear hwr HT HNT HN2
    go_wp2_with fail
    refine HX.out.mono ?_
    rintro e w3 ⟨rfl, hr⟩
    go_wp2_with fail
    go_ret
    exact do_set ((show SRes B g vo w2 _ _ w3 from hr).after HF2.out |>.pre HB1.out) HR4.out
  · -- shows
    have hw0 : w0 = ⟨#[115, 104, 111, 119, 115]⟩ := by injection hwr
    have hrr : r = [s1] := by injection hwr
    subst hw0
    subst hrr
    have HT := hd (show textsTo fm.data.toList ([⟨#[115, 104, 111, 119, 115]⟩, s1]) fm.size = [] by rw [← HFE2.out, formS_shows]; rfl)
    have HN2 := hd (show NT w2 B g [n0] [] from HT.out ▸ HNT.out)
    have HX := hd (q_shows w2 B g d vo L hp n0 ([]) HS2.out HN2.out hL6)
    have HR4 := hd (show cmdR d line = (d, _, 0) by rw [HR3.out, execR_shows d s1 n0]; exact done_one _ _ _)
    clear hwr HT HNT HN2
    go_wp2_with fail
    refine HX.out.mono ?_
    rintro e w3 ⟨rfl, hr⟩
    go_wp2_with fail
    go_ret
    exact do_yes ((hr.after HF2.out).pre HB1.out) HR4.out
  · -- fewest
    have hw0 : w0 = ⟨#[102, 101, 119, 101, 115, 116]⟩ := by injection hwr
    have hrr : r = [s1] := by injection hwr
    subst hw0
    subst hrr
    have HT := hd (show textsTo fm.data.toList ([⟨#[102, 101, 119, 101, 115, 116]⟩, s1]) fm.size = [s1] by rw [← HFE2.out, formS_fewest]; rfl)
    have HN2 := hd (show NT w2 B g [] [s1] from HT.out ▸ HNT.out)
    have HX := hd (q_fewest w2 B g d vo L s1 (HWY.out _ (by simp)) [] HS2.out HN2.out hL6)
    have HR4 := hd (show cmdR d line = (d, _, 0) by rw [HR3.out, execR_fewest d s1]; exact done_one _ _ _)
    clear hwr HT HNT HN2
    go_wp2_with fail
    refine HX.out.mono ?_
    rintro e w3 ⟨rfl, hr⟩
    go_wp2_with fail
    go_ret
    exact do_yes ((hr.after HF2.out).pre HB1.out) HR4.out
  · -- for
    have hw0 : w0 = ⟨#[102, 111, 114]⟩ := by injection hwr
    have hrr : r = [s1, s2] := by injection hwr
    subst hw0
    subst hrr
    have HT := hd (show textsTo fm.data.toList ([⟨#[102, 111, 114]⟩, s1, s2]) fm.size = [s1] by rw [← HFE2.out, formS_for]; rfl)
    have HN2 := hd (show NT w2 B g [n0] [s1] from HT.out ▸ HNT.out)
    have HX := hd (q_for w2 B g d vo L s1 (HWY.out _ (by simp)) n0 HS2.out HN2.out hL6)
    have HR4 := hd (show cmdR d line = (d, _, 0) by rw [HR3.out, execR_for d s1 s2 n0]; exact done_one _ _ _)
    clear hwr HT HNT HN2
    go_wp2_with fail
    refine HX.out.mono ?_
    rintro e w3 ⟨rfl, hr⟩
    go_wp2_with fail
    go_ret
    exact do_yes ((hr.after HF2.out).pre HB1.out) HR4.out
  · -- image
    have hw0 : w0 = ⟨#[105, 109, 97, 103, 101]⟩ := by injection hwr
    have hrr : r = [s1, s2] := by injection hwr
    subst hw0
    subst hrr
    have HT := hd (show textsTo fm.data.toList ([⟨#[105, 109, 97, 103, 101]⟩, s1, s2]) fm.size = [] by rw [← HFE2.out, formS_image]; rfl)
    have HN2 := hd (show NT w2 B g [n0, n1] [] from HT.out ▸ HNT.out)
    have HX := hd (q_image w2 B g d vo L n0 n1 ([]) HS2.out HN2.out hL6)
    have HR4 := hd (show cmdR d line = (d, _, 0) by rw [HR3.out, execR_image d s1 s2 n0 n1]; exact done_one _ _ _)
    clear hwr HT HNT HN2
    go_wp2_with fail
    refine HX.out.mono ?_
    rintro e w3 ⟨rfl, hr⟩
    go_wp2_with fail
    go_ret
    exact do_yes ((hr.after HF2.out).pre HB1.out) HR4.out
  · -- cue
    have hw0 : w0 = ⟨#[99, 117, 101]⟩ := by injection hwr
    have hrr : r = [s1, s2, s3, s4] := by injection hwr
    subst hw0
    subst hrr
    have HT := hd (show textsTo fm.data.toList ([⟨#[99, 117, 101]⟩, s1, s2, s3, s4]) fm.size = [] by rw [← HFE2.out, formS_cue]; rfl)
    have HN2 := hd (show NT w2 B g [n0, n1, n2, n3] [] from HT.out ▸ HNT.out)
    have HX := hd (c_cue w2 B g d HOK.out vo L n0 n1 n2 n3 ([]) HS2.out HN2.out hL6)
    have HR4 := hd (show cmdR d line = doneG d _ by rw [HR3.out, execR_cue d s1 s2 s3 s4 n0 n1 n2 n3])
    clear hwr HT HNT HN2
    go_wp2_with fail
    refine HX.out.mono ?_
    rintro e w3 ⟨rfl, hr⟩
    go_wp2_with fail
    go_ret
    exact do_set ((show SRes B g vo w2 _ _ w3 from hr).after HF2.out |>.pre HB1.out) HR4.out
  · -- shifts
    have hw0 : w0 = ⟨#[115, 104, 105, 102, 116, 115]⟩ := by injection hwr
    have hrr : r = [s1] := by injection hwr
    subst hw0
    subst hrr
    have HT := hd (show textsTo fm.data.toList ([⟨#[115, 104, 105, 102, 116, 115]⟩, s1]) fm.size = [] by rw [← HFE2.out, formS_shifts]; rfl)
    have HN2 := hd (show NT w2 B g [n0] [] from HT.out ▸ HNT.out)
    have HX := hd (q_shifts w2 B g d vo L n0 ([]) HS2.out HN2.out hL6)
    have HR4 := hd (show cmdR d line = (d, _, 0) by rw [HR3.out, execR_shifts d s1 n0]; exact done_one _ _ _)
    clear hwr HT HNT HN2
    go_wp2_with fail
    refine HX.out.mono ?_
    rintro e w3 ⟨rfl, hr⟩
    go_wp2_with fail
    go_ret
    exact do_yes ((hr.after HF2.out).pre HB1.out) HR4.out
  · -- loads
    have hw0 : w0 = ⟨#[108, 111, 97, 100, 115]⟩ := by injection hwr
    have hrr : r = [s1, s2] := by injection hwr
    subst hw0
    subst hrr
    have HT := hd (show textsTo fm.data.toList ([⟨#[108, 111, 97, 100, 115]⟩, s1, s2]) fm.size = [s1] by rw [← HFE2.out, formS_loads]; rfl)
    have HN2 := hd (show NT w2 B g [n0] [s1] from HT.out ▸ HNT.out)
    have HX := hd (q_loads w2 B g d vo L s1 (HWY.out _ (by simp)) n0 HS2.out HN2.out hL6)
    have HR4 := hd (show cmdR d line = (d, _, 0) by rw [HR3.out, execR_loads d s1 s2 n0]; exact done_one _ _ _)
    clear hwr HT HNT HN2
    go_wp2_with fail
    refine HX.out.mono ?_
    rintro e w3 ⟨rfl, hr⟩
    go_wp2_with fail
    go_ret
    exact do_yes ((hr.after HF2.out).pre HB1.out) HR4.out
  · -- burn
    have hw0 : w0 = ⟨#[98, 117, 114, 110]⟩ := by injection hwr
    have hrr : r = [s1, s2, s3, s4] := by injection hwr
    subst hw0
    subst hrr
    have HT := hd (show textsTo fm.data.toList ([⟨#[98, 117, 114, 110]⟩, s1, s2, s3, s4]) fm.size = [] by rw [← HFE2.out, formS_burn]; rfl)
    have HN2 := hd (show NT w2 B g [n0, n1, n2, n3] [] from HT.out ▸ HNT.out)
    have HX := hd (q_burn w2 B g d vo L n0 n1 n2 n3 ([]) HS2.out HN2.out hL6)
    have HR4 := hd (show cmdR d line = (d, _, 0) by rw [HR3.out, execR_burn d s1 s2 s3 s4 n0 n1 n2 n3]; exact done_one _ _ _)
    clear hwr HT HNT HN2
    go_wp2_with fail
    refine HX.out.mono ?_
    rintro e w3 ⟨rfl, hr⟩
    go_wp2_with fail
    go_ret
    exact do_yes ((hr.after HF2.out).pre HB1.out) HR4.out
  · -- title
    have hw0 : w0 = ⟨#[116, 105, 116, 108, 101]⟩ := by injection hwr
    have hrr : r = r' := by injection hwr
    subst hw0
    subst hrr
    have HT := hd (show textsTo fm.data.toList (⟨#[116, 105, 116, 108, 101]⟩ :: r) fm.size = [joinS ⟨#[32]⟩ r] by rw [← HFE2.out, formS_title]; rfl)
    have HN2 := hd (show NT w2 B g [] [joinS ⟨#[32]⟩ r] from HT.out ▸ HNT.out)
    have HX := hd (c_title w2 B g d HOK.out vo L (joinS ⟨#[32]⟩ r) (HJT.out) [] HS2.out HN2.out hL6)
    have HR4 := hd (show cmdR d line = doneG d _ by rw [HR3.out, execR_title d r []])
    clear hwr HT HNT HN2 hr' hwl hfl
    generalize r.length = nl
    go_wp2_with fail
    refine HX.out.mono ?_
    rintro e w3 ⟨rfl, hr⟩
    go_wp2_with fail
    go_ret
    exact do_set ((show SRes B g vo w2 _ _ w3 from hr).after HF2.out |>.pre HB1.out) HR4.out
  · -- titles
    have hw0 : w0 = ⟨#[116, 105, 116, 108, 101, 115]⟩ := by injection hwr
    have hrr : r = [] := by injection hwr
    subst hw0
    subst hrr
    have HT := hd (show textsTo fm.data.toList ([⟨#[116, 105, 116, 108, 101, 115]⟩]) fm.size = [] by rw [← HFE2.out, formS_titles]; rfl)
    have HN2 := hd (show NT w2 B g [] [] from HT.out ▸ HNT.out)
    have HX := hd (c_titles w2 B g d HOK.out vo L HS2.out hL)
    have HR4 := hd (show cmdR d line = (d, _, 0) by rw [HR3.out, execR_titles d]; exact if_pos rfl)
    clear hwr HT HNT HN2
    go_wp2_with fail
    refine HX.out.mono ?_
    rintro e w3 ⟨rfl, hr⟩
    go_wp2_with fail
    go_ret
    exact do_yes ((show SRes B g vo w2 d _ w3 from hr).after HF2.out |>.pre HB1.out) HR4.out
  · -- enter
    have hw0 : w0 = ⟨#[101, 110, 116, 101, 114]⟩ := by injection hwr
    have hrr : r = [s1, s2, s3] := by injection hwr
    subst hw0
    subst hrr
    have HT := hd (show textsTo fm.data.toList ([⟨#[101, 110, 116, 101, 114]⟩, s1, s2, s3]) fm.size = [s2] by rw [← HFE2.out, formS_enter]; rfl)
    have HN2 := hd (show NT w2 B g [n0, n1] [s2] from HT.out ▸ HNT.out)
    have HX := hd (c_enter w2 B g d HOK.out vo L s2 (HWY.out _ (by simp)) n0 n1 HS2.out HN2.out hL6)
    have HR4 := hd (show cmdR d line = doneG d _ by rw [HR3.out, execR_enter d s1 s2 s3 n0 n1])
    clear hwr HT HNT HN2
    go_wp2_with fail
    refine HX.out.mono ?_
    rintro e w3 ⟨rfl, hr⟩
    go_wp2_with fail
    go_ret
    exact do_set ((show SRes B g vo w2 _ _ w3 from hr).after HF2.out |>.pre HB1.out) HR4.out
  · -- log
    have hw0 : w0 = ⟨#[108, 111, 103]⟩ := by injection hwr
    have hrr : r = [] := by injection hwr
    subst hw0
    subst hrr
    have HT := hd (show textsTo fm.data.toList ([⟨#[108, 111, 103]⟩]) fm.size = [] by rw [← HFE2.out, formS_log]; rfl)
    have HN2 := hd (show NT w2 B g [] [] from HT.out ▸ HNT.out)
    have HX := hd (c_log w2 B g d HOK.out vo L HS2.out hL)
    have HR4 := hd (show cmdR d line = (d, _, 0) by rw [HR3.out, execR_log d]; exact if_pos rfl)
    clear hwr HT HNT HN2
    go_wp2_with fail
    refine HX.out.mono ?_
    rintro e w3 ⟨rfl, hr⟩
    go_wp2_with fail
    go_ret
    exact do_yes ((show SRes B g vo w2 d _ w3 from hr).after HF2.out |>.pre HB1.out) HR4.out
end Go.Proofs.YtgcodjkjdfahdaaGreatDoor
