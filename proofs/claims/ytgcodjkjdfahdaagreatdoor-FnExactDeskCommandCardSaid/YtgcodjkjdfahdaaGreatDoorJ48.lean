/- Lemmas for the claim (the walks of its functions and their plain laws), joined. No condition. -/
import Derived.Test.YtgcodjkjdfahdaaGreatDoorJ42
import Derived.Test.YtgcodjkjdfahdaaGreatDoorJ44
import Derived.Test.YtgcodjkjdfahdaaGreatDoorJ41
import Derived.Test.YtgcodjkjdfahdaaGreatDoorJ46
import Derived.Test.YtgcodjkjdfahdaaGreatDoorJ47
import Derived.Test.YtgcodjkjdfahdaaGreatDoorJ40
import Derived.Deep.RegionLaw
import Derived.Test.YtgcodjkjdfahdaaGreatDoorJ6
namespace Go.Proofs.YtgcodjkjdfahdaaGreatDoor
open Go Go.RowKit Go.ChangeShapes Go.WideShapes
set_option linter.unusedSimpArgs false
set_option linter.unusedVariables false
def DoTo (B g : Nat) (vo : Value) (W : World) (d : TDk) (L : List ByteArray) (r : TRes) (e : Ending) (W' : World) : Prop :=
  e = .returned (.bool (decide (r.2.2 = 0))) ∧ (r.2.2 = 0 → SRes B g vo W r.1 (L ++ r.2.1) W') ∧ (¬ r.2.2 = 0 → SRes B g vo W d L W')
theorem do_yes {B g : Nat} {vo : Value} {W W' : World} {d d' : TDk} {L l : List ByteArray} {r : TRes} (hr : SRes B g vo W d' (L ++ l) W') (h : r = (d', l, 0)) : DoTo B g vo W d L r (.returned (.bool true)) W' := by
  subst h
  exact ⟨rfl, fun _ => hr, fun h => absurd rfl h⟩
theorem do_no {B g : Nat} {vo : Value} {W W' : World} {d : TDk} {L : List ByteArray} {r : TRes} (hr : SRes B g vo W d L W') (h : r.2.2 = 7) : DoTo B g vo W d L r (.returned (.bool false)) W' := by
  have h0 : ¬ r.2.2 = 0 := by rw [h]; decide
  exact ⟨by rw [decide_eq_false h0], fun e => absurd e h0, fun _ => hr⟩
theorem do_set {B g : Nat} {vo : Value} {W W' : World} {d : TDk} {L : List ByteArray} {r q : TRes} (hr : SDone B g vo W (doneG d q) L W') (h : r = doneG d q) : DoTo B g vo W d L r (.returned (.bool true)) W' := by
  subst h
  have h0 : (doneG d q).2.2 = 0 := by unfold doneG; split <;> rfl
  exact ⟨by rw [decide_eq_true h0], fun _ => hr, fun e => absurd h0 e⟩
theorem form_size {w0 : ByteArray} (h : formS w0 ∈ formL) : (formS w0).size ≤ 4 := by
  unfold formL at h
  simp only [List.mem_cons, List.not_mem_nil, or_false] at h
  rcases h with h | h | h | h | h | h | h | h <;> rw [h] <;> decide
theorem form_bytes {fm : ByteArray} (h : fm ∈ formL) : ∀ i (hi : i < fm.size), fm[i] = 110 ∨ fm[i] = 120 ∨ fm[i] = 114 := by
  unfold formL at h
  simp only [List.mem_cons, List.not_mem_nil, or_false] at h
  rcases h with rfl | rfl | rfl | rfl | rfl | rfl | rfl | rfl
  all_goals
    intro i hi
    revert hi
    revert i
    decide
theorem form_rest {fm : ByteArray} (h : fm ∈ formL) : ∀ i (hi : i < fm.size), fm[i] = 114 → i = 0 := by
  unfold formL at h
  simp only [List.mem_cons, List.not_mem_nil, or_false] at h
  rcases h with rfl | rfl | rfl | rfl | rfl | rfl | rfl | rfl
  all_goals
    intro i hi
    revert hi
    revert i
    decide
theorem fit_len {fm : ByteArray} {n : Nat} (h : fitF fm n = true) : fm.size ≤ n := by
  unfold fitF at h
  split at h
  · rename_i h1
    subst h1
    exact of_decide_eq_true h
  · have := of_decide_eq_true h
    omega
set_option maxRecDepth 100000 in
set_option maxHeartbeats 16000000 in
theorem do_spec (W : World) (B g : Nat) (d : TDk) (hok : okD d = true) (vo : Value) (L : List ByteArray) (line : ByteArray) (hz : line.size ≤ 1048576) (hS : SAt W B g d vo L) (hL : L.length ≤ 900000) :
    Calls Tryz.prog 40 #[.pointer (some ⟨g, 0, none⟩), .string line] W (DoTo B g vo W d L (cmdR d line)) := by
  have hL6 : L.length ≤ 1000000 := by omega
  obtain ⟨z1, z2, z3, z4⟩ := okD_bd hok
  have hp : d.1.size ≤ 1048576 := Nat.le_trans z1 (by decide)
  obtain ⟨ws, hws⟩ : ∃ ws, partsB 32 line = ws := ⟨_, rfl⟩
  have hwl := partsB_len_le 32 line
  have hwz := partsB_size 32 line
  have hwn : 0 < ws.length := by rw [← hws]; exact partsB_pos 32 line
  rw [hws] at hwl hwz
  obtain ⟨w0, r, rfl, hrl⟩ := list_cons (show ws.length = (ws.length - 1) + 1 by omega)
  clear hrl hwn
  have hln : (w0 :: r).length = r.length + 1 := rfl
  rw [hln] at hwl
  have HR := hd (show cmdR d line = cmdW d (w0 :: r) w0 by unfold cmdR; rw [hws]; rfl)
  have HJR := hd (join_rest hws)
  have HSPL := hd (split_spec W line 32 hz)
  rw [hws] at HSPL
  have HWZ := hd (show ∀ x ∈ w0 :: r, x.size ≤ 1048576 from fun x hx => Nat.le_trans (hwz x hx) hz)
  have HD := hd hS
  have HOK := hd hok
  clear hws hwz hS hok z1 z2 z3 z4
  go_enter Tryz.func40, Tryz.ntmps40
  go_wp2_with fail
  refine HSPL.out.mono ?_
  rintro e w1 ⟨vw, rfl, OW, hb1⟩
  obtain ⟨bw, ow, cw, hvw, -, hcw, hcell⟩ := (OW.sl eS_len).strs (by rw [hln]; omega)
  have HOW := hd OW
  have HVO := hd (show ∀ k, vw.ownBlock = some k → k ≠ g from fun k e => by have := (OW.lt k e).1; have := HD.out.lt; omega)
  subst hvw
  rw [hln] at HOW HVO ⊢
  have q0 := hcell 0 w0 rfl
  rw [Nat.add_zero] at q0
  have H1 := hd (HD.out.below hb1)
  have HCE := hd (show ∀ W', w1.grownBy W' (some g) → Sl W' 1 (.slice (some ⟨bw, ow, none⟩) (r.length + 1) cw) eS (w0 :: r) from fun W' hg => (HOW.out.grown hg (ne_of_all HVO.out)).sl eS_len)
  clear OW hcell hln HSPL
  go_wp2_with fail
  refine (form_spec w1 w0).mono ?_
  rintro e ww ⟨rfl, hw⟩
  have hw := hw.symm
  subst hw
  clear q0
  by_cases hm : w0 ∈ dWords
  case neg =>
    have HR2 := hd (show (cmdR d line).2.2 = 7 by rw [HR.out]; unfold cmdW; rw [if_pos HOK.out, if_neg (fun h => hm ((Lib.containsS_iff _ _).1 h))])
    rw [form_none hm]
    clear hm
    go_wp2_with fail
    go_ret
    exact do_no (H1.out.same.pre hb1) HR2.out
  have hfm := form_mem hm
  have HFF := hd (fit_form hm r.length)
  have HNF := hd (nums_form hm (w0 :: r))
  have HM := hd hm
  have hfsz := form_size hfm
  obtain ⟨fm, hfe⟩ : ∃ fm, formS w0 = fm := ⟨_, rfl⟩
  have HFE := hd hfe
  rw [hfe] at hfm HFF HNF hfsz ⊢
  have kd : (fm.toList == [45]) = false := lit_ne (fun e => by subst e; revert hfm; unfold formL; simp)
  have HFS := hd (fits_spec w1 fm hfm r.length (by omega))
  have HFM := hd hfm
  clear hfe hfm hm
  rcases hft : fitF fm r.length with _ | _
  · have HR2 := hd (show (cmdR d line).2.2 = 7 by
      rw [HR.out]
      unfold cmdW
      rw [if_pos HOK.out, if_pos ((Lib.containsS_iff _ _).2 HM.out), if_neg (by show ¬ fitN w0 (r.length + 1) = true; rw [← HFF.out, hft]; decide)])
    rw [hft] at HFS
    clear hft
    go_wp2_with fail
    refine HFS.out.mono ?_
    rintro e ww ⟨rfl, hw⟩
    have hw := hw.symm
    subst hw
    go_wp2_with fail
    go_ret
    exact do_no (H1.out.same.pre hb1) HR2.out
  have hfit : fitN w0 (r.length + 1) = true := by rw [← HFF.out, hft]
  have HR2 := hd (show cmdR d line = numG d (w0 :: r) (numsTo (shapeS w0).data.toList (w0 :: r) (shapeS w0).size) by
    rw [HR.out]
    unfold cmdW
    rw [if_pos HOK.out, if_pos ((Lib.containsS_iff _ _).2 HM.out)]
    exact if_pos hfit)
  have HFI := hd (fun ns h => fits_of HM.out hfit (ns := ns) h)
  have hfl := fit_len hft
  have HJ := hd (show ∀ i (h : i < fm.size), fm[i] = 114 → (joinS ⟨#[32]⟩ ((w0 :: r).drop (i + 1))).size ≤ 1048576 from fun i h e => by
    have := form_rest HFM.out i h e
    subst this
    exact Nat.le_trans HJR.out hz)
  have HWS := hd (words_spec28 w1 B g d vo L H1.out (.slice (some ⟨bw, ow, none⟩) (r.length + 1) cw) (w0 :: r) HCE.out fm (by omega) (by show fm.size + 1 ≤ r.length + 1; omega) (form_bytes HFM.out) (by show r.length + 1 ≤ 1048577; omega) HWZ.out HJ.out)
  rw [hft] at HFS
  clear hft hfit
  go_wp2_with fail
  refine HFS.out.mono ?_
  rintro e ww ⟨rfl, hw⟩
  have hw := hw.symm
  subst hw
  go_wp2_with fail
  refine HWS.out.mono ?_
  rintro e w2 ⟨hS2, hg2, hF2, hcase⟩
  rcases hcase with ⟨hno, rfl⟩ | ⟨ns, hns, rfl, hNT⟩
  · have HR3 := hd (show cmdR d line = (d, [errS 7], 0) by rw [HR2.out, ← HNF.out, hno]; rfl)
    clear hno
    have HS2 := hd hS2
    have HF2 := hd hF2
    clear hS2 hF2 hg2
    go_wp2_with fail
    refine (report_err w2 B g d vo L HS2.out hL6 7 (by decide)).mono ?_
    rintro e w3 ⟨rfl, hr⟩
    go_wp2_with fail
    go_ret
    exact do_yes ((hr.after HF2.out).pre hb1) HR3.out
  rw [HNF.out] at hns
  have HR3 := hd (show cmdR d line = doneG d (execR d (w0 :: r) ns) by rw [HR2.out, hns]; rfl)
  have hfits := HFI.out ns hns
  obtain ⟨bw', ow', cw', hv', -, -, hc'⟩ := (HCE.out w2 hg2).strs (by show 0 < r.length + 1; omega)
  injection hv' with e1 _ e3
  injection e1 with e1
  injection e1 with e1 e2 _
  subst e1 e2 e3
  have q0 := hc' 0 w0 rfl
  rw [Nat.add_zero] at q0
  have HS2 := hd hS2
  have HF2 := hd hF2
  have HNT := hd hNT
  have HB1 := hd hb1
  have HWY := hd HWZ.out
  have HJT := hd (Nat.le_trans HJR.out hz)
  clear hc' hg2 hS2 hF2 hNT hns hb1 HWS HFS HCE HFI HJ HFF HNF HR2 HR HJR HVO HOW HWZ kd HFM
  have HFE2 := hd HFE.out
  clear HFE
  unfold fitsB at hfits
  rcases hfits with ⟨s1, s2, n0, n1, hwr, rfl⟩ | ⟨s1, hwr, rfl⟩ | ⟨s1, n0, hwr, rfl⟩ | ⟨s1, hwr, rfl⟩ | ⟨s1, s2, n0, hwr, rfl⟩ | ⟨s1, s2, n0, n1, hwr, rfl⟩ | ⟨s1, s2, s3, s4, n0, n1, n2, n3, hwr, rfl⟩ | ⟨s1, n0, hwr, rfl⟩ | ⟨s1, s2, n0, hwr, rfl⟩ | ⟨s1, s2, s3, s4, n0, n1, n2, n3, hwr, rfl⟩ | ⟨r', hwr, hr', rfl⟩ | ⟨hwr, rfl⟩ | ⟨s1, s2, s3, n0, n1, hwr, rfl⟩ | ⟨hwr, rfl⟩
  · -- seen
    have hw0 : w0 = ⟨#[115, 101, 101, 110]⟩ := by injection hwr
    have hrr : r = [s1, s2] := by injection hwr
    subst hw0
    subst hrr
    have HT := hd (show textsTo fm.data.toList ([⟨#[115, 101, 101, 110]⟩, s1, s2]) fm.size = [] by rw [← HFE2.out, formS_seen]; rfl)
    have HN2 := hd (show NT w2 B g [n0, n1] [] from HT.out ▸ HNT.out)
    have HX := hd (q_seen w2 B g d vo L n0 n1 ([]) HS2.out HN2.out hL6)
    have HR4 := hd (show cmdR d line = (d, _, 0) by rw [HR3.out, execR_seen d s1 s2 n0 n1]; exact done_one _ _ _)
    clear hwr HT HNT HN2
    go_wp2_with fail
    refine HX.out.mono ?_
    rintro e w3 ⟨rfl, hr⟩
    go_wp2_with fail
    go_ret
    exact do_yes ((hr.after HF2.out).pre HB1.out) HR4.out
  · -- disc
    have hw0 : w0 = ⟨#[100, 105, 115, 99]⟩ := by injection hwr
    have hrr : r = [s1] := by injection hwr
    subst hw0
    subst hrr
    have HT := hd (show textsTo fm.data.toList ([⟨#[100, 105, 115, 99]⟩, s1]) fm.size = [s1] by rw [← HFE2.out, formS_disc]; rfl)
    have HN2 := hd (show NT w2 B g [] [s1] from HT.out ▸ HNT.out)
    have HX := hd (c_disc w2 B g d HOK.out vo L s1 (HWY.out _ (by simp)) [] HS2.out HN2.out hL6)
    have HR4 := hd (show cmdR d line = doneG d _ by rw [HR3.out, execR_disc d s1])
    clear hwr HT HNT HN2
    go_wp2_with fail
    refine HX.out.mono ?_
    rintro e w3 ⟨rfl, hr⟩
    go_wp2_with fail
    go_ret
    exact do_set ((show SRes B g vo w2 _ _ w3 from hr).after HF2.out |>.pre HB1.out) HR4.out
  · -- shows
    have hw0 : w0 = ⟨#[115, 104, 111, 119, 115]⟩ := by injection hwr
    have hrr : r = [s1] := by injection hwr
    subst hw0
    subst hrr
    have HT := hd (show textsTo fm.data.toList ([⟨#[115, 104, 111, 119, 115]⟩, s1]) fm.size = [] by rw [← HFE2.out, formS_shows]; rfl)
    have HN2 := hd (show NT w2 B g [n0] [] from HT.out ▸ HNT.out)
    have HX := hd (q_shows w2 B g d vo L hp n0 ([]) HS2.out HN2.out hL6)
    have HR4 := hd (show cmdR d line = (d, _, 0) by rw [HR3.out, execR_shows d s1 n0]; exact done_one _ _ _)
    clear hwr HT HNT HN2
    go_wp2_with fail
    refine HX.out.mono ?_
    rintro e w3 ⟨rfl, hr⟩
    go_wp2_with fail
    go_ret
    exact do_yes ((hr.after HF2.out).pre HB1.out) HR4.out
  · -- fewest
    have hw0 : w0 = ⟨#[102, 101, 119, 101, 115, 116]⟩ := by injection hwr
    have hrr : r = [s1] := by injection hwr
    subst hw0
    subst hrr
    have HT := hd (show textsTo fm.data.toList ([⟨#[102, 101, 119, 101, 115, 116]⟩, s1]) fm.size = [s1] by rw [← HFE2.out, formS_fewest]; rfl)
    have HN2 := hd (show NT w2 B g [] [s1] from HT.out ▸ HNT.out)
    have HX := hd (q_fewest w2 B g d vo L s1 (HWY.out _ (by simp)) [] HS2.out HN2.out hL6)
    have HR4 := hd (show cmdR d line = (d, _, 0) by rw [HR3.out, execR_fewest d s1]; exact done_one _ _ _)
    clear hwr HT HNT HN2
    go_wp2_with fail
    refine HX.out.mono ?_
    rintro e w3 ⟨rfl, hr⟩
    go_wp2_with fail
    go_ret
    exact do_yes ((hr.after HF2.out).pre HB1.out) HR4.out
  · -- for
    have hw0 : w0 = ⟨#[102, 111, 114]⟩ := by injection hwr
    have hrr : r = [s1, s2] := by injection hwr
    subst hw0
    subst hrr
    have HT := hd (show textsTo fm.data.toList ([⟨#[102, 111, 114]⟩, s1, s2]) fm.size = [s1] by rw [← HFE2.out, formS_for]; rfl)
    have HN2 := hd (show NT w2 B g [n0] [s1] from HT.out ▸ HNT.out)
    have HX := hd (q_for w2 B g d vo L s1 (HWY.out _ (by simp)) n0 HS2.out HN2.out hL6)
    have HR4 := hd (show cmdR d line = (d, _, 0) by rw [HR3.out, execR_for d s1 s2 n0]; exact done_one _ _ _)
    clear hwr HT HNT HN2
    go_wp2_with fail
    refine HX.out.mono ?_
    rintro e w3 ⟨rfl, hr⟩
    go_wp2_with fail
    go_ret
    exact do_yes ((hr.after HF2.out).pre HB1.out) HR4.out
  · -- image
    have hw0 : w0 = ⟨#[105, 109, 97, 103, 101]⟩ := by injection hwr
    have hrr : r = [s1, s2] := by injection hwr
    subst hw0
    subst hrr
    have HT := hd (show textsTo fm.data.toList ([⟨#[105, 109, 97, 103, 101]⟩, s1, s2]) fm.size = [] by rw [← HFE2.out, formS_image]; rfl)
    have HN2 := hd (show NT w2 B g [n0, n1] [] from HT.out ▸ HNT.out)
    have HX := hd (q_image w2 B g d vo L n0 n1 ([]) HS2.out HN2.out hL6)
    have HR4 := hd (show cmdR d line = (d, _, 0) by rw [HR3.out, execR_image d s1 s2 n0 n1]; exact done_one _ _ _)
    clear hwr HT HNT HN2
    go_wp2_with fail
    refine HX.out.mono ?_
    rintro e w3 ⟨rfl, hr⟩
    go_wp2_with fail
    go_ret
    exact do_yes ((hr.after HF2.out).pre HB1.out) HR4.out
  · -- cue
    have hw0 : w0 = ⟨#[99, 117, 101]⟩ := by injection hwr
    have hrr : r = [s1, s2, s3, s4] := by injection hwr
    subst hw0
    subst hrr
    have HT := hd (show textsTo fm.data.toList ([⟨#[99, 117, 101]⟩, s1, s2, s3, s4]) fm.size = [] by rw [← HFE2.out, formS_cue]; rfl)
    have HN2 := hd (show NT w2 B g [n0, n1, n2, n3] [] from HT.out ▸ HNT.out)
    have HX := hd (c_cue w2 B g d HOK.out vo L n0 n1 n2 n3 ([]) HS2.out HN2.out hL6)
    have HR4 := hd (show cmdR d line = doneG d _ by rw [HR3.out, execR_cue d s1 s2 s3 s4 n0 n1 n2 n3])
    clear hwr HT HNT HN2
    go_wp2_with fail
    refine HX.out.mono ?_
    rintro e w3 ⟨rfl, hr⟩
    go_wp2_with fail
    go_ret
    exact do_set ((show SRes B g vo w2 _ _ w3 from hr).after HF2.out |>.pre HB1.out) HR4.out
  · -- shifts
    have hw0 : w0 = ⟨#[115, 104, 105, 102, 116, 115]⟩ := by injection hwr
    have hrr : r = [s1] := by injection hwr
    subst hw0
    subst hrr
    have HT := hd (show textsTo fm.data.toList ([⟨#[115, 104, 105, 102, 116, 115]⟩, s1]) fm.size = [] by rw [← HFE2.out, formS_shifts]; rfl)
    have HN2 := hd (show NT w2 B g [n0] [] from HT.out ▸ HNT.out)
    have HX := hd (q_shifts w2 B g d vo L n0 ([]) HS2.out HN2.out hL6)
    have HR4 := hd (show cmdR d line = (d, _, 0) by rw [HR3.out, execR_shifts d s1 n0]; exact done_one _ _ _)
    clear hwr HT HNT HN2
    go_wp2_with fail
    refine HX.out.mono ?_
    rintro e w3 ⟨rfl, hr⟩
    go_wp2_with fail
    go_ret
    exact do_yes ((hr.after HF2.out).pre HB1.out) HR4.out
  · -- loads
    have hw0 : w0 = ⟨#[108, 111, 97, 100, 115]⟩ := by injection hwr
    have hrr : r = [s1, s2] := by injection hwr
    subst hw0
    subst hrr
    have HT := hd (show textsTo fm.data.toList ([⟨#[108, 111, 97, 100, 115]⟩, s1, s2]) fm.size = [s1] by rw [← HFE2.out, formS_loads]; rfl)
    have HN2 := hd (show NT w2 B g [n0] [s1] from HT.out ▸ HNT.out)
    have HX := hd (q_loads w2 B g d vo L s1 (HWY.out _ (by simp)) n0 HS2.out HN2.out hL6)
    have HR4 := hd (show cmdR d line = (d, _, 0) by rw [HR3.out, execR_loads d s1 s2 n0]; exact done_one _ _ _)
    clear hwr HT HNT HN2
    go_wp2_with fail
    refine HX.out.mono ?_
    rintro e w3 ⟨rfl, hr⟩
    go_wp2_with fail
    go_ret
    exact do_yes ((hr.after HF2.out).pre HB1.out) HR4.out
  · -- burn
    have hw0 : w0 = ⟨#[98, 117, 114, 110]⟩ := by injection hwr
    have hrr : r = [s1, s2, s3, s4] := by injection hwr
    subst hw0
    subst hrr
    have HT := hd (show textsTo fm.data.toList ([⟨#[98, 117, 114, 110]⟩, s1, s2, s3, s4]) fm.size = [] by rw [← HFE2.out, formS_burn]; rfl)
    have HN2 := hd (show NT w2 B g [n0, n1, n2, n3] [] from HT.out ▸ HNT.out)
    have HX := hd (q_burn w2 B g d vo L n0 n1 n2 n3 ([]) HS2.out HN2.out hL6)
    have HR4 := hd (show cmdR d line = (d, _, 0) by rw [HR3.out, execR_burn d s1 s2 s3 s4 n0 n1 n2 n3]; exact done_one _ _ _)
    clear hwr HT HNT HN2
    go_wp2_with fail
    refine HX.out.mono ?_
    rintro e w3 ⟨rfl, hr⟩
    go_wp2_with fail
    go_ret
    exact do_yes ((hr.after HF2.out).pre HB1.out) HR4.out
  · -- title
    have hw0 : w0 = ⟨#[116, 105, 116, 108, 101]⟩ := by injection hwr
    have hrr : r = r' := by injection hwr
    subst hw0
    subst hrr
    have HT := hd (show textsTo fm.data.toList (⟨#[116, 105, 116, 108, 101]⟩ :: r) fm.size = [joinS ⟨#[32]⟩ r] by rw [← HFE2.out, formS_title]; rfl)
    have HN2 := hd (show NT w2 B g [] [joinS ⟨#[32]⟩ r] from HT.out ▸ HNT.out)
    have HX := hd (c_title w2 B g d HOK.out vo L (joinS ⟨#[32]⟩ r) (HJT.out) [] HS2.out HN2.out hL6)
    have HR4 := hd (show cmdR d line = doneG d _ by rw [HR3.out, execR_title d r []])
    clear hwr HT HNT HN2 hr' hwl hfl
    generalize r.length = nl
    go_wp2_with fail
    refine HX.out.mono ?_
    rintro e w3 ⟨rfl, hr⟩
    go_wp2_with fail
    go_ret
    exact do_set ((show SRes B g vo w2 _ _ w3 from hr).after HF2.out |>.pre HB1.out) HR4.out
  · -- titles
    have hw0 : w0 = ⟨#[116, 105, 116, 108, 101, 115]⟩ := by injection hwr
    have hrr : r = [] := by injection hwr
    subst hw0
    subst hrr
    have HT := hd (show textsTo fm.data.toList ([⟨#[116, 105, 116, 108, 101, 115]⟩]) fm.size = [] by rw [← HFE2.out, formS_titles]; rfl)
    have HN2 := hd (show NT w2 B g [] [] from HT.out ▸ HNT.out)
    have HX := hd (c_titles w2 B g d HOK.out vo L HS2.out hL)
    have HR4 := hd (show cmdR d line = (d, _, 0) by rw [HR3.out, execR_titles d]; exact if_pos rfl)
    clear hwr HT HNT HN2
    go_wp2_with fail
    refine HX.out.mono ?_
    rintro e w3 ⟨rfl, hr⟩
    go_wp2_with fail
    go_ret
    exact do_yes ((show SRes B g vo w2 d _ w3 from hr).after HF2.out |>.pre HB1.out) HR4.out
  · -- enter
    have hw0 : w0 = ⟨#[101, 110, 116, 101, 114]⟩ := by injection hwr
    have hrr : r = [s1, s2, s3] := by injection hwr
    subst hw0
    subst hrr
    have HT := hd (show textsTo fm.data.toList ([⟨#[101, 110, 116, 101, 114]⟩, s1, s2, s3]) fm.size = [s2] by rw [← HFE2.out, formS_enter]; rfl)
    have HN2 := hd (show NT w2 B g [n0, n1] [s2] from HT.out ▸ HNT.out)
    have HX := hd (c_enter w2 B g d HOK.out vo L s2 (HWY.out _ (by simp)) n0 n1 HS2.out HN2.out hL6)
    have HR4 := hd (show cmdR d line = doneG d _ by rw [HR3.out, execR_enter d s1 s2 s3 n0 n1])
    clear hwr HT HNT HN2
    go_wp2_with fail
    refine HX.out.mono ?_
    rintro e w3 ⟨rfl, hr⟩
    go_wp2_with fail
    go_ret
    exact do_set ((show SRes B g vo w2 _ _ w3 from hr).after HF2.out |>.pre HB1.out) HR4.out
  · -- log
    have hw0 : w0 = ⟨#[108, 111, 103]⟩ := by injection hwr
    have hrr : r = [] := by injection hwr
    subst hw0
    subst hrr
    have HT := hd (show textsTo fm.data.toList ([⟨#[108, 111, 103]⟩]) fm.size = [] by rw [← HFE2.out, formS_log]; rfl)
    have HN2 := hd (show NT w2 B g [] [] from HT.out ▸ HNT.out)
    have HX := hd (c_log w2 B g d HOK.out vo L HS2.out hL)
    have HR4 := hd (show cmdR d line = (d, _, 0) by rw [HR3.out, execR_log d]; exact if_pos rfl)
    clear hwr HT HNT HN2
    go_wp2_with fail
    refine HX.out.mono ?_
    rintro e w3 ⟨rfl, hr⟩
    go_wp2_with fail
    go_ret
    exact do_yes ((show SRes B g vo w2 d _ w3 from hr).after HF2.out |>.pre HB1.out) HR4.out
end Go.Proofs.YtgcodjkjdfahdaaGreatDoor

namespace Go.Proofs.YtgcodjkjdfahdaaGreatDoor
open Go Go.RowKit Go.ChangeShapes Go.WideShapes
set_option linter.unusedSimpArgs false
set_option linter.unusedVariables false
theorem cue_one : ∀ x : TCue, ∀ u ∈ eCue x, u.oneCell' = true := by rintro ⟨a, b, c, d⟩ u hu; simp [eCue] at hu; rcases hu with rfl | rfl | rfl | rfl <;> rfl
theorem below_al {W X : World} (K : Below W.heap.size W X) (o : Obj) : Below W.heap.size W (X.alloc o) := K.alloc K.size o
theorem app_form {W X w5 : World} {r : Option Nat} {k : Nat} (K : Below W.heap.size W X) (hg : X.grownBy w5 r) (hr : r = some k) (hk : W.heap.size ≤ k) : Below W.heap.size W w5 := K.grown hg K.size (fun q hq => by rw [hr] at hq; injection hq with hq; omega)
theorem made1 (X : World) (B : Nat) (E : TypeId) {α : Type} (enc : α → List Value) (k : Nat) (hB : B ≤ X.heap.size) (z : Obj) : Own ((X.alloc z).alloc (.cells #[] E)) B E k (.slice (some ⟨X.heap.size + 1, 0, none⟩) 0 0) enc [] := by
  have h := Own.made0 (X.alloc z) B E k enc (by simp; omega)
  rw [show (X.alloc z).heap.size = X.heap.size + 1 by simp] at h
  exact h
theorem heap_alloc_at (X : World) (o : Obj) (k : Nat) (hk : k = X.heap.size) : (X.alloc o).heap[k]? = some o := by subst hk; exact heap_alloc_new X o
theorem row_alloc2 {w : World} {g : Nat} {o : Obj} (h : w.heap[g]? = some o) (o' : Obj) : (w.alloc o').heap[g]? = some o := (((Below.refl w.heap.size w).alloc (Nat.le_refl _) o').block g (lt_of_block h)).trans h
theorem t3_behind {W w5 : World} {C Z : Obj} (hg : ((W.alloc C).alloc Z).drew.grownBy w5 (Value.slice (some ⟨W.heap.size, 0, none⟩) 0 0).ownBlock) : w5.heap[W.heap.size + 1]? = some Z :=
  (hg.block (W.heap.size + 1) (by show W.heap.size + 1 < ((W.alloc C).alloc Z).heap.size; simp) (fun e => by have e2 : some (W.heap.size + 1) = some W.heap.size := e; injection e2 with e2; omega)).trans (heap_alloc_at (W.alloc C) Z (W.heap.size + 1) (by simp))
theorem t3_ahead {W w5 : World} {C Z : Obj} (hg : ((W.alloc Z).alloc C).drew.grownBy w5 (Value.slice (some ⟨W.heap.size + 1, 0, none⟩) 0 0).ownBlock) : w5.heap[W.heap.size]? = some Z :=
  (hg.block W.heap.size (by show W.heap.size < ((W.alloc Z).alloc C).heap.size; simp; omega) (fun e => by have e2 : some W.heap.size = some (W.heap.size + 1) := e; injection e2 with e2; omega)).trans (row_alloc2 (heap_alloc_new W Z) C)
theorem desk_cell {w : World} {b : Nat} {cs : Array Value} {t : TypeId} (h : w.heap[b]? = some (.cells cs t (0, 0))) (i : Nat) (v : Value) (hv : cs[i]? = some v) : w.cell? ⟨b, i, none⟩ = some v := (cell_of_row _ _ i cs t (0, 0) h).trans hv
theorem ap_behind {W : World} {C Z : Obj} {v : Value} (h : v.ownBlock = (Value.slice (some ⟨W.heap.size, 0, none⟩) 0 0).ownBlock ∨ v.ownBlock = some ((W.alloc C).alloc Z).drew.heap.size) : v.ownBlock = none ∨ v.ownBlock ≠ some (W.heap.size + 1) := by
  have e : ((W.alloc C).alloc Z).drew.heap.size = W.heap.size + 2 := by show ((W.alloc C).alloc Z).heap.size = _; simp
  rw [e] at h
  refine .inr (fun q => ?_)
  rcases h with h | h <;> rw [q] at h
  · have h : some (W.heap.size + 1) = some W.heap.size := h
    injection h with h; omega
  · injection h with h; omega
theorem ap_ahead {W : World} {C Z : Obj} {v : Value} (h : v.ownBlock = (Value.slice (some ⟨W.heap.size + 1, 0, none⟩) 0 0).ownBlock ∨ v.ownBlock = some ((W.alloc Z).alloc C).drew.heap.size) : v.ownBlock = none ∨ v.ownBlock ≠ some W.heap.size := by
  have e : ((W.alloc Z).alloc C).drew.heap.size = W.heap.size + 2 := by show ((W.alloc Z).alloc C).heap.size = _; simp
  rw [e] at h
  refine .inr (fun q => ?_)
  rcases h with h | h <;> rw [q] at h
  · have h : some W.heap.size = some (W.heap.size + 1) := h
    injection h with h; omega
  · injection h with h; omega
theorem title_one : ∀ x : TTitle, ∀ u ∈ eTitle x, u.oneCell' = true := by rintro ⟨a, b, c, d⟩ u hu; simp [eTitle] at hu; rcases hu with rfl | rfl | rfl | rfl <;> rfl
def CMid (W Z : World) (t3 : Nat) (d : TDk) (u1 : Value) : Prop := W.heap.size ≤ t3 ∧ DeskAt Z t3 d.1 u1 (.slice none 0 0) d.2.2.2 ∧ (∀ i, Z.frozen? ⟨t3, i, none⟩ = false) ∧ Own Z W.heap.size 92 4 u1 eCue d.2.1 ∧ (u1.ownBlock = none ∨ u1.ownBlock ≠ some t3) ∧ Below W.heap.size W Z
theorem mid_new {W w5 : World} {d : TDk} {u1 : Value} (T : TypeId) (K : Below W.heap.size W w5) (O : Own w5 W.heap.size 92 4 u1 eCue d.2.1) : CMid W (w5.alloc (.cells #[.string d.1, u1, .slice none 0 0, .string d.2.2.2] T)) w5.heap.size d u1 :=
  ⟨K.size, desk_new w5 _ _ _ _ T, fun i => free2 (heap_alloc_new w5 _) i, O.alloc _, by
    rcases h : u1.ownBlock with _ | k
    · exact .inl rfl
    · exact .inr (fun e => by have := (O.lt k h).2; injection e with e; omega), below_al K _⟩
theorem mid_set {W w5 : World} {d : TDk} {u1 : Value} {t3 : Nat} {T : TypeId} (K : Below W.heap.size W w5) (O : Own w5 W.heap.size 92 4 u1 eCue d.2.1) (k1 : u1.oneCell' = true) (ht : W.heap.size ≤ t3) (T3 : w5.heap[t3]? = some (.cells #[.string ⟨#[]⟩, .slice none 0 0, .slice none 0 0, .string ⟨#[]⟩] T)) (ap : u1.ownBlock = none ∨ u1.ownBlock ≠ some t3) : CMid W ((((w5.setCell ⟨t3, 0, none⟩ (.string d.1)).setCell ⟨t3, 1, none⟩ u1).setCell ⟨t3, 2, none⟩ (.slice none 0 0)).setCell ⟨t3, 3, none⟩ (.string d.2.2.2)) t3 d u1 :=
  ⟨ht, desk_set d.1 d.2.2.2 u1 (.slice none 0 0) k1 rfl (lt_of_block T3) (desk_cell T3 0 _ rfl) (desk_cell T3 1 _ rfl) (desk_cell T3 2 _ rfl) (desk_cell T3 3 _ rfl) (free2 T3), fun i => frozen_set4 (free2 T3) i _ _ _ _, own_set4 O ap _ _ _ _, ap, desk_setB K ht _ _ _ _⟩
set_option maxRecDepth 100000 in
set_option maxHeartbeats 8000000 in
theorem copy_spec28 (w : World) (h : Nat) (d : TDk) (v1 v2 : Value) (hD : DeskAt w h d.1 v1 v2 d.2.2.2) (hC : Sl w 4 v1 eCue d.2.1) (hT : Sl w 4 v2 eTitle d.2.2.1) (n1 : d.2.1.length ≤ 1048576) (n2 : d.2.2.1.length ≤ 1048576) :
    Calls Tryz.prog 45 #[.pointer (some ⟨h, 0, none⟩)] w (CopyD w d) := by
  obtain ⟨i0, hi, hz0, hz1, hz2⟩ := info_parts info_CueK
  obtain ⟨i1, ti, tz0, tz1, tz2⟩ := info_parts info_TitleK
  obtain ⟨A1, c1, rfl⟩ := hC.isSlice
  obtain ⟨A2, c2, rfl⟩ := hT.isSlice
  have hlt := hD.1
  have D1 := desk_new w ⟨#[]⟩ (.slice none 0 0) (.slice none 0 0) ⟨#[]⟩ 29
  have F1 : ∀ i, (w.alloc (.cells #[.string ⟨#[]⟩, .slice none 0 0, .slice none 0 0, .string ⟨#[]⟩] 29)).frozen? ⟨w.heap.size, i, none⟩ = false := fun i => free2 (heap_alloc_new w _) i
  have B1 := (Below.refl w.heap.size w).alloc (Nat.le_refl _) (.cells #[.string ⟨#[]⟩, .slice none 0 0, .slice none 0 0, .string ⟨#[]⟩] 29)
  have D2 := hD.below B1
  go_enter Tryz.func45, Tryz.ntmps45
  go_wp2_with fail
  generalize hW : w.alloc (.cells #[.string ⟨#[]⟩, .slice none 0 0, .slice none 0 0, .string ⟨#[]⟩] 29) = W at D1 F1 D2 B1 ⊢
  clear hW
  have HC := hd (show ∀ ww, Below W.heap.size W ww → Sl ww 4 (.slice A1 d.2.1.length c1) eCue d.2.1 from fun ww K => (hC.below B1).below K)
  have HT := hd (show ∀ ww, Below W.heap.size W ww → Sl ww 4 (.slice A2 d.2.2.1.length c2) eTitle d.2.2.1 from fun ww K => (hT.below B1).below K)
  obtain ⟨-, e0, e1, e2, e3⟩ := D2
  have HS := hd (show ∀ ww, Below W.heap.size W ww → ww.cell? ⟨h, 0, none⟩ = some (.string d.1) ∧ ww.cell? ⟨h, 1, none⟩ = some (.slice A1 d.2.1.length c1) ∧ ww.cell? ⟨h, 2, none⟩ = some (.slice A2 d.2.2.1.length c2) ∧ ww.cell? ⟨h, 3, none⟩ = some (.string d.2.2.2) from fun ww K => ⟨cell_below e0 ww K, cell_below e1 ww K, cell_below e2 ww K, cell_below e3 ww K⟩)
  have HX := hd (show ∀ ww, Below W.heap.size W ww → DeskAt ww w.heap.size ⟨#[]⟩ (.slice none 0 0) (.slice none 0 0) ⟨#[]⟩ ∧ ∀ i, ww.frozen? ⟨w.heap.size, i, none⟩ = false from fun ww K => ⟨D1.below K, fun i => (K.frozen (p := ⟨w.heap.size, i, none⟩) D1.1).trans (F1 i)⟩)
  have K := Below.refl W.heap.size W
  clear hC hT e2 D1 F1 hD
  go_region_held3 (fun ww => ww.cell? ⟨h, 0, none⟩ = some (.string d.1) ∧ ww.cell? ⟨h, 1, none⟩ = some (.slice A1 d.2.1.length c1) ∧ ww.cell? ⟨h, 2, none⟩ = some (.slice A2 d.2.2.1.length c2) ∧ ww.cell? ⟨h, 3, none⟩ = some (.string d.2.2.2)) (first | with_reducible exact HS.out _ K | with_reducible exact HS.out _ (Below.drew K) | with_reducible exact HS.out _ (desk_setB K (Nat.le_succ _) _ _ _ _) | with_reducible exact HS.out _ (desk_setB K (Nat.le_refl _) _ _ _ _) | exact HS.out _ (by repeat (first | exact K | exact Below.refl _ _ | refine below_al ?_ _ | refine Below.drew ?_))) (first | (refine step_append_sl_at (W.drew.alloc (.cells #[] 92)) rfl _ _ 26 rfl i0 (.agg #[.int .i64 0, .int .i64 0, .int .i64 0, .int .i64 0]) 32 Tryz.underlying26 hi hz0 hz1 hz2 rfl (by decide) eCue_len cue_one _ [] rfl (Own.made0 W.drew W.heap.size 92 4 eCue (Nat.le_refl _)) _ d.2.1 rfl (HC.out _ (below_al K.drew (.cells #[] 92))) (by unfold maxLen; simp; omega) (by simp; omega) (below_al K.drew (.cells #[] 92)).size ?_; intro u1 w5 O1 hg1 hat1; replace K := app_form (below_al K.drew (.cells #[] 92)) hg1 rfl (Nat.le_refl _); rw [List.nil_append] at O1; obtain ⟨A5, c5, rfl⟩ := O1.isSlice; clear hg1 hat1) | (refine step_append_sl_at (((W.alloc (.cells #[] 92)).alloc (.cells #[.string ⟨#[]⟩, .slice none 0 0, .slice none 0 0, .string ⟨#[]⟩] 29)).drew) rfl _ _ 26 rfl i0 (.agg #[.int .i64 0, .int .i64 0, .int .i64 0, .int .i64 0]) 32 Tryz.underlying26 hi hz0 hz1 hz2 rfl (by decide) eCue_len cue_one _ [] rfl (((Own.made0 W W.heap.size 92 4 eCue (Nat.le_refl _)).alloc (.cells #[.string ⟨#[]⟩, .slice none 0 0, .slice none 0 0, .string ⟨#[]⟩] 29)).drew) _ d.2.1 rfl (HC.out _ ((below_al (below_al K (.cells #[] 92)) (.cells #[.string ⟨#[]⟩, .slice none 0 0, .slice none 0 0, .string ⟨#[]⟩] 29)).drew)) (by unfold maxLen; simp; omega) (by simp; omega) ((below_al (below_al K (.cells #[] 92)) (.cells #[.string ⟨#[]⟩, .slice none 0 0, .slice none 0 0, .string ⟨#[]⟩] 29)).drew).size ?_; intro u1 w5 O1 hg1 hat1; have T3 := t3_behind hg1; have cc0 : w5.cell? ⟨W.heap.size + 1, 0, none⟩ = some (.string ⟨#[]⟩) := desk_cell T3 0 _ rfl; have cc1 : w5.cell? ⟨W.heap.size + 1, 1, none⟩ = some (.slice none 0 0) := desk_cell T3 1 _ rfl; have cc2 : w5.cell? ⟨W.heap.size + 1, 2, none⟩ = some (.slice none 0 0) := desk_cell T3 2 _ rfl; have cc3 : w5.cell? ⟨W.heap.size + 1, 3, none⟩ = some (.string ⟨#[]⟩) := desk_cell T3 3 _ rfl; have xF := free2 T3; have xf0 := xF 0; have xf1 := xF 1; have xf2 := xF 2; have xf3 := xF 3; replace K := app_form ((below_al (below_al K (.cells #[] 92)) (.cells #[.string ⟨#[]⟩, .slice none 0 0, .slice none 0 0, .string ⟨#[]⟩] 29)).drew) hg1 rfl (Nat.le_refl _); rw [List.nil_append] at O1; obtain ⟨A5, c5, rfl⟩ := O1.isSlice; have AP := ap_behind (C := (.cells #[] 92)) (Z := (.cells #[.string ⟨#[]⟩, .slice none 0 0, .slice none 0 0, .string ⟨#[]⟩] 29)) hat1; clear hg1 hat1) | (refine step_append_sl_at (((W.alloc (.cells #[.string ⟨#[]⟩, .slice none 0 0, .slice none 0 0, .string ⟨#[]⟩] 29)).alloc (.cells #[] 92)).drew) rfl _ _ 26 rfl i0 (.agg #[.int .i64 0, .int .i64 0, .int .i64 0, .int .i64 0]) 32 Tryz.underlying26 hi hz0 hz1 hz2 rfl (by decide) eCue_len cue_one _ [] rfl ((made1 W W.heap.size 92 eCue 4 (Nat.le_refl _) (.cells #[.string ⟨#[]⟩, .slice none 0 0, .slice none 0 0, .string ⟨#[]⟩] 29)).drew) _ d.2.1 rfl (HC.out _ ((below_al (below_al K (.cells #[.string ⟨#[]⟩, .slice none 0 0, .slice none 0 0, .string ⟨#[]⟩] 29)) (.cells #[] 92)).drew)) (by unfold maxLen; simp; omega) (by simp; omega) ((below_al (below_al K (.cells #[.string ⟨#[]⟩, .slice none 0 0, .slice none 0 0, .string ⟨#[]⟩] 29)) (.cells #[] 92)).drew).size ?_; intro u1 w5 O1 hg1 hat1; have T3 := t3_ahead hg1; have cc0 : w5.cell? ⟨W.heap.size, 0, none⟩ = some (.string ⟨#[]⟩) := desk_cell T3 0 _ rfl; have cc1 : w5.cell? ⟨W.heap.size, 1, none⟩ = some (.slice none 0 0) := desk_cell T3 1 _ rfl; have cc2 : w5.cell? ⟨W.heap.size, 2, none⟩ = some (.slice none 0 0) := desk_cell T3 2 _ rfl; have cc3 : w5.cell? ⟨W.heap.size, 3, none⟩ = some (.string ⟨#[]⟩) := desk_cell T3 3 _ rfl; have xF := free2 T3; have xf0 := xF 0; have xf1 := xF 1; have xf2 := xF 2; have xf3 := xF 3; replace K := app_form ((below_al (below_al K (.cells #[.string ⟨#[]⟩, .slice none 0 0, .slice none 0 0, .string ⟨#[]⟩] 29)) (.cells #[] 92)).drew) hg1 rfl (Nat.le_succ _); rw [List.nil_append] at O1; obtain ⟨A5, c5, rfl⟩ := O1.isSlice; have AP := ap_ahead (C := (.cells #[] 92)) (Z := (.cells #[.string ⟨#[]⟩, .slice none 0 0, .slice none 0 0, .string ⟨#[]⟩] 29)) hat1; clear hg1 hat1))
  have M := mid_new (d := d) 29 K O1
  generalize hZ : w5.alloc (.cells #[.string d.1, .slice A5 d.2.1.length c5, .slice none 0 0, .string d.2.2.2] 29) = Z at M ⊢
  clear hZ K O1
  generalize ht : w5.heap.size = t3 at M ⊢
  clear ht
  rotate_left
  have M := mid_set (d := d) (t3 := W.heap.size + 1) K O1 rfl (Nat.le_succ _) T3 AP
  generalize hZ : ((((w5.setCell ⟨W.heap.size + 1, 0, none⟩ (.string d.1)).setCell ⟨W.heap.size + 1, 1, none⟩ (.slice A5 d.2.1.length c5)).setCell ⟨W.heap.size + 1, 2, none⟩ (.slice none 0 0)).setCell ⟨W.heap.size + 1, 3, none⟩ (.string d.2.2.2)) = Z at M ⊢
  clear hZ K O1 T3 AP cc0 cc1 cc2 cc3 xF xf0 xf1 xf2 xf3
  generalize ht : W.heap.size + 1 = t3 at M ⊢
  clear ht
  rotate_left
  have M := mid_set (d := d) K O1 rfl (Nat.le_refl _) T3 AP
  generalize hZ : ((((w5.setCell ⟨W.heap.size, 0, none⟩ (.string d.1)).setCell ⟨W.heap.size, 1, none⟩ (.slice A5 d.2.1.length c5)).setCell ⟨W.heap.size, 2, none⟩ (.slice none 0 0)).setCell ⟨W.heap.size, 3, none⟩ (.string d.2.2.2)) = Z at M ⊢
  clear hZ K O1 T3 AP cc0 cc1 cc2 cc3 xF xf0 xf1 xf2 xf3
  generalize ht : W.heap.size = t3 at M ⊢
  clear ht
  rotate_left
  all_goals
    obtain ⟨ht, DZ, FZ, OZ, AZ, KZ⟩ := M
    have hR : w.heap.size < W.heap.size := (HX.out W (Below.refl _ _)).1.1
    have hTZ := DZ.1
    have LS := (HS.out _ (below_al KZ (.cells #[] 95))).2.2.1
    have HZ := hd DZ
    have HF := hd FZ
    clear DZ FZ
    go_wp2_with (at_builtin; refine wpList_append_sl_at _ rfl _ _ 27 rfl i1 (.agg #[.int .i64 0, .string ByteArray.empty, .int .i64 0, .int .i64 0]) 40 Tryz.underlying27 ti tz0 tz1 tz2 rfl (by decide) eTitle_len title_one _ [] rfl (Own.made0 Z Z.heap.size 95 4 eTitle (Nat.le_refl _)) _ d.2.2.1 rfl (HT.out _ (below_al KZ _)) (by unfold maxLen; simp; omega) (by simp; omega) (by simp) ?_)
    intro u2 w6 O2 hg2 hat2
    obtain ⟨A6, c6, rfl⟩ := O2.isSlice
    have K2 : Below Z.heap.size Z w6 := app_form (below_al (Below.refl _ _) _) hg2 rfl (Nat.le_refl _)
    clear hg2 hat2
    have D6 := HZ.out.below K2
    have F6 : ∀ i, w6.frozen? ⟨t3, i, none⟩ = false := fun i => (K2.frozen (p := ⟨t3, i, none⟩) hTZ).trans (HF.out i)
    have K6 := below_step KZ K2
    have D7 := desk_set2 D6 F6 (.slice A6 d.2.2.1.length c6) rfl
    have K7 := K6.setCell (p := ⟨t3, 2, none⟩) ht (.slice A6 d.2.2.1.length c6)
    have O5 := (OZ.below K2 (Nat.le_refl _)).grown (grownBy_set w6 ⟨t3, 2, none⟩ (.slice A6 d.2.2.1.length c6)) AZ
    have O6 := O2.grown (grownBy_set w6 ⟨t3, 2, none⟩ (.slice A6 d.2.2.1.length c6)) (.inr (fun e => by have := (O2.lt t3 e).1; omega))
    obtain ⟨DR, FR⟩ := HX.out _ K7
    have DSC := desk_set d.1 d.2.2.2 (.slice A5 d.2.1.length c5) (.slice A6 d.2.2.1.length c6) rfl rfl DR.1 DR.2.1 DR.2.2.1 DR.2.2.2.1 DR.2.2.2.2 FR
    have ne1 : ∀ v : Value, (∀ k, v.ownBlock = some k → W.heap.size ≤ k) → (v.ownBlock = none ∨ v.ownBlock ≠ some w.heap.size) := fun v hv => .inr fun e => by have := hv _ e; omega
    have P1 := (own_set4 O5 (ne1 _ (fun k e => (O5.lt k e).1)) (.string d.1) (.slice A5 d.2.1.length c5) (.slice A6 d.2.2.1.length c6) (.string d.2.2.2)).base B1.size
    have P2 := (own_set4 O6 (ne1 _ (fun k e => Nat.le_trans KZ.size (O6.lt k e).1)) (.string d.1) (.slice A5 d.2.1.length c5) (.slice A6 d.2.2.1.length c6) (.string d.2.2.2)).base (Nat.le_trans B1.size KZ.size)
    have BZ := desk_setB (below_step B1 K7) (Nat.le_refl _) (.string d.1) (.slice A5 d.2.1.length c5) (.slice A6 d.2.2.1.length c6) (.string d.2.2.2)
    have hap : ∀ k, (.slice A6 d.2.2.1.length c6 : Value).ownBlock = some k → Z.heap.size ≤ k := fun k e => (O2.lt k e).1
    have hal : ∀ k, (.slice A5 d.2.1.length c5 : Value).ownBlock = some k → k < Z.heap.size := fun k e => (OZ.lt k e).2
    obtain ⟨-, d60, d61, d62, d63⟩ := D6
    have f60 := F6 2
    obtain ⟨-, d70, d71, d72, d73⟩ := D7
    obtain ⟨-, r0, r1, r2, r3⟩ := DR
    have q0 := FR 0
    have q1 := FR 1
    have q2 := FR 2
    have q3 := FR 3
    have HD := hd DSC
    have HP1 := hd P1
    have HP2 := hd P2
    have HB := hd BZ
    clear DSC P1 P2 BZ ne1 O5 O6 O2 K7 K6 K2 FR F6 OZ AZ
    go_wp2_with fail
    clear d60 d61 d62 d63 f60 d70 d71 d72 d73 r0 r1 r2 r3 q0 q1 q2 q3 LS
    have DSC := HD.out
    have P1 := HP1.out
    have P2 := HP2.out
    have BZ := HB.out
    clear HD HP1 HP2 HB HX HS HC HT HZ HF
    generalize (((((w6.setCell ⟨t3, 2, none⟩ (.slice A6 d.2.2.1.length c6)).setCell ⟨w.heap.size, 0, none⟩ (.string d.1)).setCell ⟨w.heap.size, 1, none⟩ (.slice A5 d.2.1.length c5)).setCell ⟨w.heap.size, 2, none⟩ (.slice A6 d.2.2.1.length c6)).setCell ⟨w.heap.size, 3, none⟩ (.string d.2.2.2)) = Y at DSC P1 P2 BZ ⊢
    obtain ⟨-, e0, e1, e2, e3⟩ := DSC
    refine bodyPost_ret (v := .agg #[.string d.1, .slice A5 d.2.1.length c5, .slice A6 d.2.2.1.length c6, .string d.2.2.2]) (by simp [results, Tryz.results45, go_sem, e0, e1, e2, e3]) rfl ⟨_, _, rfl, P1, P2, ?_, BZ⟩
    rcases h : (.slice A6 d.2.2.1.length c6 : Value).ownBlock with _ | k
    · exact .inl rfl
    · refine .inr fun e => ?_
      have := hap k h
      have := hal k e.symm
      omega
end Go.Proofs.YtgcodjkjdfahdaaGreatDoor

namespace Go.Proofs.YtgcodjkjdfahdaaGreatDoor
open Go Go.RowKit Go.ChangeShapes Go.WideShapes
set_option linter.unusedSimpArgs false
set_option linter.unusedVariables false
end Go.Proofs.YtgcodjkjdfahdaaGreatDoor

namespace Go.Proofs.YtgcodjkjdfahdaaGreatDoor
open Go Go.RowKit Go.ChangeShapes Go.WideShapes
set_option linter.unusedSimpArgs false
set_option linter.unusedVariables false
theorem apart_none (a : Option Nat) : apart a none := by
  rcases a with _ | k
  · exact .inl rfl
  · exact .inr (fun e => by cases e)
theorem sat_new (w : World) (B : Nat) (hB : B ≤ w.heap.size) (d : TDk) (v1 v2 : Value) (O1 : Own w B 92 4 v1 eCue d.2.1) (O2 : Own w B 95 4 v2 eTitle d.2.2.1) (T : TypeId) :
    SAt (w.alloc (.cells #[.string d.1, v1, v2, .string d.2.2.2, .slice none 0 0, .slice none 0 0, .slice none 0 0] T)) B w.heap.size d (.slice none 0 0) [] := by
  have hn := fun i u (h : #[.string d.1, v1, v2, .string d.2.2.2, .slice none 0 0, .slice none 0 0, .slice none 0 0][i]? = some u) => new_cell w #[.string d.1, v1, v2, .string d.2.2.2, .slice none 0 0, .slice none 0 0, .slice none 0 0] T i u h
  exact ⟨⟨v1, v2, ⟨by simp, hn 0 _ rfl, hn 1 _ rfl, hn 2 _ rfl, hn 3 _ rfl⟩, O1.alloc _, O2.alloc _, fun k e => by have := (O1.lt k e).2; omega, fun k e => by have := (O2.lt k e).2; omega, (show apart v1.ownBlock none from apart_none _), (show apart v2.ownBlock none from apart_none _)⟩, by simp, hB, fun i => free2 (heap_alloc_new w _) i, hn 4 _ rfl, Own.nil _ _ _ _ _, fun k e => by simp [Value.ownBlock] at e, ⟨_, hn 5 _ rfl⟩, ⟨_, hn 6 _ rfl⟩⟩
end Go.Proofs.YtgcodjkjdfahdaaGreatDoor
