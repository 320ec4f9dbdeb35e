/- Lemmas for the claim (the walks of its functions and their plain laws), joined. No condition. -/
import Derived.Test.YtgcodjkjdfahdaaGreatDoorJ41
import Derived.Test.YtgcodjkjdfahdaaGreatDoorJ40
import Derived.Test.YtgcodjkjdfahdaaGreatDoorJ45
import Derived.Test.YtgcodjkjdfahdaaGreatDoorJ28
namespace Go.Proofs.YtgcodjkjdfahdaaGreatDoor
open Go Go.RowKit Go.ChangeShapes Go.WideShapes
set_option linter.unusedSimpArgs false
set_option linter.unusedVariables false
theorem deskS_ne (p : ByteArray) (C : List TCue) (T : List TTitle) : ¬ deskS p C T = ⟨#[]⟩ := fun e => by
  have h : (deskS p C T).size = 0 := by rw [e]; rfl
  unfold deskS at h
  simp only [ByteArray.size_append] at h
  have e1 : (⟨#[100, 105, 115, 99, 32]⟩ : ByteArray).size = 5 := rfl
  omega
theorem done_one (d : TDk) (s : ByteArray) (c : Int) : doneG d (d, [s], c) = (d, [lineC c s], 0) := by
  unfold doneG lineC
  by_cases h : c = 0
  · rw [if_pos h, if_pos h]
  · rw [if_neg h, if_neg h]
theorem done_err (d : TDk) {c : Int} (h : ¬ c = 0) : doneG d (d, [], c) = (d, [errS c], 0) := if_neg h
theorem done_set (d : TDk) {d' : TDk} (h : okD d' = true) : doneG d (d', [orS (textD d'.1 d'.2.1 d'.2.2.1 d'.2.2.2)], 0) = (d', [lineC 0 (deskS d'.1 d'.2.1 d'.2.2.1)], 0) := by
  unfold doneG
  rw [if_pos rfl, lineC_ok]
  have h2 : textD d'.1 d'.2.1 d'.2.2.1 d'.2.2.2 = deskS d'.1 d'.2.1 d'.2.2.1 := by unfold textD; exact if_pos h
  rw [h2, orS_some (deskS_ne _ _ _)]
def SDone (B g : Nat) (vo : Value) (W : World) (r : TRes) (L : List ByteArray) (W' : World) : Prop := SRes B g vo W r.1 (L ++ r.2.1) W'
theorem sdone {B g : Nat} {vo : Value} {W W' : World} {d : TDk} {L : List ByteArray} {s : ByteArray} {r : TRes} (h : SRes B g vo W d (L ++ [s]) W') (e : r = (d, [s], 0)) : SDone B g vo W r L W' := by subst e; exact h
theorem okD_set0 {d : TDk} (h : okD d = true) {s : ByteArray} (h1 : okMotB s = true) : okD (s, d.2) = true := okD_parts.2 ⟨h1, (okD_parts.1 h).2⟩
theorem discX_yes {d : TDk} {s : ByteArray} (h : okMotB s = true) : discX d s = ((s, d.2.1, d.2.2.1, d.2.2.2), [orS (textD s d.2.1 d.2.2.1 d.2.2.2)], 0) := by unfold discX; rw [if_pos h]
theorem discX_no {d : TDk} {s : ByteArray} (h : okMotB s = false) : discX d s = (d, [], 1) := by unfold discX; rw [h]; rfl
set_option maxRecDepth 100000 in
set_option maxHeartbeats 8000000 in
theorem c_disc (W : World) (B g : Nat) (d : TDk) (hok : okD d = true) (vo : Value) (L : List ByteArray) (s0 : ByteArray) (hz : s0.size ≤ 1048576) (ns : List Int) (hS : SAt W B g d vo L) (hN : NT W B g ns [s0]) (hL : L.length ≤ 1000000) :
    Calls Tryz.prog 100 #[.pointer (some ⟨g, 0, none⟩)] W fun e W' => e = .returned (.tuple #[]) ∧ SDone B g vo W (doneG d (discX d s0)) L W' := by
  have HD := hd hS
  obtain ⟨vn, vt, c5, c6, O5, O6, -, -⟩ := id hN
  obtain ⟨v1, v2, ⟨-, x0, x1, x2, x3⟩, -⟩ := hS.desk
  obtain ⟨bt, ot, ct, rfl, -, -, ht⟩ := (O6.sl eS_len).strs (Nat.succ_pos _)
  replace c6 : W.cell? ⟨g, 6, none⟩ = some (.slice (some ⟨bt, ot, none⟩) 1 ct) := c6
  have t0 := ht 0 _ rfl
  rw [Nat.add_zero] at t0
  have f0 := hS.fr 0
  clear hN O5 O6 ht x1 x2 x3
  rcases h : okMotB s0 with _ | _
  · have HE := hd (report_err W B g d vo L hS hL 1 (by decide))
    have HR := hd (show doneG d (discX d s0) = (d, [errS 1], 0) by rw [discX_no h]; exact done_err d (by decide))
    clear hS c5
    go_enter Tryz.func100, Tryz.ntmps100
    go_wp2_with fail
    refine (mot_spec W s0 hz).mono ?_
    rintro e ww ⟨rfl, hw⟩
    have hw := hw.symm
    subst hw
    rw [h]
    go_wp2_with fail
    refine HE.out.mono ?_
    rintro e w3 ⟨rfl, hr⟩
    go_wp2_with fail
    refine bodyPost_ret (results_none rfl _ _ _) rfl ?_
    exact ⟨rfl, sdone hr HR.out⟩
  · have hok2 := okD_set0 hok h
    have HB := hd (okDesk_bd hok2)
    have HR := hd (show doneG d (discX d s0) = ((s0, d.2), [lineC 0 (deskS s0 d.2.1 d.2.2.1)], 0) by rw [discX_yes h]; exact done_set d hok2)
    have H2 := hd (hS.set0 s0)
    clear hS c5 hok2
    go_enter Tryz.func100, Tryz.ntmps100
    go_wp2_with fail
    refine (mot_spec W s0 hz).mono ?_
    rintro e ww ⟨rfl, hw⟩
    have hw := hw.symm
    subst hw
    rw [h]
    go_wp2_with fail
    clear x0 c6 t0 f0
    generalize W.setCell ⟨g, 0, none⟩ (.string s0) = Z at H2 ⊢
    obtain ⟨vo', h1, h2⟩ := H2.out
    refine (state_spec Z B g (s0, d.2) vo' L h1 hL 0 (fun _ => HB.out)).mono ?_
    rintro e w3 ⟨rfl, hr⟩
    go_wp2_with fail
    go_end0
    exact ⟨rfl, sdone (hr.after h2) HR.out⟩
theorem titleX_no {d : TDk} {s : ByteArray} (h : rtB s = false) : titleX d s = (d, [], 7) := by unfold titleX; rw [h]; rfl
theorem titleX_yes {d : TDk} {s : ByteArray} (h : rtB s = true) : titleX d s = titleG d (addTR d.2.2.1 (rtV s)) := by unfold titleX; rw [if_pos h]
theorem okD_set2 {d : TDk} (h : okD d = true) {l : List TTitle} (h1 : okTitles l = true) : okD (d.1, d.2.1, l, d.2.2.2) = true := okD_parts.2 ⟨(okD_parts.1 h).1, (okD_parts.1 h).2.1, h1, (okD_parts.1 h).2.2.2⟩
set_option maxRecDepth 100000 in
set_option maxHeartbeats 8000000 in
theorem c_title (W : World) (B g : Nat) (d : TDk) (hok : okD d = true) (vo : Value) (L : List ByteArray) (s0 : ByteArray) (hz : s0.size ≤ 1048576) (ns : List Int) (hS : SAt W B g d vo L) (hN : NT W B g ns [s0]) (hL : L.length ≤ 1000000) :
    Calls Tryz.prog 110 #[.pointer (some ⟨g, 0, none⟩)] W fun e W' => e = .returned (.tuple #[]) ∧ SDone B g vo W (doneG d (titleX d s0)) L W' := by
  have HD := hd hS
  obtain ⟨vn, vt, c5, c6, O5, O6, -, -⟩ := id hN
  obtain ⟨bt, ot, ct, rfl, -, -, ht⟩ := (O6.sl eS_len).strs (Nat.succ_pos _)
  replace c6 : W.cell? ⟨g, 6, none⟩ = some (.slice (some ⟨bt, ot, none⟩) 1 ct) := c6
  have t0 := ht 0 _ rfl
  rw [Nat.add_zero] at t0
  have HRT := hd (readT_spec W s0 hz)
  clear hN O5 O6 ht c5 hS
  go_enter Tryz.func110, Tryz.ntmps110
  go_wp2_with fail
  refine HRT.out.mono ?_
  rintro e w2 ⟨rfl, hb2⟩
  clear c6 t0 HRT
  obtain ⟨xa, xb, xc, xd, hx⟩ : ∃ xa xb xc xd, rtV s0 = (xa, xb, xc, xd) := ⟨_, _, _, _, rfl⟩
  rw [hx]
  have hb3 := hb2.alloc hb2.size (.cells #[.int .i64 xa, .string xb, .int .i64 xc, .int .i64 xd] 95)
  obtain ⟨t0, t1, t2, t3⟩ := title_new4 w2 xa xb xc xd 95
  rcases ho : rtB s0 with _ | _
  · have HR := hd (show doneG d (titleX d s0) = (d, [errS 7], 0) by rw [titleX_no ho]; exact done_err d (by decide))
    clear t0 t1 t2 t3 hx ho
    go_wp2_with fail
    generalize w2.alloc (.cells #[.int .i64 xa, .string xb, .int .i64 xc, .int .i64 xd] 95) = Z at hb3 ⊢
    refine (report_err Z B g d vo L (HD.out.below hb3) hL 7 (by decide)).mono ?_
    rintro e w3 ⟨rfl, hr⟩
    go_wp2_with fail
    refine bodyPost_ret (results_none rfl _ _ _) rfl ?_
    exact ⟨rfl, sdone (hr.pre hb3) HR.out⟩
  have HR := hd (show titleX d s0 = titleG d (addTR d.2.2.1 (xa, xb, xc, xd)) by rw [titleX_yes ho, hx])
  have hlt3 : w2.heap.size < (w2.alloc (.cells #[.int .i64 xa, .string xb, .int .i64 xc, .int .i64 xd] 95)).heap.size := by simp
  clear ho hx
  go_wp2_with fail
  generalize w2.alloc (.cells #[.int .i64 xa, .string xb, .int .i64 xc, .int .i64 xd] 95) = Z at hb3 t0 t1 t2 t3 hlt3 ⊢
  have HZ := hd (HD.out.below hb3)
  obtain ⟨v1, v2, ⟨-, x0, x1, x2, x3⟩, P1, P2, -⟩ := HZ.out.desk
  have ST := P2.sl eTitle_len
  obtain ⟨A2, c2, rfl⟩ := P2.isSlice
  have HST := hd (show ∀ ww, Below Z.heap.size Z ww → Sl ww 4 (.slice A2 d.2.2.1.length c2) eTitle d.2.2.1 from fun ww K => ST.below K)
  have HS := hd (show ∀ ww, Below Z.heap.size Z ww → ww.cell? ⟨g, 2, none⟩ = some (.slice A2 d.2.2.1.length c2) ∧ ww.cell? ⟨w2.heap.size, 0, none⟩ = some (.int .i64 xa) ∧ ww.cell? ⟨w2.heap.size, 1, none⟩ = some (.string xb) ∧ ww.cell? ⟨w2.heap.size, 2, none⟩ = some (.int .i64 xc) ∧ ww.cell? ⟨w2.heap.size, 3, none⟩ = some (.int .i64 xd) from fun ww K => ⟨cell_below x2 ww K, cell_below t0 ww K, cell_below t1 ww K, cell_below t2 ww K, cell_below t3 ww K⟩)
  have K := Below.refl Z.heap.size Z
  clear P1 P2 ST x0 x1 x2 x3 t0 t1 t2 t3
  go_region_held3 (fun ww => ww.cell? ⟨g, 2, none⟩ = some (.slice A2 d.2.2.1.length c2) ∧ ww.cell? ⟨w2.heap.size, 0, none⟩ = some (.int .i64 xa) ∧ ww.cell? ⟨w2.heap.size, 1, none⟩ = some (.string xb) ∧ ww.cell? ⟨w2.heap.size, 2, none⟩ = some (.int .i64 xc) ∧ ww.cell? ⟨w2.heap.size, 3, none⟩ = some (.int .i64 xd)) (first | with_reducible exact HS.out _ K | with_reducible exact HS.out _ (Below.drew K)) (first | (go_at_call 182; replace K := Below.drew K; (with_reducible refine (addT_spec _ _ _ (HST.out _ K) xa xb xc xd).mono ?_); rintro e w5 ⟨v5, rfl, O5, hb5⟩; obtain ⟨A5, c5, rfl⟩ := O5.isSlice; replace K := below_step K hb5; clear hb5))
  clear HS HST
  have HAO := hd (addTR_ok (l := d.2.2.1) (x := (xa, xb, xc, xd)))
  obtain ⟨l, cd, hr⟩ : ∃ l cd, addTR d.2.2.1 (xa, xb, xc, xd) = (l, cd) := ⟨_, _, rfl⟩
  rw [hr] at HR O5 HAO ⊢
  clear hr
  have HG := hd (HZ.out.fresh (v := .slice A5 l.length c5) (fun k e => (O5.lt k e).1))
  have H5 := hd (HZ.out.below K)
  have O6 := O5.base (Nat.le_trans HZ.out.base (Nat.le_of_lt HZ.out.lt))
  by_cases hc : cd = 0
  · subst hc
    have hok2 := okD_set2 hok (HAO.out rfl)
    have HB := hd (okDesk_bd hok2)
    have HR2 := hd (show doneG d (titleX d s0) = ((d.1, d.2.1, l, d.2.2.2), [lineC 0 (deskS d.1 d.2.1 l)], 0) by rw [HR.out]; unfold titleG; rw [if_pos rfl]; exact done_set d hok2)
    have H6 := hd (H5.out.set2 O6 HG.out.1 HG.out.2 rfl)
    obtain ⟨v1, v2', ⟨-, x0, x1, x2, x3⟩, -⟩ := H5.out.desk
    have f2 := H5.out.fr 2
    clear O5 O6 x0 x1 x3 hok2
    go_wp2_with fail
    clear x2 f2
    generalize w5.setCell ⟨g, 2, none⟩ (.slice A5 l.length c5) = Y at H6 ⊢
    obtain ⟨vo', h1, h2⟩ := H6.out
    refine (state_spec Y B g (d.1, d.2.1, l, d.2.2.2) vo' L h1 hL 0 (fun _ => HB.out)).mono ?_
    rintro e w7 ⟨rfl, hr⟩
    go_wp2_with fail
    go_end0
    exact ⟨rfl, sdone (((hr.after h2).pre K).pre hb3) HR2.out⟩
  · have HR2 := hd (show doneG d (titleX d s0) = (d, [errS cd], 0) by rw [HR.out]; unfold titleG; rw [if_neg hc]; exact done_err d hc)
    have HLE := hd (lineC_err hc (deskS d.1 d.2.1 d.2.2.1))
    have HSP := hd (state_spec w5 B g d vo L H5.out hL cd (fun h => absurd h hc))
    have kc : (cd == 0) = false := by simpa using hc
    clear O5 O6 hc
    go_wp2_with fail
    refine HSP.out.mono ?_
    rintro e w7 ⟨rfl, hr⟩
    go_wp2_with fail
    go_end0
    exact ⟨rfl, sdone ((sres_eq hr (by rw [HLE.out])).pre K |>.pre hb3) HR2.out⟩
set_option maxHeartbeats 4000000 in
theorem l23Text_at (w : World) (g o : Nat) (a : Int) (b : ByteArray) (c d : Int) (p0 : w.cell? ⟨g, o, none⟩ = some (.int .i64 a)) (p1 : w.cell? ⟨g, o + 1, none⟩ = some (.string b)) (p2 : w.cell? ⟨g, o + 2, none⟩ = some (.int .i64 c)) (p3 : w.cell? ⟨g, o + 3, none⟩ = some (.int .i64 d)) (q : okTitleB (a, b, c, d) = true) :
    Calls Tryz.prog 183 #[.pointer (some ⟨g, o, none⟩)] w fun e w' => e = .returned (.string (titleS a b c d)) ∧ Below w.heap.size w w' := by
  obtain ⟨⟨a1, a2⟩, bn, ⟨c1, c2⟩, d1, d2⟩ := okTitleB_bd q
  have hlen := isName_len bn
  dsimp only at a1 a2 c1 c2 d1 d2 hlen
  have HA := hd (show -9223372036854775808 ≤ a ∧ a ≤ 9223372036854775807 by omega)
  have HC := hd (show -9223372036854775808 ≤ c ∧ c ≤ 9223372036854775807 by omega)
  have HD := hd (show -9223372036854775808 ≤ d ∧ d ≤ 9223372036854775807 by omega)
  have sa := decS_size HA.out
  have sc := decS_size HC.out
  have sd := decS_size HD.out
  have g0 := gro_cell p0
  have g1 := gro_cell p1
  have g2 := gro_cell p2
  have g3 := gro_cell p3
  clear bn p0 p1 p2 p3 q
  go_enter Tryz.func183, Tryz.ntmps183
  go_wp2_with fail
  refine wp_region_calm (by kernel_rfl) (by kernel_rfl) ?_
  repeat (first | go_big_quiet_step ((go_at_call 167; exact calm_of (dec_spec _ _ (by first | exact HA.out | exact HC.out | exact HD.out)))) | quiet_step ((go_at_call 167; exact calm_of (dec_spec _ _ (by first | exact HA.out | exact HC.out | exact HD.out)))))
  refine wpQuiet_nil ?_
  rintro w2 ⟨x, rfl⟩
  have hb3 := gro_below x
  clear g0 g1 g2 g3
  go_wp2_with fail
  go_ret
  exact ⟨rfl, hb3⟩
set_option maxRecDepth 100000 in
set_option maxHeartbeats 8000000 in
theorem c_titles (W : World) (B g : Nat) (d : TDk) (hok : okD d = true) (vo : Value) (L : List ByteArray) (hS : SAt W B g d vo L) (hL : L.length ≤ 900000) :
    Calls Tryz.prog 111 #[.pointer (some ⟨g, 0, none⟩)] W fun e W' => e = .returned (.tuple #[]) ∧ SDone B g vo W (d, d.2.2.1.map ttS ++ [okS (d.2.2.1.map ttS).length], 0) L W' := by
  obtain ⟨i0, hi, hz0, hz1, hz2⟩ := info_parts info_str
  have HD := hd hS
  obtain ⟨ML, hML⟩ : ∃ ML, d.2.2.1.map ttS = ML := ⟨_, rfl⟩
  have HML := hd (show ML.length = d.2.2.1.length by rw [← hML]; exact List.length_map ..)
  have HMA := hd (show tTo d.2.2.1 d.2.2.1.length = ML by rw [tTo_all, hML])
  rw [hML]
  clear hML
  have HOT := hd (okTitles_at (okD_parts.1 hok).2.2.1)
  have hT := (okDesk_bd hok).2.2
  obtain ⟨v1, v2, ⟨-, x0, x1, x2, x3⟩, P1, P2, -⟩ := hS.desk
  have ST := P2.sl eTitle_len
  obtain ⟨A2, c2, rfl⟩ := P2.isSlice
  have HSL := hd (show ∀ ww, Below W.heap.size W ww → Sl ww 4 (.slice A2 d.2.2.1.length c2) eTitle d.2.2.1 ∧ ww.cell? ⟨g, 2, none⟩ = some (.slice A2 d.2.2.1.length c2) from fun ww K => ⟨ST.below K, cell_below x2 ww K⟩)
  have own0 := Own.made0 W W.heap.size 9 1 eS (Nat.le_refl _)
  have bel0 := (Below.refl W.heap.size W).alloc (Nat.le_refl _) (.cells #[] 9)
  clear x0 x1 x2 x3 P1 P2 ST hS
  go_enter Tryz.func111, Tryz.ntmps111
  go_wp2_with fail
  go_loopw [2, 3] (fun ov iv wr => ∃ k : Nat, k ≤ d.2.2.1.length ∧ iv = .int .i64 k ∧ Own wr W.heap.size 9 1 ov eS (tTo d.2.2.1 k) ∧ Below W.heap.size W wr) (fun _ iv _ => d.2.2.1.length - (intOf iv).toNat)
  case atStart => exact ⟨0, Nat.zero_le _, rfl, own0, bel0⟩
  case round =>
    obtain ⟨k, hk, rfl, hown, hbel⟩ := hrel
    clear own0 bel0
    have hlen := tTo_len d.2.2.1 hk
    obtain ⟨HSW, x2⟩ := HSL.out wr hbel
    by_cases hlt : k < d.2.2.1.length
    · have HS := hd (tTo_snoc hlt)
      obtain ⟨bb, oo, hA, hbb, cc0, cc1, cc2, cc3⟩ := HSW.Title_at hlt
      subst hA
      have HL := hd hlen
      have hlk : (tTo d.2.2.1 k).length ≤ 5000 := by omega
      have hq := HOT.out k hlt
      clear hlen
      generalize tTo d.2.2.1 k = M at hown hlk HS HL ⊢
      generalize d.2.2.1[k] = x at cc0 cc1 cc2 cc3 HS hq ⊢
      obtain ⟨xa, xb, xc, xd⟩ := x
      have cc0 : wr.cell? ⟨bb, oo + k * 4, none⟩ = some (.int .i64 xa) := cc0
      have cc1 : wr.cell? ⟨bb, oo + k * 4 + 1, none⟩ = some (.string xb) := cc1
      have cc2 : wr.cell? ⟨bb, oo + k * 4 + 2, none⟩ = some (.int .i64 xc) := cc2
      have cc3 : wr.cell? ⟨bb, oo + k * 4 + 3, none⟩ = some (.int .i64 xd) := cc3
      have HX := hd (show ttS (xa, xb, xc, xd) = titleS xa xb xc xd by show textR xa xb xc xd = _; unfold textR; exact if_pos hq)
      have HTX := hd (l23Text_at wr bb (oo + k * 4) xa xb xc xd cc0 cc1 cc2 cc3 hq)
      clear cc0 cc1 cc2 cc3 hq HSW
      generalize titleS xa xb xc xd = tx at HX HTX ⊢
      go_wp2_with fail
      refine HTX.out.mono ?_
      rintro e w5 ⟨rfl, hb5⟩
      have hown1 := Own.below hown hb5 (Nat.le_refl _)
      have hbel1 := below_step hbel hb5
      clear hown hbel hb5 x2 HTX
      go_wp2_with (at_builtin; refine wpList_push _ rfl _ _ 24 rfl i0 (.string ByteArray.empty) 16 Tryz.underlying24 hi hz0 hz1 hz2 rfl (by decide) _ _ tx rfl (hown1.alloc _) w5.heap.size rfl #[.string tx] 9 (heap_alloc_new _ _) rfl rfl (by intro u hu; simp [eS] at hu; subst hu; rfl) (by unfold maxLen; omega) (by omega) (by have := hbel1.size; simp; omega) ?_)
      intro v' w6 hown2 hgr2
      have hbel2 := (hbel1.alloc hbel1.size (.cells #[.string tx] 9)).grown hgr2 (by have := hbel1.size; simp; omega) (fun q hq => (hown1.lt q hq).1)
      clear hown1 hgr2 hbel1
      go_wp2_with fail
      go_roundw
      case rel => exact ⟨k + 1, by omega, by go_num, by rw [HS.out, HX.out]; exact hown2, hbel2⟩
      case measure => simp [intOf]; omega
    · obtain rfl : k = d.2.2.1.length := by omega
      rw [HMA.out] at hown
      have hml := HML.out
      have HSP := hd (fun v (hv : Sl wr 1 v eS ML) => list_spec wr B g d vo L (HD.out.below hbel) hL v _ hv (by omega))
      have SL := hd (hown.sl eS_len)
      obtain ⟨AL, cL, rfl⟩ := hown.isSlice
      clear hown HSW hml
      go_wp2_with fail
      refine (HSP.out _ SL.out).mono ?_
      rintro e w7 ⟨rfl, hr⟩
      go_wp2_with fail
      go_end0
      exact ⟨rfl, hr.pre hbel⟩
end Go.Proofs.YtgcodjkjdfahdaaGreatDoor

namespace Go.Proofs.YtgcodjkjdfahdaaGreatDoor
open Go Go.RowKit Go.ChangeShapes Go.WideShapes
set_option linter.unusedSimpArgs false
set_option linter.unusedVariables false
theorem lw_zero {s t : ByteArray} (h : lc s = 0) (h2 : isNameB t = true) : lw s t = 0 := by unfold lw; rw [if_pos h, if_pos h2]
theorem valR_zero {s t : ByteArray} (h : lw s t = 0) : (valR s t).2 = 0 := by unfold valR; rw [if_pos h]
theorem enter_yes {d : TDk} {a b : Int} {t q' : ByteArray} (h : addR d.2.2.2 (a, t, b) = (q', 0)) : doneG d (enterX d a t b) = ((d.1, d.2.1, d.2.2.1, q'), [decS (sumI (valR q' t).1)], 0) := by
  have h0 : (addR d.2.2.2 (a, t, b)).2 = 0 := by rw [h]
  obtain ⟨h1, -, h3, -⟩ := addR_lc h0
  rw [h] at h1
  have hv := valR_zero (lw_zero h1 (okEntryB_bd h3).2.1)
  unfold enterX enterG
  rw [h, if_pos rfl, hv, orS_dec]
  exact if_pos rfl
theorem enter_no {d : TDk} {a b c : Int} {t q' : ByteArray} (h : addR d.2.2.2 (a, t, b) = (q', c)) (hc : ¬ c = 0) : doneG d (enterX d a t b) = (d, [errS c], 0) := by
  unfold enterX enterG
  rw [h, if_neg hc]
  exact done_err d hc
set_option maxRecDepth 100000 in
set_option maxHeartbeats 8000000 in
theorem c_enter (W : World) (B g : Nat) (d : TDk) (hok : okD d = true) (vo : Value) (L : List ByteArray) (s0 : ByteArray) (hz : s0.size ≤ 1048576) (n0 n1 : Int) (hS : SAt W B g d vo L) (hN : NT W B g [n0, n1] [s0]) (hL : L.length ≤ 1000000) :
    Calls Tryz.prog 101 #[.pointer (some ⟨g, 0, none⟩)] W fun e W' => e = .returned (.tuple #[]) ∧ SDone B g vo W (doneG d (enterX d n0 s0 n1)) L W' := by
  have HD := hd hS
  have hq : d.2.2.2.size ≤ 1048576 := Nat.le_trans (okD_bd hok).2.2.2 (by decide)
  obtain ⟨vn, vt, c5, c6, O5, O6, -, n6⟩ := id hN
  obtain ⟨v1, v2, ⟨-, x0, x1, x2, x3⟩, -⟩ := hS.desk
  obtain ⟨bn, on, cn, rfl, -, hn⟩ := (O5.sl eI_len).ints (Nat.succ_pos _)
  replace c5 : W.cell? ⟨g, 5, none⟩ = some (.slice (some ⟨bn, on, none⟩) 2 cn) := c5
  have k0 := hn 0 _ rfl
  rw [Nat.add_zero] at k0
  have k1 := hn 1 _ rfl
  obtain ⟨bt, ot, ct, rfl, -, -, ht⟩ := (O6.sl eS_len).strs (Nat.succ_pos _)
  replace c6 : W.cell? ⟨g, 6, none⟩ = some (.slice (some ⟨bt, ot, none⟩) 1 ct) := c6
  have t0 := ht 0 _ rfl
  rw [Nat.add_zero] at t0
  have HNE := hd (show bt ≠ g from n6 bt rfl)
  have HS := hd (show ∀ ww, Below W.heap.size W ww → ww.cell? ⟨g, 3, none⟩ = some (.string d.2.2.2) ∧ ww.cell? ⟨g, 5, none⟩ = some (.slice (some ⟨bn, on, none⟩) 2 cn) ∧ ww.cell? ⟨bn, on, none⟩ = some (.int .i64 n0) ∧ ww.cell? ⟨bn, on + 1, none⟩ = some (.int .i64 n1) ∧ ww.cell? ⟨g, 6, none⟩ = some (.slice (some ⟨bt, ot, none⟩) 1 ct) ∧ ww.cell? ⟨bt, ot, none⟩ = some (.string s0) from fun V hb => ⟨cell_below x3 V hb, cell_below c5 V hb, cell_below k0 V hb, cell_below k1 V hb, cell_below c6 V hb, cell_below t0 V hb⟩)
  have K := Below.refl W.heap.size W
  have HSZ := hd (addR_size (s := d.2.2.2) (x := (n0, s0, n1)))
  obtain ⟨q', cd, hr⟩ : ∃ q' cd, addR d.2.2.2 (n0, s0, n1) = (q', cd) := ⟨_, _, rfl⟩
  have HAD := hd (show ∀ W, Calls Tryz.prog 165 #[.string d.2.2.2, .agg #[.int .i64 n0, .string s0, .int .i64 n1]] W fun e w' => e = .returned (.tuple #[.string q', .int .i64 cd]) ∧ Below W.heap.size W w' from fun W => by
    have := add_spec W d.2.2.2 n0 s0 n1 hq
    rw [hr] at this
    exact this)
  have HRR := hd hr
  rw [hr] at HSZ
  clear hr hS hN O5 O6 hn ht x0 x1 x2 hok n6
  go_enter Tryz.func101, Tryz.ntmps101
  go_wp2_with fail
  go_region_held3 (fun ww => ww.cell? ⟨g, 3, none⟩ = some (.string d.2.2.2) ∧ ww.cell? ⟨g, 5, none⟩ = some (.slice (some ⟨bn, on, none⟩) 2 cn) ∧ ww.cell? ⟨bn, on, none⟩ = some (.int .i64 n0) ∧ ww.cell? ⟨bn, on + 1, none⟩ = some (.int .i64 n1) ∧ ww.cell? ⟨g, 6, none⟩ = some (.slice (some ⟨bt, ot, none⟩) 1 ct) ∧ ww.cell? ⟨bt, ot, none⟩ = some (.string s0)) (first | with_reducible exact HS.out _ K | with_reducible exact HS.out _ (Below.drew K)) (first | (go_at_call 165; replace K := Below.drew K; (with_reducible refine (HAD.out _).mono ?_); rintro e w5 ⟨rfl, hb5⟩; replace K := below_step K hb5; clear hb5))
  clear HAD x3 c5 c6 k0 k1 t0
  have H5 := hd (HD.out.below K)
  by_cases hc : cd = 0
  case neg =>
    have HR := hd (enter_no HRR.out hc)
    have HE := hd (report_err w5 B g d vo L H5.out hL cd hc)
    clear hc
    go_wp2_with fail
    refine HE.out.mono ?_
    rintro e w6 ⟨rfl, hr⟩
    go_wp2_with fail
    refine bodyPost_ret (results_none rfl _ _ _) rfl ?_
    exact ⟨rfl, sdone (hr.pre K) HR.out⟩
  subst hc
  have hz4 := HSZ.out rfl
  have HR := hd (enter_yes HRR.out)
  have H6 := hd (H5.out.set3 q')
  obtain ⟨v1', v2', ⟨-, x0, x1, x2, x3⟩, -⟩ := H5.out.desk
  have f3 := H5.out.fr 3
  obtain ⟨-, -, -, -, c6, t0⟩ := HS.out _ K
  have hne := HNE.out
  have t1 : (w5.setCell ⟨g, 3, none⟩ (.string q')).cell? ⟨bt, ot, none⟩ = some (.string s0) := (World.cell?_setCell_other _ _ _ _ (by intro e; injection e with e; exact hne (by first | exact e | exact e.symm))).trans t0
  clear x0 x1 x2 HSZ HRR
  go_wp2_with fail
  refine (report_ok w5 g).mono ?_
  rintro e ww ⟨rfl, hw⟩
  have hw := hw.symm
  subst hw
  go_wp2_with fail
  clear x3 f3 c6 t0 t1 hne
  generalize w5.setCell ⟨g, 3, none⟩ (.string q') = Z at H6 ⊢
  obtain ⟨vo', h1, h2⟩ := H6.out
  refine (val_spec Z q' s0 (Nat.le_trans hz4 (by decide)) (Nat.le_trans hz (by decide))).mono ?_
  rintro e w6 ⟨v6, rfl, O6, hb6⟩
  have SL := O6.sl eI_len
  obtain ⟨A6, c6, rfl⟩ := O6.isSlice
  have h16 := h1.below hb6
  obtain ⟨l, hl⟩ : ∃ l, (valR q' s0).1 = l := ⟨_, rfl⟩
  obtain ⟨cv, hcv⟩ : ∃ cv, (valR q' s0).2 = cv := ⟨_, rfl⟩
  have HR3 := hd (show doneG d (enterX d n0 s0 n1) = ((d.1, d.2.1, d.2.2.1, q'), [decS (sumI l)], 0) by rw [HR.out, hl])
  rw [hl] at SL ⊢
  rw [hcv]
  clear hl hcv HR O6
  have HSU := hd (sum_spec w6 _ l SL)
  have HDC := hd (dec_spec w6 (sumI l) (sumI_bd l))
  clear SL
  go_wp2_with fail
  refine HSU.out.mono ?_
  rintro e wx ⟨rfl, hw⟩
  have hw := hw.symm
  subst hw
  go_wp2_with fail
  refine HDC.out.mono ?_
  rintro e w7 ⟨rfl, hb7⟩
  go_wp2_with fail
  refine (say_spec w7 B g _ vo' L _ (h16.below hb7) hL).mono ?_
  rintro e w8 ⟨rfl, hr⟩
  go_wp2_with fail
  go_end0
  exact ⟨rfl, sdone (((((hr.pre hb7).pre hb6).after h2)).pre K) HR3.out⟩
set_option maxRecDepth 100000 in
set_option maxHeartbeats 8000000 in
theorem c_log (W : World) (B g : Nat) (d : TDk) (hok : okD d = true) (vo : Value) (L : List ByteArray) (hS : SAt W B g d vo L) (hL : L.length ≤ 900000) :
    Calls Tryz.prog 106 #[.pointer (some ⟨g, 0, none⟩)] W fun e W' => e = .returned (.tuple #[]) ∧ SDone B g vo W (d, (readL d.2.2.2).l.map wwS ++ [okS ((readL d.2.2.2).l.map wwS).length], 0) L W' := by
  obtain ⟨i0, hi, hz0, hz1, hz2⟩ := info_parts info_str
  have HD := hd hS
  have hq4 : d.2.2.2.size ≤ 4000 := (okD_bd hok).2.2.2
  have hlc := (okD_parts.1 hok).2.2.2
  have HRO := hd (readL_ok d.2.2.2)
  have hl4 := Nat.le_trans (readL_len d.2.2.2) hq4
  obtain ⟨ML, hML⟩ : ∃ ML, (readL d.2.2.2).l.map wwS = ML := ⟨_, rfl⟩
  have HML := hd (show ML.length = (readL d.2.2.2).l.length by rw [← hML]; exact List.length_map ..)
  have HMA := hd (show wTo (readL d.2.2.2).l (readL d.2.2.2).l.length = ML by rw [wTo_all, hML])
  rw [hML]
  clear hML
  obtain ⟨v1, v2, ⟨-, x0, x1, x2, x3⟩, -⟩ := hS.desk
  have HC := hd (code_spec W d.2.2.2 (Nat.le_trans hq4 (by decide)))
  clear x0 x1 x2 hS hok
  go_enter Tryz.func106, Tryz.ntmps106
  go_wp2_with fail
  refine HC.out.mono ?_
  rintro e w1 ⟨gr, rfl, hr, B1⟩
  obtain ⟨v, R, O, -, -⟩ := hr hlc
  rw [hlc]
  obtain ⟨A, cc, rfl⟩ := O.isSlice
  have SE := O.sl eEntry_len
  have HC3 := hd R.2.1.2.2.2
  have r0 := hd R.1
  have HS1 := hd (HD.out.below B1)
  have own0 := Own.made0 w1 w1.heap.size 9 1 eS (Nat.le_refl _)
  have bel0 := (Below.refl w1.heap.size w1).alloc (Nat.le_refl _) (.cells #[] 9)
  have HSE := hd SE
  clear hr hlc x3 R O SE HC
  go_wp2_with fail
  go_loopw [4, 5] (fun ov iv wr => ∃ k : Nat, k ≤ (readL d.2.2.2).l.length ∧ iv = .int .i64 k ∧ Own wr w1.heap.size 9 1 ov eS (wTo (readL d.2.2.2).l k) ∧ Below w1.heap.size w1 wr) (fun _ iv _ => (readL d.2.2.2).l.length - (intOf iv).toNat)
  case atStart => exact ⟨0, Nat.zero_le _, rfl, own0, bel0⟩
  case round =>
    obtain ⟨k, hk, rfl, hown, hbel⟩ := hrel
    clear own0 bel0
    have c3 := (hbel.cell (p := ⟨gr, 3, none⟩) r0.out).trans HC3.out
    have hlen := wTo_len (readL d.2.2.2).l hk
    by_cases hlt : k < (readL d.2.2.2).l.length
    · have HS := hd (wTo_snoc hlt)
      obtain ⟨bb, oo, hA, -, p0, p1, p2⟩ := (HSE.out.below hbel).Entry_at hlt
      subst hA
      have hq := HRO.out _ (List.getElem_mem hlt)
      have HL := hd hlen
      have hlk : (wTo (readL d.2.2.2).l k).length ≤ 5000 := by omega
      clear hlen
      generalize wTo (readL d.2.2.2).l k = M at hown hlk HS HL ⊢
      generalize (readL d.2.2.2).l[k] = x at p0 p1 p2 HS hq ⊢
      obtain ⟨xa, xb, xc⟩ := x
      have HX := hd (show wwS (xa, xb, xc) = wordsS xa xb xc from rfl)
      have HTX := hd (show Calls Tryz.prog 175 #[.pointer (some ⟨bb, oo + k * 3, none⟩)] wr _ from words_spec wr bb (oo + k * 3) xa xb xc p0 p1 p2 hq)
      clear p0 p1 p2 hq
      generalize wordsS xa xb xc = tx at HX HTX ⊢
      go_wp2_with fail
      refine HTX.out.mono ?_
      rintro e w5 ⟨rfl, hb5⟩
      have hown1 := Own.below hown hb5 (Nat.le_refl _)
      have hbel1 := below_step hbel hb5
      clear hown hbel hb5 c3 HTX
      go_wp2_with (at_builtin; refine wpList_push _ rfl _ _ 24 rfl i0 (.string ByteArray.empty) 16 Tryz.underlying24 hi hz0 hz1 hz2 rfl (by decide) _ _ tx rfl (hown1.alloc _) w5.heap.size rfl #[.string tx] 9 (heap_alloc_new _ _) rfl rfl (by intro u hu; simp [eS] at hu; subst hu; rfl) (by unfold maxLen; omega) (by omega) (by have := hbel1.size; simp; omega) ?_)
      intro v' w6 hown2 hgr2
      have hbel2 := (hbel1.alloc hbel1.size (.cells #[.string tx] 9)).grown hgr2 (by have := hbel1.size; simp; omega) (fun q hq => (hown1.lt q hq).1)
      clear hown1 hgr2 hbel1
      go_wp2_with fail
      go_roundw
      case rel => exact ⟨k + 1, by omega, by go_num, by rw [HS.out, HX.out]; exact hown2, hbel2⟩
      case measure => simp [intOf]; omega
    · obtain rfl : k = (readL d.2.2.2).l.length := by omega
      rw [HMA.out] at hown
      have hml := HML.out
      have HSP := hd (fun v (hv : Sl wr 1 v eS ML) => list_spec wr B g d vo L (HS1.out.below hbel) hL v _ hv (by omega))
      have SL := hd (hown.sl eS_len)
      obtain ⟨AL, cL, rfl⟩ := hown.isSlice
      clear hown hml
      go_wp2_with fail
      refine (HSP.out _ SL.out).mono ?_
      rintro e w7 ⟨rfl, hr⟩
      go_wp2_with fail
      go_end0
      exact ⟨rfl, (hr.pre hbel).pre B1⟩
end Go.Proofs.YtgcodjkjdfahdaaGreatDoor

namespace Go.Proofs.YtgcodjkjdfahdaaGreatDoor
open Go Go.RowKit Go.ChangeShapes Go.WideShapes
set_option linter.unusedSimpArgs false
set_option linter.unusedVariables false
theorem okD_set1 {d : TDk} (h : okD d = true) {l : List TCue} (h1 : okCues l = true) : okD (d.1, l, d.2.2.1, d.2.2.2) = true := okD_parts.2 ⟨(okD_parts.1 h).1, h1, (okD_parts.1 h).2.2⟩
theorem cueX_yes {d : TDk} {x : TCue} (h : okCues (d.2.1 ++ [x]) = true) : cueX d x = ((d.1, d.2.1 ++ [x], d.2.2.1, d.2.2.2), [orS (textD d.1 (d.2.1 ++ [x]) d.2.2.1 d.2.2.2)], 0) := by unfold cueX; rw [if_pos h]
theorem cueX_no {d : TDk} {x : TCue} (h : okCues (d.2.1 ++ [x]) = false) : cueX d x = (d, [], 1) := by unfold cueX; rw [h]; rfl
set_option maxRecDepth 100000 in
set_option maxHeartbeats 8000000 in
theorem c_cue (W : World) (B g : Nat) (d : TDk) (hok : okD d = true) (vo : Value) (L : List ByteArray) (n0 n1 n2 n3 : Int) (ts : List ByteArray) (hS : SAt W B g d vo L) (hN : NT W B g [n0, n1, n2, n3] ts) (hL : L.length ≤ 1000000) :
    Calls Tryz.prog 99 #[.pointer (some ⟨g, 0, none⟩)] W fun e W' => e = .returned (.tuple #[]) ∧ SDone B g vo W (doneG d (cueX d (n0, n1, n2, n3))) L W' := by
  obtain ⟨i0, hi, hz0, hz1, hz2⟩ := info_parts info_CueK
  have HD := hd hS
  have hC6 := (okDesk_bd hok).2.1
  obtain ⟨vn, vt, c5, c6, O5, O6, -, -⟩ := id hN
  obtain ⟨v1, v2, ⟨-, x0, x1, x2, x3⟩, P1, P2, -⟩ := hS.desk
  obtain ⟨bn, on, cn, rfl, -, hn⟩ := (O5.sl eI_len).ints (Nat.succ_pos _)
  replace c5 : W.cell? ⟨g, 5, none⟩ = some (.slice (some ⟨bn, on, none⟩) 4 cn) := c5
  have k0 := hn 0 _ rfl
  rw [Nat.add_zero] at k0
  have k1 := hn 1 _ rfl
  have k2 := hn 2 _ rfl
  have k3 := hn 3 _ rfl
  have HS := hd (show ∀ ww, Below W.heap.size W ww → ww.cell? ⟨g, 5, none⟩ = some (.slice (some ⟨bn, on, none⟩) 4 cn) ∧ ww.cell? ⟨bn, on, none⟩ = some (.int .i64 n0) ∧ ww.cell? ⟨bn, on + 1, none⟩ = some (.int .i64 n1) ∧ ww.cell? ⟨bn, on + 2, none⟩ = some (.int .i64 n2) ∧ ww.cell? ⟨bn, on + 3, none⟩ = some (.int .i64 n3) from fun V hb => ⟨cell_below c5 V hb, cell_below k0 V hb, cell_below k1 V hb, cell_below k2 V hb, cell_below k3 V hb⟩)
  have HCU := hd ((P1.sl eCue_len).alloc (.cells #[] 92))
  obtain ⟨A1, e1, rfl⟩ := P1.isSlice
  have hlt := hS.lt
  clear hN O5 O6 hn x0 x2 x3 P1 P2 c6 hS
  clear c5 k0 k1 k2 k3
  go_enter Tryz.func99, Tryz.ntmps99
  go_wp2_with (at_builtin; refine wpList_append_sl _ rfl _ _ 26 rfl i0 (.agg #[.int .i64 0, .int .i64 0, .int .i64 0, .int .i64 0]) 32 Tryz.underlying26 hi hz0 hz1 hz2 rfl (by decide) eCue_len (by rintro ⟨a, b, c, d⟩ u hu; simp [eCue] at hu; rcases hu with rfl | rfl | rfl | rfl <;> rfl) _ [] rfl (Own.made0 W W.heap.size 92 4 eCue (Nat.le_refl _)) _ d.2.1 rfl HCU.out (by unfold maxLen; simp; omega) (by simp; omega) (by simp) ?_)
  intro u1 w1 own1 hgr1
  have hb1 := ((Below.refl W.heap.size W).alloc (Nat.le_refl _) (.cells #[] 92)).grown hgr1 (by simp) (by intro g hg; simp [Value.ownBlock] at hg; omega)
  obtain ⟨A2, e2, rfl⟩ := own1.isSlice
  have HO1 := hd own1
  clear hgr1 own1 HCU x1
  go_wp2_with fail
  have K := hb1
  have hsz1 := hb1.size
  obtain ⟨c5, k0, k1, k2, k3⟩ := HS.out _ K
  go_region_held3 (fun ww => ww.cell? ⟨g, 5, none⟩ = some (.slice (some ⟨bn, on, none⟩) 4 cn) ∧ ww.cell? ⟨bn, on, none⟩ = some (.int .i64 n0) ∧ ww.cell? ⟨bn, on + 1, none⟩ = some (.int .i64 n1) ∧ ww.cell? ⟨bn, on + 2, none⟩ = some (.int .i64 n2) ∧ ww.cell? ⟨bn, on + 3, none⟩ = some (.int .i64 n3)) (first | with_reducible exact HS.out _ K | with_reducible exact HS.out _ (Below.drew K) | exact HS.out _ (K.drew.alloc K.size _)) (first | (refine step_push_at (w1.drew.alloc (.cells #[.int .i64 n0, .int .i64 n1, .int .i64 n2, .int .i64 n3] 92)) rfl _ _ 26 rfl i0 (.agg #[.int .i64 0, .int .i64 0, .int .i64 0, .int .i64 0]) 32 Tryz.underlying26 hi hz0 hz1 hz2 rfl (by decide) _ d.2.1 (n0, n1, n2, n3) rfl (HO1.out.drew.alloc (.cells #[.int .i64 n0, .int .i64 n1, .int .i64 n2, .int .i64 n3] 92)) w1.heap.size rfl #[.int .i64 n0, .int .i64 n1, .int .i64 n2, .int .i64 n3] 92 (heap_alloc_new _ _) rfl rfl (by intro u hu; simp [eCue] at hu; rcases hu with rfl | rfl | rfl | rfl <;> rfl) (by unfold maxLen; omega) (by omega) ((K.drew.alloc K.size (.cells #[.int .i64 n0, .int .i64 n1, .int .i64 n2, .int .i64 n3] 92)).size) ?_; intro v3 w2 O2 hg2 hat2; replace K := (K.drew.alloc K.size (.cells #[.int .i64 n0, .int .i64 n1, .int .i64 n2, .int .i64 n3] 92)).grown hg2 (K.drew.alloc K.size (.cells #[.int .i64 n0, .int .i64 n1, .int .i64 n2, .int .i64 n3] 92)).size (fun q hq => (HO1.out.lt q hq).1); clear hg2 hat2))
  clear c5 k0 k1 k2 k3 HS HO1 hb1
  obtain ⟨l, hl⟩ : ∃ l, d.2.1 ++ [(n0, n1, n2, n3)] = l := ⟨_, rfl⟩
  have HLL := hd (show l.length = d.2.1.length + 1 by rw [← hl, List.length_append]; rfl)
  have HYE := hd (cueX_yes (d := d) (x := (n0, n1, n2, n3)))
  have HNO := hd (cueX_no (d := d) (x := (n0, n1, n2, n3)))
  rw [hl] at O2 HYE HNO
  clear hl
  obtain ⟨A3, e3, hv3⟩ := O2.isSlice
  rw [HLL.out] at hv3
  subst hv3
  have HG := hd (HD.out.fresh (v := .slice A3 (d.2.1.length + 1) e3) (fun k e => (O2.lt k e).1))
  have H2 := hd (HD.out.below K)
  have O3 := hd (O2.base (Nat.le_trans HD.out.base (Nat.le_of_lt HD.out.lt)))
  have HCS := hd (cues_spec w2 _ l (O2.sl eCue_len))
  clear O2
  rcases h : okCues l with _ | _
  · have HR := hd (show doneG d (cueX d (n0, n1, n2, n3)) = (d, [errS 1], 0) by rw [HNO.out h]; exact done_err d (by decide))
    rw [h] at HCS
    clear h HYE HNO
    go_wp2_with fail
    refine HCS.out.mono ?_
    rintro e w3 ⟨rfl, hb3⟩
    have HE := hd (report_err w3 B g d vo L (H2.out.below hb3) hL 1 (by decide))
    go_wp2_with fail
    refine HE.out.mono ?_
    rintro e w4 ⟨rfl, hr⟩
    go_wp2_with fail
    refine bodyPost_ret (results_none rfl _ _ _) rfl ?_
    exact ⟨rfl, sdone ((hr.pre hb3).pre K) HR.out⟩
  · have hok2 := okD_set1 hok h
    have HB := hd (okDesk_bd hok2)
    have HR := hd (show doneG d (cueX d (n0, n1, n2, n3)) = ((d.1, l, d.2.2.1, d.2.2.2), [lineC 0 (deskS d.1 l d.2.2.1)], 0) by rw [HYE.out h]; exact done_set d hok2)
    rw [h] at HCS
    clear h hok2 HYE HNO
    go_wp2_with fail
    refine HCS.out.mono ?_
    rintro e w3 ⟨rfl, hb3⟩
    have H3 := hd (H2.out.below hb3)
    have H4 := hd (H3.out.set1 (O3.out.below hb3 (Nat.le_refl _)) HG.out.1 HG.out.2 rfl)
    obtain ⟨v1, v2', ⟨-, x0, x1, x2, x3⟩, -⟩ := H3.out.desk
    have f1 := H3.out.fr 1
    clear x0 x2 x3
    go_wp2_with fail
    clear x1 f1
    generalize w3.setCell ⟨g, 1, none⟩ (.slice A3 (d.2.1.length + 1) e3) = Y at H4 ⊢
    obtain ⟨vo', h1, h2⟩ := H4.out
    refine (state_spec Y B g (d.1, l, d.2.2.1, d.2.2.2) vo' L h1 hL 0 (fun _ => HB.out)).mono ?_
    rintro e w7 ⟨rfl, hr⟩
    go_wp2_with fail
    go_end0
    exact ⟨rfl, sdone (((hr.after h2).pre hb3).pre K) HR.out⟩
end Go.Proofs.YtgcodjkjdfahdaaGreatDoor
