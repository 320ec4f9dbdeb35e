/- Texts of the claim, joined: each says at its head what it proves. No condition. -/
import Derived.Test.YtgcodjkjdfahdaaGreatDoorJ33
import Derived.Deep.RegionHeld3
/- Commands that only ask: the program's execute. No condition but that the tables lie as they are laid. -/
namespace Go.Proofs.YtgcodjkjdfahdaaGreatDoor
open Go Go.RowKit Go.ChangeShapes Go.WideShapes
set_option linter.unusedSimpArgs false
set_option linter.unusedVariables false
set_option maxRecDepth 100000 in
set_option maxHeartbeats 8000000 in
theorem exec_seen (w : World) (B g : Nat) (d : TDk) (hD : DeskOwn w B g d) (vW vN : Value) (s1 s2 : ByteArray) (n0 n1 : Int) (hW : Sl w 1 vW eS [⟨#[115, 101, 101, 110]⟩, s1, s2]) (hN : Sl w 1 vN eI [n0, n1]) (hsh : Shop w) :
    Calls Tryz.prog 34 #[.pointer (some ⟨g, 0, none⟩), vW, vN] w (ExecTo B g w (d, [orS (numsS ⟨#[32]⟩ (seenR n0 n1).1)], (seenR n0 n1).2)) := by
  obtain ⟨bw, ow, cw, rfl, -, -, hw⟩ := hW.strs (Nat.succ_pos _)
  obtain ⟨bn, on, cn, rfl, -, hn⟩ := hN.ints (Nat.succ_pos _)
  have w0 := hw 0 _ rfl
  rw [Nat.add_zero] at w0
  have k0 := hn 0 _ rfl
  rw [Nat.add_zero] at k0
  have k1 := hn 1 _ rfl
  have HD := hd hD
  have HSH := hd hsh.at_
  have HS := hd (show ∀ W, Below w.heap.size w W → W.cell? ⟨bn, on, none⟩ = some (.int .i64 n0) ∧ W.cell? ⟨bn, on + 1, none⟩ = some (.int .i64 n1) from fun W hb => ⟨cell_below k0 W hb, cell_below k1 W hb⟩)
  have K := Below.refl w.heap.size w
  clear hD hW hN hw hn hsh
  have HSL := hd (show (seenR n0 n1).1.length ≤ 48 from seenR_len n0 n1)
  have HSM := hd (show ∀ x ∈ (seenR n0 n1).1, 0 ≤ x ∧ x ≤ 48 from seenR_mem n0 n1)
  go_enter Tryz.func34, Tryz.ntmps34
  go_wp2_with fail
  clear w0
  first | (go_region_held3 (fun ww => ww.cell? ⟨bn, on, none⟩ = some (.int .i64 n0) ∧ ww.cell? ⟨bn, on + 1, none⟩ = some (.int .i64 n1)) (first | with_reducible exact HS.out _ K | with_reducible exact HS.out _ (Below.drew K)) (first | (go_at_call 68; replace K := Below.drew K; (with_reducible refine (seen_impl _ n0 n1).mono ?_); rintro e w2 ⟨v2, rfl, O2, hb2⟩; obtain ⟨A2, c2, rfl⟩ := O2.isSlice; replace K := below_step K hb2; clear hb2))) | fail
  all_goals
    clear k0 k1
    have SL := O2.sl eI_len
    clear O2
    obtain ⟨l, hl⟩ : ∃ l, (seenR n0 n1).1 = l := ⟨_, rfl⟩
    obtain ⟨cd, hc⟩ : ∃ c, (seenR n0 n1).2 = c := ⟨_, rfl⟩
    have HR := hd (show (d, [orS (numsS ⟨#[32]⟩ (seenR n0 n1).1)], (seenR n0 n1).2) = (d, [orS (numsS ⟨#[32]⟩ l)], cd) by rw [hl, hc])
    rw [hl] at SL HSL HSM ⊢
    rw [hc]
    clear hl hc
    have HNU := hd (nums_impl w2 _ l SL (Nat.le_trans HSL.out (by decide)) (fun x hx => by have := HSM.out x hx; omega) (HSH.out _ K).1)
    clear SL
    go_wp2_with fail
    refine HNU.out.mono ?_
    rintro e w3 ⟨rfl, hb3⟩
    replace K := below_step K hb3
    clear HNU hb3
    go_wp2_with fail
    refine (or_impl _ _).mono ?_
    rintro e w4 ⟨v4, rfl, O4, hb4⟩
    have O5 := O4.base K.size
    replace K := below_step K hb4
    obtain ⟨A4, c4, rfl⟩ := O4.isSlice
    go_wp2_with fail
    go_ret2
    exact exec_same HD.out K O5 HR.out
set_option maxRecDepth 100000 in
set_option maxHeartbeats 8000000 in
theorem exec_shows (w : World) (B g : Nat) (d : TDk) (hD : DeskOwn w B g d) (hp : d.1.size ≤ 1048576) (vW vN : Value) (s1 : ByteArray) (n0 : Int) (hW : Sl w 1 vW eS [⟨#[115, 104, 111, 119, 115]⟩, s1]) (hN : Sl w 1 vN eI [n0]) (hsh : Shop w) :
    Calls Tryz.prog 34 #[.pointer (some ⟨g, 0, none⟩), vW, vN] w (ExecTo B g w (d, [orS (motR d.1 n0).1], (motR d.1 n0).2)) := by
  obtain ⟨bw, ow, cw, rfl, -, -, hw⟩ := hW.strs (Nat.succ_pos _)
  obtain ⟨bn, on, cn, rfl, -, hn⟩ := hN.ints (Nat.succ_pos _)
  have w0 := hw 0 _ rfl
  rw [Nat.add_zero] at w0
  have k0 := hn 0 _ rfl
  rw [Nat.add_zero] at k0
  obtain ⟨v1, v2, ⟨hg, d0, d1, d2, d3⟩, hfr, hBg, O1, O2⟩ := id hD
  clear hfr hBg O2 O1 hg d3 d2 d1
  have HD := hd hD
  have HSH := hd hsh.at_
  have HS := hd (show ∀ W, Below w.heap.size w W → W.cell? ⟨bn, on, none⟩ = some (.int .i64 n0) ∧ W.cell? ⟨g, 0, none⟩ = some (.string d.1) from fun W hb => ⟨cell_below k0 W hb, cell_below d0 W hb⟩)
  have K := Below.refl w.heap.size w
  clear hD hW hN hw hn hsh
  go_enter Tryz.func34, Tryz.ntmps34
  go_wp2_with fail
  clear w0
  first | (go_region_held3 (fun ww => ww.cell? ⟨bn, on, none⟩ = some (.int .i64 n0) ∧ ww.cell? ⟨g, 0, none⟩ = some (.string d.1)) (first | with_reducible exact HS.out _ K | with_reducible exact HS.out _ (Below.drew K)) (first | (go_at_call 71; replace K := Below.drew K; (with_reducible refine (mof_impl _ _ hp n0).mono ?_); rintro e w2 ⟨rfl, hb2⟩; replace K := below_step K hb2; clear hb2))) | fail
  all_goals
    clear k0 d0
    obtain ⟨l, hl⟩ : ∃ l, (motR d.1 n0).1 = l := ⟨_, rfl⟩
    obtain ⟨cd, hc⟩ : ∃ c, (motR d.1 n0).2 = c := ⟨_, rfl⟩
    have HR := hd (show (d, [orS (motR d.1 n0).1], (motR d.1 n0).2) = (d, [orS l], cd) by rw [hl, hc])
    rw [hl, hc]
    clear hl hc
    go_wp2_with fail
    refine (or_impl _ _).mono ?_
    rintro e w4 ⟨v4, rfl, O4, hb4⟩
    have O5 := O4.base K.size
    replace K := below_step K hb4
    obtain ⟨A4, c4, rfl⟩ := O4.isSlice
    go_wp2_with fail
    go_ret2
    exact exec_same HD.out K O5 HR.out
set_option maxRecDepth 100000 in
set_option maxHeartbeats 8000000 in
theorem exec_fewest (w : World) (B g : Nat) (d : TDk) (hD : DeskOwn w B g d) (vW vN : Value) (s1 : ByteArray) (hz : s1.size ≤ 1048576) (hW : Sl w 1 vW eS [⟨#[102, 101, 119, 101, 115, 116]⟩, s1]) (hN : Sl w 1 vN eI []) (hsh : Shop w) :
    Calls Tryz.prog 34 #[.pointer (some ⟨g, 0, none⟩), vW, vN] w (ExecTo B g w (d, [orS (decS (fewR s1).1)], (fewR s1).2)) := by
  obtain ⟨bw, ow, cw, rfl, -, -, hw⟩ := hW.strs (Nat.succ_pos _)
  obtain ⟨bn, cn, rfl⟩ := hN.isSlice
  have w0 := hw 0 _ rfl
  rw [Nat.add_zero] at w0
  have w1 := hw 1 _ rfl
  have HD := hd hD
  have HSH := hd hsh.at_
  have HS := hd (show ∀ W, Below w.heap.size w W → W.cell? ⟨bw, ow + 1, none⟩ = some (.string s1) from fun W hb => cell_below w1 W hb)
  have K := Below.refl w.heap.size w
  clear hD hW hN hw hsh
  have HBD := hd (fewR_bd s1)
  go_enter Tryz.func34, Tryz.ntmps34
  go_wp2_with fail
  refine (few_impl _ s1 hz).mono ?_
  rintro e w2 ⟨rfl, hb2⟩
  replace K := below_step K hb2
  clear hb2 w0 w1
  obtain ⟨l, hl⟩ : ∃ l, (fewR s1).1 = l := ⟨_, rfl⟩
  obtain ⟨cd, hc⟩ : ∃ c, (fewR s1).2 = c := ⟨_, rfl⟩
  have HR := hd (show (d, [orS (decS (fewR s1).1)], (fewR s1).2) = (d, [orS (decS l)], cd) by rw [hl, hc])
  rw [hl] at HBD
  rw [hl, hc]
  clear hl hc
  have HNU := hd (dec_impl w2 l (by have := HBD.out; omega) (HSH.out _ K).1)
  clear HBD
  go_wp2_with fail
  refine HNU.out.mono ?_
  rintro e w3 ⟨rfl, hb3⟩
  replace K := below_step K hb3
  clear HNU hb3
  go_wp2_with fail
  refine (or_impl _ _).mono ?_
  rintro e w4 ⟨v4, rfl, O4, hb4⟩
  have O5 := O4.base K.size
  replace K := below_step K hb4
  obtain ⟨A4, c4, rfl⟩ := O4.isSlice
  go_wp2_with fail
  go_ret2
  exact exec_same HD.out K O5 HR.out
set_option maxRecDepth 100000 in
set_option maxHeartbeats 8000000 in
theorem exec_for (w : World) (B g : Nat) (d : TDk) (hD : DeskOwn w B g d) (vW vN : Value) (s1 s2 : ByteArray) (hz : s1.size ≤ 1048576) (n0 : Int) (hW : Sl w 1 vW eS [⟨#[102, 111, 114]⟩, s1, s2]) (hN : Sl w 1 vN eI [n0]) (hsh : Shop w) :
    Calls Tryz.prog 34 #[.pointer (some ⟨g, 0, none⟩), vW, vN] w (ExecTo B g w (d, [orS (dforR s1 n0).1], (dforR s1 n0).2)) := by
  obtain ⟨bw, ow, cw, rfl, -, -, hw⟩ := hW.strs (Nat.succ_pos _)
  obtain ⟨bn, on, cn, rfl, -, hn⟩ := hN.ints (Nat.succ_pos _)
  have w0 := hw 0 _ rfl
  rw [Nat.add_zero] at w0
  have w1 := hw 1 _ rfl
  have k0 := hn 0 _ rfl
  rw [Nat.add_zero] at k0
  have HD := hd hD
  have HSH := hd hsh.at_
  have HS := hd (show ∀ W, Below w.heap.size w W → W.cell? ⟨bw, ow + 1, none⟩ = some (.string s1) ∧ W.cell? ⟨bn, on, none⟩ = some (.int .i64 n0) from fun W hb => ⟨cell_below w1 W hb, cell_below k0 W hb⟩)
  have K := Below.refl w.heap.size w
  clear hD hW hN hw hn hsh
  go_enter Tryz.func34, Tryz.ntmps34
  go_wp2_with fail
  clear w0
  first | (go_region_held3 (fun ww => ww.cell? ⟨bw, ow + 1, none⟩ = some (.string s1) ∧ ww.cell? ⟨bn, on, none⟩ = some (.int .i64 n0)) (first | with_reducible exact HS.out _ K | with_reducible exact HS.out _ (Below.drew K)) (first | (go_at_call 73; replace K := Below.drew K; (with_reducible refine (dfor_impl _ s1 hz n0).mono ?_); rintro e w2 ⟨rfl, hb2⟩; replace K := below_step K hb2; clear hb2))) | fail
  all_goals
    clear w1 k0
    obtain ⟨l, hl⟩ : ∃ l, (dforR s1 n0).1 = l := ⟨_, rfl⟩
    obtain ⟨cd, hc⟩ : ∃ c, (dforR s1 n0).2 = c := ⟨_, rfl⟩
    have HR := hd (show (d, [orS (dforR s1 n0).1], (dforR s1 n0).2) = (d, [orS l], cd) by rw [hl, hc])
    rw [hl, hc]
    clear hl hc
    go_wp2_with fail
    refine (or_impl _ _).mono ?_
    rintro e w4 ⟨v4, rfl, O4, hb4⟩
    have O5 := O4.base K.size
    replace K := below_step K hb4
    obtain ⟨A4, c4, rfl⟩ := O4.isSlice
    go_wp2_with fail
    go_ret2
    exact exec_same HD.out K O5 HR.out
set_option maxRecDepth 100000 in
set_option maxHeartbeats 8000000 in
theorem exec_shifts (w : World) (B g : Nat) (d : TDk) (hD : DeskOwn w B g d) (vW vN : Value) (s1 : ByteArray) (n0 : Int) (hW : Sl w 1 vW eS [⟨#[115, 104, 105, 102, 116, 115]⟩, s1]) (hN : Sl w 1 vN eI [n0]) (hsh : Shop w) :
    Calls Tryz.prog 34 #[.pointer (some ⟨g, 0, none⟩), vW, vN] w (ExecTo B g w (d, [orS (numsS ⟨#[32]⟩ (leastR d.2.1 n0).1)], (leastR d.2.1 n0).2)) := by
  obtain ⟨bw, ow, cw, rfl, -, -, hw⟩ := hW.strs (Nat.succ_pos _)
  obtain ⟨bn, on, cn, rfl, -, hn⟩ := hN.ints (Nat.succ_pos _)
  have w0 := hw 0 _ rfl
  rw [Nat.add_zero] at w0
  have k0 := hn 0 _ rfl
  rw [Nat.add_zero] at k0
  obtain ⟨v1, v2, ⟨hg, d0, d1, d2, d3⟩, hfr, hBg, O1, O2⟩ := id hD
  have SC := O1.sl eCue_len
  obtain ⟨A1, c1, rfl⟩ := O1.isSlice
  clear hfr hBg O2 hg d3 d2 d0
  clear O1
  have HD := hd hD
  have HSH := hd hsh.at_
  have HS := hd (show ∀ W, Below w.heap.size w W → W.cell? ⟨bn, on, none⟩ = some (.int .i64 n0) ∧ W.cell? ⟨g, 1, none⟩ = some (.slice A1 d.2.1.length c1) from fun W hb => ⟨cell_below k0 W hb, cell_below d1 W hb⟩)
  have K := Below.refl w.heap.size w
  clear hD hW hN hw hn hsh
  have HSL := hd (show (leastR d.2.1 n0).1.length ≤ 6 from (leastR_sh _ _).1)
  have HSM := hd (show ∀ x ∈ (leastR d.2.1 n0).1, 0 ≤ x ∧ x ≤ 6 from (leastR_sh _ _).2)
  have HSC := hd (show ∀ W, Below w.heap.size w W → Sl W 4 (.slice A1 d.2.1.length c1) eCue d.2.1 from fun W hb => SC.below hb)
  clear SC
  go_enter Tryz.func34, Tryz.ntmps34
  go_wp2_with fail
  clear w0
  first | (go_region_held3 (fun ww => ww.cell? ⟨bn, on, none⟩ = some (.int .i64 n0) ∧ ww.cell? ⟨g, 1, none⟩ = some (.slice A1 d.2.1.length c1)) (first | with_reducible exact HS.out _ K | with_reducible exact HS.out _ (Below.drew K)) (first | (go_at_call 76; replace K := Below.drew K; (with_reducible refine (least_impl _ _ _ (HSC.out _ K) n0).mono ?_); rintro e w2 ⟨v2, rfl, O2, hb2⟩; obtain ⟨A2, c2, rfl⟩ := O2.isSlice; replace K := below_step K hb2; clear hb2))) | fail
  all_goals
    clear k0 d1
    have SL := O2.sl eI_len
    clear O2
    obtain ⟨l, hl⟩ : ∃ l, (leastR d.2.1 n0).1 = l := ⟨_, rfl⟩
    obtain ⟨cd, hc⟩ : ∃ c, (leastR d.2.1 n0).2 = c := ⟨_, rfl⟩
    have HR := hd (show (d, [orS (numsS ⟨#[32]⟩ (leastR d.2.1 n0).1)], (leastR d.2.1 n0).2) = (d, [orS (numsS ⟨#[32]⟩ l)], cd) by rw [hl, hc])
    rw [hl] at SL HSL HSM ⊢
    rw [hc]
    clear hl hc
    have HNU := hd (nums_impl w2 _ l SL (Nat.le_trans HSL.out (by decide)) (fun x hx => by have := HSM.out x hx; omega) (HSH.out _ K).1)
    clear SL
    go_wp2_with fail
    refine HNU.out.mono ?_
    rintro e w3 ⟨rfl, hb3⟩
    replace K := below_step K hb3
    clear HNU hb3
    go_wp2_with fail
    refine (or_impl _ _).mono ?_
    rintro e w4 ⟨v4, rfl, O4, hb4⟩
    have O5 := O4.base K.size
    replace K := below_step K hb4
    obtain ⟨A4, c4, rfl⟩ := O4.isSlice
    go_wp2_with fail
    go_ret2
    exact exec_same HD.out K O5 HR.out
set_option maxRecDepth 100000 in
set_option maxHeartbeats 8000000 in
theorem exec_loads (w : World) (B g : Nat) (d : TDk) (hD : DeskOwn w B g d) (vW vN : Value) (s1 s2 : ByteArray) (hz : s1.size ≤ 1048576) (n0 : Int) (hW : Sl w 1 vW eS [⟨#[108, 111, 97, 100, 115]⟩, s1, s2]) (hN : Sl w 1 vN eI [n0]) (hsh : Shop w) :
    Calls Tryz.prog 34 #[.pointer (some ⟨g, 0, none⟩), vW, vN] w (ExecTo B g w (d, [orS (decS (loadR s1 n0).1)], (loadR s1 n0).2)) := by
  obtain ⟨bw, ow, cw, rfl, -, -, hw⟩ := hW.strs (Nat.succ_pos _)
  obtain ⟨bn, on, cn, rfl, -, hn⟩ := hN.ints (Nat.succ_pos _)
  have w0 := hw 0 _ rfl
  rw [Nat.add_zero] at w0
  have w1 := hw 1 _ rfl
  have k0 := hn 0 _ rfl
  rw [Nat.add_zero] at k0
  have HD := hd hD
  have HSH := hd hsh.at_
  have HS := hd (show ∀ W, Below w.heap.size w W → W.cell? ⟨bw, ow + 1, none⟩ = some (.string s1) ∧ W.cell? ⟨bn, on, none⟩ = some (.int .i64 n0) from fun W hb => ⟨cell_below w1 W hb, cell_below k0 W hb⟩)
  have K := Below.refl w.heap.size w
  clear hD hW hN hw hn hsh
  have HBD := hd (loadR_bd s1 n0)
  go_enter Tryz.func34, Tryz.ntmps34
  go_wp2_with fail
  clear w0
  first | (go_region_held3 (fun ww => ww.cell? ⟨bw, ow + 1, none⟩ = some (.string s1) ∧ ww.cell? ⟨bn, on, none⟩ = some (.int .i64 n0)) (first | with_reducible exact HS.out _ K | with_reducible exact HS.out _ (Below.drew K)) (first | (go_at_call 77; replace K := Below.drew K; (with_reducible refine (fewL_impl _ s1 hz n0).mono ?_); rintro e w2 ⟨rfl, hb2⟩; replace K := below_step K hb2; clear hb2))) | fail
  all_goals
    clear w1 k0
    obtain ⟨l, hl⟩ : ∃ l, (loadR s1 n0).1 = l := ⟨_, rfl⟩
    obtain ⟨cd, hc⟩ : ∃ c, (loadR s1 n0).2 = c := ⟨_, rfl⟩
    have HR := hd (show (d, [orS (decS (loadR s1 n0).1)], (loadR s1 n0).2) = (d, [orS (decS l)], cd) by rw [hl, hc])
    rw [hl] at HBD
    rw [hl, hc]
    clear hl hc
    have HNU := hd (dec_impl w2 l (by have := HBD.out; omega) (HSH.out _ K).1)
    clear HBD
    go_wp2_with fail
    refine HNU.out.mono ?_
    rintro e w3 ⟨rfl, hb3⟩
    replace K := below_step K hb3
    clear HNU hb3
    go_wp2_with fail
    refine (or_impl _ _).mono ?_
    rintro e w4 ⟨v4, rfl, O4, hb4⟩
    have O5 := O4.base K.size
    replace K := below_step K hb4
    obtain ⟨A4, c4, rfl⟩ := O4.isSlice
    go_wp2_with fail
    go_ret2
    exact exec_same HD.out K O5 HR.out
set_option maxRecDepth 100000 in
set_option maxHeartbeats 8000000 in
theorem exec_burn (w : World) (B g : Nat) (d : TDk) (hD : DeskOwn w B g d) (vW vN : Value) (s1 s2 s3 s4 : ByteArray) (n0 n1 n2 n3 : Int) (hW : Sl w 1 vW eS [⟨#[98, 117, 114, 110]⟩, s1, s2, s3, s4]) (hN : Sl w 1 vN eI [n0, n1, n2, n3]) (hsh : Shop w) :
    Calls Tryz.prog 34 #[.pointer (some ⟨g, 0, none⟩), vW, vN] w (ExecTo B g w (d, [orS (lampR n0 n1 n2 n3).1], (lampR n0 n1 n2 n3).2)) := by
  obtain ⟨bw, ow, cw, rfl, -, -, hw⟩ := hW.strs (Nat.succ_pos _)
  obtain ⟨bn, on, cn, rfl, -, hn⟩ := hN.ints (Nat.succ_pos _)
  have w0 := hw 0 _ rfl
  rw [Nat.add_zero] at w0
  have k0 := hn 0 _ rfl
  rw [Nat.add_zero] at k0
  have k1 := hn 1 _ rfl
  have k2 := hn 2 _ rfl
  have k3 := hn 3 _ rfl
  have HD := hd hD
  have HSH := hd hsh.at_
  have HS := hd (show ∀ W, Below w.heap.size w W → W.cell? ⟨bn, on, none⟩ = some (.int .i64 n0) ∧ W.cell? ⟨bn, on + 1, none⟩ = some (.int .i64 n1) ∧ W.cell? ⟨bn, on + 2, none⟩ = some (.int .i64 n2) ∧ W.cell? ⟨bn, on + 3, none⟩ = some (.int .i64 n3) from fun W hb => ⟨cell_below k0 W hb, cell_below k1 W hb, cell_below k2 W hb, cell_below k3 W hb⟩)
  have K := Below.refl w.heap.size w
  clear hD hW hN hw hn hsh
  go_enter Tryz.func34, Tryz.ntmps34
  go_wp2_with fail
  clear w0
  first | (go_region_held3 (fun ww => ww.cell? ⟨bn, on, none⟩ = some (.int .i64 n0) ∧ ww.cell? ⟨bn, on + 1, none⟩ = some (.int .i64 n1) ∧ ww.cell? ⟨bn, on + 2, none⟩ = some (.int .i64 n2) ∧ ww.cell? ⟨bn, on + 3, none⟩ = some (.int .i64 n3)) (first | with_reducible exact HS.out _ K | with_reducible exact HS.out _ (Below.drew K)) (first | (go_at_call 78; replace K := Below.drew K; (with_reducible refine (lamp_impl _ n0 n1 n2 n3).mono ?_); rintro e w2 ⟨rfl, hb2⟩; replace K := below_step K hb2; clear hb2))) | fail
  all_goals
    clear k0 k1 k2 k3
    obtain ⟨l, hl⟩ : ∃ l, (lampR n0 n1 n2 n3).1 = l := ⟨_, rfl⟩
    obtain ⟨cd, hc⟩ : ∃ c, (lampR n0 n1 n2 n3).2 = c := ⟨_, rfl⟩
    have HR := hd (show (d, [orS (lampR n0 n1 n2 n3).1], (lampR n0 n1 n2 n3).2) = (d, [orS l], cd) by rw [hl, hc])
    rw [hl, hc]
    clear hl hc
    go_wp2_with fail
    refine (or_impl _ _).mono ?_
    rintro e w4 ⟨v4, rfl, O4, hb4⟩
    have O5 := O4.base K.size
    replace K := below_step K hb4
    obtain ⟨A4, c4, rfl⟩ := O4.isSlice
    go_wp2_with fail
    go_ret2
    exact exec_same HD.out K O5 HR.out
end Go.Proofs.YtgcodjkjdfahdaaGreatDoor

/- The command 'title': the program's execute. No condition but that the tables lie as they are laid. -/
namespace Go.Proofs.YtgcodjkjdfahdaaGreatDoor
open Go Go.RowKit Go.ChangeShapes Go.WideShapes
set_option linter.unusedSimpArgs false
set_option linter.unusedVariables false
def titleG (d : TDk) (r : List TTitle × Int) : TRes := if r.2 = 0 then ((d.1, d.2.1, r.1, d.2.2.2), [orS (textD d.1 d.2.1 r.1 d.2.2.2)], 0) else (d, [], r.2)
def titleX (d : TDk) (s : ByteArray) : TRes := if rtB s = true then titleG d (addTR d.2.2.1 (rtV s)) else (d, [], 7)
theorem title_new4 (w : World) (a : Int) (b : ByteArray) (c e : Int) (T : TypeId) : (w.alloc (.cells #[.int .i64 a, .string b, .int .i64 c, .int .i64 e] T)).cell? ⟨w.heap.size, 0, none⟩ = some (.int .i64 a) ∧ (w.alloc (.cells #[.int .i64 a, .string b, .int .i64 c, .int .i64 e] T)).cell? ⟨w.heap.size, 1, none⟩ = some (.string b) ∧ (w.alloc (.cells #[.int .i64 a, .string b, .int .i64 c, .int .i64 e] T)).cell? ⟨w.heap.size, 2, none⟩ = some (.int .i64 c) ∧ (w.alloc (.cells #[.int .i64 a, .string b, .int .i64 c, .int .i64 e] T)).cell? ⟨w.heap.size, 3, none⟩ = some (.int .i64 e) :=
  ⟨new_cell w _ T 0 _ rfl, new_cell w _ T 1 _ rfl, new_cell w _ T 2 _ rfl, new_cell w _ T 3 _ rfl⟩
set_option maxRecDepth 100000 in
set_option maxHeartbeats 8000000 in
theorem exec_title (w : World) (B g : Nat) (d : TDk) (hD : DeskOwn w B g d) (hp : d.1.size ≤ 1048576) (hq : d.2.2.2.size ≤ 1048576) (vW vN : Value) (ws : List ByteArray) (hW : Sl w 1 vW eS (⟨#[116, 105, 116, 108, 101]⟩ :: ws)) (hws : 0 < ws.length) (hwn : ws.length ≤ 1048576) (hwz : ∀ x ∈ ws, x.size ≤ 1048576) (hj : (joinS ⟨#[32]⟩ ws).size ≤ 1048576) (hN : Sl w 1 vN eI []) (hsh : ShopB B w) :
    Calls Tryz.prog 34 #[.pointer (some ⟨g, 0, none⟩), vW, vN] w (ExecTo B g w (titleX d (joinS ⟨#[32]⟩ ws))) := by
  obtain ⟨bw, ow, cw, rfl, -, hcw, hw⟩ := hW.strs (Nat.succ_pos _)
  obtain ⟨bn, cn, rfl⟩ := hN.isSlice
  have w0 := hw 0 _ rfl
  rw [Nat.add_zero] at w0
  have hcw' : ws.length + 1 ≤ cw := hcw
  have hcm : cw ≤ 9223372036854775807 := by
    obtain ⟨-, A', c', hv, -, h5, -⟩ := id hW
    injection hv with _ _ e
    rw [e]
    exact h5
  have SW := Sl.droppedT hW 1 (by simp) (by omega)
  have hl1 : (⟨#[116, 105, 116, 108, 101]⟩ :: ws).length = ws.length + 1 := rfl
  rw [hl1, List.drop_succ_cons, List.drop_zero, Nat.add_sub_cancel, Nat.mul_one] at SW
  obtain ⟨v1, v2, DA, hfr, hBg, O1, O2, a1, a2, a3⟩ := id hD
  have hB : B ≤ w.heap.size := Nat.le_trans hBg (Nat.le_of_lt DA.1)
  have HJ := hd (fun (v : Value) (h : Sl w 1 v eS ws) => join_impl w v ws ⟨#[32]⟩ h hwn (Nat.le_refl _) hwz (by decide))
  clear hwn hwz
  obtain ⟨s, hs⟩ : ∃ s, joinS ⟨#[32]⟩ ws = s := ⟨_, rfl⟩
  rw [hs] at hj HJ ⊢
  clear hs
  rw [hl1]
  have HSW := hd SW
  have hs1 : 1 ≤ cw := by omega
  clear hw hN SW hl1 hW hcw
  go_enter Tryz.func34, Tryz.ntmps34
  go_wp2_with fail
  have HSH := hd hsh
  refine (HJ.out _ HSW.out).mono ?_
  rintro e w1 ⟨rfl, hb1⟩
  have HD1 := hd (hD.below hb1)
  have B1 : Below B w w1 := hb1.mono hB
  clear HJ HSW hb1 hD DA hfr O1 O2 a1 a2 a3 w0
  go_wp2_with fail
  refine (readT_impl w1 s hj (HSH.out.keep B1).shop).mono ?_
  rintro e w2 ⟨rfl, hb2⟩
  have hB1 : B ≤ w1.heap.size := Nat.le_trans hB B1.size
  have HD2 := hd (HD1.out.below hb2)
  have B2 := B1.trans (hb2.mono hB1)
  clear hb2 HD1
  rcases ho : rtB s with _ | _
  · have HR := hd (show titleX d s = (d, [], 7) by unfold titleX; rw [ho]; rfl)
    obtain ⟨xa, xb, xc, xd, hx⟩ : ∃ xa xb xc xd, rtV s = (xa, xb, xc, xd) := ⟨_, _, _, _, rfl⟩
    rw [hx]
    have B3 := B2.alloc (Nat.le_trans hB B2.size) (.cells #[.int .i64 xa, .string xb, .int .i64 xc, .int .i64 xd] 95)
    go_wp2_with fail
    go_ret2
    exact exec_err B3 (by decide) HR.out
  have HR := hd (show titleX d s = titleG d (addTR d.2.2.1 (rtV s)) by unfold titleX; rw [if_pos ho])
  obtain ⟨xa, xb, xc, xd, hx⟩ : ∃ xa xb xc xd, rtV s = (xa, xb, xc, xd) := ⟨_, _, _, _, rfl⟩
  rw [hx] at HR ⊢
  have hB2 : B ≤ w2.heap.size := Nat.le_trans hB B2.size
  have B3 := B2.alloc hB2 (.cells #[.int .i64 xa, .string xb, .int .i64 xc, .int .i64 xd] 95)
  have HD3 := hd (HD2.out.below ((Below.refl w2.heap.size w2).alloc (Nat.le_refl _) (.cells #[.int .i64 xa, .string xb, .int .i64 xc, .int .i64 xd] 95)))
  obtain ⟨t0, t1, t2, t3⟩ := title_new4 w2 xa xb xc xd 95
  have hlt3 : w2.heap.size < (w2.alloc (.cells #[.int .i64 xa, .string xb, .int .i64 xc, .int .i64 xd] 95)).heap.size := by simp
  clear ho hx HD2
  go_wp2_with fail
  generalize w2.alloc (.cells #[.int .i64 xa, .string xb, .int .i64 xc, .int .i64 xd] 95) = W at B3 HD3 t0 t1 t2 t3 hlt3 ⊢
  obtain ⟨v1, v2, DA, hfr, hBg, O1, O2, a1, a2, a3⟩ := HD3.out
  have ST := O2.sl eTitle_len
  obtain ⟨A2, c2, rfl⟩ := O2.isSlice
  have HST := hd (show ∀ ww, Below W.heap.size W ww → Sl ww 4 (.slice A2 d.2.2.1.length c2) eTitle d.2.2.1 from fun ww K => ST.below K)
  obtain ⟨hg, -, -, d2, -⟩ := DA
  have HS := hd (show ∀ ww, Below W.heap.size W ww → ww.cell? ⟨g, 2, none⟩ = some (.slice A2 d.2.2.1.length c2) ∧ ww.cell? ⟨w2.heap.size, 0, none⟩ = some (.int .i64 xa) ∧ ww.cell? ⟨w2.heap.size, 1, none⟩ = some (.string xb) ∧ ww.cell? ⟨w2.heap.size, 2, none⟩ = some (.int .i64 xc) ∧ ww.cell? ⟨w2.heap.size, 3, none⟩ = some (.int .i64 xd) from fun ww K => ⟨cell_below d2 ww K, cell_below t0 ww K, cell_below t1 ww K, cell_below t2 ww K, cell_below t3 ww K⟩)
  have K := Below.refl W.heap.size W
  clear hfr O1 O2 a1 a2 a3 ST d2 t0 t1 t2 t3
  go_region_held3 (fun ww => ww.cell? ⟨g, 2, none⟩ = some (.slice A2 d.2.2.1.length c2) ∧ ww.cell? ⟨w2.heap.size, 0, none⟩ = some (.int .i64 xa) ∧ ww.cell? ⟨w2.heap.size, 1, none⟩ = some (.string xb) ∧ ww.cell? ⟨w2.heap.size, 2, none⟩ = some (.int .i64 xc) ∧ ww.cell? ⟨w2.heap.size, 3, none⟩ = some (.int .i64 xd)) (first | with_reducible exact HS.out _ K | with_reducible exact HS.out _ (Below.drew K)) (first | (go_at_call 81; replace K := Below.drew K; (with_reducible refine (addT_impl _ _ _ (HST.out _ K) xa xb xc xd).mono ?_); rintro e w5 ⟨v5, rfl, O5, hb5⟩; obtain ⟨A5, c5, rfl⟩ := O5.isSlice; replace K := below_step K hb5; clear hb5))
  clear HS HST
  obtain ⟨L, cd, hr⟩ : ∃ L cd, addTR d.2.2.1 (xa, xb, xc, xd) = (L, cd) := ⟨_, _, rfl⟩
  rw [hr] at HR O5 ⊢
  clear hr
  have hBW : B ≤ W.heap.size := Nat.le_trans hB B3.size
  have B5 := B3.trans (K.mono hBW)
  have HD5 := hd (HD3.out.below K)
  have O6 := O5.base hBW
  have hat : ∀ k, (Value.slice A5 L.length c5).ownBlock = some k → W.heap.size ≤ k := fun k e => (O5.lt k e).1
  clear O5 HD3 hlt3 K B3
  by_cases hc : cd = 0
  · have HR2 := hd (show titleX d s = ((d.1, d.2.1, L, d.2.2.2), [orS (textD d.1 d.2.1 L d.2.2.2)], 0) by rw [HR.out]; unfold titleG; rw [if_pos hc])
    subst hc
    obtain ⟨v1, v2', DA, hfr, hBg, O1, O2, a1, a2, a3⟩ := HD5.out
    have DZ := desk_set2 DA hfr (.slice A5 L.length c5) rfl
    have P1 := own_set O1 a1 2 (.slice A5 L.length c5)
    have P2 := O6.grown (grownBy_set w5 ⟨g, 2, none⟩ (.slice A5 L.length c5)) (.inr (fun e => by have := hat g e; omega))
    have BZ := B5.setCell (p := ⟨g, 2, none⟩) hBg (.slice A5 L.length c5)
    have HZ := hd ((HSH.out.keep BZ).shop)
    obtain ⟨A1, c1, rfl⟩ := O1.isSlice
    have f2 := hfr 2
    obtain ⟨hg5, d0, d1, d2, d3⟩ := DA
    clear O1 O2 O6 a1 a2 a3 hfr HD5 hat
    go_wp2_with fail
    clear d0 d1 d2 d3 f2
    generalize w5.setCell ⟨g, 2, none⟩ (.slice A5 L.length c5) = Z at DZ P1 P2 BZ HZ ⊢
    refine (text_impl Z d.1 d.2.2.2 _ _ d.2.1 L (P1.sl eCue_len) (P2.sl eTitle_len) hp hq HZ.out).mono ?_
    rintro e w6 ⟨rfl, hb6⟩
    have HR3 := hd HR2.out
    obtain ⟨tx, htx⟩ : ∃ tx, textD d.1 d.2.1 L d.2.2.2 = tx := ⟨_, rfl⟩
    have HR3 := hd (show titleX d s = ((d.1, d.2.1, L, d.2.2.2), [orS tx], 0) by rw [HR2.out, htx])
    rw [htx]
    clear htx
    have hBZ : B ≤ Z.heap.size := Nat.le_trans hB BZ.size
    go_wp2_with fail
    refine (or_impl _ _).mono ?_
    rintro e w7 ⟨v7, rfl, O7, hb7⟩
    have hb8 := below_step hb6 hb7
    have O8 := O7.base (Nat.le_trans hBZ hb6.size)
    obtain ⟨A7, c7, rfl⟩ := O7.isSlice
    go_wp2_with fail
    go_ret2
    exact exec_to (d := (d.1, d.2.1, L, d.2.2.2)) (BZ.trans (hb8.mono hBZ)) O8 (DZ.below hb8) (P1.below hb8 (Nat.le_refl _)) (P2.below hb8 (Nat.le_refl _)) HR3.out
  · have HR2 := hd (show titleX d s = (d, [], cd) by rw [HR.out]; unfold titleG; rw [if_neg hc])
    have kc : (cd != 0) = true := by simpa using hc
    have HC := hd hc
    clear hc
    go_wp2_with fail
    go_ret2
    exact exec_err B5 HC.out HR2.out
end Go.Proofs.YtgcodjkjdfahdaaGreatDoor

/- The command 'enter': the program's execute. No condition but that the tables lie as they are laid. -/
namespace Go.Proofs.YtgcodjkjdfahdaaGreatDoor
open Go Go.RowKit Go.ChangeShapes Go.WideShapes
set_option linter.unusedSimpArgs false
set_option linter.unusedVariables false
def enterG (d : TDk) (t : ByteArray) (r : ByteArray × Int) : TRes := if r.2 = 0 then ((d.1, d.2.1, d.2.2.1, r.1), [orS (decS (sumI (valR r.1 t).1))], (valR r.1 t).2) else (d, [], r.2)
def enterX (d : TDk) (a : Int) (t : ByteArray) (b : Int) : TRes := enterG d t (addR d.2.2.2 (a, t, b))
theorem addR_size {s : ByteArray} {x : TEntry} (h : (addR s x).2 = 0) : (addR s x).1.size ≤ 4000 := by
  unfold addR at h ⊢
  split at h
  · rename_i h0
    rw [if_pos h0]
    unfold addG at h ⊢
    by_cases h1 : okEntryB x = true
    · rw [if_pos h1] at h ⊢
      by_cases h2 : dayOf (readL s).l ≤ x.1
      · rw [if_pos h2] at h ⊢
        by_cases h3 : (s ++ lineS (stampN (readL s).st (wordsE x)) x).size ≤ 4000
        · rw [if_pos h3]; exact h3
        · rw [if_neg h3]; exact Nat.zero_le _
      · rw [if_neg h2]; exact Nat.zero_le _
    · rw [if_neg h1]; exact Nat.zero_le _
  · rename_i h0
    rw [if_neg h0]; exact Nat.zero_le _
theorem wrap_bd (n : Int) : -9223372036854775808 ≤ wrap64 n ∧ wrap64 n ≤ 9223372036854775807 := by unfold wrap64; omega
theorem sumF_bd (l : List Int) : ∀ a : Int, (-9223372036854775808 ≤ a ∧ a ≤ 9223372036854775807) → -9223372036854775808 ≤ l.foldl (fun s x => wrap64 (s + x)) a ∧ l.foldl (fun s x => wrap64 (s + x)) a ≤ 9223372036854775807 := by
  induction l with
  | nil => exact fun a h => h
  | cons x l ih => exact fun a _ => ih _ (wrap_bd _)
theorem sumI_bd (l : List Int) : -9223372036854775808 ≤ sumI l ∧ sumI l ≤ 9223372036854775807 := sumF_bd l 0 (by omega)
set_option maxRecDepth 100000 in
set_option maxHeartbeats 8000000 in
theorem exec_enter (w : World) (B g : Nat) (d : TDk) (hD : DeskOwn w B g d) (hq : d.2.2.2.size ≤ 1048576) (vW vN : Value) (s1 s2 s3 : ByteArray) (n0 n1 : Int) (hz : s2.size ≤ 1048576) (hW : Sl w 1 vW eS [⟨#[101, 110, 116, 101, 114]⟩, s1, s2, s3]) (hN : Sl w 1 vN eI [n0, n1]) (hbw : ∀ b, vW.ownBlock = some b → b < B) (hsh : ShopB B w) :
    Calls Tryz.prog 34 #[.pointer (some ⟨g, 0, none⟩), vW, vN] w (ExecTo B g w (enterX d n0 s2 n1)) := by
  obtain ⟨bw, ow, cw, rfl, -, -, hw⟩ := hW.strs (Nat.succ_pos _)
  obtain ⟨bn, on, cn, rfl, -, hn⟩ := hN.ints (Nat.succ_pos _)
  have w0 := hw 0 _ rfl
  rw [Nat.add_zero] at w0
  have w2 := hw 2 _ rfl
  have k0 := hn 0 _ rfl
  rw [Nat.add_zero] at k0
  have k1 := hn 1 _ rfl
  have hbB := hbw bw rfl
  obtain ⟨v1, v2, DA, hfr, hBg, O1, O2, a1, a2, a3⟩ := id hD
  have hB : B ≤ w.heap.size := Nat.le_trans hBg (Nat.le_of_lt DA.1)
  obtain ⟨hg, -, -, -, d3⟩ := DA
  have HS := hd (show ∀ W, Below w.heap.size w W → W.cell? ⟨g, 3, none⟩ = some (.string d.2.2.2) ∧ W.cell? ⟨bn, on, none⟩ = some (.int .i64 n0) ∧ W.cell? ⟨bw, ow + 2, none⟩ = some (.string s2) ∧ W.cell? ⟨bn, on + 1, none⟩ = some (.int .i64 n1) from fun W hb => ⟨cell_below d3 W hb, cell_below k0 W hb, cell_below w2 W hb, cell_below k1 W hb⟩)
  have HWB := hd (show ∀ W, Below B w W → W.cell? ⟨bw, ow + 2, none⟩ = some (.string s2) from fun W hb => (hb.cell (p := ⟨bw, ow + 2, none⟩) hbB).trans w2)
  have HD := hd hD
  have HSH := hd hsh
  have K := Below.refl w.heap.size w
  clear hD hW hN hw hn hsh hfr O1 O2 a1 a2 a3 hbw
  have HSZ := hd (addR_size (s := d.2.2.2) (x := (n0, s2, n1)))
  obtain ⟨q', cd, hr⟩ : ∃ q' cd, addR d.2.2.2 (n0, s2, n1) = (q', cd) := ⟨_, _, rfl⟩
  have HAD := hd (show ∀ W, Below w.heap.size w W → Calls Tryz.prog 84 #[.string d.2.2.2, .agg #[.int .i64 n0, .string s2, .int .i64 n1]] W fun e w' => e = .returned (.tuple #[.string q', .int .i64 cd]) ∧ Below W.heap.size W w' from fun W hb => by
    have := add_impl W d.2.2.2 n0 s2 n1 hq (HSH.out.keep (hb.mono hB)).shop
    rw [hr] at this
    exact this)
  have HE := hd (show enterX d n0 s2 n1 = enterG d s2 (q', cd) by unfold enterX; rw [hr])
  rw [hr] at HSZ
  clear hr
  go_enter Tryz.func34, Tryz.ntmps34
  go_wp2_with fail
  clear w0
  go_region_held3 (fun ww => ww.cell? ⟨g, 3, none⟩ = some (.string d.2.2.2) ∧ ww.cell? ⟨bn, on, none⟩ = some (.int .i64 n0) ∧ ww.cell? ⟨bw, ow + 2, none⟩ = some (.string s2) ∧ ww.cell? ⟨bn, on + 1, none⟩ = some (.int .i64 n1)) (first | with_reducible exact HS.out _ K | with_reducible exact HS.out _ (Below.drew K)) (first | (go_at_call 84; replace K := Below.drew K; (with_reducible refine (HAD.out _ K).mono ?_); rintro e w5 ⟨rfl, hb5⟩; replace K := below_step K hb5; clear hb5))
  clear HAD HS d3 k0 k1 w2
  have B5 := K.mono hB
  have HD5 := hd (HD.out.below K)
  by_cases hc : cd = 0
  case neg =>
    have HR2 := hd (show enterX d n0 s2 n1 = (d, [], cd) by rw [HE.out]; unfold enterG; rw [if_neg hc])
    have kc : (cd != 0) = true := by simpa using hc
    have HC := hd hc
    clear hc
    go_wp2_with fail
    go_ret2
    exact exec_err B5 HC.out HR2.out
  subst hc
  have hz4 := HSZ.out rfl
  have HR2 := hd (show enterX d n0 s2 n1 = ((d.1, d.2.1, d.2.2.1, q'), [orS (decS (sumI (valR q' s2).1))], (valR q' s2).2) by rw [HE.out]; unfold enterG; rw [if_pos rfl])
  obtain ⟨v1, v2, DA, hfr, -, O1, O2, a1, a2, a3⟩ := HD5.out
  have DZ := desk_set3 DA hfr q'
  have P1 := own_set O1 a1 3 (.string q')
  have P2 := own_set O2 a2 3 (.string q')
  have BZ := B5.setCell (p := ⟨g, 3, none⟩) hBg (.string q')
  have f3 := hfr 3
  obtain ⟨hg5, -, -, -, d3⟩ := DA
  have w2 := HWB.out _ BZ
  have HW2 := hd w2
  clear w2 hfr O1 O2 a1 a2 a3 HD5 HD K HSZ HE
  go_wp2_with fail
  clear d3 f3
  have w2 := HW2.out
  generalize w5.setCell ⟨g, 3, none⟩ (.string q') = Z at DZ P1 P2 BZ w2 ⊢
  clear HW2
  have d3 := DZ.2.2.2.2
  have HS := hd (show ∀ W, Below Z.heap.size Z W → W.cell? ⟨g, 3, none⟩ = some (.string q') ∧ W.cell? ⟨bw, ow + 2, none⟩ = some (.string s2) from fun W hb => ⟨cell_below d3 W hb, cell_below w2 W hb⟩)
  have K := Below.refl Z.heap.size Z
  have hBZ : B ≤ Z.heap.size := Nat.le_trans hB BZ.size
  have HZS := hd (show ∀ W, Below Z.heap.size Z W → Shop W from fun W hb => (HSH.out.keep (BZ.trans (hb.mono hBZ))).shop)
  go_region_held3 (fun ww => ww.cell? ⟨g, 3, none⟩ = some (.string q') ∧ ww.cell? ⟨bw, ow + 2, none⟩ = some (.string s2)) (first | with_reducible exact HS.out _ K | with_reducible exact HS.out _ (Below.drew K)) (first | (go_at_call 85; replace K := Below.drew K; (with_reducible refine (val_impl _ q' s2 (Nat.le_trans hz4 (by decide)) (Nat.le_trans hz (by decide)) (HZS.out _ K)).mono ?_); rintro e w6 ⟨v6, rfl, O6, hb6⟩; obtain ⟨A6, c6, rfl⟩ := O6.isSlice; replace K := below_step K hb6; clear hb6))
  have SL := O6.sl eI_len
  clear O6 HS d3 w2
  obtain ⟨l, hl⟩ : ∃ l, (valR q' s2).1 = l := ⟨_, rfl⟩
  obtain ⟨c, hcc⟩ : ∃ c, (valR q' s2).2 = c := ⟨_, rfl⟩
  have HR3 := hd (show enterX d n0 s2 n1 = ((d.1, d.2.1, d.2.2.1, q'), [orS (decS (sumI l))], c) by rw [HR2.out, hl, hcc])
  rw [hl] at SL ⊢
  rw [hcc]
  clear hl hcc HR2
  have HSU := hd (sum_impl w6 _ l SL)
  have HDC := hd (dec_impl w6 (sumI l) (sumI_bd l) (HZS.out _ K).1)
  clear SL
  go_wp2_with fail
  refine HSU.out.mono ?_
  rintro e wx ⟨rfl, hw⟩
  have hw := hw.symm
  subst hw
  go_wp2_with fail
  refine HDC.out.mono ?_
  rintro e w7 ⟨rfl, hb7⟩
  replace K := below_step K hb7
  go_wp2_with fail
  refine (or_impl _ _).mono ?_
  rintro e w8 ⟨v8, rfl, O8, hb8⟩
  have O9 := O8.base (Nat.le_trans hBZ K.size)
  replace K := below_step K hb8
  obtain ⟨A8, c8, rfl⟩ := O8.isSlice
  go_wp2_with fail
  go_ret2
  exact exec_to (d := (d.1, d.2.1, d.2.2.1, q')) (BZ.trans (K.mono hBZ)) O9 (DZ.below K) (P1.below K (Nat.le_refl _)) (P2.below K (Nat.le_refl _)) HR3.out
end Go.Proofs.YtgcodjkjdfahdaaGreatDoor
