/- Lemmas for the claim (the walks of its functions and their plain laws), joined. No condition. -/
import Derived.Test.YtgcodjkjdfahdaaGreatDoorJ41
import Derived.Test.YtgcodjkjdfahdaaGreatDoorJ28
import Derived.Test.YtgcodjkjdfahdaaGreatDoorJ33
import Derived.Test.YtgcodjkjdfahdaaGreatDoorJ40
import Derived.Test.YtgcodjkjdfahdaaGreatDoorJ11
namespace Go.Proofs.YtgcodjkjdfahdaaGreatDoor
open Go Go.RowKit Go.ChangeShapes Go.WideShapes
set_option linter.unusedSimpArgs false
set_option linter.unusedVariables false
set_option maxRecDepth 100000 in
set_option maxHeartbeats 8000000 in
theorem q_seen (W : World) (B g : Nat) (d : TDk) (vo : Value) (L : List ByteArray) (n0 n1 : Int) (ts : List ByteArray) (hS : SAt W B g d vo L) (hN : NT W B g [n0, n1] ts) (hL : L.length ≤ 1000000) :
    Calls Tryz.prog 107 #[.pointer (some ⟨g, 0, none⟩)] W fun e W' => e = .returned (.tuple #[]) ∧ SRes B g vo W d (L ++ [lineC (seenR n0 n1).2 (orS (numsS ⟨#[32]⟩ (seenR n0 n1).1))]) W' := by
  have HD := hd hS
  obtain ⟨vn, vt, c5, c6, O5, O6, -, -⟩ := id hN
  obtain ⟨bn, on, cn, rfl, -, hn⟩ := (O5.sl eI_len).ints (Nat.succ_pos _)
  replace c5 : W.cell? ⟨g, 5, none⟩ = some (.slice (some ⟨bn, on, none⟩) 2 cn) := c5
  have k0 := hn 0 _ rfl
  rw [Nat.add_zero] at k0
  have k1 := hn 1 _ rfl
  have HS := hd (show ∀ ww, Below W.heap.size W ww → ww.cell? ⟨g, 5, none⟩ = some (.slice (some ⟨bn, on, none⟩) 2 cn) ∧ ww.cell? ⟨bn, on, none⟩ = some (.int .i64 n0) ∧ ww.cell? ⟨bn, on + 1, none⟩ = some (.int .i64 n1) from fun V hb => ⟨cell_below c5 V hb, cell_below k0 V hb, cell_below k1 V hb⟩)
  have K := Below.refl W.heap.size W
  clear hN O5 O6 hS hn c6
  have HB := hd (show (∀ x ∈ (seenR n0 n1).1, -9223372036854775808 ≤ x ∧ x ≤ 9223372036854775807) ∧ (seenR n0 n1).1.length ≤ 1000 from ⟨fun x hx => by have := seenR_mem n0 n1 x hx; omega, Nat.le_trans (seenR_len n0 n1) (by decide)⟩)
  go_enter Tryz.func107, Tryz.ntmps107
  go_wp2_with fail
  first | (go_region_held3 (fun ww => ww.cell? ⟨g, 5, none⟩ = some (.slice (some ⟨bn, on, none⟩) 2 cn) ∧ ww.cell? ⟨bn, on, none⟩ = some (.int .i64 n0) ∧ ww.cell? ⟨bn, on + 1, none⟩ = some (.int .i64 n1)) (first | with_reducible exact HS.out _ K | with_reducible exact HS.out _ (Below.drew K)) (first | (go_at_call 177; replace K := Below.drew K; (with_reducible refine (seen_spec _ n0 n1).mono ?_); rintro e w2 ⟨v2, rfl, O2, hb2⟩; obtain ⟨A2, c2, rfl⟩ := O2.isSlice; replace K := below_step K hb2; clear hb2))) | fail
  all_goals
    clear c5 k0 k1
    have SL := O2.sl eI_len
    clear O2
    have HD2 := hd (HD.out.below K)
    obtain ⟨l, hl⟩ : ∃ l, (seenR n0 n1).1 = l := ⟨_, rfl⟩
    obtain ⟨cd, hc⟩ : ∃ c, (seenR n0 n1).2 = c := ⟨_, rfl⟩
    have HR := hd (show L ++ [lineC (seenR n0 n1).2 (orS (numsS ⟨#[32]⟩ (seenR n0 n1).1))] = L ++ [lineC cd (orS (numsS ⟨#[32]⟩ l))] by rw [hl, hc])
    rw [hl] at SL HB ⊢
    rw [hc]
    clear hl hc
    by_cases hz : cd = 0
    · subst hz
      go_wp2_with fail
      refine (report_ok w2 g).mono ?_
      rintro e ww ⟨rfl, hw⟩
      have hw := hw.symm
      subst hw
      go_wp2_with fail
      refine (row_spec w2 B g d vo L HD2.out hL _ l SL HB.out.2 HB.out.1).mono ?_
      rintro e w3 ⟨rfl, hr⟩
      go_wp2_with fail
      go_end0
      exact ⟨rfl, sres_eq (hr.pre K) (by rw [HR.out, lineC_ok])⟩
    · have HE := hd (report_err w2 B g d vo L HD2.out hL cd hz)
      have HZ := hd (lineC_err hz (orS (numsS ⟨#[32]⟩ l)))
      clear hz
      go_wp2_with fail
      refine HE.out.mono ?_
      rintro e w3 ⟨rfl, hr⟩
      go_wp2_with fail
      go_end0
      exact ⟨rfl, sres_eq (hr.pre K) (by rw [HR.out, HZ.out])⟩
set_option maxRecDepth 100000 in
set_option maxHeartbeats 8000000 in
theorem q_shows (W : World) (B g : Nat) (d : TDk) (vo : Value) (L : List ByteArray) (hp : d.1.size ≤ 1048576) (n0 : Int) (ts : List ByteArray) (hS : SAt W B g d vo L) (hN : NT W B g [n0] ts) (hL : L.length ≤ 1000000) :
    Calls Tryz.prog 109 #[.pointer (some ⟨g, 0, none⟩)] W fun e W' => e = .returned (.tuple #[]) ∧ SRes B g vo W d (L ++ [lineC (motR d.1 n0).2 (orS (motR d.1 n0).1)]) W' := by
  have HD := hd hS
  obtain ⟨vn, vt, c5, c6, O5, O6, -, -⟩ := id hN
  obtain ⟨v1, v2, ⟨-, x0, x1, x2, x3⟩, P1, P2, -⟩ := hS.desk
  obtain ⟨bn, on, cn, rfl, -, hn⟩ := (O5.sl eI_len).ints (Nat.succ_pos _)
  replace c5 : W.cell? ⟨g, 5, none⟩ = some (.slice (some ⟨bn, on, none⟩) 1 cn) := c5
  have k0 := hn 0 _ rfl
  rw [Nat.add_zero] at k0
  have HS := hd (show ∀ ww, Below W.heap.size W ww → ww.cell? ⟨g, 0, none⟩ = some (.string d.1) ∧ ww.cell? ⟨g, 5, none⟩ = some (.slice (some ⟨bn, on, none⟩) 1 cn) ∧ ww.cell? ⟨bn, on, none⟩ = some (.int .i64 n0) from fun V hb => ⟨cell_below x0 V hb, cell_below c5 V hb, cell_below k0 V hb⟩)
  have K := Below.refl W.heap.size W
  clear hN O5 O6 hS hn c6 P1 P2 x1 x2 x3
  go_enter Tryz.func109, Tryz.ntmps109
  go_wp2_with fail
  first | (go_region_held3 (fun ww => ww.cell? ⟨g, 0, none⟩ = some (.string d.1) ∧ ww.cell? ⟨g, 5, none⟩ = some (.slice (some ⟨bn, on, none⟩) 1 cn) ∧ ww.cell? ⟨bn, on, none⟩ = some (.int .i64 n0)) (first | with_reducible exact HS.out _ K | with_reducible exact HS.out _ (Below.drew K)) (first | (go_at_call 180; replace K := Below.drew K; (with_reducible refine (mof_spec _ d.1 hp n0).mono ?_); rintro e w2 ⟨rfl, hb2⟩; replace K := below_step K hb2; clear hb2))) | fail
  all_goals
    clear x0 c5 k0
    have HD2 := hd (HD.out.below K)
    obtain ⟨l, hl⟩ : ∃ l, (motR d.1 n0).1 = l := ⟨_, rfl⟩
    obtain ⟨cd, hc⟩ : ∃ c, (motR d.1 n0).2 = c := ⟨_, rfl⟩
    have HR := hd (show L ++ [lineC (motR d.1 n0).2 (orS (motR d.1 n0).1)] = L ++ [lineC cd (orS l)] by rw [hl, hc])
    rw [hl, hc]
    clear hl hc
    go_wp2_with fail
    refine (text_spec28 w2 B g d vo L HD2.out hL l cd).mono ?_
    rintro e w3 ⟨rfl, hr⟩
    go_wp2_with fail
    go_end0
    exact ⟨rfl, sres_eq (hr.pre K) HR.out.symm⟩
set_option maxRecDepth 100000 in
set_option maxHeartbeats 8000000 in
theorem q_fewest (W : World) (B g : Nat) (d : TDk) (vo : Value) (L : List ByteArray) (s0 : ByteArray) (hz : s0.size ≤ 1048576) (ns : List Int) (hS : SAt W B g d vo L) (hN : NT W B g ns [s0]) (hL : L.length ≤ 1000000) :
    Calls Tryz.prog 102 #[.pointer (some ⟨g, 0, none⟩)] W fun e W' => e = .returned (.tuple #[]) ∧ SRes B g vo W d (L ++ [lineC (fewR s0).2 (orS (decS (fewR s0).1))]) W' := by
  have HD := hd hS
  obtain ⟨vn, vt, c5, c6, O5, O6, -, -⟩ := id hN
  obtain ⟨bt, ot, ct, rfl, -, -, ht⟩ := (O6.sl eS_len).strs (Nat.succ_pos _)
  replace c6 : W.cell? ⟨g, 6, none⟩ = some (.slice (some ⟨bt, ot, none⟩) 1 ct) := c6
  have t0 := ht 0 _ rfl
  rw [Nat.add_zero] at t0
  have HS := hd (show ∀ ww, Below W.heap.size W ww → ww.cell? ⟨g, 6, none⟩ = some (.slice (some ⟨bt, ot, none⟩) 1 ct) ∧ ww.cell? ⟨bt, ot, none⟩ = some (.string s0) from fun V hb => ⟨cell_below c6 V hb, cell_below t0 V hb⟩)
  have K := Below.refl W.heap.size W
  clear hN O5 O6 hS c5 ht
  have HB := hd (show -9223372036854775808 ≤ (fewR s0).1 ∧ (fewR s0).1 ≤ 9223372036854775807 from by have := fewR_bd s0; omega)
  go_enter Tryz.func102, Tryz.ntmps102
  go_wp2_with fail
  refine (few_spec _ s0 hz).mono ?_
  rintro e w2 ⟨rfl, hb2⟩
  replace K := below_step K hb2
  clear hb2
  clear c6 t0
  have HD2 := hd (HD.out.below K)
  obtain ⟨l, hl⟩ : ∃ l, (fewR s0).1 = l := ⟨_, rfl⟩
  obtain ⟨cd, hc⟩ : ∃ c, (fewR s0).2 = c := ⟨_, rfl⟩
  have HR := hd (show L ++ [lineC (fewR s0).2 (orS (decS (fewR s0).1))] = L ++ [lineC cd (decS l)] by rw [hl, hc, orS_dec])
  rw [hl] at HB ⊢
  rw [hc]
  clear hl hc
  go_wp2_with fail
  refine (number_spec28 w2 B g d vo L HD2.out hL l cd HB.out).mono ?_
  rintro e w3 ⟨rfl, hr⟩
  go_wp2_with fail
  go_end0
  exact ⟨rfl, sres_eq (hr.pre K) HR.out.symm⟩
set_option maxRecDepth 100000 in
set_option maxHeartbeats 8000000 in
theorem q_for (W : World) (B g : Nat) (d : TDk) (vo : Value) (L : List ByteArray) (s0 : ByteArray) (hz : s0.size ≤ 1048576) (n0 : Int) (hS : SAt W B g d vo L) (hN : NT W B g [n0] [s0]) (hL : L.length ≤ 1000000) :
    Calls Tryz.prog 103 #[.pointer (some ⟨g, 0, none⟩)] W fun e W' => e = .returned (.tuple #[]) ∧ SRes B g vo W d (L ++ [lineC (dforR s0 n0).2 (orS (dforR s0 n0).1)]) W' := by
  have HD := hd hS
  obtain ⟨vn, vt, c5, c6, O5, O6, -, -⟩ := id hN
  obtain ⟨bn, on, cn, rfl, -, hn⟩ := (O5.sl eI_len).ints (Nat.succ_pos _)
  replace c5 : W.cell? ⟨g, 5, none⟩ = some (.slice (some ⟨bn, on, none⟩) 1 cn) := c5
  have k0 := hn 0 _ rfl
  rw [Nat.add_zero] at k0
  obtain ⟨bt, ot, ct, rfl, -, -, ht⟩ := (O6.sl eS_len).strs (Nat.succ_pos _)
  replace c6 : W.cell? ⟨g, 6, none⟩ = some (.slice (some ⟨bt, ot, none⟩) 1 ct) := c6
  have t0 := ht 0 _ rfl
  rw [Nat.add_zero] at t0
  have HS := hd (show ∀ ww, Below W.heap.size W ww → ww.cell? ⟨g, 5, none⟩ = some (.slice (some ⟨bn, on, none⟩) 1 cn) ∧ ww.cell? ⟨bn, on, none⟩ = some (.int .i64 n0) ∧ ww.cell? ⟨g, 6, none⟩ = some (.slice (some ⟨bt, ot, none⟩) 1 ct) ∧ ww.cell? ⟨bt, ot, none⟩ = some (.string s0) from fun V hb => ⟨cell_below c5 V hb, cell_below k0 V hb, cell_below c6 V hb, cell_below t0 V hb⟩)
  have K := Below.refl W.heap.size W
  clear hN O5 O6 hS hn ht
  go_enter Tryz.func103, Tryz.ntmps103
  go_wp2_with fail
  first | (go_region_held3 (fun ww => ww.cell? ⟨g, 5, none⟩ = some (.slice (some ⟨bn, on, none⟩) 1 cn) ∧ ww.cell? ⟨bn, on, none⟩ = some (.int .i64 n0) ∧ ww.cell? ⟨g, 6, none⟩ = some (.slice (some ⟨bt, ot, none⟩) 1 ct) ∧ ww.cell? ⟨bt, ot, none⟩ = some (.string s0)) (first | with_reducible exact HS.out _ K | with_reducible exact HS.out _ (Below.drew K)) (first | (go_at_call 171; replace K := Below.drew K; (with_reducible refine (dfor_spec _ s0 hz n0).mono ?_); rintro e w2 ⟨rfl, hb2⟩; replace K := below_step K hb2; clear hb2))) | fail
  all_goals
    clear c5 k0 c6 t0
    have HD2 := hd (HD.out.below K)
    obtain ⟨l, hl⟩ : ∃ l, (dforR s0 n0).1 = l := ⟨_, rfl⟩
    obtain ⟨cd, hc⟩ : ∃ c, (dforR s0 n0).2 = c := ⟨_, rfl⟩
    have HR := hd (show L ++ [lineC (dforR s0 n0).2 (orS (dforR s0 n0).1)] = L ++ [lineC cd (orS l)] by rw [hl, hc])
    rw [hl, hc]
    clear hl hc
    go_wp2_with fail
    refine (text_spec28 w2 B g d vo L HD2.out hL l cd).mono ?_
    rintro e w3 ⟨rfl, hr⟩
    go_wp2_with fail
    go_end0
    exact ⟨rfl, sres_eq (hr.pre K) HR.out.symm⟩
set_option maxRecDepth 100000 in
set_option maxHeartbeats 8000000 in
theorem q_shifts (W : World) (B g : Nat) (d : TDk) (vo : Value) (L : List ByteArray) (n0 : Int) (ts : List ByteArray) (hS : SAt W B g d vo L) (hN : NT W B g [n0] ts) (hL : L.length ≤ 1000000) :
    Calls Tryz.prog 108 #[.pointer (some ⟨g, 0, none⟩)] W fun e W' => e = .returned (.tuple #[]) ∧ SRes B g vo W d (L ++ [lineC (leastR d.2.1 n0).2 (orS (numsS ⟨#[32]⟩ (leastR d.2.1 n0).1))]) W' := by
  have HD := hd hS
  obtain ⟨vn, vt, c5, c6, O5, O6, -, -⟩ := id hN
  obtain ⟨v1, v2, ⟨-, x0, x1, x2, x3⟩, P1, P2, -⟩ := hS.desk
  have HC := hd (show ∀ V, Below W.heap.size W V → Sl V 4 v1 eCue d.2.1 from fun V hb => (P1.sl eCue_len).below hb)
  obtain ⟨A1, e1, rfl⟩ := P1.isSlice
  obtain ⟨bn, on, cn, rfl, -, hn⟩ := (O5.sl eI_len).ints (Nat.succ_pos _)
  replace c5 : W.cell? ⟨g, 5, none⟩ = some (.slice (some ⟨bn, on, none⟩) 1 cn) := c5
  have k0 := hn 0 _ rfl
  rw [Nat.add_zero] at k0
  have HS := hd (show ∀ ww, Below W.heap.size W ww → ww.cell? ⟨g, 1, none⟩ = some (.slice A1 d.2.1.length e1) ∧ ww.cell? ⟨g, 5, none⟩ = some (.slice (some ⟨bn, on, none⟩) 1 cn) ∧ ww.cell? ⟨bn, on, none⟩ = some (.int .i64 n0) from fun V hb => ⟨cell_below x1 V hb, cell_below c5 V hb, cell_below k0 V hb⟩)
  have K := Below.refl W.heap.size W
  clear hN O5 O6 hS hn c6 P1 P2 x0 x2 x3
  have HB := hd (show (∀ x ∈ (leastR d.2.1 n0).1, -9223372036854775808 ≤ x ∧ x ≤ 9223372036854775807) ∧ (leastR d.2.1 n0).1.length ≤ 1000 from ⟨fun x hx => by have := (leastR_sh d.2.1 n0).2 x hx; omega, Nat.le_trans (leastR_sh d.2.1 n0).1 (by decide)⟩)
  go_enter Tryz.func108, Tryz.ntmps108
  go_wp2_with fail
  first | (go_region_held3 (fun ww => ww.cell? ⟨g, 1, none⟩ = some (.slice A1 d.2.1.length e1) ∧ ww.cell? ⟨g, 5, none⟩ = some (.slice (some ⟨bn, on, none⟩) 1 cn) ∧ ww.cell? ⟨bn, on, none⟩ = some (.int .i64 n0)) (first | with_reducible exact HS.out _ K | with_reducible exact HS.out _ (Below.drew K)) (first | (go_at_call 179; replace K := Below.drew K; (with_reducible refine (least_spec _ _ d.2.1 (HC.out _ K) n0).mono ?_); rintro e w2 ⟨v2, rfl, O2, hb2⟩; obtain ⟨A2, c2, rfl⟩ := O2.isSlice; replace K := below_step K hb2; clear hb2))) | fail
  all_goals
    clear x1 c5 k0
    have SL := O2.sl eI_len
    clear O2
    have HD2 := hd (HD.out.below K)
    obtain ⟨l, hl⟩ : ∃ l, (leastR d.2.1 n0).1 = l := ⟨_, rfl⟩
    obtain ⟨cd, hc⟩ : ∃ c, (leastR d.2.1 n0).2 = c := ⟨_, rfl⟩
    have HR := hd (show L ++ [lineC (leastR d.2.1 n0).2 (orS (numsS ⟨#[32]⟩ (leastR d.2.1 n0).1))] = L ++ [lineC cd (orS (numsS ⟨#[32]⟩ l))] by rw [hl, hc])
    rw [hl] at SL HB ⊢
    rw [hc]
    clear hl hc
    by_cases hz : cd = 0
    · subst hz
      go_wp2_with fail
      refine (report_ok w2 g).mono ?_
      rintro e ww ⟨rfl, hw⟩
      have hw := hw.symm
      subst hw
      go_wp2_with fail
      refine (row_spec w2 B g d vo L HD2.out hL _ l SL HB.out.2 HB.out.1).mono ?_
      rintro e w3 ⟨rfl, hr⟩
      go_wp2_with fail
      go_end0
      exact ⟨rfl, sres_eq (hr.pre K) (by rw [HR.out, lineC_ok])⟩
    · have HE := hd (report_err w2 B g d vo L HD2.out hL cd hz)
      have HZ := hd (lineC_err hz (orS (numsS ⟨#[32]⟩ l)))
      clear hz
      go_wp2_with fail
      refine HE.out.mono ?_
      rintro e w3 ⟨rfl, hr⟩
      go_wp2_with fail
      go_end0
      exact ⟨rfl, sres_eq (hr.pre K) (by rw [HR.out, HZ.out])⟩
set_option maxRecDepth 100000 in
set_option maxHeartbeats 8000000 in
theorem q_loads (W : World) (B g : Nat) (d : TDk) (vo : Value) (L : List ByteArray) (s0 : ByteArray) (hz : s0.size ≤ 1048576) (n0 : Int) (hS : SAt W B g d vo L) (hN : NT W B g [n0] [s0]) (hL : L.length ≤ 1000000) :
    Calls Tryz.prog 105 #[.pointer (some ⟨g, 0, none⟩)] W fun e W' => e = .returned (.tuple #[]) ∧ SRes B g vo W d (L ++ [lineC (loadR s0 n0).2 (orS (decS (loadR s0 n0).1))]) W' := by
  have HD := hd hS
  obtain ⟨vn, vt, c5, c6, O5, O6, -, -⟩ := id hN
  obtain ⟨bn, on, cn, rfl, -, hn⟩ := (O5.sl eI_len).ints (Nat.succ_pos _)
  replace c5 : W.cell? ⟨g, 5, none⟩ = some (.slice (some ⟨bn, on, none⟩) 1 cn) := c5
  have k0 := hn 0 _ rfl
  rw [Nat.add_zero] at k0
  obtain ⟨bt, ot, ct, rfl, -, -, ht⟩ := (O6.sl eS_len).strs (Nat.succ_pos _)
  replace c6 : W.cell? ⟨g, 6, none⟩ = some (.slice (some ⟨bt, ot, none⟩) 1 ct) := c6
  have t0 := ht 0 _ rfl
  rw [Nat.add_zero] at t0
  have HS := hd (show ∀ ww, Below W.heap.size W ww → ww.cell? ⟨g, 5, none⟩ = some (.slice (some ⟨bn, on, none⟩) 1 cn) ∧ ww.cell? ⟨bn, on, none⟩ = some (.int .i64 n0) ∧ ww.cell? ⟨g, 6, none⟩ = some (.slice (some ⟨bt, ot, none⟩) 1 ct) ∧ ww.cell? ⟨bt, ot, none⟩ = some (.string s0) from fun V hb => ⟨cell_below c5 V hb, cell_below k0 V hb, cell_below c6 V hb, cell_below t0 V hb⟩)
  have K := Below.refl W.heap.size W
  clear hN O5 O6 hS hn ht
  have HB := hd (show -9223372036854775808 ≤ (loadR s0 n0).1 ∧ (loadR s0 n0).1 ≤ 9223372036854775807 from by have := loadR_bd s0 n0; omega)
  go_enter Tryz.func105, Tryz.ntmps105
  go_wp2_with fail
  first | (go_region_held3 (fun ww => ww.cell? ⟨g, 5, none⟩ = some (.slice (some ⟨bn, on, none⟩) 1 cn) ∧ ww.cell? ⟨bn, on, none⟩ = some (.int .i64 n0) ∧ ww.cell? ⟨g, 6, none⟩ = some (.slice (some ⟨bt, ot, none⟩) 1 ct) ∧ ww.cell? ⟨bt, ot, none⟩ = some (.string s0)) (first | with_reducible exact HS.out _ K | with_reducible exact HS.out _ (Below.drew K)) (first | (go_at_call 174; replace K := Below.drew K; (with_reducible refine (fewL_spec _ s0 hz n0).mono ?_); rintro e w2 ⟨rfl, hb2⟩; replace K := below_step K hb2; clear hb2))) | fail
  all_goals
    clear c5 k0 c6 t0
    have HD2 := hd (HD.out.below K)
    obtain ⟨l, hl⟩ : ∃ l, (loadR s0 n0).1 = l := ⟨_, rfl⟩
    obtain ⟨cd, hc⟩ : ∃ c, (loadR s0 n0).2 = c := ⟨_, rfl⟩
    have HR := hd (show L ++ [lineC (loadR s0 n0).2 (orS (decS (loadR s0 n0).1))] = L ++ [lineC cd (decS l)] by rw [hl, hc, orS_dec])
    rw [hl] at HB ⊢
    rw [hc]
    clear hl hc
    go_wp2_with fail
    refine (number_spec28 w2 B g d vo L HD2.out hL l cd HB.out).mono ?_
    rintro e w3 ⟨rfl, hr⟩
    go_wp2_with fail
    go_end0
    exact ⟨rfl, sres_eq (hr.pre K) HR.out.symm⟩
end Go.Proofs.YtgcodjkjdfahdaaGreatDoor

namespace Go.Proofs.YtgcodjkjdfahdaaGreatDoor
open Go Go.RowKit Go.ChangeShapes Go.WideShapes
set_option linter.unusedSimpArgs false
set_option linter.unusedVariables false
structure WAtS (W0 W : World) (g : Nat) (vn vt : Value) (ns : List Int) (ts : List ByteArray) : Prop where
  gr : W0.grownBy W (some g)
  lt0 : g < W0.heap.size
  low : ∀ i v, i < 5 → W0.cell? ⟨g, i, none⟩ = some v → W.cell? ⟨g, i, none⟩ = some v
  fr : ∀ i, W.frozen? ⟨g, i, none⟩ = false
  c5 : W.cell? ⟨g, 5, none⟩ = some vn
  c6 : W.cell? ⟨g, 6, none⟩ = some vt
  o5 : Own W W0.heap.size 2 1 vn eI ns
  o6 : Own W W0.heap.size 9 1 vt eS ts
  ap : apart vn.ownBlock vt.ownBlock
theorem WAtS.below {W0 W W' : World} {g : Nat} {vn vt : Value} {ns : List Int} {ts : List ByteArray} (H : WAtS W0 W g vn vt ns ts) (hb : Below W.heap.size W W') : WAtS W0 W' g vn vt ns ts := by
  have hlt := Nat.lt_of_lt_of_le H.lt0 H.gr.size
  have hblk := hb.block g hlt
  exact ⟨grownBy_trans H.gr (grownBy_of_below hb _), H.lt0, fun i v hi h => cell_blk hblk (H.low i v hi h), fun i => (hb.frozen (p := ⟨g, i, none⟩) hlt).trans (H.fr i), cell_blk hblk H.c5, cell_blk hblk H.c6, H.o5.below hb (Nat.le_refl _), H.o6.below hb (Nat.le_refl _), H.ap⟩
theorem WAtS.push {W0 W W1 W2 : World} {g : Nat} {vn vt : Value} {ns : List Int} {ts : List ByteArray} (H : WAtS W0 W g vn vt ns ts) (hb : Below W.heap.size W W1) {row : Option Nat} (hg : W1.grownBy W2 row) (hrow : ∀ k, row = some k → W0.heap.size ≤ k) :
    (∀ i v, i < 5 → W0.cell? ⟨g, i, none⟩ = some v → W2.cell? ⟨g, i, none⟩ = some v) ∧ (∀ i, W2.frozen? ⟨g, i, none⟩ = false) ∧ W2.cell? ⟨g, 5, none⟩ = some vn ∧ W2.cell? ⟨g, 6, none⟩ = some vt ∧ W0.grownBy W2 (some g) := by
  have hlt := Nat.lt_of_lt_of_le H.lt0 H.gr.size
  have hblk : W2.heap[g]? = W.heap[g]? := (hg.block g (Nat.lt_of_lt_of_le hlt hb.size) (fun e => by have := hrow g e.symm; have := H.lt0; omega)).trans (hb.block g hlt)
  refine ⟨fun i v hi h => cell_blk hblk (H.low i v hi h), fun i => (World.frozen?_of_block (w := W) (a := ⟨g, i, none⟩) hblk).trans (H.fr i), cell_blk hblk H.c5, cell_blk hblk H.c6, ?_⟩
  refine ⟨hg.os.trans (hb.os.trans H.gr.os), hg.tape.trans (hb.tape.trans H.gr.tape), hg.output.trans (hb.output.trans H.gr.output), Nat.le_trans H.gr.size (Nat.le_trans hb.size hg.size), fun k hk hne => ?_⟩
  have hkW := Nat.lt_of_lt_of_le hk H.gr.size
  exact (hg.block k (Nat.lt_of_lt_of_le hkW hb.size) (fun e => by have := hrow k e.symm; omega)).trans ((hb.block k hkW).trans (H.gr.block k hk hne))
theorem WAtS.push5 {W0 W W1 W2 : World} {g : Nat} {vn vt vn' : Value} {ns ns' : List Int} {ts : List ByteArray} (H : WAtS W0 W g vn vt ns ts) (hb : Below W.heap.size W W1) (hg : W1.grownBy W2 vn.ownBlock) (ho : Own W2 W0.heap.size 2 1 vn' eI ns') (hat : vn'.ownBlock = vn.ownBlock ∨ ∀ k, vn'.ownBlock = some k → W.heap.size ≤ k) (h1 : vn'.oneCell' = true) :
    WAtS W0 (W2.setCell ⟨g, 5, none⟩ vn') g vn' vt ns' ts := by
  obtain ⟨p0, p1, p2, p3, p4⟩ := H.push hb hg (fun k e => (H.o5.lt k e).1)
  have hgs := grownBy_set W2 ⟨g, 5, none⟩ vn'
  have f5 := p1 5
  have hlo : ∀ v : Value, (∀ k, v.ownBlock = some k → W0.heap.size ≤ k) → (v.ownBlock = none ∨ v.ownBlock ≠ some g) := fun v h => .inr fun e => by have := h g e; have := H.lt0; omega
  refine ⟨grownBy_trans p4 hgs, H.lt0, fun i v hi h => ?_, fun i => ?_, by go_simp, by go_simp, ho.grown hgs (hlo _ fun k e => (ho.lt k e).1), ((H.o6.below hb (Nat.le_refl _)).grown hg (apart_symm H.ap)).grown hgs (hlo _ fun k e => (H.o6.lt k e).1), ?_⟩
  · have q := p0 i v hi h
    have hi5 : ¬ i = 5 := by omega
    go_simp
  · have q := p1 i
    go_simp
  · rcases hat with h | h
    · rw [h]; exact H.ap
    · rcases hk : vn'.ownBlock with _ | k
      · exact .inl rfl
      · refine .inr fun e => ?_
        have h2 := h k hk
        have h3 := (H.o6.lt k e.symm).2
        omega
theorem WAtS.push6 {W0 W W1 W2 : World} {g : Nat} {vn vt vt' : Value} {ns : List Int} {ts ts' : List ByteArray} (H : WAtS W0 W g vn vt ns ts) (hb : Below W.heap.size W W1) (hg : W1.grownBy W2 vt.ownBlock) (ho : Own W2 W0.heap.size 9 1 vt' eS ts') (hat : vt'.ownBlock = vt.ownBlock ∨ ∀ k, vt'.ownBlock = some k → W.heap.size ≤ k) (h1 : vt'.oneCell' = true) :
    WAtS W0 (W2.setCell ⟨g, 6, none⟩ vt') g vn vt' ns ts' := by
  obtain ⟨p0, p1, p2, p3, p4⟩ := H.push hb hg (fun k e => (H.o6.lt k e).1)
  have hgs := grownBy_set W2 ⟨g, 6, none⟩ vt'
  have f6 := p1 6
  have hlo : ∀ v : Value, (∀ k, v.ownBlock = some k → W0.heap.size ≤ k) → (v.ownBlock = none ∨ v.ownBlock ≠ some g) := fun v h => .inr fun e => by have := h g e; have := H.lt0; omega
  refine ⟨grownBy_trans p4 hgs, H.lt0, fun i v hi h => ?_, fun i => ?_, by go_simp, by go_simp, ((H.o5.below hb (Nat.le_refl _)).grown hg H.ap).grown hgs (hlo _ fun k e => (H.o5.lt k e).1), ho.grown hgs (hlo _ fun k e => (ho.lt k e).1), ?_⟩
  · have q := p0 i v hi h
    have hi5 : ¬ i = 6 := by omega
    go_simp
  · have q := p1 i
    go_simp
  · rcases hat with h | h
    · rw [h]; exact H.ap
    · rcases hk : vn.ownBlock with _ | k
      · exact .inl rfl
      · refine .inr fun e => ?_
        have h2 := h k e.symm
        have h3 := (H.o5.lt k hk).2
        omega
theorem WAtS.sat {W0 W : World} {B g : Nat} {d : TDk} {vo : Value} {L : List ByteArray} {vn vt : Value} {ns : List Int} {ts : List ByteArray} (H : WAtS W0 W g vn vt ns ts) (hS : SAt W0 B g d vo L) : SAt W B g d vo L ∧ NT W B g ns ts ∧ Fr g vo W0 vo W := by
  obtain ⟨v1, v2, ⟨hl, d0, d1, d2, d3⟩, O1, O2, n1, n2, a1, a2⟩ := hS.desk
  have hB := Nat.le_trans hS.base (Nat.le_of_lt hS.lt)
  refine ⟨⟨⟨v1, v2, ⟨Nat.lt_of_lt_of_le hl H.gr.size, H.low 0 _ (by decide) d0, H.low 1 _ (by decide) d1, H.low 2 _ (by decide) d2, H.low 3 _ (by decide) d3⟩, O1.grown H.gr (ne_of_all n1), O2.grown H.gr (ne_of_all n2), n1, n2, a1, a2⟩, Nat.lt_of_lt_of_le hl H.gr.size, hS.base, H.fr, H.low 4 _ (by decide) hS.c4, hS.out.grown H.gr (ne_of_all hS.no), hS.no, ⟨_, H.c5⟩, ⟨_, H.c6⟩⟩, ⟨vn, vt, H.c5, H.c6, H.o5.base hB, H.o6.base hB, fun k e => by have := (H.o5.lt k e).1; have := H.lt0; omega, fun k e => by have := (H.o6.lt k e).1; have := H.lt0; omega⟩, (TouchL.of_grown H.gr).mono fun b hb => ?_, .inl rfl⟩
  simp only [List.mem_cons, List.not_mem_nil, or_false] at hb ⊢
  exact .inl hb
theorem WAtS.start {W0 : World} {B g : Nat} {d : TDk} {vo : Value} {L : List ByteArray} (hS : SAt W0 B g d vo L) (T5 T6 : TypeId) (e5 : T5 = 2) (e6 : T6 = 9) :
    WAtS W0 ((((W0.setCell ⟨g, 5, none⟩ (.slice (some ⟨W0.heap.size, 0, none⟩) 0 0)).setCell ⟨g, 6, none⟩ (.slice (some ⟨W0.heap.size + 1, 0, none⟩) 0 0)).alloc (.cells #[] T5)).alloc (.cells #[] T6)) g (.slice (some ⟨W0.heap.size, 0, none⟩) 0 0) (.slice (some ⟨W0.heap.size + 1, 0, none⟩) 0 0) [] [] := by
  subst e5 e6
  obtain ⟨x5, c5⟩ := hS.c5
  obtain ⟨x6, c6⟩ := hS.c6
  have f5 := hS.fr 5
  have f6 := hS.fr 6
  have hlt := hS.lt
  have g1 := grownBy_set W0 ⟨g, 5, none⟩ (.slice (some ⟨W0.heap.size, 0, none⟩) 0 0)
  have g2 := grownBy_set (W0.setCell ⟨g, 5, none⟩ (.slice (some ⟨W0.heap.size, 0, none⟩) 0 0)) ⟨g, 6, none⟩ (.slice (some ⟨W0.heap.size + 1, 0, none⟩) 0 0)
  have gg := grownBy_trans g1 g2
  have q5 : ((W0.setCell ⟨g, 5, none⟩ (.slice (some ⟨W0.heap.size, 0, none⟩) 0 0)).setCell ⟨g, 6, none⟩ (.slice (some ⟨W0.heap.size + 1, 0, none⟩) 0 0)).cell? ⟨g, 5, none⟩ = some (.slice (some ⟨W0.heap.size, 0, none⟩) 0 0) := by go_simp
  have q6 : ((W0.setCell ⟨g, 5, none⟩ (.slice (some ⟨W0.heap.size, 0, none⟩) 0 0)).setCell ⟨g, 6, none⟩ (.slice (some ⟨W0.heap.size + 1, 0, none⟩) 0 0)).cell? ⟨g, 6, none⟩ = some (.slice (some ⟨W0.heap.size + 1, 0, none⟩) 0 0) := by go_simp
  have qf : ∀ i, ((W0.setCell ⟨g, 5, none⟩ (.slice (some ⟨W0.heap.size, 0, none⟩) 0 0)).setCell ⟨g, 6, none⟩ (.slice (some ⟨W0.heap.size + 1, 0, none⟩) 0 0)).frozen? ⟨g, i, none⟩ = false := fun i => by
    have := hS.fr i
    go_simp
  have ql : ∀ i v, i < 5 → W0.cell? ⟨g, i, none⟩ = some v → ((W0.setCell ⟨g, 5, none⟩ (.slice (some ⟨W0.heap.size, 0, none⟩) 0 0)).setCell ⟨g, 6, none⟩ (.slice (some ⟨W0.heap.size + 1, 0, none⟩) 0 0)).cell? ⟨g, i, none⟩ = some v := fun i v hi h => by
    have i5 : ¬ i = 5 := by omega
    have i6 : ¬ i = 6 := by omega
    go_simp
  have hz : ((W0.setCell ⟨g, 5, none⟩ (.slice (some ⟨W0.heap.size, 0, none⟩) 0 0)).setCell ⟨g, 6, none⟩ (.slice (some ⟨W0.heap.size + 1, 0, none⟩) 0 0)).heap.size = W0.heap.size := by simp
  generalize ((W0.setCell ⟨g, 5, none⟩ (.slice (some ⟨W0.heap.size, 0, none⟩) 0 0)).setCell ⟨g, 6, none⟩ (.slice (some ⟨W0.heap.size + 1, 0, none⟩) 0 0)) = Z at gg q5 q6 qf ql hz ⊢
  have hb1 := (Below.refl Z.heap.size Z).alloc (Nat.le_refl _) (.cells #[] 2)
  have hb2 := hb1.alloc hb1.size (.cells #[] 9)
  have o5 := (Own.made0 Z W0.heap.size 2 1 eI (by omega)).alloc (.cells #[] 9)
  have hz1 : (Z.alloc (.cells #[] 2)).heap.size = W0.heap.size + 1 := by simp [hz]
  have o6 := Own.made0 (Z.alloc (.cells #[] 2)) W0.heap.size 9 1 eS (by omega)
  rw [hz] at o5
  rw [hz1] at o6
  have hgZ : g < Z.heap.size := by omega
  have hblk := hb2.block g hgZ
  exact ⟨grownBy_trans gg (grownBy_of_below hb2 _), hlt, fun i v hi h => cell_blk hblk (ql i v hi h), fun i => (hb2.frozen (p := ⟨g, i, none⟩) hgZ).trans (qf i), cell_blk hblk q5, cell_blk hblk q6, o5, o6, .inr fun e => by have e2 : some W0.heap.size = some (W0.heap.size + 1) := e; injection e2 with e2; omega⟩
set_option maxRecDepth 100000 in
set_option maxHeartbeats 16000000 in
theorem words_spec28 (W0 : World) (B g : Nat) (d : TDk) (vo : Value) (L : List ByteArray) (hS : SAt W0 B g d vo L) (vW : Value) (ws : List ByteArray) (hW : ∀ W, W0.grownBy W (some g) → Sl W 1 vW eS ws) (fm : ByteArray) (hf : fm.size ≤ 10) (hfl : fm.size + 1 ≤ ws.length) (hfb : ∀ i (h : i < fm.size), fm[i] = 110 ∨ fm[i] = 120 ∨ fm[i] = 114) (hwn : ws.length ≤ 1048577) (hwz : ∀ x ∈ ws, x.size ≤ 1048576) (hj : ∀ i (h : i < fm.size), fm[i] = 114 → (joinS ⟨#[32]⟩ (ws.drop (i + 1))).size ≤ 1048576) :
    Calls Tryz.prog 97 #[.pointer (some ⟨g, 0, none⟩), vW, .string fm] W0 fun e W' => SAt W' B g d vo L ∧ W0.grownBy W' (some g) ∧ Fr g vo W0 vo W' ∧ ((numsTo fm.data.toList ws fm.size = none ∧ e = .returned (.bool false)) ∨ ∃ ns, numsTo fm.data.toList ws fm.size = some ns ∧ e = .returned (.bool true) ∧ NT W' B g ns (textsTo fm.data.toList ws fm.size)) := by
  have HD := hd hS
  have HW := hd hW
  have HFB := hd hfb
  have HJ := hd hj
  have HWZ := hd hwz
  obtain ⟨A, cw, rfl⟩ := (hW W0 (World.grownBy.refl _ _)).isSlice
  obtain ⟨x5, c5⟩ := hS.c5
  obtain ⟨x6, c6⟩ := hS.c6
  have f5 := hS.fr 5
  have f6 := hS.fr 6
  have hlt := hS.lt
  have H0 := hd (WAtS.start hS 2 9 rfl rfl)
  obtain ⟨i5, h5, y0, y1, y2⟩ := info_parts info_i64
  obtain ⟨i6, h6, z0, z1, z2⟩ := info_parts info_str
  clear hW hfb hj hwz hS
  go_enter Tryz.func97, Tryz.ntmps97
  go_wp2_with fail
  clear c5 c6 f5 f6
  generalize ((((W0.setCell ⟨g, 5, none⟩ (.slice (some ⟨W0.heap.size, 0, none⟩) 0 0)).setCell ⟨g, 6, none⟩ (.slice (some ⟨W0.heap.size + 1, 0, none⟩) 0 0)).alloc (.cells #[] 2)).alloc (.cells #[] 9)) = W1 at H0 ⊢
  go_loopw [7] (fun iv wr => ∃ (i : Nat) (ns : List Int) (vn vt : Value), i ≤ fm.size ∧ iv = .int .i64 i ∧ Hid (numsTo fm.data.toList ws i = some ns) ∧ WAtS W0 wr g vn vt ns (textsTo fm.data.toList ws i)) (fun iv _ => fm.size - (intOf iv).toNat)
  case atStart => exact ⟨0, [], _, _, Nat.zero_le _, rfl, hd rfl, H0.out⟩
  case round =>
    obtain ⟨i, ns, vn, vt, hi, rfl, HN, HA⟩ := hrel
    clear H0
    have hnl := numsTo_len HN.out
    have htl := textsTo_len fm.data.toList ws i
    by_cases hlt2 : i < fm.size
    · have HG := hd (get_listK fm i hlt2)
      have hiw : i + 1 < ws.length := by omega
      have HSW := HW.out wr HA.gr
      obtain ⟨b, o, c, hv, -, -, hcell⟩ := HSW.strs (by omega)
      injection hv with hA0 _ hcw
      subst hA0
      obtain ⟨x, hx⟩ : ∃ x, ws[i + 1] = x := ⟨_, rfl⟩
      have hxz := HWZ.out _ (List.getElem_mem hiw)
      rw [hx] at hxz
      have HXG := hd (show ws.getD (i + 1) ⟨#[]⟩ = x by rw [List.getD_eq_getElem?_getD, List.getElem?_eq_getElem hiw]; exact hx)
      have HX := hd hx
      have HCELL := hd (show ∀ W, W0.grownBy W (some g) → ∀ j y, ws[j]? = some y → W.cell? ⟨b, o + j, none⟩ = some (.string y) from fun W h => by
        obtain ⟨b', o', c', hv', -, -, hc'⟩ := (HW.out W h).strs (by omega)
        injection hv' with e1 _ _
        injection e1 with e1
        injection e1 with e2 e3 _
        subst e2 e3
        exact hc')
      have HXI := hd (show ws[i + 1]? = some x by rw [List.getElem?_eq_getElem hiw, hx])
      have hi2 : (i : Int) + 1 < (ws.length : Int) := by omega
      have hi3 : ((i : Int) + 1).toNat = i + 1 := by omega
      clear hcell HSW hx hcw
      rcases HFB.out i hlt2 with hc | hc | hc
      · -- a number
        have HG2 := hd (HG.out.trans hc)
        have b1 : ((((fm[i].toNat : Nat) : Int)) == 114) = false := by rw [hc]; rfl
        have b2 : ((((fm[i].toNat : Nat) : Int)) == 108) = false := by rw [hc]; rfl
        have b3 : ((((fm[i].toNat : Nat) : Int)) == 110) = true := by rw [hc]; rfl
        have HTT := hd (textsTo_num (ws := ws) HG2.out)
        have HNB := hd (fun h => numsTo_no HN.out HG2.out (show rdN _ = none by rw [HXG.out]; exact h))
        have HNY := hd (fun n h => numsTo_yes (n := n) HN.out HG2.out (show rdN _ = some n by rw [HXG.out]; exact h))
        have HA2 := hd HA
        clear hc HG HA
        go_wp2_with fail
        clear b1 b2 b3
        as_aux_lemma =>
        go_loopw [9] (fun kv wr => ∃ (m : Int) (ns' : List Int) (vn' : Value), ((m = (i : Int) + 1 ∧ ns' = ns) ∨ (m = (i : Int) + 2 ∧ Hid (numsTo fm.data.toList ws (i + 1) = some ns'))) ∧ kv = .int .i64 m ∧ WAtS W0 wr g vn' vt ns' (textsTo fm.data.toList ws i)) (fun kv _ => i + 2 - (intOf kv).toNat)
        case atStart => exact ⟨_, ns, vn, .inl ⟨rfl, rfl⟩, rfl, HA2.out⟩
        case round =>
          obtain ⟨m, ns', vn', hm, rfl, HA⟩ := hrel
          clear HA2
          rcases hm with ⟨rfl, rfl⟩ | ⟨rfl, HN2⟩
          · have hw0 := HCELL.out wr HA.gr (i + 1) x HXI.out
            have HRD := hd (number_spec wr x hxz)
            have hm2 : (i : Int) + 1 < (i : Int) + 2 := by omega
            rcases hr : numS x.data.toList with _ | n
            · rw [rd_none hr] at HRD
              have HNO := hd (HNB.out hr)
              clear hr HNB HNY
              go_wp2_with fail
              refine HRD.out.mono ?_
              rintro e w2 ⟨rfl, hb2⟩
              have HA5 := hd (HA.below hb2)
              clear hw0 HA
              go_wp2_with fail
              go_ret
              obtain ⟨s1, -, s3⟩ := HA5.out.sat HD.out
              refine ⟨s1, HA5.out.gr, s3, .inl ⟨?_, rfl⟩⟩
              have := numsTo_bad HNO.out (fm.size - (i + 1))
              rwa [show i + 1 + (fm.size - (i + 1)) = fm.size by omega] at this
            · rw [rd_some hr] at HRD
              have HNO := hd (HNY.out n hr)
              clear hr HNB HNY
              go_wp2_with fail
              refine HRD.out.mono ?_
              rintro e w2 ⟨rfl, hb2⟩
              have HA5 := HA.below hb2
              clear hw0 HA hb2
              obtain ⟨An, cn, rfl⟩ := HA5.o5.isSlice
              have c5 := HA5.c5
              have f5 := HA5.fr 5
              have own1 := HA5.o5.alloc (.cells #[.int .i64 n] 2)
              have K1 := (Below.refl w2.heap.size w2).alloc (Nat.le_refl _) (.cells #[.int .i64 n] 2)
              have hz0 := HA5.gr.size
              have hlw := Nat.lt_of_lt_of_le HA5.lt0 HA5.gr.size
              have HA3 := hd HA5
              clear HA5
              go_wp2_with (at_builtin; refine wpList_push_at _ rfl _ _ 56 rfl i5 (.int .i64 0) 8 Tryz.underlying56 h5 y0 y1 y2 rfl (by decide) _ ns' n rfl own1 w2.heap.size rfl #[.int .i64 n] 2 (heap_alloc_new _ _) rfl rfl (by intro u hu; simp [eI] at hu; subst hu; rfl) (by unfold maxLen; omega) (by omega) (by simp; omega) ?_)
              intro v' w3 hown2 hgr2 hat
              obtain ⟨-, pf, p5, -, -⟩ := HA3.out.push K1 hgr2 (fun k e => (HA3.out.o5.lt k e).1)
              have f5' := pf 5
              obtain ⟨A', c', hv'⟩ := hown2.isSlice
              rw [List.length_append, List.length_singleton] at hv'
              subst hv'
              have HA4 := hd (HA3.out.push5 K1 hgr2 hown2 (hat.imp id fun e k hk => by rw [e] at hk; injection hk with hk; have := K1.size; omega) rfl)
              clear own1 c5 f5 hown2 hgr2 hat K1 HA3
              go_wp2_with fail
              go_roundw
              case rel => exact ⟨(i : Int) + 2, ns' ++ [n], _, .inr ⟨rfl, HNO⟩, by go_num, HA4.out⟩
              case measure => simp [intOf]; omega
          · have hm2 : ¬ ((i : Int) + 2 < (i : Int) + 2) := by omega
            go_wp2_with fail
            go_roundw
            case rel => exact ⟨i + 1, ns', vn', vt, by omega, by go_num, HN2, by rw [HTT.out]; exact HA⟩
            case measure => simp [intOf]; omega
      · -- a word
        have HNN := hd (numsTo_word HN.out (by rw [HG.out, hc]; decide))
        have HTS := hd (show textsTo fm.data.toList ws (i + 1) = textsTo fm.data.toList ws i ++ [x] by rw [textsTo_word (by rw [HG.out, hc]; decide) (by rw [HG.out, hc]; decide), HXG.out])
        have b1 : ((((fm[i].toNat : Nat) : Int)) == 114) = false := by rw [hc]; rfl
        have b2 : ((((fm[i].toNat : Nat) : Int)) == 108) = false := by rw [hc]; rfl
        have b3 : ((((fm[i].toNat : Nat) : Int)) == 110) = false := by rw [hc]; rfl
        have hw0 := HCELL.out wr HA.gr (i + 1) x HXI.out
        clear hc HG
        go_wp2_with fail
        clear b1 b2 b3 hw0
        as_aux_lemma =>
        go_loop [12, 13] (fun rv kv => rv = .string x ∧ kv = .int .i64 ((i : Int) + 2)) (fun _ _ => 0)
        case atStart => exact ⟨rfl, rfl⟩
        case round =>
          obtain ⟨rfl, rfl⟩ := hrel
          have hm2 : ¬ ((i : Int) + 2 < (i : Int) + 2) := by omega
          obtain ⟨At, ct, rfl⟩ := HA.o6.isSlice
          have c6 := HA.c6
          have f6 := HA.fr 6
          have own1 := HA.o6.alloc (.cells #[.string x] 9)
          have K1 := (Below.refl wr.heap.size wr).alloc (Nat.le_refl _) (.cells #[.string x] 9)
          have hz0 := HA.gr.size
          have HA3 := hd HA
          have hlw := Nat.lt_of_lt_of_le HA.lt0 HA.gr.size
          generalize textsTo fm.data.toList ws i = T at HTS htl own1 c6 HA3 ⊢
          clear HA
          go_wp2_with (at_builtin; refine wpList_push_at _ rfl _ _ 24 rfl i6 (.string ByteArray.empty) 16 Tryz.underlying24 h6 z0 z1 z2 rfl (by decide) _ T (x) rfl own1 wr.heap.size rfl #[.string x] 9 (heap_alloc_new _ _) rfl rfl (by intro u hu; simp [eS] at hu; subst hu; rfl) (by unfold maxLen; omega) (by omega) (by simp; omega) ?_)
          intro v' w3 hown2 hgr2 hat
          obtain ⟨-, pf, -, p6, -⟩ := HA3.out.push K1 hgr2 (fun k e => (HA3.out.o6.lt k e).1)
          have f6' := pf 6
          obtain ⟨A', c', hv'⟩ := hown2.isSlice
          rw [List.length_append, List.length_singleton] at hv'
          subst hv'
          have HA4 := hd (HA3.out.push6 K1 hgr2 hown2 (hat.imp id fun e k hk => by rw [e] at hk; injection hk with hk; have := K1.size; omega) rfl)
          clear own1 c6 f6 hown2 hgr2 hat K1 HA3
          go_wp2_with fail
          go_roundw
          case rel => exact ⟨i + 1, ns, _, _, by omega, by go_num, HNN, by rw [HTS.out]; exact HA4.out⟩
          case measure => simp [intOf]; omega
      · -- the rest
        have HNN := hd (numsTo_word HN.out (by rw [HG.out, hc]; decide))
        have HTS := hd (textsTo_rest (ws := ws) (HG.out.trans hc))
        have HJS := hd (HJ.out i hlt2 hc)
        have b1 : ((((fm[i].toNat : Nat) : Int)) == 114) = true := by rw [hc]; rfl
        have b3 : ((((fm[i].toNat : Nat) : Int)) == 110) = false := by rw [hc]; rfl
        have b2 : ((((fm[i].toNat : Nat) : Int)) == 108) = false := by rw [hc]; rfl
        have hw0 := HCELL.out wr HA.gr (i + 1) x HXI.out
        obtain ⟨R, hR⟩ : ∃ R, ws.drop (i + 1) = R := ⟨_, rfl⟩
        have HRL := hd (show R.length = ws.length - (i + 1) by rw [← hR, List.length_drop])
        have HR1 := hd (show restTo R 1 = x by rw [← hR, List.drop_eq_getElem_cons hiw, HX.out]; exact restTo_one _ _)
        have HRG := hd (show ∀ k (h : k < ws.length) (h1 : i + 1 ≤ k), ∃ h2 : k - (i + 1) < R.length, R[k - (i + 1)] = ws[k] from fun k h h1 => by
          subst hR
          refine ⟨by rw [List.length_drop]; omega, ?_⟩
          rw [List.getElem_drop]
          congr 1
          omega)
        rw [hR] at HTS HJS
        clear hc HG hR
        go_wp2_with fail
        clear b1 b2 b3 hw0
        as_aux_lemma =>
        go_loop [12, 13] (fun rv kv => ∃ k : Nat, i + 2 ≤ k ∧ k ≤ ws.length ∧ rv = .string (restTo R (k - (i + 1))) ∧ kv = .int .i64 k) (fun _ kv => ws.length - (intOf kv).toNat)
        case atStart => exact ⟨i + 2, Nat.le_refl _, by omega, by rw [show i + 2 - (i + 1) = 1 by omega, HR1.out], by go_num⟩
        case round =>
          obtain ⟨k, hk1, hk2, rfl, rfl⟩ := hrel
          by_cases hkl : k < ws.length
          · obtain ⟨hk3, hk4⟩ := HRG.out k hkl (by omega)
            have hw1 := HCELL.out wr HA.gr k _ (List.getElem?_eq_getElem hkl)
            have HRS := hd (show restTo R (k + 1 - (i + 1)) = restTo R (k - (i + 1)) ++ (⟨#[32]⟩ ++ ws[k]) by rw [show k + 1 - (i + 1) = k - (i + 1) + 1 by omega, restTo_succ (by omega) hk3, hk4])
            have hsz : (restTo R (k - (i + 1))).size + (1 + ws[k].size) ≤ 1048576 := by
              have h1 := restTo_le R (k + 1 - (i + 1))
              rw [HRS.out, ByteArray.size_append, ByteArray.size_append] at h1
              have h2 := HJS.out
              have h3 : (⟨#[32]⟩ : ByteArray).size = 1 := rfl
              omega
            clear hk3 hk4
            generalize ws[k] = y at hw1 HRS hsz
            generalize restTo R (k - (i + 1)) = s at HRS hsz ⊢
            go_wp2_with fail
            go_round
            case rel => exact ⟨k + 1, by omega, by omega, by rw [HRS.out], by go_num⟩
            case measure => simp [intOf]; omega
          · obtain rfl : k = ws.length := by omega
            have HRA := hd (show restTo R (ws.length - (i + 1)) = joinS ⟨#[32]⟩ R from restTo_all (by rw [HRL.out]; exact Nat.le_refl _))
            rw [HRA.out]
            generalize joinS ⟨#[32]⟩ R = s at HTS ⊢
            obtain ⟨At, ct, rfl⟩ := HA.o6.isSlice
            have c6 := HA.c6
            have f6 := HA.fr 6
            have own1 := HA.o6.alloc (.cells #[.string s] 9)
            have K1 := (Below.refl wr.heap.size wr).alloc (Nat.le_refl _) (.cells #[.string s] 9)
            have hz0 := HA.gr.size
            have HA3 := hd HA
            have hlw := Nat.lt_of_lt_of_le HA.lt0 HA.gr.size
            generalize textsTo fm.data.toList ws i = T at HTS htl own1 c6 HA3 ⊢
            clear HA
            go_wp2_with (at_builtin; refine wpList_push_at _ rfl _ _ 24 rfl i6 (.string ByteArray.empty) 16 Tryz.underlying24 h6 z0 z1 z2 rfl (by decide) _ T (s) rfl own1 wr.heap.size rfl #[.string s] 9 (heap_alloc_new _ _) rfl rfl (by intro u hu; simp [eS] at hu; subst hu; rfl) (by unfold maxLen; omega) (by omega) (by simp; omega) ?_)
            intro v' w3 hown2 hgr2 hat
            obtain ⟨-, pf, -, p6, -⟩ := HA3.out.push K1 hgr2 (fun k e => (HA3.out.o6.lt k e).1)
            have f6' := pf 6
            obtain ⟨A', c', hv'⟩ := hown2.isSlice
            rw [List.length_append, List.length_singleton] at hv'
            subst hv'
            have HA4 := hd (HA3.out.push6 K1 hgr2 hown2 (hat.imp id fun e k hk => by rw [e] at hk; injection hk with hk; have := K1.size; omega) rfl)
            clear own1 c6 f6 hown2 hgr2 hat K1 HA3
            go_wp2_with fail
            go_roundw
            case rel => exact ⟨i + 1, ns, _, _, by omega, by go_num, HNN, by rw [HTS.out]; exact HA4.out⟩
            case measure => simp [intOf]; omega
    · obtain rfl : i = fm.size := by omega
      have HAS := hd (HA.sat HD.out)
      have HGR := hd HA.gr
      clear HA
      go_wp2_with fail
      go_ret
      exact ⟨HAS.out.1, HGR.out, HAS.out.2.2, .inr ⟨ns, HN.out, rfl, HAS.out.2.1⟩⟩
end Go.Proofs.YtgcodjkjdfahdaaGreatDoor
