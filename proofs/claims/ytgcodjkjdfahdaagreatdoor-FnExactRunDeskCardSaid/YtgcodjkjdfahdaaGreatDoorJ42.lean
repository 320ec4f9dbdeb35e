/- Texts of the claim, joined: each says at its head what it proves. No condition. -/
import Derived.Test.YtgcodjkjdfahdaaGreatDoorJ39
import Derived.Test.YtgcodjkjdfahdaaGreatDoorJ25
import Derived.Test.YtgcodjkjdfahdaaGreatDoorJ41
/- The reference's commands that only ask. No condition but bounds. -/
namespace Go.Proofs.YtgcodjkjdfahdaaGreatDoor
open Go Go.RowKit Go.ChangeShapes Go.WideShapes
set_option linter.unusedSimpArgs false
set_option linter.unusedVariables false
set_option maxRecDepth 100000 in
set_option maxHeartbeats 8000000 in
theorem q_seen (W : World) (B g : Nat) (d : TDk) (vo : Value) (L : List ByteArray) (n0 n1 : Int) (ts : List ByteArray) (hS : SAt W B g d vo L) (hN : NT W B g [n0, n1] ts) (hL : L.length ≤ 1000000) :
    Calls Tryz.prog 107 #[.pointer (some ⟨g, 0, none⟩)] W fun e W' => e = .returned (.tuple #[]) ∧ SRes B g vo W d (L ++ [lineC (seenR n0 n1).2 (orS (numsS ⟨#[32]⟩ (seenR n0 n1).1))]) W' := by
  have HD := hd hS
  obtain ⟨vn, vt, c5, c6, O5, O6, -, -⟩ := id hN
  obtain ⟨bn, on, cn, rfl, -, hn⟩ := (O5.sl eI_len).ints (Nat.succ_pos _)
  replace c5 : W.cell? ⟨g, 5, none⟩ = some (.slice (some ⟨bn, on, none⟩) 2 cn) := c5
  have k0 := hn 0 _ rfl
  rw [Nat.add_zero] at k0
  have k1 := hn 1 _ rfl
  have HS := hd (show ∀ ww, Below W.heap.size W ww → ww.cell? ⟨g, 5, none⟩ = some (.slice (some ⟨bn, on, none⟩) 2 cn) ∧ ww.cell? ⟨bn, on, none⟩ = some (.int .i64 n0) ∧ ww.cell? ⟨bn, on + 1, none⟩ = some (.int .i64 n1) from fun V hb => ⟨cell_below c5 V hb, cell_below k0 V hb, cell_below k1 V hb⟩)
  have K := Below.refl W.heap.size W
  clear hN O5 O6 hS hn c6
  have HB := hd (show (∀ x ∈ (seenR n0 n1).1, -9223372036854775808 ≤ x ∧ x ≤ 9223372036854775807) ∧ (seenR n0 n1).1.length ≤ 1000 from ⟨fun x hx => by have := seenR_mem n0 n1 x hx; omega, Nat.le_trans (seenR_len n0 n1) (by decide)⟩)
  go_enter Tryz.func107, Tryz.ntmps107
  go_wp2_with fail
  first | (go_region_held3 (fun ww => ww.cell? ⟨g, 5, none⟩ = some (.slice (some ⟨bn, on, none⟩) 2 cn) ∧ ww.cell? ⟨bn, on, none⟩ = some (.int .i64 n0) ∧ ww.cell? ⟨bn, on + 1, none⟩ = some (.int .i64 n1)) (first | with_reducible exact HS.out _ K | with_reducible exact HS.out _ (Below.drew K)) (first | (go_at_call 177; replace K := Below.drew K; (with_reducible refine (seen_spec _ n0 n1).mono ?_); rintro e w2 ⟨v2, rfl, O2, hb2⟩; obtain ⟨A2, c2, rfl⟩ := O2.isSlice; replace K := below_step K hb2; clear hb2))) | fail
  all_goals
    clear c5 k0 k1
    have SL := O2.sl eI_len
    clear O2
    have HD2 := hd (HD.out.below K)
    obtain ⟨l, hl⟩ : ∃ l, (seenR n0 n1).1 = l := ⟨_, rfl⟩
    obtain ⟨cd, hc⟩ : ∃ c, (seenR n0 n1).2 = c := ⟨_, rfl⟩
    have HR := hd (show L ++ [lineC (seenR n0 n1).2 (orS (numsS ⟨#[32]⟩ (seenR n0 n1).1))] = L ++ [lineC cd (orS (numsS ⟨#[32]⟩ l))] by rw [hl, hc])
    rw [hl] at SL HB ⊢
    rw [hc]
    clear hl hc
    by_cases hz : cd = 0
    · subst hz
      go_wp2_with fail
      refine (report_ok w2 g).mono ?_
      rintro e ww ⟨rfl, hw⟩
      have hw := hw.symm
      subst hw
      go_wp2_with fail
      refine (row_spec w2 B g d vo L HD2.out hL _ l SL HB.out.2 HB.out.1).mono ?_
      rintro e w3 ⟨rfl, hr⟩
      go_wp2_with fail
      go_end0
      exact ⟨rfl, sres_eq (hr.pre K) (by rw [HR.out, lineC_ok])⟩
    · have HE := hd (report_err w2 B g d vo L HD2.out hL cd hz)
      have HZ := hd (lineC_err hz (orS (numsS ⟨#[32]⟩ l)))
      clear hz
      go_wp2_with fail
      refine HE.out.mono ?_
      rintro e w3 ⟨rfl, hr⟩
      go_wp2_with fail
      go_end0
      exact ⟨rfl, sres_eq (hr.pre K) (by rw [HR.out, HZ.out])⟩
set_option maxRecDepth 100000 in
set_option maxHeartbeats 8000000 in
theorem q_shows (W : World) (B g : Nat) (d : TDk) (vo : Value) (L : List ByteArray) (hp : d.1.size ≤ 1048576) (n0 : Int) (ts : List ByteArray) (hS : SAt W B g d vo L) (hN : NT W B g [n0] ts) (hL : L.length ≤ 1000000) :
    Calls Tryz.prog 109 #[.pointer (some ⟨g, 0, none⟩)] W fun e W' => e = .returned (.tuple #[]) ∧ SRes B g vo W d (L ++ [lineC (motR d.1 n0).2 (orS (motR d.1 n0).1)]) W' := by
  have HD := hd hS
  obtain ⟨vn, vt, c5, c6, O5, O6, -, -⟩ := id hN
  obtain ⟨v1, v2, ⟨-, x0, x1, x2, x3⟩, P1, P2, -⟩ := hS.desk
  obtain ⟨bn, on, cn, rfl, -, hn⟩ := (O5.sl eI_len).ints (Nat.succ_pos _)
  replace c5 : W.cell? ⟨g, 5, none⟩ = some (.slice (some ⟨bn, on, none⟩) 1 cn) := c5
  have k0 := hn 0 _ rfl
  rw [Nat.add_zero] at k0
  have HS := hd (show ∀ ww, Below W.heap.size W ww → ww.cell? ⟨g, 0, none⟩ = some (.string d.1) ∧ ww.cell? ⟨g, 5, none⟩ = some (.slice (some ⟨bn, on, none⟩) 1 cn) ∧ ww.cell? ⟨bn, on, none⟩ = some (.int .i64 n0) from fun V hb => ⟨cell_below x0 V hb, cell_below c5 V hb, cell_below k0 V hb⟩)
  have K := Below.refl W.heap.size W
  clear hN O5 O6 hS hn c6 P1 P2 x1 x2 x3
  go_enter Tryz.func109, Tryz.ntmps109
  go_wp2_with fail
  first | (go_region_held3 (fun ww => ww.cell? ⟨g, 0, none⟩ = some (.string d.1) ∧ ww.cell? ⟨g, 5, none⟩ = some (.slice (some ⟨bn, on, none⟩) 1 cn) ∧ ww.cell? ⟨bn, on, none⟩ = some (.int .i64 n0)) (first | with_reducible exact HS.out _ K | with_reducible exact HS.out _ (Below.drew K)) (first | (go_at_call 180; replace K := Below.drew K; (with_reducible refine (mof_spec _ d.1 hp n0).mono ?_); rintro e w2 ⟨rfl, hb2⟩; replace K := below_step K hb2; clear hb2))) | fail
  all_goals
    clear x0 c5 k0
    have HD2 := hd (HD.out.below K)
    obtain ⟨l, hl⟩ : ∃ l, (motR d.1 n0).1 = l := ⟨_, rfl⟩
    obtain ⟨cd, hc⟩ : ∃ c, (motR d.1 n0).2 = c := ⟨_, rfl⟩
    have HR := hd (show L ++ [lineC (motR d.1 n0).2 (orS (motR d.1 n0).1)] = L ++ [lineC cd (orS l)] by rw [hl, hc])
    rw [hl, hc]
    clear hl hc
    go_wp2_with fail
    refine (text_spec28 w2 B g d vo L HD2.out hL l cd).mono ?_
    rintro e w3 ⟨rfl, hr⟩
    go_wp2_with fail
    go_end0
    exact ⟨rfl, sres_eq (hr.pre K) HR.out.symm⟩
set_option maxRecDepth 100000 in
set_option maxHeartbeats 8000000 in
theorem q_fewest (W : World) (B g : Nat) (d : TDk) (vo : Value) (L : List ByteArray) (s0 : ByteArray) (hz : s0.size ≤ 1048576) (ns : List Int) (hS : SAt W B g d vo L) (hN : NT W B g ns [s0]) (hL : L.length ≤ 1000000) :
    Calls Tryz.prog 102 #[.pointer (some ⟨g, 0, none⟩)] W fun e W' => e = .returned (.tuple #[]) ∧ SRes B g vo W d (L ++ [lineC (fewR s0).2 (orS (decS (fewR s0).1))]) W' := by
  have HD := hd hS
  obtain ⟨vn, vt, c5, c6, O5, O6, -, -⟩ := id hN
  obtain ⟨bt, ot, ct, rfl, -, -, ht⟩ := (O6.sl eS_len).strs (Nat.succ_pos _)
  replace c6 : W.cell? ⟨g, 6, none⟩ = some (.slice (some ⟨bt, ot, none⟩) 1 ct) := c6
  have t0 := ht 0 _ rfl
  rw [Nat.add_zero] at t0
  have HS := hd (show ∀ ww, Below W.heap.size W ww → ww.cell? ⟨g, 6, none⟩ = some (.slice (some ⟨bt, ot, none⟩) 1 ct) ∧ ww.cell? ⟨bt, ot, none⟩ = some (.string s0) from fun V hb => ⟨cell_below c6 V hb, cell_below t0 V hb⟩)
  have K := Below.refl W.heap.size W
  clear hN O5 O6 hS c5 ht
  have HB := hd (show -9223372036854775808 ≤ (fewR s0).1 ∧ (fewR s0).1 ≤ 9223372036854775807 from by have := fewR_bd s0; omega)
  go_enter Tryz.func102, Tryz.ntmps102
  go_wp2_with fail
  refine (few_spec _ s0 hz).mono ?_
  rintro e w2 ⟨rfl, hb2⟩
  replace K := below_step K hb2
  clear hb2
  clear c6 t0
  have HD2 := hd (HD.out.below K)
  obtain ⟨l, hl⟩ : ∃ l, (fewR s0).1 = l := ⟨_, rfl⟩
  obtain ⟨cd, hc⟩ : ∃ c, (fewR s0).2 = c := ⟨_, rfl⟩
  have HR := hd (show L ++ [lineC (fewR s0).2 (orS (decS (fewR s0).1))] = L ++ [lineC cd (decS l)] by rw [hl, hc, orS_dec])
  rw [hl] at HB ⊢
  rw [hc]
  clear hl hc
  go_wp2_with fail
  refine (number_spec28 w2 B g d vo L HD2.out hL l cd HB.out).mono ?_
  rintro e w3 ⟨rfl, hr⟩
  go_wp2_with fail
  go_end0
  exact ⟨rfl, sres_eq (hr.pre K) HR.out.symm⟩
set_option maxRecDepth 100000 in
set_option maxHeartbeats 8000000 in
theorem q_for (W : World) (B g : Nat) (d : TDk) (vo : Value) (L : List ByteArray) (s0 : ByteArray) (hz : s0.size ≤ 1048576) (n0 : Int) (hS : SAt W B g d vo L) (hN : NT W B g [n0] [s0]) (hL : L.length ≤ 1000000) :
    Calls Tryz.prog 103 #[.pointer (some ⟨g, 0, none⟩)] W fun e W' => e = .returned (.tuple #[]) ∧ SRes B g vo W d (L ++ [lineC (dforR s0 n0).2 (orS (dforR s0 n0).1)]) W' := by
  have HD := hd hS
  obtain ⟨vn, vt, c5, c6, O5, O6, -, -⟩ := id hN
  obtain ⟨bn, on, cn, rfl, -, hn⟩ := (O5.sl eI_len).ints (Nat.succ_pos _)
  replace c5 : W.cell? ⟨g, 5, none⟩ = some (.slice (some ⟨bn, on, none⟩) 1 cn) := c5
  have k0 := hn 0 _ rfl
  rw [Nat.add_zero] at k0
  obtain ⟨bt, ot, ct, rfl, -, -, ht⟩ := (O6.sl eS_len).strs (Nat.succ_pos _)
  replace c6 : W.cell? ⟨g, 6, none⟩ = some (.slice (some ⟨bt, ot, none⟩) 1 ct) := c6
  have t0 := ht 0 _ rfl
  rw [Nat.add_zero] at t0
  have HS := hd (show ∀ ww, Below W.heap.size W ww → ww.cell? ⟨g, 5, none⟩ = some (.slice (some ⟨bn, on, none⟩) 1 cn) ∧ ww.cell? ⟨bn, on, none⟩ = some (.int .i64 n0) ∧ ww.cell? ⟨g, 6, none⟩ = some (.slice (some ⟨bt, ot, none⟩) 1 ct) ∧ ww.cell? ⟨bt, ot, none⟩ = some (.string s0) from fun V hb => ⟨cell_below c5 V hb, cell_below k0 V hb, cell_below c6 V hb, cell_below t0 V hb⟩)
  have K := Below.refl W.heap.size W
  clear hN O5 O6 hS hn ht
  go_enter Tryz.func103, Tryz.ntmps103
  go_wp2_with fail
  first | (go_region_held3 (fun ww => ww.cell? ⟨g, 5, none⟩ = some (.slice (some ⟨bn, on, none⟩) 1 cn) ∧ ww.cell? ⟨bn, on, none⟩ = some (.int .i64 n0) ∧ ww.cell? ⟨g, 6, none⟩ = some (.slice (some ⟨bt, ot, none⟩) 1 ct) ∧ ww.cell? ⟨bt, ot, none⟩ = some (.string s0)) (first | with_reducible exact HS.out _ K | with_reducible exact HS.out _ (Below.drew K)) (first | (go_at_call 171; replace K := Below.drew K; (with_reducible refine (dfor_spec _ s0 hz n0).mono ?_); rintro e w2 ⟨rfl, hb2⟩; replace K := below_step K hb2; clear hb2))) | fail
  all_goals
    clear c5 k0 c6 t0
    have HD2 := hd (HD.out.below K)
    obtain ⟨l, hl⟩ : ∃ l, (dforR s0 n0).1 = l := ⟨_, rfl⟩
    obtain ⟨cd, hc⟩ : ∃ c, (dforR s0 n0).2 = c := ⟨_, rfl⟩
    have HR := hd (show L ++ [lineC (dforR s0 n0).2 (orS (dforR s0 n0).1)] = L ++ [lineC cd (orS l)] by rw [hl, hc])
    rw [hl, hc]
    clear hl hc
    go_wp2_with fail
    refine (text_spec28 w2 B g d vo L HD2.out hL l cd).mono ?_
    rintro e w3 ⟨rfl, hr⟩
    go_wp2_with fail
    go_end0
    exact ⟨rfl, sres_eq (hr.pre K) HR.out.symm⟩
set_option maxRecDepth 100000 in
set_option maxHeartbeats 8000000 in
theorem q_shifts (W : World) (B g : Nat) (d : TDk) (vo : Value) (L : List ByteArray) (n0 : Int) (ts : List ByteArray) (hS : SAt W B g d vo L) (hN : NT W B g [n0] ts) (hL : L.length ≤ 1000000) :
    Calls Tryz.prog 108 #[.pointer (some ⟨g, 0, none⟩)] W fun e W' => e = .returned (.tuple #[]) ∧ SRes B g vo W d (L ++ [lineC (leastR d.2.1 n0).2 (orS (numsS ⟨#[32]⟩ (leastR d.2.1 n0).1))]) W' := by
  have HD := hd hS
  obtain ⟨vn, vt, c5, c6, O5, O6, -, -⟩ := id hN
  obtain ⟨v1, v2, ⟨-, x0, x1, x2, x3⟩, P1, P2, -⟩ := hS.desk
  have HC := hd (show ∀ V, Below W.heap.size W V → Sl V 4 v1 eCue d.2.1 from fun V hb => (P1.sl eCue_len).below hb)
  obtain ⟨A1, e1, rfl⟩ := P1.isSlice
  obtain ⟨bn, on, cn, rfl, -, hn⟩ := (O5.sl eI_len).ints (Nat.succ_pos _)
  replace c5 : W.cell? ⟨g, 5, none⟩ = some (.slice (some ⟨bn, on, none⟩) 1 cn) := c5
  have k0 := hn 0 _ rfl
  rw [Nat.add_zero] at k0
  have HS := hd (show ∀ ww, Below W.heap.size W ww → ww.cell? ⟨g, 1, none⟩ = some (.slice A1 d.2.1.length e1) ∧ ww.cell? ⟨g, 5, none⟩ = some (.slice (some ⟨bn, on, none⟩) 1 cn) ∧ ww.cell? ⟨bn, on, none⟩ = some (.int .i64 n0) from fun V hb => ⟨cell_below x1 V hb, cell_below c5 V hb, cell_below k0 V hb⟩)
  have K := Below.refl W.heap.size W
  clear hN O5 O6 hS hn c6 P1 P2 x0 x2 x3
  have HB := hd (show (∀ x ∈ (leastR d.2.1 n0).1, -9223372036854775808 ≤ x ∧ x ≤ 9223372036854775807) ∧ (leastR d.2.1 n0).1.length ≤ 1000 from ⟨fun x hx => by have := (leastR_sh d.2.1 n0).2 x hx; omega, Nat.le_trans (leastR_sh d.2.1 n0).1 (by decide)⟩)
  go_enter Tryz.func108, Tryz.ntmps108
  go_wp2_with fail
  first | (go_region_held3 (fun ww => ww.cell? ⟨g, 1, none⟩ = some (.slice A1 d.2.1.length e1) ∧ ww.cell? ⟨g, 5, none⟩ = some (.slice (some ⟨bn, on, none⟩) 1 cn) ∧ ww.cell? ⟨bn, on, none⟩ = some (.int .i64 n0)) (first | with_reducible exact HS.out _ K | with_reducible exact HS.out _ (Below.drew K)) (first | (go_at_call 179; replace K := Below.drew K; (with_reducible refine (least_spec _ _ d.2.1 (HC.out _ K) n0).mono ?_); rintro e w2 ⟨v2, rfl, O2, hb2⟩; obtain ⟨A2, c2, rfl⟩ := O2.isSlice; replace K := below_step K hb2; clear hb2))) | fail
  all_goals
    clear x1 c5 k0
    have SL := O2.sl eI_len
    clear O2
    have HD2 := hd (HD.out.below K)
    obtain ⟨l, hl⟩ : ∃ l, (leastR d.2.1 n0).1 = l := ⟨_, rfl⟩
    obtain ⟨cd, hc⟩ : ∃ c, (leastR d.2.1 n0).2 = c := ⟨_, rfl⟩
    have HR := hd (show L ++ [lineC (leastR d.2.1 n0).2 (orS (numsS ⟨#[32]⟩ (leastR d.2.1 n0).1))] = L ++ [lineC cd (orS (numsS ⟨#[32]⟩ l))] by rw [hl, hc])
    rw [hl] at SL HB ⊢
    rw [hc]
    clear hl hc
    by_cases hz : cd = 0
    · subst hz
      go_wp2_with fail
      refine (report_ok w2 g).mono ?_
      rintro e ww ⟨rfl, hw⟩
      have hw := hw.symm
      subst hw
      go_wp2_with fail
      refine (row_spec w2 B g d vo L HD2.out hL _ l SL HB.out.2 HB.out.1).mono ?_
      rintro e w3 ⟨rfl, hr⟩
      go_wp2_with fail
      go_end0
      exact ⟨rfl, sres_eq (hr.pre K) (by rw [HR.out, lineC_ok])⟩
    · have HE := hd (report_err w2 B g d vo L HD2.out hL cd hz)
      have HZ := hd (lineC_err hz (orS (numsS ⟨#[32]⟩ l)))
      clear hz
      go_wp2_with fail
      refine HE.out.mono ?_
      rintro e w3 ⟨rfl, hr⟩
      go_wp2_with fail
      go_end0
      exact ⟨rfl, sres_eq (hr.pre K) (by rw [HR.out, HZ.out])⟩
set_option maxRecDepth 100000 in
set_option maxHeartbeats 8000000 in
theorem q_loads (W : World) (B g : Nat) (d : TDk) (vo : Value) (L : List ByteArray) (s0 : ByteArray) (hz : s0.size ≤ 1048576) (n0 : Int) (hS : SAt W B g d vo L) (hN : NT W B g [n0] [s0]) (hL : L.length ≤ 1000000) :
    Calls Tryz.prog 105 #[.pointer (some ⟨g, 0, none⟩)] W fun e W' => e = .returned (.tuple #[]) ∧ SRes B g vo W d (L ++ [lineC (loadR s0 n0).2 (orS (decS (loadR s0 n0).1))]) W' := by
  have HD := hd hS
  obtain ⟨vn, vt, c5, c6, O5, O6, -, -⟩ := id hN
  obtain ⟨bn, on, cn, rfl, -, hn⟩ := (O5.sl eI_len).ints (Nat.succ_pos _)
  replace c5 : W.cell? ⟨g, 5, none⟩ = some (.slice (some ⟨bn, on, none⟩) 1 cn) := c5
  have k0 := hn 0 _ rfl
  rw [Nat.add_zero] at k0
  obtain ⟨bt, ot, ct, rfl, -, -, ht⟩ := (O6.sl eS_len).strs (Nat.succ_pos _)
  replace c6 : W.cell? ⟨g, 6, none⟩ = some (.slice (some ⟨bt, ot, none⟩) 1 ct) := c6
  have t0 := ht 0 _ rfl
  rw [Nat.add_zero] at t0
  have HS := hd (show ∀ ww, Below W.heap.size W ww → ww.cell? ⟨g, 5, none⟩ = some (.slice (some ⟨bn, on, none⟩) 1 cn) ∧ ww.cell? ⟨bn, on, none⟩ = some (.int .i64 n0) ∧ ww.cell? ⟨g, 6, none⟩ = some (.slice (some ⟨bt, ot, none⟩) 1 ct) ∧ ww.cell? ⟨bt, ot, none⟩ = some (.string s0) from fun V hb => ⟨cell_below c5 V hb, cell_below k0 V hb, cell_below c6 V hb, cell_below t0 V hb⟩)
  have K := Below.refl W.heap.size W
  clear hN O5 O6 hS hn ht
  have HB := hd (show -9223372036854775808 ≤ (loadR s0 n0).1 ∧ (loadR s0 n0).1 ≤ 9223372036854775807 from by have := loadR_bd s0 n0; omega)
  go_enter Tryz.func105, Tryz.ntmps105
  go_wp2_with fail
  first | (go_region_held3 (fun ww => ww.cell? ⟨g, 5, none⟩ = some (.slice (some ⟨bn, on, none⟩) 1 cn) ∧ ww.cell? ⟨bn, on, none⟩ = some (.int .i64 n0) ∧ ww.cell? ⟨g, 6, none⟩ = some (.slice (some ⟨bt, ot, none⟩) 1 ct) ∧ ww.cell? ⟨bt, ot, none⟩ = some (.string s0)) (first | with_reducible exact HS.out _ K | with_reducible exact HS.out _ (Below.drew K)) (first | (go_at_call 174; replace K := Below.drew K; (with_reducible refine (fewL_spec _ s0 hz n0).mono ?_); rintro e w2 ⟨rfl, hb2⟩; replace K := below_step K hb2; clear hb2))) | fail
  all_goals
    clear c5 k0 c6 t0
    have HD2 := hd (HD.out.below K)
    obtain ⟨l, hl⟩ : ∃ l, (loadR s0 n0).1 = l := ⟨_, rfl⟩
    obtain ⟨cd, hc⟩ : ∃ c, (loadR s0 n0).2 = c := ⟨_, rfl⟩
    have HR := hd (show L ++ [lineC (loadR s0 n0).2 (orS (decS (loadR s0 n0).1))] = L ++ [lineC cd (decS l)] by rw [hl, hc, orS_dec])
    rw [hl] at HB ⊢
    rw [hc]
    clear hl hc
    go_wp2_with fail
    refine (number_spec28 w2 B g d vo L HD2.out hL l cd HB.out).mono ?_
    rintro e w3 ⟨rfl, hr⟩
    go_wp2_with fail
    go_end0
    exact ⟨rfl, sres_eq (hr.pre K) HR.out.symm⟩
end Go.Proofs.YtgcodjkjdfahdaaGreatDoor
