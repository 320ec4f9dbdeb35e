/- Texts of the claim, joined: each says at its head what it proves. No condition. -/
import Derived.Test.YtgcodjkjdfahdaaGreatDoorJ39
import Derived.Test.YtgcodjkjdfahdaaGreatDoorJ43
/- The reference's commands that only ask: burn. No condition but bounds. -/
namespace Go.Proofs.YtgcodjkjdfahdaaGreatDoor
open Go Go.RowKit Go.ChangeShapes Go.WideShapes
set_option linter.unusedSimpArgs false
set_option linter.unusedVariables false
set_option maxRecDepth 100000 in
set_option maxHeartbeats 8000000 in
theorem q_burn (W : World) (B g : Nat) (d : TDk) (vo : Value) (L : List ByteArray) (n0 n1 n2 n3 : Int) (ts : List ByteArray) (hS : SAt W B g d vo L) (hN : NT W B g [n0, n1, n2, n3] ts) (hL : L.length ≤ 1000000) :
    Calls Tryz.prog 98 #[.pointer (some ⟨g, 0, none⟩)] W fun e W' => e = .returned (.tuple #[]) ∧ SRes B g vo W d (L ++ [lineC (lampR n0 n1 n2 n3).2 (orS (lampR n0 n1 n2 n3).1)]) W' := by
  have HD := hd hS
  obtain ⟨vn, vt, c5, c6, O5, O6, -, -⟩ := id hN
  obtain ⟨bn, on, cn, rfl, -, hn⟩ := (O5.sl eI_len).ints (Nat.succ_pos _)
  replace c5 : W.cell? ⟨g, 5, none⟩ = some (.slice (some ⟨bn, on, none⟩) 4 cn) := c5
  have k0 := hn 0 _ rfl
  rw [Nat.add_zero] at k0
  have k1 := hn 1 _ rfl
  have k2 := hn 2 _ rfl
  have k3 := hn 3 _ rfl
  have HS := hd (show ∀ ww, Below W.heap.size W ww → ww.cell? ⟨g, 5, none⟩ = some (.slice (some ⟨bn, on, none⟩) 4 cn) ∧ ww.cell? ⟨bn, on, none⟩ = some (.int .i64 n0) ∧ ww.cell? ⟨bn, on + 1, none⟩ = some (.int .i64 n1) ∧ ww.cell? ⟨bn, on + 2, none⟩ = some (.int .i64 n2) ∧ ww.cell? ⟨bn, on + 3, none⟩ = some (.int .i64 n3) from fun V hb => ⟨cell_below c5 V hb, cell_below k0 V hb, cell_below k1 V hb, cell_below k2 V hb, cell_below k3 V hb⟩)
  have K := Below.refl W.heap.size W
  clear hN O5 O6 hS hn c6
  go_enter Tryz.func98, Tryz.ntmps98
  go_wp2_with fail
  first | (go_region_held3 (fun ww => ww.cell? ⟨g, 5, none⟩ = some (.slice (some ⟨bn, on, none⟩) 4 cn) ∧ ww.cell? ⟨bn, on, none⟩ = some (.int .i64 n0) ∧ ww.cell? ⟨bn, on + 1, none⟩ = some (.int .i64 n1) ∧ ww.cell? ⟨bn, on + 2, none⟩ = some (.int .i64 n2) ∧ ww.cell? ⟨bn, on + 3, none⟩ = some (.int .i64 n3)) (first | with_reducible exact HS.out _ K | with_reducible exact HS.out _ (Below.drew K)) (first | (go_at_call 162; replace K := Below.drew K; (with_reducible refine (lampS_spec _ n0 n1 n2 n3).mono ?_); rintro e w2 ⟨rfl, hb2⟩; replace K := below_step K hb2; clear hb2))) | fail
  all_goals
    clear c5 k0 k1 k2 k3
    have HD2 := hd (HD.out.below K)
    obtain ⟨l, hl⟩ : ∃ l, (lampR n0 n1 n2 n3).1 = l := ⟨_, rfl⟩
    obtain ⟨cd, hc⟩ : ∃ c, (lampR n0 n1 n2 n3).2 = c := ⟨_, rfl⟩
    have HR := hd (show L ++ [lineC (lampR n0 n1 n2 n3).2 (orS (lampR n0 n1 n2 n3).1)] = L ++ [lineC cd (orS l)] by rw [hl, hc])
    rw [hl, hc]
    clear hl hc
    go_wp2_with fail
    refine (text_spec28 w2 B g d vo L HD2.out hL l cd).mono ?_
    rintro e w3 ⟨rfl, hr⟩
    go_wp2_with fail
    go_end0
    exact ⟨rfl, sres_eq (hr.pre K) HR.out.symm⟩
end Go.Proofs.YtgcodjkjdfahdaaGreatDoor
