/- Lemmas for the claim (the walks of its functions and their plain laws), joined. No condition. -/
import Derived.Test.YtgcodjkjdfahdaaGreatDoorJ41
import Derived.Test.YtgcodjkjdfahdaaGreatDoorJ43
namespace Go.Proofs.YtgcodjkjdfahdaaGreatDoor
open Go Go.RowKit Go.ChangeShapes Go.WideShapes
set_option linter.unusedSimpArgs false
set_option linter.unusedVariables false
set_option maxRecDepth 100000 in
set_option maxHeartbeats 8000000 in
theorem q_burn (W : World) (B g : Nat) (d : TDk) (vo : Value) (L : List ByteArray) (n0 n1 n2 n3 : Int) (ts : List ByteArray) (hS : SAt W B g d vo L) (hN : NT W B g [n0, n1, n2, n3] ts) (hL : L.length ≤ 1000000) :
    Calls Tryz.prog 98 #[.pointer (some ⟨g, 0, none⟩)] W fun e W' => e = .returned (.tuple #[]) ∧ SRes B g vo W d (L ++ [lineC (lampR n0 n1 n2 n3).2 (orS (lampR n0 n1 n2 n3).1)]) W' := by
  have HD := hd hS
  obtain ⟨vn, vt, c5, c6, O5, O6, -, -⟩ := id hN
  obtain ⟨bn, on, cn, rfl, -, hn⟩ := (O5.sl eI_len).ints (Nat.succ_pos _)
  replace c5 : W.cell? ⟨g, 5, none⟩ = some (.slice (some ⟨bn, on, none⟩) 4 cn) := c5
  have k0 := hn 0 _ rfl
  rw [Nat.add_zero] at k0
  have k1 := hn 1 _ rfl
  have k2 := hn 2 _ rfl
  have k3 := hn 3 _ rfl
  have HS := hd (show ∀ ww, Below W.heap.size W ww → ww.cell? ⟨g, 5, none⟩ = some (.slice (some ⟨bn, on, none⟩) 4 cn) ∧ ww.cell? ⟨bn, on, none⟩ = some (.int .i64 n0) ∧ ww.cell? ⟨bn, on + 1, none⟩ = some (.int .i64 n1) ∧ ww.cell? ⟨bn, on + 2, none⟩ = some (.int .i64 n2) ∧ ww.cell? ⟨bn, on + 3, none⟩ = some (.int .i64 n3) from fun V hb => ⟨cell_below c5 V hb, cell_below k0 V hb, cell_below k1 V hb, cell_below k2 V hb, cell_below k3 V hb⟩)
  have K := Below.refl W.heap.size W
  clear hN O5 O6 hS hn c6
  go_enter Tryz.func98, Tryz.ntmps98
  go_wp2_with fail
  first | (go_region_held3 (fun ww => ww.cell? ⟨g, 5, none⟩ = some (.slice (some ⟨bn, on, none⟩) 4 cn) ∧ ww.cell? ⟨bn, on, none⟩ = some (.int .i64 n0) ∧ ww.cell? ⟨bn, on + 1, none⟩ = some (.int .i64 n1) ∧ ww.cell? ⟨bn, on + 2, none⟩ = some (.int .i64 n2) ∧ ww.cell? ⟨bn, on + 3, none⟩ = some (.int .i64 n3)) (first | with_reducible exact HS.out _ K | with_reducible exact HS.out _ (Below.drew K)) (first | (go_at_call 162; replace K := Below.drew K; (with_reducible refine (lampS_spec _ n0 n1 n2 n3).mono ?_); rintro e w2 ⟨rfl, hb2⟩; replace K := below_step K hb2; clear hb2))) | fail
  all_goals
    clear c5 k0 k1 k2 k3
    have HD2 := hd (HD.out.below K)
    obtain ⟨l, hl⟩ : ∃ l, (lampR n0 n1 n2 n3).1 = l := ⟨_, rfl⟩
    obtain ⟨cd, hc⟩ : ∃ c, (lampR n0 n1 n2 n3).2 = c := ⟨_, rfl⟩
    have HR := hd (show L ++ [lineC (lampR n0 n1 n2 n3).2 (orS (lampR n0 n1 n2 n3).1)] = L ++ [lineC cd (orS l)] by rw [hl, hc])
    rw [hl, hc]
    clear hl hc
    go_wp2_with fail
    refine (text_spec28 w2 B g d vo L HD2.out hL l cd).mono ?_
    rintro e w3 ⟨rfl, hr⟩
    go_wp2_with fail
    go_end0
    exact ⟨rfl, sres_eq (hr.pre K) HR.out.symm⟩
end Go.Proofs.YtgcodjkjdfahdaaGreatDoor

namespace Go.Proofs.YtgcodjkjdfahdaaGreatDoor
open Go Go.RowKit Go.ChangeShapes Go.WideShapes
set_option linter.unusedSimpArgs false
set_option linter.unusedVariables false
set_option maxRecDepth 100000 in
set_option maxHeartbeats 2000000 in
theorem form_spec (w : World) (s : ByteArray) : Calls Tryz.prog 95 #[.string s] w fun e w' => e = .returned (.string (formS s)) ∧ w' = w := by
  by_cases h0 : s = ⟨#[116, 105, 116, 108, 101]⟩
  · subst h0
    rw [formS_title]
    go_enter Tryz.func95, Tryz.ntmps95
    go_wp2_with fail
    go_ret
    exact ⟨rfl, rfl⟩
  by_cases h1 : s = ⟨#[100, 105, 115, 99]⟩
  · subst h1
    rw [formS_disc]
    clear h0
    go_enter Tryz.func95, Tryz.ntmps95
    go_wp2_with fail
    go_ret
    exact ⟨rfl, rfl⟩
  by_cases h2 : s = ⟨#[102, 101, 119, 101, 115, 116]⟩
  · subst h2
    rw [formS_fewest]
    clear h0 h1
    go_enter Tryz.func95, Tryz.ntmps95
    go_wp2_with fail
    go_ret
    exact ⟨rfl, rfl⟩
  by_cases h3 : s = ⟨#[115, 104, 111, 119, 115]⟩
  · subst h3
    rw [formS_shows]
    clear h0 h1 h2
    go_enter Tryz.func95, Tryz.ntmps95
    go_wp2_with fail
    go_ret
    exact ⟨rfl, rfl⟩
  by_cases h4 : s = ⟨#[115, 104, 105, 102, 116, 115]⟩
  · subst h4
    rw [formS_shifts]
    clear h0 h1 h2 h3
    go_enter Tryz.func95, Tryz.ntmps95
    go_wp2_with fail
    go_ret
    exact ⟨rfl, rfl⟩
  by_cases h5 : s = ⟨#[115, 101, 101, 110]⟩
  · subst h5
    rw [formS_seen]
    clear h0 h1 h2 h3 h4
    go_enter Tryz.func95, Tryz.ntmps95
    go_wp2_with fail
    go_ret
    exact ⟨rfl, rfl⟩
  by_cases h6 : s = ⟨#[105, 109, 97, 103, 101]⟩
  · subst h6
    rw [formS_image]
    clear h0 h1 h2 h3 h4 h5
    go_enter Tryz.func95, Tryz.ntmps95
    go_wp2_with fail
    go_ret
    exact ⟨rfl, rfl⟩
  by_cases h7 : s = ⟨#[99, 117, 101]⟩
  · subst h7
    rw [formS_cue]
    clear h0 h1 h2 h3 h4 h5 h6
    go_enter Tryz.func95, Tryz.ntmps95
    go_wp2_with fail
    go_ret
    exact ⟨rfl, rfl⟩
  by_cases h8 : s = ⟨#[98, 117, 114, 110]⟩
  · subst h8
    rw [formS_burn]
    clear h0 h1 h2 h3 h4 h5 h6 h7
    go_enter Tryz.func95, Tryz.ntmps95
    go_wp2_with fail
    go_ret
    exact ⟨rfl, rfl⟩
  by_cases h9 : s = ⟨#[102, 111, 114]⟩
  · subst h9
    rw [formS_for]
    clear h0 h1 h2 h3 h4 h5 h6 h7 h8
    go_enter Tryz.func95, Tryz.ntmps95
    go_wp2_with fail
    go_ret
    exact ⟨rfl, rfl⟩
  by_cases h10 : s = ⟨#[108, 111, 97, 100, 115]⟩
  · subst h10
    rw [formS_loads]
    clear h0 h1 h2 h3 h4 h5 h6 h7 h8 h9
    go_enter Tryz.func95, Tryz.ntmps95
    go_wp2_with fail
    go_ret
    exact ⟨rfl, rfl⟩
  by_cases h11 : s = ⟨#[101, 110, 116, 101, 114]⟩
  · subst h11
    rw [formS_enter]
    clear h0 h1 h2 h3 h4 h5 h6 h7 h8 h9 h10
    go_enter Tryz.func95, Tryz.ntmps95
    go_wp2_with fail
    go_ret
    exact ⟨rfl, rfl⟩
  by_cases h12 : s = ⟨#[116, 105, 116, 108, 101, 115]⟩
  · subst h12
    rw [formS_titles]
    clear h0 h1 h2 h3 h4 h5 h6 h7 h8 h9 h10 h11
    go_enter Tryz.func95, Tryz.ntmps95
    go_wp2_with fail
    go_ret
    exact ⟨rfl, rfl⟩
  by_cases h13 : s = ⟨#[108, 111, 103]⟩
  · subst h13
    rw [formS_log]
    clear h0 h1 h2 h3 h4 h5 h6 h7 h8 h9 h10 h11 h12
    go_enter Tryz.func95, Tryz.ntmps95
    go_wp2_with fail
    go_ret
    exact ⟨rfl, rfl⟩
  rw [formS_none h0 h1 h2 h3 h4 h5 h6 h7 h8 h9 h10 h11 h12 h13]
  have k0 : (s.toList == [116, 105, 116, 108, 101]) = false := lit_ne h0
  have k1 : (s.toList == [100, 105, 115, 99]) = false := lit_ne h1
  have k2 : (s.toList == [102, 101, 119, 101, 115, 116]) = false := lit_ne h2
  have k3 : (s.toList == [115, 104, 111, 119, 115]) = false := lit_ne h3
  have k4 : (s.toList == [115, 104, 105, 102, 116, 115]) = false := lit_ne h4
  have k5 : (s.toList == [115, 101, 101, 110]) = false := lit_ne h5
  have k6 : (s.toList == [105, 109, 97, 103, 101]) = false := lit_ne h6
  have k7 : (s.toList == [99, 117, 101]) = false := lit_ne h7
  have k8 : (s.toList == [98, 117, 114, 110]) = false := lit_ne h8
  have k9 : (s.toList == [102, 111, 114]) = false := lit_ne h9
  have k10 : (s.toList == [108, 111, 97, 100, 115]) = false := lit_ne h10
  have k11 : (s.toList == [101, 110, 116, 101, 114]) = false := lit_ne h11
  have k12 : (s.toList == [116, 105, 116, 108, 101, 115]) = false := lit_ne h12
  have k13 : (s.toList == [108, 111, 103]) = false := lit_ne h13
  clear h0 h1 h2 h3 h4 h5 h6 h7 h8 h9 h10 h11 h12 h13
  go_enter Tryz.func95, Tryz.ntmps95
  go_wp2_with fail
  go_ret
  exact ⟨rfl, rfl⟩
set_option maxRecDepth 100000 in
set_option maxHeartbeats 2000000 in
theorem fits_spec (w : World) (fm : ByteArray) (hm : fm ∈ formL) (n : Nat) (hn : n ≤ 1048577) : Calls Tryz.prog 96 #[.string fm, .int .i64 (n : Int)] w fun e w' => e = .returned (.bool (fitF fm n)) ∧ w' = w := by
  unfold formL at hm
  simp only [List.mem_cons, List.not_mem_nil, or_false] at hm
  rcases hm with rfl | rfl | rfl | rfl | rfl | rfl | rfl | rfl
  · have HR := hd (show fitF ⟨#[114]⟩ n = decide (1 ≤ n) by unfold fitF; rw [if_pos rfl])
    go_enter Tryz.func96, Tryz.ntmps96
    go_wp2_with fail
    go_ret
    refine ⟨?_, rfl⟩
    show Ending.returned (.bool (decide ((1 : Int) ≤ (n : Int)))) = _
    rw [HR.out, show (decide ((1 : Int) ≤ (n : Int))) = decide (1 ≤ n) by rw [Bool.eq_iff_iff]; simp; try omega]
  · have HR := hd (show fitF ⟨#[120]⟩ n = decide (n = 1) by unfold fitF; rw [if_neg (by simp)]; rfl)
    go_enter Tryz.func96, Tryz.ntmps96
    go_wp2_with fail
    go_ret
    refine ⟨?_, rfl⟩
    show Ending.returned (.bool (((n : Int)) == (1 : Int))) = _
    rw [HR.out, show (((n : Int)) == (1 : Int)) = decide (n = 1) by rw [Bool.eq_iff_iff]; simp; try omega]
  · have HR := hd (show fitF ⟨#[110]⟩ n = decide (n = 1) by unfold fitF; rw [if_neg (by simp)]; rfl)
    go_enter Tryz.func96, Tryz.ntmps96
    go_wp2_with fail
    go_ret
    refine ⟨?_, rfl⟩
    show Ending.returned (.bool (((n : Int)) == (1 : Int))) = _
    rw [HR.out, show (((n : Int)) == (1 : Int)) = decide (n = 1) by rw [Bool.eq_iff_iff]; simp; try omega]
  · have HR := hd (show fitF ⟨#[110, 110]⟩ n = decide (n = 2) by unfold fitF; rw [if_neg (by simp)]; rfl)
    go_enter Tryz.func96, Tryz.ntmps96
    go_wp2_with fail
    go_ret
    refine ⟨?_, rfl⟩
    show Ending.returned (.bool (((n : Int)) == (2 : Int))) = _
    rw [HR.out, show (((n : Int)) == (2 : Int)) = decide (n = 2) by rw [Bool.eq_iff_iff]; simp; try omega]
  · have HR := hd (show fitF ⟨#[110, 110, 110, 110]⟩ n = decide (n = 4) by unfold fitF; rw [if_neg (by simp)]; rfl)
    go_enter Tryz.func96, Tryz.ntmps96
    go_wp2_with fail
    go_ret
    refine ⟨?_, rfl⟩
    show Ending.returned (.bool (((n : Int)) == (4 : Int))) = _
    rw [HR.out, show (((n : Int)) == (4 : Int)) = decide (n = 4) by rw [Bool.eq_iff_iff]; simp; try omega]
  · have HR := hd (show fitF ⟨#[120, 110]⟩ n = decide (n = 2) by unfold fitF; rw [if_neg (by simp)]; rfl)
    go_enter Tryz.func96, Tryz.ntmps96
    go_wp2_with fail
    go_ret
    refine ⟨?_, rfl⟩
    show Ending.returned (.bool (((n : Int)) == (2 : Int))) = _
    rw [HR.out, show (((n : Int)) == (2 : Int)) = decide (n = 2) by rw [Bool.eq_iff_iff]; simp; try omega]
  · have HR := hd (show fitF ⟨#[110, 120, 110]⟩ n = decide (n = 3) by unfold fitF; rw [if_neg (by simp)]; rfl)
    go_enter Tryz.func96, Tryz.ntmps96
    go_wp2_with fail
    go_ret
    refine ⟨?_, rfl⟩
    show Ending.returned (.bool (((n : Int)) == (3 : Int))) = _
    rw [HR.out, show (((n : Int)) == (3 : Int)) = decide (n = 3) by rw [Bool.eq_iff_iff]; simp; try omega]
  · have HR := hd (show fitF ⟨#[]⟩ n = decide (n = 0) by unfold fitF; rw [if_neg (by simp)]; rfl)
    go_enter Tryz.func96, Tryz.ntmps96
    go_wp2_with fail
    go_ret
    refine ⟨?_, rfl⟩
    show Ending.returned (.bool (((n : Int)) == (0 : Int))) = _
    rw [HR.out, show (((n : Int)) == (0 : Int)) = decide (n = 0) by rw [Bool.eq_iff_iff]; simp; try omega]
end Go.Proofs.YtgcodjkjdfahdaaGreatDoor
