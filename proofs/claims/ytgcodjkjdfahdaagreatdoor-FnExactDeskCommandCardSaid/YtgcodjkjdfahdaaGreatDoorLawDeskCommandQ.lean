/- The law, by the joined texts. No condition. -/
import Derived.Test.YtgcodjkjdfahdaaGreatDoorJ49
import Derived.Test.YtgcodjkjdfahdaaGreatDoorJ18
import Derived.Test.YtgcodjkjdfahdaaGreatDoorCards
import Derived.Test.YtgcodjkjdfahdaaGreatDoorTie
import Derived.Deep.RegionHeld3
import Derived.LaidMore
import Derived.Lay
import Derived.LaidHandle
import Derived.Stop.LaidErr
import Derived.Stop.Joined
import Derived.SevenTiedAt
namespace Go.Proofs.YtgcodjkjdfahdaaGreatDoor
open Go Go.RowKit Go.ChangeShapes Go.WideShapes
set_option linter.unusedSimpArgs false
set_option linter.unusedVariables false
set_option maxRecDepth 100000 in
set_option maxHeartbeats 16000000 in
theorem law_FnExactDeskCommand (w : World) (pa : ByteArray) (va1 va2 : Value) (Ca : List TCue) (Ta : List TTitle) (qa : ByteArray) (zpa : pa.size ≤ maxLen) (Sa1 : Sl w 4 va1 eCue Ca) (Sa2 : Sl w 4 va2 eTitle Ta) (ga : ∀ x ∈ Ta, okTitle x) (zqa : qa.size ≤ maxLen) (s : ByteArray) (hs : s.size ≤ maxLen) (hsh : Shop w) (hnm : Names w) :
    Calls Tryz.prog 5 #[.agg #[.string pa, va1, va2, .string qa], .string s] w fun e w' => e = .returned (.bool true) ∧ Below w.heap.size w w' := by
  obtain ⟨Aa1, ca1, rfl⟩ := Sa1.sliceD
  obtain ⟨Aa2, ca2, rfl⟩ := Sa2.sliceD
  have hD := desk_new w pa (.slice Aa1 Ca.length ca1) (.slice Aa2 Ta.length ca2) qa 41
  have hb := (Below.refl w.heap.size w).alloc (Nat.le_refl _) (.cells #[.string pa, .slice Aa1 Ca.length ca1, .slice Aa2 Ta.length ca2, .string qa] 41)
  obtain ⟨-, a0, a1, a2, a3⟩ := id hD
  have Ga := hd ga
  have HSH := hd (hsh.below hb)
  have HNM := hd (hnm.below hb)
  have HSL := hd (Sa1.below hb)
  have HSL2 := hd (Sa2.below hb)
  have HB := hd hb
  have HDD := hd hD
  clear ga hsh hnm Sa1 Sa2 hb hD
  by_cases hz : s.size ≤ 1048576
  case neg =>
    have hz' : 1048576 < s.size := by omega
    unfold maxLen at hs
    go_enter Tryz.func5, Tryz.ntmps5
    go_wp2_with fail
    go_ret
    exact ⟨rfl, HB.out⟩
  by_cases ya : (totDesk pa Ca Ta qa : Int) ≤ 1048576
  case neg =>
    go_enter Tryz.func5, Tryz.ntmps5
    go_wp2_with fail
    refine (szDesk_no _ _ _ _ _ _ _ zpa zqa HSL.out HSL2.out Ga.out _ (by omega) (by omega) (by omega)).mono ?_
    rintro e w1 ⟨rfl, hb1⟩
    go_wp2_with fail
    go_ret
    exact ⟨rfl, below_step HB.out hb1⟩
  have ba1 : Ca.length ≤ 1048576 := by unfold totDesk at ya; omega
  have ba2 : Ta.length ≤ 1048576 := by unfold totDesk totTitle at ya; omega
  have hpz : pa.size ≤ 1048576 := by unfold totDesk at ya; omega
  have hqz : qa.size ≤ 1048576 := by unfold totDesk at ya; omega
  obtain ⟨p', C', T', q', L', c', hR⟩ : ∃ p' C' T' q' L' c', cmdR (pa, Ca, Ta, qa) s = ((p', C', T', q'), L', c') := ⟨_, _, _, _, _, _, rfl⟩
  have bds := cmd_bds (pa, Ca, Ta, qa) s
  rw [hR] at bds
  obtain ⟨bd1, bd2, bd3⟩ := bds
  have bd1 : C'.length ≤ 6 := bd1
  have bd2 : T'.length ≤ 20 := bd2
  have bd3 : L'.length ≤ 4001 := bd3
  have HCS := hd (show ∀ (W : World) (v1 v2 : Value), Sl W 4 v1 eCue Ca → Sl W 4 v2 eTitle Ta → Calls Tryz.prog 15 #[.agg #[.string pa, v1, v2, .string qa], .string s] W (fun e w' => ∃ u1 u2 lv, e = .returned (.tuple #[.agg #[.string p', u1, u2, .string q'], lv, .int .i64 c']) ∧ Own w' W.heap.size 92 4 u1 eCue C' ∧ Own w' W.heap.size 95 4 u2 eTitle T' ∧ Own w' W.heap.size 9 1 lv eS L' ∧ Below W.heap.size W w') from fun W v1 v2 h1 h2 => by
    have h0 := cmd_spec W (pa, Ca, Ta, qa) v1 v2 s h1 h2 hpz hqz hz
    rw [hR] at h0
    exact h0)
  have HCI := hd (show ∀ (W : World) (v1 v2 : Value), Shop W ∧ Names W → Sl W 4 v1 eCue Ca → Sl W 4 v2 eTitle Ta → Calls Tryz.prog 9 #[.agg #[.string pa, v1, v2, .string qa], .string s] W (fun e w' => ∃ u1 u2 lv, e = .returned (.tuple #[.agg #[.string p', u1, u2, .string q'], lv, .int .i64 c']) ∧ Own w' W.heap.size 92 4 u1 eCue C' ∧ Own w' W.heap.size 95 4 u2 eTitle T' ∧ Own w' W.heap.size 9 1 lv eS L' ∧ Below W.heap.size W w') from fun W v1 v2 hh h1 h2 => by
    have h0 := cmd_impl W (pa, Ca, Ta, qa) v1 v2 s h1 h2 hpz hqz hz hh.1 hh.2
    rw [hR] at h0
    exact h0)
  obtain ⟨kx, k3x, MCx, MTx, MLx, hmx, -⟩ := marks_pack Ca.length Ta.length 0 ba1 ba2 (by omega)
  obtain ⟨k2, k3, MC, MT, ML, hm1, hm2, hm3, hm4⟩ := marks_pack C'.length T'.length L'.length (by omega) (by omega) (by omega)
  have HMX := hd (fun W B p q v1 v2 => hmx W B p q v1 v2 Ca Ta rfl rfl)
  have HM1 := hd (fun W B p q v1 v2 => hm1 W B p q v1 v2 C' T' rfl rfl)
  have HM2 := hd (fun W B v => hm2 W B v L' rfl)
  have HM3 := hd hm3
  have HM4 := hd hm4
  clear hR bd1 bd2 bd3 hmx hm1 hm2 hm3 hm4
  have nx : ¬ ((kx : Int) < 0) := by omega
  have n2 : ¬ ((k2 : Int) < 0) := by omega
  have n3 : ¬ ((k3 : Int) < 0) := by omega
  go_enter Tryz.func5, Tryz.ntmps5
  go_wp2_with fail
  generalize w.alloc (.cells #[.string pa, .slice Aa1 Ca.length ca1, .slice Aa2 Ta.length ca2, .string qa] 41) = W at a0 a1 a2 a3 HSH HNM HSL HSL2 HB HDD ⊢
  have K := Below.refl W.heap.size W
  generalize w.heap.size = G0 at a0 a1 a2 a3 HDD ⊢
  refine (szDesk_yes _ _ _ _ _ _ _ zpa zqa HSL.out HSL2.out Ga.out _ (by omega) (by omega) (by omega)).mono ?_
  rintro e w1 ⟨rfl, hb1⟩
  replace K := below_step K hb1
  clear a0 a1 a2 a3 hb1
  obtain ⟨-, a0, a1, a2, a3⟩ := HDD.out.below K
  go_wp2_with fail
  clear a0 a1 a2 a3
  refine (toDeskO _ _ _ _ _ _ _ (HSL.out.below K) (HSL2.out.below K) ba1 ba2).mono ?_
  rintro e w3 ⟨A31, c31, A32, c32, rfl, OC3, OT3, hb3⟩
  have SC3 := OC3.sl eCue_len
  have ST3 := OT3.sl eTitle_len
  clear OC3 OT3
  replace K := below_step K hb3
  clear hb3
  go_wp2_with fail
  refine (HCS.out _ _ _ SC3 ST3).mono ?_
  rintro e w4 ⟨u1, u2, lv, rfl, O1, O2, O3, hb4⟩
  replace K := below_step K hb4
  clear hb4 SC3 ST3
  obtain ⟨X1, m1, rfl⟩ := O1.isSlice
  obtain ⟨X2, m2, rfl⟩ := O2.isSlice
  obtain ⟨X3, m3, rfl⟩ := O3.isSlice
  have D6 := desk_new w4 p' (.slice X1 C'.length m1) (.slice X2 T'.length m2) q' 29
  have b6 := (Below.refl w4.heap.size w4).alloc (Nat.le_refl _) (.cells #[.string p', .slice X1 C'.length m1, .slice X2 T'.length m2, .string q'] 29)
  have S61 := (O1.sl eCue_len).below b6
  have S62 := (O2.sl eTitle_len).below b6
  have S63 := (O3.sl eS_len).below b6
  replace K := below_step K b6
  clear O1 O2 O3 b6
  obtain ⟨-, a0, a1, a2, a3⟩ := HDD.out.below K
  go_wp2_with fail
  clear a0 a1 a2 a3
  generalize w4.alloc (.cells #[.string p', .slice X1 C'.length m1, .slice X2 T'.length m2, .string q'] 29) = W6 at D6 S61 S62 S63 K ⊢
  generalize w4.heap.size = G6 at D6 ⊢
  have HK6 := hd K
  have HA := hd (show ∀ ww, Below W6.heap.size W6 ww → (Shop ww ∧ Names ww) ∧ DeskAt ww G0 pa (.slice Aa1 Ca.length ca1) (.slice Aa2 Ta.length ca2) qa ∧ Sl ww 4 (.slice Aa1 Ca.length ca1) eCue Ca ∧ Sl ww 4 (.slice Aa2 Ta.length ca2) eTitle Ta from fun ww k => by
    have kk := below_step HK6.out k
    exact ⟨⟨HSH.out.below kk, HNM.out.below kk⟩, HDD.out.below kk, HSL.out.below kk, HSL2.out.below kk⟩)
  have HW := hd (show ∀ ww, Below W6.heap.size W6 ww → DeskAt ww G6 p' (.slice X1 C'.length m1) (.slice X2 T'.length m2) q' ∧ Sl ww 4 (.slice X1 C'.length m1) eCue C' ∧ Sl ww 4 (.slice X2 T'.length m2) eTitle T' ∧ Sl ww 1 (.slice X3 L'.length m3) eS L' from fun ww k => ⟨D6.below k, S61.below k, S62.below k, S63.below k⟩)
  clear D6 S61 S62 S63 HDD HSL HSL2 HSH HNM K
  have K := Below.refl W6.heap.size W6
  refine (toDeskO _ _ _ _ _ _ _ (HA.out _ K).2.2.1 (HA.out _ K).2.2.2 ba1 ba2).mono ?_
  rintro e w7 ⟨A71, c71, A72, c72, rfl, P1, P2, hb7⟩
  have D8 := desk_new w7 pa (.slice A71 Ca.length c71) (.slice A72 Ta.length c72) qa 29
  have b8 := (Below.refl w7.heap.size w7).alloc (Nat.le_refl _) (.cells #[.string pa, .slice A71 Ca.length c71, .slice A72 Ta.length c72, .string qa] 29)
  replace P1 := P1.below b8 (Nat.le_refl _)
  replace P2 := P2.below b8 (Nat.le_refl _)
  replace K := below_step (below_step K hb7) b8
  clear hb7 b8
  obtain ⟨-, x0, x1, x2, x3⟩ := id D8
  go_wp2_with fail
  clear x0 x1 x2 x3
  generalize w7.alloc (.cells #[.string pa, .slice A71 Ca.length c71, .slice A72 Ta.length c72, .string qa] 29) = W8 at D8 P1 P2 K ⊢
  generalize w7.heap.size = G9 at D8 ⊢
  refine (HCI.out _ _ _ (HA.out _ K).1 (P1.sl eCue_len) (P2.sl eTitle_len)).mono ?_
  rintro e w9 ⟨g1, g2, gl, rfl, Q1, Q2, Q3, hb9⟩
  obtain ⟨Y1, l1, rfl⟩ := Q1.isSlice
  obtain ⟨Y2, l2, rfl⟩ := Q2.isSlice
  obtain ⟨Y3, l3, rfl⟩ := Q3.isSlice
  have o1 : ∀ k, (.slice Y1 C'.length l1 : Value).ownBlock = some k → k < w9.heap.size := fun k e => (Q1.lt k e).2
  have o2 : ∀ k, (.slice Y2 T'.length l2 : Value).ownBlock = some k → k < w9.heap.size := fun k e => (Q2.lt k e).2
  have o3 : ∀ k, (.slice Y3 L'.length l3 : Value).ownBlock = some k → k < w9.heap.size := fun k e => (Q3.lt k e).2
  have D10 := desk_new w9 p' (.slice Y1 C'.length l1) (.slice Y2 T'.length l2) q' 29
  have b10 := (Below.refl w9.heap.size w9).alloc (Nat.le_refl _) (.cells #[.string p', .slice Y1 C'.length l1, .slice Y2 T'.length l2, .string q'] 29)
  have hG10 : W8.heap.size ≤ w9.heap.size := hb9.size
  replace hb9 := below_step hb9 b10
  have xl1 : ∀ k, (.slice A71 Ca.length c71 : Value).ownBlock = some k → k < W8.heap.size := fun k e => (P1.lt k e).2
  have xl2 : ∀ k, (.slice A72 Ta.length c72 : Value).ownBlock = some k → k < W8.heap.size := fun k e => (P2.lt k e).2
  have z86 := K.size
  replace D8 := D8.below hb9
  replace P1 := P1.below hb9 (Nat.le_refl _)
  replace P2 := P2.below hb9 (Nat.le_refl _)
  replace Q1 := Q1.below b10 (Nat.le_refl _)
  replace Q2 := Q2.below b10 (Nat.le_refl _)
  replace Q3 := Q3.below b10 (Nat.le_refl _)
  replace K := below_step K hb9
  clear hb9 b10
  obtain ⟨-, y0, y1, y2, y3⟩ := id D10
  obtain ⟨-, z0, z1, z2, z3⟩ := (HW.out _ K).1
  go_wp2_with fail
  clear y0 y1 y2 y3 z0 z1 z2 z3
  generalize w9.alloc (.cells #[.string p', .slice Y1 C'.length l1, .slice Y2 T'.length l2, .string q'] 29) = W10 at D8 D10 P1 P2 Q1 Q2 Q3 K ⊢
  generalize w9.heap.size = G10 at D10 o1 o2 o3 hG10 ⊢
  have HK10 := hd K
  have HG := hd (show ∀ ww, Below W10.heap.size W10 ww → (DeskAt ww G10 p' (.slice Y1 C'.length l1) (.slice Y2 T'.length l2) q' ∧ Own ww W8.heap.size 92 4 (.slice Y1 C'.length l1) eCue C' ∧ Own ww W8.heap.size 95 4 (.slice Y2 T'.length l2) eTitle T' ∧ Own ww W8.heap.size 9 1 (.slice Y3 L'.length l3) eS L') ∧ DeskAt ww G9 pa (.slice A71 Ca.length c71) (.slice A72 Ta.length c72) qa ∧ Own ww W6.heap.size 92 4 (.slice A71 Ca.length c71) eCue Ca ∧ Own ww W6.heap.size 95 4 (.slice A72 Ta.length c72) eTitle Ta from fun ww k => ⟨⟨D10.below k, Q1.below k (Nat.le_refl _), Q2.below k (Nat.le_refl _), Q3.below k (Nat.le_refl _)⟩, D8.below k, P1.below k (Nat.le_refl _), P2.below k (Nat.le_refl _)⟩)
  have HO := hd (And.intro o1 (And.intro o2 o3))
  have HXL := hd (And.intro xl1 xl2)
  clear D10 Q1 Q2 Q3 D8 P1 P2 K o1 o2 o3 xl1 xl2
  have K := Below.refl W10.heap.size W10
  refine (eqDesk_same _ _ _ _ _ _ _ _ _ ((HG.out _ K).1.2.1.sl eCue_len) ((HG.out _ K).1.2.2.1.sl eTitle_len) (HW.out _ (below_step HK10.out K)).2.1 (HW.out _ (below_step HK10.out K)).2.2.1).mono ?_
  rintro e w11 ⟨rfl, hb11⟩
  replace K := below_step K hb11
  clear hb11
  go_wp2_with fail
  refine (eqStrs_same _ _ _ L' ((HG.out _ K).1.2.2.2.sl eS_len) (HW.out _ (below_step HK10.out K)).2.2.2).mono ?_
  rintro e w12 ⟨rfl, hb12⟩
  replace K := below_step K hb12
  clear hb12
  go_wp2_with fail
  have HK12 := hd K
  clear K
  have HS := hd (show ∀ ww, Below w12.heap.size w12 ww → ww.cell? ⟨G0, 0, none⟩ = some (.string pa) ∧ ww.cell? ⟨G0, 1, none⟩ = some (.slice Aa1 Ca.length ca1) ∧ ww.cell? ⟨G0, 2, none⟩ = some (.slice Aa2 Ta.length ca2) ∧ ww.cell? ⟨G0, 3, none⟩ = some (.string qa) ∧ ww.cell? ⟨G9, 0, none⟩ = some (.string pa) ∧ ww.cell? ⟨G9, 1, none⟩ = some (.slice A71 Ca.length c71) ∧ ww.cell? ⟨G9, 2, none⟩ = some (.slice A72 Ta.length c72) ∧ ww.cell? ⟨G9, 3, none⟩ = some (.string qa) from fun ww k => by
    have k1 := below_step HK12.out k
    have d0 := (HA.out _ (below_step HK10.out k1)).2.1
    have d9 := (HG.out _ k1).2.1
    exact ⟨d0.2.1, d0.2.2.1, d0.2.2.2.1, d0.2.2.2.2, d9.2⟩)
  have HSA := hd (show ∀ ww, Below w12.heap.size w12 ww → (Sl ww 4 (.slice Aa1 Ca.length ca1) eCue Ca ∧ Sl ww 4 (.slice Aa2 Ta.length ca2) eTitle Ta) ∧ Sl ww 4 (.slice A71 Ca.length c71) eCue Ca ∧ Sl ww 4 (.slice A72 Ta.length c72) eTitle Ta from fun ww k => by
    have k1 := below_step HK12.out k
    have d0 := (HA.out _ (below_step HK10.out k1)).2.2
    have d9 := (HG.out _ k1).2.2
    exact ⟨d0, d9.1.sl eCue_len, d9.2.sl eTitle_len⟩)
  have K := Below.refl w12.heap.size w12
  go_region_held3 (fun ww => ww.cell? ⟨G0, 0, none⟩ = some (.string pa) ∧ ww.cell? ⟨G0, 1, none⟩ = some (.slice Aa1 Ca.length ca1) ∧ ww.cell? ⟨G0, 2, none⟩ = some (.slice Aa2 Ta.length ca2) ∧ ww.cell? ⟨G0, 3, none⟩ = some (.string qa) ∧ ww.cell? ⟨G9, 0, none⟩ = some (.string pa) ∧ ww.cell? ⟨G9, 1, none⟩ = some (.slice A71 Ca.length c71) ∧ ww.cell? ⟨G9, 2, none⟩ = some (.slice A72 Ta.length c72) ∧ ww.cell? ⟨G9, 3, none⟩ = some (.string qa)) (first | with_reducible exact HS.out _ K | with_reducible exact HS.out _ (Below.drew K))
    (first | (go_at_call 16; replace K := Below.drew K; with_reducible refine (toDeskO _ _ _ _ _ _ _ (HSA.out _ K).1.1 (HSA.out _ K).1.2 ba1 ba2).mono ?_; rintro e w13 ⟨A131, c131, A132, c132, rfl, OC13, OT13, hb13⟩; have SC13 := OC13.sl eCue_len; have ST13 := OT13.sl eTitle_len; clear OC13 OT13; replace K := below_step K hb13; clear hb13) | (go_at_call 17; with_reducible refine (eqDesk_same _ _ _ _ _ _ _ _ _ ((HSA.out _ K).2.1) ((HSA.out _ K).2.2) SC13 ST13).mono ?_; rintro e w14 ⟨rfl, hb14⟩; replace K := below_step K hb14; clear hb14))
  all_goals
    clear SC13 ST13 HS HSA
    replace K := below_step HK12.out K
    obtain ⟨-, x0, x1, x2, x3⟩ := (HG.out _ K).2.1
    go_wp2_with fail
    clear x0 x1 x2 x3
    obtain ⟨⟨E10, Q1, Q2, Q3⟩, E9, P1, P2⟩ := HG.out _ K
    refine (HMX.out _ _ _ _ _ _ P1 P2).mono ?_
    rintro e w15 ⟨rfl, -, -, T15⟩
    have hlt := two_bs (P := fun b => ∀ k, b = some k → k < W8.heap.size) HXL.out.1 HXL.out.2
    have F10 := E10.touched T15 (fun b hb k e => by have := hlt b hb k e; omega)
    have R1 := Q1.touched T15 (apart_lt (fun k e => (Q1.lt k e).1) hlt)
    have R2 := Q2.touched T15 (apart_lt (fun k e => (Q2.lt k e).1) hlt)
    have R3 := Q3.touched T15 (apart_lt (fun k e => (Q3.lt k e).1) hlt)
    have K6 := below_step HK10.out K
    replace K := K6.trans (below_touched T15 K6.size (two_bs (P := fun b => ∀ k, b = some k → W6.heap.size ≤ k) (fun k e => (P1.lt k e).1) (fun k e => (P2.lt k e).1)))
    clear E10 Q1 Q2 Q3 E9 P1 P2 T15 hlt K6 HG HXL HK12 HK10
    obtain ⟨-, y0, y1, y2, y3⟩ := id F10
    obtain ⟨-, z0, z1, z2, z3⟩ := (HW.out _ K).1
    go_wp2_with fail
    clear y0 y1 y2 y3 z0 z1 z2 z3
    have HK15 := hd K
    have HG := hd (show ∀ ww, Below w15.heap.size w15 ww → DeskAt ww G10 p' (.slice Y1 C'.length l1) (.slice Y2 T'.length l2) q' ∧ Own ww W8.heap.size 92 4 (.slice Y1 C'.length l1) eCue C' ∧ Own ww W8.heap.size 95 4 (.slice Y2 T'.length l2) eTitle T' ∧ Own ww W8.heap.size 9 1 (.slice Y3 L'.length l3) eS L' from fun ww k => ⟨F10.below k, R1.below k (Nat.le_refl _), R2.below k (Nat.le_refl _), R3.below k (Nat.le_refl _)⟩)
    clear F10 R1 R2 R3 K
    have K := Below.refl w15.heap.size w15
    refine (eqDesk_same _ _ _ _ _ _ _ _ _ ((HG.out _ K).2.1.sl eCue_len) ((HG.out _ K).2.2.1.sl eTitle_len) (HW.out _ (below_step HK15.out K)).2.1 (HW.out _ (below_step HK15.out K)).2.2.1).mono ?_
    rintro e w16 ⟨rfl, hb16⟩
    replace K := below_step K hb16
    clear hb16
    go_wp2_with fail
    refine (eqStrs_same _ _ _ L' ((HG.out _ K).2.2.2.sl eS_len) (HW.out _ (below_step HK15.out K)).2.2.2).mono ?_
    rintro e w17 ⟨rfl, hb17⟩
    replace K := below_step K hb17
    clear hb17
    obtain ⟨-, y0, y1, y2, y3⟩ := (HG.out _ K).1
    go_wp2_with fail
    clear y0 y1 y2 y3
    obtain ⟨E10, Q1, Q2, Q3⟩ := HG.out _ K
    refine (HM1.out _ _ _ _ _ _ Q1 Q2).mono ?_
    rintro e w19 ⟨rfl, M1, M2, T19⟩
    have F10 := E10.touched T19 (two_bs (P := fun b => ∀ k, b = some k → k ≠ G10) (fun k e => Nat.ne_of_lt (HO.out.1 k e)) (fun k e => Nat.ne_of_lt (HO.out.2.1 k e)))
    have R3 := Q3.touched T19 (two_bs (own_apart Q3 Q1 (by decide)) (own_apart Q3 Q2 (by decide)))
    have K6 := below_step HK15.out K
    replace K := K6.trans (below_touched T19 K6.size (two_bs (P := fun b => ∀ k, b = some k → W6.heap.size ≤ k) (fun k e => Nat.le_trans z86 (Q1.lt k e).1) (fun k e => Nat.le_trans z86 (Q2.lt k e).1)))
    clear E10 Q1 Q2 Q3 T19 K6 HG HK15
    go_wp2_with fail
    refine (HM2.out _ _ _ R3).mono ?_
    rintro e w20 ⟨rfl, M3, hg20⟩
    have F20 := F10.touched (TouchL.of_grown hg20) (fun b hb k e => by
      simp only [List.mem_cons, List.not_mem_nil, or_false] at hb
      subst hb
      exact Nat.ne_of_lt (HO.out.2.2 k e))
    have N1 := M1.grown hg20 (own_apart M1 R3 (by decide))
    have N2 := M2.grown hg20 (own_apart M2 R3 (by decide))
    replace K := K.trans (below_of_grown hg20 K.size (fun k e => Nat.le_trans z86 (R3.lt k e).1))
    have HK20 := hd K
    have HG := hd (show ∀ ww, Below w20.heap.size w20 ww → DeskAt ww G10 p' (.slice Y1 C'.length l1) (.slice Y2 T'.length l2) q' ∧ Sl ww 4 (.slice Y1 C'.length l1) eCue MC ∧ Sl ww 4 (.slice Y2 T'.length l2) eTitle MT ∧ Sl ww 1 (.slice Y3 L'.length l3) eS ML from fun ww k => ⟨F20.below k, (N1.sl eCue_len).below k, (N2.sl eTitle_len).below k, (M3.sl eS_len).below k⟩)
    clear F10 F20 M1 M2 M3 N1 N2 R3 hg20 K
    have K := Below.refl w20.heap.size w20
    obtain ⟨-, y0, y1, y2, y3⟩ := (HG.out _ K).1
    go_wp2_with fail
    clear y0 y1 y2 y3
    refine (HM3.out _ _ _ _ _ (HG.out _ K).2.1 (HG.out _ K).2.2.1).mono ?_
    rintro e w22 ⟨rfl, hb22⟩
    replace K := below_step K hb22
    clear hb22
    go_wp2_with fail
    refine (HM4.out _ _ (HG.out _ K).2.2.2).mono ?_
    rintro e w25 ⟨rfl, hb25⟩
    replace K := below_step K hb25
    clear hb25
    obtain ⟨-, a0, a1, a2, a3⟩ := (HA.out _ (below_step HK20.out K)).2.1
    go_wp2_with fail
    clear a0 a1 a2 a3
    refine (toDeskO _ _ _ _ _ _ _ (HA.out _ (below_step HK20.out K)).2.2.1 (HA.out _ (below_step HK20.out K)).2.2.2 ba1 ba2).mono ?_
    rintro e w30 ⟨A301, c301, A302, c302, rfl, OC30, OT30, hb30⟩
    have SC30 := OC30.sl eCue_len
    have ST30 := OT30.sl eTitle_len
    clear OC30 OT30
    replace K := below_step K hb30
    clear hb30
    go_wp2_with fail
    refine (HCI.out _ _ _ (HA.out _ (below_step HK20.out K)).1 SC30 ST30).mono ?_
    rintro e w31 ⟨t1, t2, tl, rfl, O1, O2, O3, hb31⟩
    replace K := below_step K hb31
    clear hb31 SC30 ST30
    obtain ⟨V1, j1, rfl⟩ := O1.isSlice
    obtain ⟨V2, j2, rfl⟩ := O2.isSlice
    obtain ⟨V3, j3, rfl⟩ := O3.isSlice
    have D32 := desk_new w31 p' (.slice V1 C'.length j1) (.slice V2 T'.length j2) q' 29
    have b32 := (Below.refl w31.heap.size w31).alloc (Nat.le_refl _) (.cells #[.string p', .slice V1 C'.length j1, .slice V2 T'.length j2, .string q'] 29)
    have S1 := (O1.sl eCue_len).below b32
    have S2 := (O2.sl eTitle_len).below b32
    have S3 := (O3.sl eS_len).below b32
    replace K := below_step K b32
    clear O1 O2 O3 b32
    obtain ⟨-, y0, y1, y2, y3⟩ := D32
    obtain ⟨-, z0, z1, z2, z3⟩ := (HW.out _ (below_step HK20.out K)).1
    go_wp2_with fail
    clear y0 y1 y2 y3 z0 z1 z2 z3
    refine (eqDesk_same _ _ _ _ _ _ _ _ _ S1 S2 (HW.out _ (below_step HK20.out K)).2.1 (HW.out _ (below_step HK20.out K)).2.2.1).mono ?_
    rintro e w33 ⟨rfl, hb33⟩
    replace K := below_step K hb33
    replace S3 := S3.below hb33
    clear hb33 S1 S2
    go_wp2_with fail
    refine (eqStrs_same _ _ _ L' S3 (HW.out _ (below_step HK20.out K)).2.2.2).mono ?_
    rintro e w34 ⟨rfl, hb34⟩
    replace K := below_step K hb34
    clear hb34 S3
    obtain ⟨-, y0, y1, y2, y3⟩ := (HG.out _ K).1
    go_wp2_with fail
    clear y0 y1 y2 y3
    refine (HM3.out _ _ _ _ _ (HG.out _ K).2.1 (HG.out _ K).2.2.1).mono ?_
    rintro e w35 ⟨rfl, hb35⟩
    replace K := below_step K hb35
    clear hb35
    go_wp2_with fail
    refine (HM4.out _ _ (HG.out _ K).2.2.2).mono ?_
    rintro e w36 ⟨rfl, hb36⟩
    replace K := below_step K hb36
    clear hb36
    go_wp2_with fail
    go_ret
    exact ⟨rfl, below_step HB.out (below_step HK6.out (below_step HK20.out K))⟩
def FnExactDeskCommand_laid : List (String × DataW Unit) := [("math/bits.deBruijn32tab", Rows.laid_math_bits_deBruijn32tab), ("math/bits.deBruijn64tab", Rows.laid_math_bits_deBruijn64tab), ("internal/strconv.uint64pow10", Rows.laid_internal_strconv_uint64pow10), ("unicode/utf8.acceptRanges", Rows.laid_unicode_utf8_acceptRanges), ("strconv.ErrRange", Rows.laid_strconv_ErrRange), ("strconv.ErrSyntax", Rows.laid_strconv_ErrSyntax), ("loop.example/g01063/impl.codeNames", Rows.laid_loop_example_g01063_impl_codeNames), ("unicode/utf8.first", Rows.laid_unicode_utf8_first)]
set_option maxRecDepth 100000 in
theorem FnExactDeskCommand_tab {W : World} (h0 : laidMetH Tryz.prog FnExactDeskCommand_laid W) : Tab W := by
  rw [MakeChecks.laidMetH_plain _ _ _ (by kernel_rfl)] at h0
  have h : laidMet Tryz.prog FnExactDeskCommand_laid W := h0
  exact Lib.tabIs_of_head (g := 4) (t := 252) (e := 82) (n := 20) (by kernel_rfl) (by kernel_rfl) Tryz.underlying252 Tryz.underlying82 (by kernel_rfl) (by kernel_rfl) (laidMet.tail (laidMet.tail h))
set_option maxRecDepth 100000 in
theorem FnExactDeskCommand_errs {W : World} (h0 : laidMetH Tryz.prog FnExactDeskCommand_laid W) : Errs W := by
  rw [MakeChecks.laidMetH_plain _ _ _ (by kernel_rfl)] at h0
  have h : laidMet Tryz.prog FnExactDeskCommand_laid W := h0
  exact ⟨syntax_of_laid (laidMet.tail (laidMet.tail (laidMet.tail (laidMet.tail (laidMet.tail h))))), range_of_laid (laidMet.tail (laidMet.tail (laidMet.tail (laidMet.tail h))))⟩
set_option maxRecDepth 100000 in
theorem FnExactDeskCommand_names {W : World} (h0 : laidMetH Tryz.prog FnExactDeskCommand_laid W) : Names W := by
  rw [MakeChecks.laidMetH_plain _ _ _ (by kernel_rfl)] at h0
  have h : laidMet Tryz.prog FnExactDeskCommand_laid W := h0
  obtain ⟨ps, ⟨g', t', cs, fuel, p, q, hg', ht', hvar, hd, _, _⟩, _⟩ := (laidMet.tail (laidMet.tail (laidMet.tail (laidMet.tail (laidMet.tail (laidMet.tail h))))))
  obtain rfl : g' = 0 := (Option.some.inj (hg'.symm.trans (by kernel_rfl)))
  exact names_of_var (var_of_names hvar ht' hd)
set_option maxRecDepth 100000 in
theorem FnExactDeskCommand_lifted (os : Os) (started : os.Started) (H : Type) (enc : TypeId × Value → H) :
    ReturnsInHanded {} Tryz.checked os 5 .any (fun w args => (Rows.fnExactDeskCommandSpec.pre enc Tryz.prog Tryz.f5 [] false w args ∧ laidMetH Tryz.prog FnExactDeskCommand_laid w) ∧ sizedMet enc Tryz.prog Tryz.f5 (OpenSpec.ofChange Rows.fnExactDeskCommandSpec) false w args)
      (Rows.fnExactDeskCommandSpec.post enc Tryz.prog Tryz.f5 false true false false) := by
  refine handed_shop (C := Tryz.checked) (X := fun w _ => laidMetH Tryz.prog FnExactDeskCommand_laid w) (fun _ _ _ hh h => h.of_heap hh) own_knob started (by kernel_rfl) Tryz.func5
    (ChangeSpec.witness_shaped (enc := enc) (C := Tryz.checked) (os := os) (X := fun w _ => laidMetH Tryz.prog FnExactDeskCommand_laid w) false (World.laidAll Tryz.prog os FnExactDeskCommand_laid) #[.agg #[.string ByteArray.empty, .slice none 0 0, .slice none 0 0, .string ByteArray.empty], .string ByteArray.empty] 8 (World.laidAll_os _ _ _) (World.shaped_of_ZipB (by kernel_rfl) (by kernel_rfl)) (by kernel_rfl) (by kernel_rfl) (by kernel_rfl)
      (by rw [MakeChecks.laidMetH_plain _ _ _ (by kernel_rfl)]; exact laidMet_laidAll _ (by kernel_rfl) (by kernel_rfl))) ?_
  intro W base args ds gs before hval0 hW hL hsh
  have hval : ∀ (j : Nat) t v, Tryz.f5.params[j]? = some t → args[j]? = some v → Value.okWide Tryz.prog W .any base t v := hval0
  have hW' := hW
  obtain ⟨p, q, hA0, hV, rfl, hfz, hnd⟩ := hW
  have hA : DataW.TrodAll enc Tryz.prog W 0 (fun _ => true) true Tryz.f5.params.toList args.toList ds p := hA0
  rw [Tryz.params5] at hA hval
  obtain ⟨v0, vs0, d0, ds0, p0, q0, hargs, rfl, rfl, h0, r0⟩ := trodAll_cons hA
  obtain ⟨v1, vs1, d1, ds1, p1, q1, rfl, rfl, rfl, h1, r1⟩ := trodAll_cons r0
  obtain ⟨rfl, rfl, rfl⟩ := trodAll_nil r1
  obtain rfl : args = #[v0, v1] := by cases args; simp_all
  have k0 := h0
  have lt0 : ∀ x ∈ p0, x.block < W.heap.size := by obtain ⟨m, hm⟩ := k0; exact DataW.trod_lt m _ _ _ hm
  have k1 := h1
  have lt1 : ∀ x ∈ p1, x.block < W.heap.size := by obtain ⟨m, hm⟩ := k1; exact DataW.trod_lt m _ _ _ hm
  obtain ⟨p0, va0, vb0, C0, T0, q0, rfl, zp0, sc0, st0, gt0, zq0⟩ := agg_of_Desk (hval 0 41 v0 rfl rfl) h0
  obtain ⟨s1, rfl, _, _, wf1⟩ := Go.ChangeMaps.open_string Tryz.underlying9 (hval 1 9 v1 rfl rfl) h1
  refine (law_FnExactDeskCommand W p0 va0 vb0 C0 T0 q0 zp0 sc0 st0 gt0 zq0 s1 wf1 ⟨FnExactDeskCommand_tab hL, FnExactDeskCommand_errs hL, maxL_of_shape hsh⟩ (FnExactDeskCommand_names hL)).mono fun e W' ⟨he, bel⟩ => ?_
  subst he
  obtain ⟨gv, rfl, pv, hpv⟩ := names_after hV bel
  exact ⟨_, rfl, _, _, _, [], _, pv, hW', trodAll_mk1 (shut_bool Tryz.underlying4 _), (trodAll_cons_mk (Below.trod laid_out (by kernel_rfl) (of_decide_eq_true (by kernel_rfl)) k0 bel lt0) (trodAll_cons_mk (Below.trod laid_out (by kernel_rfl) (of_decide_eq_true (by kernel_rfl)) k1 bel lt1) trodAll_mk0)), hpv, bel.frame _, fun h => by cases h⟩
theorem FnExactDeskCommand_closed : joinedFacts Tryz.pinned.checked.prog 5 Tryz.f5 Rows.fnExactDeskCommandSpec Rows.fnExactDeskCommandRow = true := by kernel_rfl
theorem FnExactDeskCommand_named : Tryz.pinned.checked.prog.funcNamed Rows.fnExactDeskCommandRow.func = some 5 := by kernel_rfl
theorem FnExactDeskCommand_row : Rows.FnExactDeskCommandSaid :=
  OpenClaim.holds_of_wide 5 Tryz.f5 rfl rfl rfl rfl rfl rfl rfl ⟨rfl, rfl, rfl, rfl, rfl⟩ rfl rfl rfl rfl rfl FnExactDeskCommand_named Tryz.func5 FnExactDeskCommand_closed
    (of_decide_eq_true (by kernel_rfl)) (by unfold Func.isWrapper; first | (rw [if_pos (by decide +kernel)]; kernel_rfl) | (rw [if_neg (by decide +kernel)]; exact ⟨rfl, rfl⟩))
    (fun os started H enc _ => FnExactDeskCommand_lifted os started H enc)
theorem FnExactDeskCommand_holds : Rows.FnExactDeskCommandCardSaid :=
  Claim7.holds_tied_plain_at .later [] [.data, .data, .data, .data, .sentinel, .sentinel, .data, .pinned] true Rows.fnExactDeskCommandCard.stood.harness true
    FnExactDeskCommand_row (fun _ h => by cases h) (by kernel_rfl) (fun _ h => by cases h) fnExactDeskCommand_row_tie rfl ⟨rfl, rfl⟩ (by kernel_rfl) rfl
    (fun f fn hf hfn => by
      obtain rfl : f = 5 := (Option.some.inj (FnExactDeskCommand_named.symm.trans hf)).symm
      obtain rfl : fn = Tryz.f5 := (Option.some.inj (Tryz.func5.symm.trans hfn)).symm
      exact ⟨by kernel_rfl, fun j t ht => by
        rw [Tryz.params5] at ht
        have hm : t ∈ [41, 9] := by simpa using Array.mem_of_getElem? ht
        have hall : ([41, 9].all fun u => !Tryz.prog.wantsStandIn u) = true := by kernel_rfl
        exact (show Tryz.prog.wantsStandIn t = false by simpa using List.all_eq_true.1 hall t hm)⟩)
    (by kernel_rfl)
#print axioms FnExactDeskCommand_holds
end Go.Proofs.YtgcodjkjdfahdaaGreatDoor
