/- Lemmas for the claim (the walks of its functions and their plain laws), joined. No condition. -/
import Derived.Test.YtgcodjkjdfahdaaGreatDoorJ48
import Derived.Test.YtgcodjkjdfahdaaGreatDoorJ16
import Derived.Test.YtgcodjkjdfahdaaGreatDoorJ4
namespace Go.Proofs.YtgcodjkjdfahdaaGreatDoor
open Go Go.RowKit Go.ChangeShapes Go.WideShapes
set_option linter.unusedSimpArgs false
set_option linter.unusedVariables false
theorem cmd_bad {d : TDk} {line : ByteArray} (h : okD d = true) (hc : ¬ (cmdR d line).2.2 = 0) : cmdR d line = (zD, [], 7) := by
  revert hc
  unfold cmdR cmdW
  rw [if_pos h]
  split
  · split
    · unfold numG
      split
      · exact fun hc => absurd rfl hc
      · unfold doneG
        split <;> exact fun hc => absurd rfl hc
    · exact fun _ => rfl
  · exact fun _ => rfl
theorem cmd_inv {d : TDk} {line : ByteArray} (h : okD d = false) : cmdR d line = (zD, [], 1) := by
  unfold cmdR cmdW
  rw [if_neg (by rw [h]; decide)]
set_option maxRecDepth 100000 in
set_option maxHeartbeats 8000000 in
theorem cmd_spec (w : World) (d : TDk) (v1 v2 : Value) (line : ByteArray) (hC : Sl w 4 v1 eCue d.2.1) (hT : Sl w 4 v2 eTitle d.2.2.1) (hp : d.1.size ≤ 1048576) (hq : d.2.2.2.size ≤ 1048576) (hz : line.size ≤ 1048576) :
    Calls Tryz.prog 15 #[.agg #[.string d.1, v1, v2, .string d.2.2.2], .string line] w (CmdTo w (cmdR d line)) := by
  obtain ⟨A1, c1, rfl⟩ := hC.isSlice
  obtain ⟨A2, c2, rfl⟩ := hT.isSlice
  have D0 := desk_new w d.1 (.slice A1 d.2.1.length c1) (.slice A2 d.2.2.1.length c2) d.2.2.2 29
  have B0 := (Below.refl w.heap.size w).alloc (Nat.le_refl _) (.cells #[.string d.1, .slice A1 d.2.1.length c1, .slice A2 d.2.2.1.length c2, .string d.2.2.2] 29)
  have D1 := desk_new (w.alloc (.cells #[.string d.1, .slice A1 d.2.1.length c1, .slice A2 d.2.2.1.length c2, .string d.2.2.2] 29)) ⟨#[]⟩ (.slice none 0 0) (.slice none 0 0) ⟨#[]⟩ 29
  have hz1 : (w.alloc (.cells #[.string d.1, .slice A1 d.2.1.length c1, .slice A2 d.2.2.1.length c2, .string d.2.2.2] 29)).heap.size = w.heap.size + 1 := by simp
  have F1 : ∀ i, ((w.alloc (.cells #[.string d.1, .slice A1 d.2.1.length c1, .slice A2 d.2.2.1.length c2, .string d.2.2.2] 29)).alloc (.cells #[.string ⟨#[]⟩, .slice none 0 0, .slice none 0 0, .string ⟨#[]⟩] 29)).frozen? ⟨w.heap.size + 1, i, none⟩ = false := fun i => by
    have := heap_alloc_new (w.alloc (.cells #[.string d.1, .slice A1 d.2.1.length c1, .slice A2 d.2.2.1.length c2, .string d.2.2.2] 29)) (.cells #[.string ⟨#[]⟩, .slice none 0 0, .slice none 0 0, .string ⟨#[]⟩] 29)
    rw [hz1] at this
    exact free2 this i
  rw [hz1] at D1
  have D2 := D0.below ((Below.refl _ _).alloc (Nat.le_refl _) (.cells #[.string ⟨#[]⟩, .slice none 0 0, .slice none 0 0, .string ⟨#[]⟩] 29))
  have B1 := B0.alloc B0.size (.cells #[.string ⟨#[]⟩, .slice none 0 0, .slice none 0 0, .string ⟨#[]⟩] 29)
  clear D0 B0 hz1
  have HCC := hd (fun W (hb : Below w.heap.size w W) => hC.below hb)
  have HTT := hd (fun W (hb : Below w.heap.size w W) => hT.below hb)
  clear hC hT
  go_enter Tryz.func15, Tryz.ntmps15
  go_wp2_with fail
  generalize (w.alloc (.cells #[.string d.1, .slice A1 d.2.1.length c1, .slice A2 d.2.2.1.length c2, .string d.2.2.2] 29)).alloc (.cells #[.string ⟨#[]⟩, .slice none 0 0, .slice none 0 0, .string ⟨#[]⟩] 29) = W1 at D1 F1 D2 B1 ⊢
  refine (deskOk_spec W1 w.heap.size d.1 d.2.2.2 _ _ d.2.1 d.2.2.1 D2 (HCC.out _ B1) (HTT.out _ B1) hp hq).mono ?_
  rintro e W3 ⟨rfl, hb3⟩
  have HOK := hd (show okD d = okDeskB d.1 d.2.1 d.2.2.1 d.2.2.2 from rfl)
  have B3 := below_step B1 hb3
  have D23 := D2.below hb3
  have D13 := D1.below hb3
  have F13 : ∀ i, W3.frozen? ⟨w.heap.size + 1, i, none⟩ = false := fun i => (hb3.frozen (p := ⟨w.heap.size + 1, i, none⟩) D1.1).trans (F1 i)
  clear D1 F1 D2 B1 hb3
  rcases ho : okDeskB d.1 d.2.1 d.2.2.1 d.2.2.2 with _ | _
  · have HR2 := hd (cmd_inv (d := d) (line := line) ho)
    obtain ⟨-, x0, x1, x2, x3⟩ := id D13
    have xf0 := F13 0
    have xf1 := F13 1
    have xf2 := F13 2
    have xf3 := F13 3
    have DSC := desk_set ⟨#[]⟩ ⟨#[]⟩ (.slice none 0 0) (.slice none 0 0) rfl rfl D13.1 x0 x1 x2 x3 F13
    have BZ := desk_setB (h := w.heap.size + 1) B3 (Nat.le_succ _) (.string ⟨#[]⟩) (.slice none 0 0) (.slice none 0 0) (.string ⟨#[]⟩)
    go_wp2_with fail
    generalize ((((W3.setCell ⟨w.heap.size + 1, 0, none⟩ (.string ⟨#[]⟩)).setCell ⟨w.heap.size + 1, 1, none⟩ (.slice none 0 0)).setCell ⟨w.heap.size + 1, 2, none⟩ (.slice none 0 0)).setCell ⟨w.heap.size + 1, 3, none⟩ (.string ⟨#[]⟩)) = Z at DSC BZ ⊢
    obtain ⟨-, z0, z1, z2, z3⟩ := DSC
    refine bodyPost_ret (v := .tuple #[.agg #[.string ⟨#[]⟩, .slice none 0 0, .slice none 0 0, .string ⟨#[]⟩], .slice none 0 0, .int .i64 1]) ?_ rfl (cmd_zero BZ HR2.out)
    refine (results_cell_tmp2 Tryz.results15 _ _ _).trans ?_
    show (((loadVar 29 ⟨w.heap.size + 1, 0, none⟩).run Tryz.prog Z).andThen fun v w₂ => Result.ok (Value.tuple #[v, .slice none 0 0, Value.int .i64 1]) w₂) = _
    rw [load_desk Z _ _ _ _ _ z0 z1 z2 z3]
    rfl
  have hok : okD d = true := ho
  have HOK2 := hd hok
  clear HOK ho
  obtain ⟨y1, y2, y3, y4⟩ := okD_bd hok
  have hgt : w.heap.size + 1 < W3.heap.size := D13.1
  go_wp2_with fail
  refine (copy_spec28 W3 w.heap.size d _ _ D23 (HCC.out _ B3) (HTT.out _ B3) (by omega) (by omega)).mono ?_
  rintro e W4 ⟨u1, u2, rfl, O1, O2, -, hb4⟩
  have B4 := below_step B3 hb4
  have D14 := D13.below hb4
  have F14 : ∀ i, W4.frozen? ⟨w.heap.size + 1, i, none⟩ = false := fun i => (hb4.frozen (p := ⟨w.heap.size + 1, i, none⟩) D13.1).trans (F13 i)
  have hS := sat_new W4 W3.heap.size hb4.size d u1 u2 O1 O2 67
  have B5 := B4.alloc B4.size (.cells #[.string d.1, u1, u2, .string d.2.2.2, .slice none 0 0, .slice none 0 0, .slice none 0 0] 67)
  have D15 := D14.below ((Below.refl _ _).alloc (Nat.le_refl _) (.cells #[.string d.1, u1, u2, .string d.2.2.2, .slice none 0 0, .slice none 0 0, .slice none 0 0] 67))
  have F15 : ∀ i, (W4.alloc (.cells #[.string d.1, u1, u2, .string d.2.2.2, .slice none 0 0, .slice none 0 0, .slice none 0 0] 67)).frozen? ⟨w.heap.size + 1, i, none⟩ = false := fun i => (((Below.refl _ _).alloc (Nat.le_refl _) _ : Below W4.heap.size W4 (W4.alloc (.cells #[.string d.1, u1, u2, .string d.2.2.2, .slice none 0 0, .slice none 0 0, .slice none 0 0] 67))).frozen (p := ⟨w.heap.size + 1, i, none⟩) D14.1).trans (F14 i)
  obtain ⟨A5, c5, rfl⟩ := O1.isSlice
  obtain ⟨A6, c6, rfl⟩ := O2.isSlice
  have HB4 := hd hb4.size
  clear D13 F13 D23 D14 F14 B3 hb4 B4 O1 O2
  go_wp2_with fail
  have HSA := hd hS
  generalize hW5 : W4.alloc (.cells #[.string d.1, .slice A5 d.2.1.length c5, .slice A6 d.2.2.1.length c6, .string d.2.2.2, .slice none 0 0, .slice none 0 0, .slice none 0 0] 67) = W5 at HSA B5 D15 F15 ⊢
  clear hW5 hS
  generalize hg : W4.heap.size = g at HSA HB4 ⊢
  clear hg
  refine (do_spec W5 W3.heap.size g d hok (.slice none 0 0) [] line hz HSA.out (by simp)).mono ?_
  rintro e W6 ⟨rfl, hyes, hno⟩
  by_cases hc : (cmdR d line).2.2 = 0
  · have HR := hd (show SRes W3.heap.size g (.slice none 0 0) W5 (cmdR d line).1 (cmdR d line).2.1 W6 from hyes hc)
    clear hyes hno
    obtain ⟨p', C', T', q', L', hR⟩ : ∃ p' C' T' q' L', cmdR d line = ((p', C', T', q'), L', 0) := ⟨_, _, _, _, _, by rw [← hc]⟩
    have HR2 := hd hR
    replace HR := hd (show SRes W3.heap.size g (.slice none 0 0) W5 (p', C', T', q') L' W6 by have := HR.out; rw [hR] at this; exact this)
    rw [decide_eq_true hc]
    clear hc hR
    obtain ⟨vo, S6, H6⟩ := HR.out
    have b6 := Fr.below HSA.out H6
    have D16 := D15.keep hgt b6
    have F16 : ∀ i, W6.frozen? ⟨w.heap.size + 1, i, none⟩ = false := fun i => (b6.frozen (p := ⟨w.heap.size + 1, i, none⟩) hgt).trans (F15 i)
    have B6 : Below w.heap.size w W6 := B5.trans (b6.mono (by omega))
    obtain ⟨v1, v2, DG, Q1, Q2, -⟩ := S6.desk
    have OL := S6.out
    have c4 := S6.c4
    have hgl := S6.lt
    have hgb := S6.base
    clear S6 H6 b6 HR HSA D15 F15 B5
    have hw3 : w.heap.size ≤ W3.heap.size := by omega
    have ne1 := geLt (fun k e => (Q1.lt k e).1) hgt
    have ne2 := geLt (fun k e => (Q2.lt k e).1) hgt
    have ne3 := geLt (fun k e => (OL.lt k e).1) hgt
    have Q1b := Q1.base hw3
    have Q2b := Q2.base hw3
    have OLb := OL.base hw3
    obtain ⟨B1, y1, rfl⟩ := Q1.isSlice
    obtain ⟨B2, y2, rfl⟩ := Q2.isSlice
    obtain ⟨AL, cL, rfl⟩ := OL.isSlice
    obtain ⟨-, x0, x1, x2, x3⟩ := id D16
    have xf0 := F16 0
    have xf1 := F16 1
    have xf2 := F16 2
    have xf3 := F16 3
    have DSC := desk_set p' q' (.slice B1 C'.length y1) (.slice B2 T'.length y2) rfl rfl D16.1 x0 x1 x2 x3 F16
    have BZ := desk_setB (h := w.heap.size + 1) B6 (Nat.le_succ _) (.string p') (.slice B1 C'.length y1) (.slice B2 T'.length y2) (.string q')
    have R1 := own_set4 Q1b ne1 (.string p') (.slice B1 C'.length y1) (.slice B2 T'.length y2) (.string q')
    have R2 := own_set4 Q2b ne2 (.string p') (.slice B1 C'.length y1) (.slice B2 T'.length y2) (.string q')
    have R3 := own_set4 OLb ne3 (.string p') (.slice B1 C'.length y1) (.slice B2 T'.length y2) (.string q')
    obtain ⟨-, g0, g1, g2, g3⟩ := id DG
    have hgne : g ≠ w.heap.size + 1 := by omega
    have HS := hd (show ∀ x0 x1 x2 x3 : Value, ((((W6.setCell ⟨w.heap.size + 1, 0, none⟩ x0).setCell ⟨w.heap.size + 1, 1, none⟩ x1).setCell ⟨w.heap.size + 1, 2, none⟩ x2).setCell ⟨w.heap.size + 1, 3, none⟩ x3).cell? ⟨g, 0, none⟩ = some (.string p') ∧ ((((W6.setCell ⟨w.heap.size + 1, 0, none⟩ x0).setCell ⟨w.heap.size + 1, 1, none⟩ x1).setCell ⟨w.heap.size + 1, 2, none⟩ x2).setCell ⟨w.heap.size + 1, 3, none⟩ x3).cell? ⟨g, 1, none⟩ = some (.slice B1 C'.length y1) ∧ ((((W6.setCell ⟨w.heap.size + 1, 0, none⟩ x0).setCell ⟨w.heap.size + 1, 1, none⟩ x1).setCell ⟨w.heap.size + 1, 2, none⟩ x2).setCell ⟨w.heap.size + 1, 3, none⟩ x3).cell? ⟨g, 2, none⟩ = some (.slice B2 T'.length y2) ∧ ((((W6.setCell ⟨w.heap.size + 1, 0, none⟩ x0).setCell ⟨w.heap.size + 1, 1, none⟩ x1).setCell ⟨w.heap.size + 1, 2, none⟩ x2).setCell ⟨w.heap.size + 1, 3, none⟩ x3).cell? ⟨g, 3, none⟩ = some (.string q') ∧ ((((W6.setCell ⟨w.heap.size + 1, 0, none⟩ x0).setCell ⟨w.heap.size + 1, 1, none⟩ x1).setCell ⟨w.heap.size + 1, 2, none⟩ x2).setCell ⟨w.heap.size + 1, 3, none⟩ x3).cell? ⟨g, 4, none⟩ = some (.slice AL L'.length cL) from fun x0 x1 x2 x3 => by
      have hb := set4_other W6 (h := w.heap.size + 1) (b := g) hgne x0 x1 x2 x3
      exact ⟨cell_blk hb g0, cell_blk hb g1, cell_blk hb g2, cell_blk hb g3, cell_blk hb c4⟩)
    have HG := hd (show W6.cell? ⟨g, 0, none⟩ = some (.string p') ∧ W6.cell? ⟨g, 1, none⟩ = some (.slice B1 C'.length y1) ∧ W6.cell? ⟨g, 2, none⟩ = some (.slice B2 T'.length y2) ∧ W6.cell? ⟨g, 3, none⟩ = some (.string q') ∧ W6.cell? ⟨g, 4, none⟩ = some (.slice AL L'.length cL) from ⟨g0, g1, g2, g3, c4⟩)
    have HP1 := hd R1
    have HP2 := hd R2
    have HP3 := hd R3
    have HD := hd DSC
    have HB := hd BZ
    clear DG Q1 Q2 Q1b Q2b OL OLb ne1 ne2 ne3 D16 F16 B6 DSC BZ R1 R2 R3
    clear g0 g1 g2 g3 c4
    go_wp2_with fail
    go_region_held3 (fun ww => ww.cell? ⟨g, 0, none⟩ = some (.string p') ∧ ww.cell? ⟨g, 1, none⟩ = some (.slice B1 C'.length y1) ∧ ww.cell? ⟨g, 2, none⟩ = some (.slice B2 T'.length y2) ∧ ww.cell? ⟨g, 3, none⟩ = some (.string q') ∧ ww.cell? ⟨g, 4, none⟩ = some (.slice AL L'.length cL)) (first | with_reducible exact HS.out _ _ _ _ | with_reducible exact HG.out | exact HG.out | exact HS.out _ _ _ _) (fail)
    all_goals
      have DSC := HD.out
      have HC := hd (cmd_to (c := 0) (d := (p', C', T', q')) HB.out HP1.out HP2.out HP3.out HR2.out).drew
      clear HD HB HP1 HP2 HP3 HS HG HR2 x0 x1 x2 x3 xf0 xf1 xf2 xf3
      generalize ((((W6.setCell ⟨w.heap.size + 1, 0, none⟩ (.string p')).setCell ⟨w.heap.size + 1, 1, none⟩ (.slice B1 C'.length y1)).setCell ⟨w.heap.size + 1, 2, none⟩ (.slice B2 T'.length y2)).setCell ⟨w.heap.size + 1, 3, none⟩ (.string q')) = Z at DSC HC ⊢
      obtain ⟨-, z0, z1, z2, z3⟩ := DSC
      go_wp2_with fail
      refine bodyPost_ret (v := .tuple #[.agg #[.string p', .slice B1 C'.length y1, .slice B2 T'.length y2, .string q'], .slice AL L'.length cL, .int .i64 0]) ?_ rfl HC.out
      refine (results_cell_tmp2 Tryz.results15 _ _ _).trans ?_
      show (((loadVar 29 ⟨w.heap.size + 1, 0, none⟩).run Tryz.prog Z.drew).andThen fun v w₂ => Result.ok (Value.tuple #[v, .slice AL L'.length cL, Value.int .i64 0]) w₂) = _
      rw [load_desk Z.drew _ _ _ _ _ (cell_drew z0) (cell_drew z1) (cell_drew z2) (cell_drew z3)]
      rfl
  · have hbad := hd (cmd_bad hok hc)
    have HR := hno hc
    rw [decide_eq_false hc]
    clear hyes hno hc
    obtain ⟨vo, S6, H6⟩ := HR
    have b6 := Fr.below HSA.out H6
    have D16 := D15.keep hgt b6
    have F16 : ∀ i, W6.frozen? ⟨w.heap.size + 1, i, none⟩ = false := fun i => (b6.frozen (p := ⟨w.heap.size + 1, i, none⟩) hgt).trans (F15 i)
    have B6 : Below w.heap.size w W6 := B5.trans (b6.mono (by omega))
    clear S6 H6 b6 HSA D15 F15 B5
    obtain ⟨-, x0, x1, x2, x3⟩ := id D16
    have xf0 := F16 0
    have xf1 := F16 1
    have xf2 := F16 2
    have xf3 := F16 3
    have DSC := desk_set ⟨#[]⟩ ⟨#[]⟩ (.slice none 0 0) (.slice none 0 0) rfl rfl D16.1 x0 x1 x2 x3 F16
    have BZ := desk_setB (h := w.heap.size + 1) B6 (Nat.le_succ _) (.string ⟨#[]⟩) (.slice none 0 0) (.slice none 0 0) (.string ⟨#[]⟩)
    go_wp2_with fail
    generalize ((((W6.setCell ⟨w.heap.size + 1, 0, none⟩ (.string ⟨#[]⟩)).setCell ⟨w.heap.size + 1, 1, none⟩ (.slice none 0 0)).setCell ⟨w.heap.size + 1, 2, none⟩ (.slice none 0 0)).setCell ⟨w.heap.size + 1, 3, none⟩ (.string ⟨#[]⟩)) = Z at DSC BZ ⊢
    obtain ⟨-, z0, z1, z2, z3⟩ := DSC
    refine bodyPost_ret (v := .tuple #[.agg #[.string ⟨#[]⟩, .slice none 0 0, .slice none 0 0, .string ⟨#[]⟩], .slice none 0 0, .int .i64 7]) ?_ rfl (cmd_zero BZ hbad.out)
    refine (results_cell_tmp2 Tryz.results15 _ _ _).trans ?_
    show (((loadVar 29 ⟨w.heap.size + 1, 0, none⟩).run Tryz.prog Z).andThen fun v w₂ => Result.ok (Value.tuple #[v, .slice none 0 0, Value.int .i64 7]) w₂) = _
    rw [load_desk Z _ _ _ _ _ z0 z1 z2 z3]
    rfl
end Go.Proofs.YtgcodjkjdfahdaaGreatDoor

namespace Go.Proofs.YtgcodjkjdfahdaaGreatDoor
open Go Go.RowKit Go.ChangeShapes Go.WideShapes
set_option linter.unusedSimpArgs false
set_option linter.unusedVariables false
theorem eqDesk_same (w : World) (p q : ByteArray) (v1 v2 t1 t2 : Value) (C : List TCue) (T : List TTitle) (hC : Sl w 4 v1 eCue C) (hT : Sl w 4 v2 eTitle T) (kC : Sl w 4 t1 eCue C) (kT : Sl w 4 t2 eTitle T) :
    Calls Tryz.prog 17 #[.agg #[.string p, v1, v2, .string q], .agg #[.string p, t1, t2, .string q]] w fun e w' => e = .returned (.bool true) ∧ Below w.heap.size w w' := by
  have := eqDesk w p q p q v1 v2 t1 t2 C C T T hC hT kC kT
  rw [sameD_self] at this
  exact this
theorem eqStrs_same (w : World) (v1 v2 : Value) (l : List ByteArray) (h1 : Sl w 1 v1 eS l) (h2 : Sl w 1 v2 eS l) :
    Calls Tryz.prog 18 #[v1, v2] w fun e w' => e = .returned (.bool true) ∧ Below w.heap.size w w' := by
  refine (eqStrs w v1 v2 l l h1 h2).mono ?_
  rintro e w' ⟨rfl, n, rfl⟩
  exact ⟨by simp, below_drewN (Below.refl _ _) n⟩
theorem cmd_bds (d : TDk) (line : ByteArray) : (cmdR d line).1.2.1.length ≤ 6 ∧ (cmdR d line).1.2.2.1.length ≤ 20 ∧ (cmdR d line).2.1.length ≤ 4001 := by
  refine ⟨?_, ?_, (cmd_small d line).1⟩
  all_goals
    by_cases h : okD d = true
    · by_cases hc : (cmdR d line).2.2 = 0
      · have := okD_bd (cmd_fine h line hc).1
        first | exact this.2.1 | exact this.2.2.1
      · rw [cmd_bad h hc]
        exact Nat.zero_le _
    · rw [cmd_inv (by simpa using h)]
      exact Nat.zero_le _
theorem own_apart {α β : Type} {w : World} {B1 B2 E1 E2 k1 k2 : Nat} {v1 v2 : Value} {e1 : α → List Value} {e2 : β → List Value} {l1 : List α} {l2 : List β} (h1 : Own w B1 E1 k1 v1 e1 l1) (h2 : Own w B2 E2 k2 v2 e2 l2) (hne : E1 ≠ E2) : apart v1.ownBlock v2.ownBlock := by
  rcases h1.2 with ⟨rfl, -⟩ | ⟨g, cap, cur, rfl, -, hg, -⟩
  · exact .inl rfl
  · rcases h2.2 with ⟨rfl, -⟩ | ⟨g', cap', cur', rfl, -, hg', -⟩
    · exact .inr (fun e => by cases e)
    · refine .inr (fun e => ?_)
      have e2 : some g = some g' := e
      injection e2 with e2
      subst e2
      rw [hg] at hg'
      injection hg' with hg'
      injection hg' with _ q _
      exact hne q
theorem apart_lt {v : Value} {N : Nat} {bs : List (Option Nat)} (hv : ∀ k, v.ownBlock = some k → N ≤ k) (hb : ∀ b ∈ bs, ∀ k, b = some k → k < N) : ∀ b ∈ bs, apart v.ownBlock b := fun b h => by
  rcases hk : v.ownBlock with _ | k
  · exact .inl rfl
  · refine .inr (fun e => ?_)
    have h1 := hv k hk
    have h2 := hb b h k e.symm
    omega
theorem two_bs {a b : Option Nat} {P : Option Nat → Prop} (ha : P a) (hb : P b) : ∀ x ∈ [a, b], P x := fun x h => by
  simp only [List.mem_cons, List.not_mem_nil, or_false] at h
  rcases h with rfl | rfl
  · exact ha
  · exact hb
theorem DeskAt.touched {W W' : World} {g : Nat} {p : ByteArray} {v1 v2 : Value} {q : ByteArray} {bs : List (Option Nat)} (h : DeskAt W g p v1 v2 q) (T : TouchL W W' bs) (hn : ∀ b ∈ bs, ∀ k, b = some k → k ≠ g) : DeskAt W' g p v1 v2 q :=
  h.of_block (T.block g h.1 (fun b hb e => hn b hb g e rfl)) T.size
theorem apart_self_none {a b : Option Nat} (h : apart a b) : apart b a := by
  rcases h with h | h
  · rw [h]; exact apart_none _
  · exact .inr (fun e => h e.symm)
set_option maxRecDepth 100000 in
set_option maxHeartbeats 2000000 in
theorem markDesk (w : World) (B : Nat) (p q : ByteArray) (v1 v2 : Value) (C : List TCue) (T : List TTitle) (O1 : Own w B 92 4 v1 eCue C) (O2 : Own w B 95 4 v2 eTitle T) (k : Nat) (hk : k + 4 * C.length + 4 * T.length ≤ 4611686018427387904) :
    Calls Tryz.prog 19 #[.agg #[.string p, v1, v2, .string q], .int .i64 k] w fun e w' => e = .returned (.int .i64 ((k + 4 * C.length + 4 * T.length : Nat) : Int)) ∧ Own w' B 92 4 v1 eCue (marksCue k C.length) ∧ Own w' B 95 4 v2 eTitle (marksTitle (k + 4 * C.length) T.length) ∧ TouchL w w' [v1.ownBlock, v2.ownBlock] := by
  have ap := own_apart O1 O2 (by decide)
  obtain ⟨A1, c1, rfl⟩ := O1.isSlice
  obtain ⟨A2, c2, rfl⟩ := O2.isSlice
  have D := desk_new w p (.slice A1 C.length c1) (.slice A2 T.length c2) q 29
  have hb := (Below.refl w.heap.size w).alloc (Nat.le_refl _) (.cells #[.string p, .slice A1 C.length c1, .slice A2 T.length c2, .string q] 29)
  have P1 := O1.alloc (.cells #[.string p, .slice A1 C.length c1, .slice A2 T.length c2, .string q] 29)
  have P2 := O2.alloc (.cells #[.string p, .slice A1 C.length c1, .slice A2 T.length c2, .string q] 29)
  have n1 : ∀ g, (.slice A1 C.length c1 : Value).ownBlock = some g → g < w.heap.size := fun g e => (O1.lt g e).2
  obtain ⟨-, p0, p1, p2, p3⟩ := id D
  go_enter Tryz.func19, Tryz.ntmps19
  go_wp2_with fail
  generalize hW : w.alloc (.cells #[.string p, .slice A1 C.length c1, .slice A2 T.length c2, .string q] 29) = W at D hb P1 P2 p0 p1 p2 p3 ⊢
  clear hW O1 O2
  refine (markCues W B 92 _ C P1 k (by omega) (by omega)).mono ?_
  rintro e w1 ⟨rfl, M1, hg1⟩
  have D1 := D.of_block (hg1.block w.heap.size D.1 (fun e => by have := n1 _ e.symm; omega)) hg1.size
  have P21 := P2.grown hg1 (apart_self_none ap)
  have T1 := (touch_below hb []).trans (TouchL.of_grown hg1)
  have hcast : (k : Int) + 4 * (C.length : Int) = ((k + 4 * C.length : Nat) : Int) := by omega
  rw [hcast]
  obtain ⟨k1, hk1⟩ : ∃ k1, k1 = k + 4 * C.length := ⟨_, rfl⟩
  rw [← hk1] at hk ⊢
  have HK1 := hd hk1
  clear hk1
  clear hcast
  obtain ⟨-, q0, q1, q2, q3⟩ := D1
  clear D hb P1 P2 p0 p1 p2 p3 hg1
  go_wp2_with fail
  refine (markTitles w1 B 95 _ T P21 k1 hk).mono ?_
  rintro e w2 ⟨rfl, M2, hg2⟩
  have M12 := M1.grown hg2 ap
  have T2 := T1.trans (TouchL.of_grown hg2)
  obtain ⟨k2, hk2⟩ : ∃ k2, k2 = k1 + 4 * T.length := ⟨_, rfl⟩
  rw [← hk2]
  rw [HK1.out] at M2
  have HK2 := hd hk2
  clear hk hk2
  go_wp2_with fail
  go_ret
  refine ⟨by rw [← HK1.out, ← HK2.out]; rfl, M12, M2, T2.mono ?_⟩
  intro x hx
  simpa using hx
set_option maxRecDepth 100000 in
set_option maxHeartbeats 2000000 in
theorem heldDesk (w : World) (p q : ByteArray) (v1 v2 : Value) (n1 n2 k : Nat) (h1 : Sl w 4 v1 eCue (marksCue k n1)) (h2 : Sl w 4 v2 eTitle (marksTitle (k + 4 * n1) n2)) (hk : k + 4 * n1 + 4 * n2 ≤ 4611686018427387904) :
    Calls Tryz.prog 21 #[.agg #[.string p, v1, v2, .string q], .int .i64 k] w fun e w' => e = .returned (.int .i64 ((k + 4 * n1 + 4 * n2 : Nat) : Int)) ∧ Below w.heap.size w w' := by
  obtain ⟨A1, c1, rfl⟩ := h1.isSlice
  obtain ⟨A2, c2, rfl⟩ := h2.isSlice
  rw [marksCue_len] at h1 ⊢
  rw [marksTitle_len] at h2 ⊢
  have D := desk_new w p (.slice A1 n1 c1) (.slice A2 n2 c2) q 29
  have hb := (Below.refl w.heap.size w).alloc (Nat.le_refl _) (.cells #[.string p, .slice A1 n1 c1, .slice A2 n2 c2, .string q] 29)
  have S1 := h1.below hb
  have S2 := h2.below hb
  obtain ⟨-, p0, p1, p2, p3⟩ := id D
  go_enter Tryz.func21, Tryz.ntmps21
  go_wp2_with fail
  generalize hW : w.alloc (.cells #[.string p, .slice A1 n1 c1, .slice A2 n2 c2, .string q] 29) = W at D hb S1 S2 p0 p1 p2 p3 ⊢
  clear hW h1 h2
  refine (heldCues W _ k n1 S1 (by omega) (by omega)).mono ?_
  rintro e w1 ⟨rfl, hw⟩
  have hw := hw.symm
  subst hw
  have hcast : (k : Int) + 4 * (n1 : Int) = ((k + 4 * n1 : Nat) : Int) := by omega
  rw [hcast]
  clear hcast
  obtain ⟨k1, hk1⟩ : ∃ k1, k1 = k + 4 * n1 := ⟨_, rfl⟩
  rw [← hk1] at S2 hk ⊢
  have HK1 := hd hk1
  clear hk1
  have hnn : ¬ ((k1 : Int) < 0) := by omega
  go_wp2_with fail
  refine (heldTitles W _ k1 n2 S2 hk).mono ?_
  rintro e w2 ⟨rfl, hb2⟩
  obtain ⟨k2, hk2⟩ : ∃ k2, k2 = k1 + 4 * n2 := ⟨_, rfl⟩
  rw [← hk2]
  have HK2 := hd hk2
  clear hk2
  have hnm : ¬ ((k2 : Int) < 0) := by omega
  go_wp2_with fail
  go_ret
  exact ⟨by rw [← HK1.out, ← HK2.out]; rfl, below_step hb hb2⟩
theorem marks_pack (n1 n2 n3 : Nat) (h1 : n1 ≤ 1048576) (h2 : n2 ≤ 1048576) (h3 : n3 ≤ 1048576) : ∃ (k2 k3 : Nat) (MC : List TCue) (MT : List TTitle) (ML : List ByteArray),
    (∀ (W : World) (B : Nat) (p q : ByteArray) (v1 v2 : Value) (C : List TCue) (T : List TTitle), C.length = n1 → T.length = n2 → Own W B 92 4 v1 eCue C → Own W B 95 4 v2 eTitle T → Calls Tryz.prog 19 #[.agg #[.string p, v1, v2, .string q], .int .i64 1] W fun e w' => e = .returned (.int .i64 (k2 : Int)) ∧ Own w' B 92 4 v1 eCue MC ∧ Own w' B 95 4 v2 eTitle MT ∧ TouchL W w' [v1.ownBlock, v2.ownBlock]) ∧
    (∀ (W : World) (B : Nat) (v : Value) (L : List ByteArray), L.length = n3 → Own W B 9 1 v eS L → Calls Tryz.prog 20 #[v, .int .i64 (k2 : Int)] W fun e w' => e = .returned (.int .i64 (k3 : Int)) ∧ Own w' B 9 1 v eS ML ∧ W.grownBy w' v.ownBlock) ∧
    (∀ (W : World) (p q : ByteArray) (v1 v2 : Value), Sl W 4 v1 eCue MC → Sl W 4 v2 eTitle MT → Calls Tryz.prog 21 #[.agg #[.string p, v1, v2, .string q], .int .i64 1] W fun e w' => e = .returned (.int .i64 (k2 : Int)) ∧ Below W.heap.size W w') ∧
    (∀ (W : World) (v : Value), Sl W 1 v eS ML → Calls Tryz.prog 22 #[v, .int .i64 (k2 : Int)] W fun e w' => e = .returned (.int .i64 (k3 : Int)) ∧ Below W.heap.size W w') :=
  ⟨1 + 4 * n1 + 4 * n2, 1 + 4 * n1 + 4 * n2 + n3, marksCue 1 n1, marksTitle (1 + 4 * n1) n2, marksB (1 + 4 * n1 + 4 * n2) n3,
    fun W B p q v1 v2 C T e1 e2 O1 O2 => by subst e1; subst e2; exact markDesk W B p q v1 v2 C T O1 O2 1 (by omega),
    fun W B v L e3 O => by subst e3; exact markStrs W B 9 v L O (1 + 4 * n1 + 4 * n2) (by omega),
    fun W p q v1 v2 S1 S2 => heldDesk W p q v1 v2 n1 n2 1 S1 S2 (by omega),
    fun W v S => heldStrs W v (1 + 4 * n1 + 4 * n2) n3 S (by omega)⟩
end Go.Proofs.YtgcodjkjdfahdaaGreatDoor
