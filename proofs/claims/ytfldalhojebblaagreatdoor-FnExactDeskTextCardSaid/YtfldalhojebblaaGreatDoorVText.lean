/- The text of a desk: the reference's function and the program's. No condition but that the library's table, its two errors and its search variable lie as they are laid. -/
import Derived.Test.YtfldalhojebblaaGreatDoorVDesk
namespace Go.Proofs.YtfldalhojebblaaGreatDoor
open Go Go.RowKit Go.ChangeShapes Go.WideShapes
set_option linter.unusedSimpArgs false
set_option linter.unusedVariables false
def deskS (p : ByteArray) (C : List TCue) (T : List TTitle) : ByteArray :=
  ⟨#[100, 105, 115, 99, 32]⟩ ++ p ++ ⟨#[44, 32]⟩ ++ decS (C.length : Int) ++ ⟨#[32, 99, 117, 101, 115, 44, 32]⟩ ++ decS (T.length : Int) ++ ⟨#[32, 116, 105, 116, 108, 101, 115]⟩
def textD (p : ByteArray) (C : List TCue) (T : List TTitle) (q : ByteArray) : ByteArray := if okDeskB p C T q = true then deskS p C T else ⟨#[]⟩
theorem okDesk_bd {p : ByteArray} {C : List TCue} {T : List TTitle} {q : ByteArray} (h : okDeskB p C T q = true) : p.size ≤ 24 ∧ C.length ≤ 6 ∧ T.length ≤ 20 := by
  unfold okDeskB okMotB okCues at h
  simp only [Bool.and_eq_true, decide_eq_true_eq] at h
  obtain ⟨⟨-, h1⟩, ⟨-, h2⟩, h3, -⟩ := h
  have := inB_true h1
  have := okTitles_len h3
  exact ⟨by omega, h2, this⟩
set_option maxRecDepth 100000 in
set_option maxHeartbeats 8000000 in
theorem l28Text_spec (w : World) (g : Nat) (p q : ByteArray) (v1 v2 : Value) (C : List TCue) (T : List TTitle) (hD : DeskAt w g p v1 v2 q) (hC : Sl w 4 v1 eCue C) (hT : Sl w 4 v2 eTitle T) (hb : p.size ≤ 24 ∧ C.length ≤ 6 ∧ T.length ≤ 20) :
    Calls Tryz.prog 23 #[.pointer (some ⟨g, 0, none⟩)] w fun e w' => e = .returned (.string (deskS p C T)) ∧ Below w.heap.size w w' := by
  obtain ⟨A1, c1, rfl⟩ := hC.sliceD
  obtain ⟨A2, c2, rfl⟩ := hT.sliceD
  obtain ⟨d0, d1, d2, d3, d4⟩ := id hD
  obtain ⟨b1, b2, b3⟩ := hb
  have s1 := decS_size (n := (C.length : Int)) (by omega)
  have s2 := decS_size (n := (T.length : Int)) (by omega)
  have g1 := gro_cell d1
  have g2 := gro_cell d2
  have g3 := gro_cell d3
  clear d1 d2 d3 d4 hC hT hD
  go_enter Tryz.func23, Tryz.ntmps23
  go_wp2_with fail
  refine wp_region_calm (by kernel_rfl) (by kernel_rfl) ?_
  repeat (first | go_big_quiet_step ((go_at_call 40; exact calm_of (dec_spec _ _ (by omega)))) | quiet_step ((go_at_call 40; exact calm_of (dec_spec _ _ (by omega)))))
  refine wpQuiet_nil ?_
  rintro w2 ⟨x, rfl⟩
  have hb3 := gro_below x
  clear g1 g2 g3
  go_wp2_with fail
  go_ret
  exact ⟨rfl, hb3⟩
set_option maxRecDepth 100000 in
set_option maxHeartbeats 4000000 in
theorem text_spec (w : World) (p q : ByteArray) (v1 v2 : Value) (C : List TCue) (T : List TTitle) (hC : Sl w 4 v1 eCue C) (hT : Sl w 4 v2 eTitle T) (hp : p.size ≤ 1048576) (hq : q.size ≤ 1048576) :
    Calls Tryz.prog 10 #[.agg #[.string p, v1, v2, .string q]] w fun e w' => e = .returned (.string (textD p C T q)) ∧ Below w.heap.size w w' := by
  obtain ⟨A1, c1, rfl⟩ := hC.sliceD
  obtain ⟨A2, c2, rfl⟩ := hT.sliceD
  have hD := desk_new w p (.slice A1 C.length c1) (.slice A2 T.length c2) q 31
  have B1 := (Below.refl w.heap.size w).alloc (Nat.le_refl _) (.cells #[.string p, .slice A1 C.length c1, .slice A2 T.length c2, .string q] 31)
  go_enter Tryz.func10, Tryz.ntmps10
  go_wp2_with fail
  generalize w.alloc (.cells #[.string p, .slice A1 C.length c1, .slice A2 T.length c2, .string q] 31) = w1 at hD B1 ⊢
  refine (deskOk_spec _ w.heap.size p q _ _ C T hD (hC.below B1) (hT.below B1) hp hq).mono ?_
  rintro e w2 ⟨rfl, hb2⟩
  rcases ho : okDeskB p C T q with _ | _
  · have HR := hd (show textD p C T q = ⟨#[]⟩ by unfold textD; rw [ho]; rfl)
    go_wp2_with fail
    go_ret
    exact ⟨by rw [HR.out]; rfl, below_step B1 hb2⟩
  · have HR := hd (show textD p C T q = deskS p C T by unfold textD; rw [if_pos ho])
    have hbd := okDesk_bd ho
    go_wp2_with fail
    refine (l28Text_spec _ w.heap.size p q _ _ C T (hD.below hb2) (hC.below (below_step B1 hb2)) (hT.below (below_step B1 hb2)) hbd).mono ?_
    rintro e w3 ⟨rfl, hb3⟩
    go_wp2_with fail
    go_ret
    exact ⟨by rw [HR.out]; rfl, below_step (below_step B1 hb2) hb3⟩
set_option maxRecDepth 100000 in
set_option maxHeartbeats 8000000 in
theorem text_impl (w : World) (p q : ByteArray) (v1 v2 : Value) (C : List TCue) (T : List TTitle) (hC : Sl w 4 v1 eCue C) (hT : Sl w 4 v2 eTitle T) (hp : p.size ≤ 1048576) (hq : q.size ≤ 1048576) (hsh : Shop w) :
    Calls Tryz.prog 11 #[.agg #[.string p, v1, v2, .string q]] w fun e w' => e = .returned (.string (textD p C T q)) ∧ Below w.heap.size w w' := by
  obtain ⟨A1, c1, rfl⟩ := hC.sliceD
  obtain ⟨A2, c2, rfl⟩ := hT.sliceD
  have hD := desk_new w p (.slice A1 C.length c1) (.slice A2 T.length c2) q 31
  have B1 := (Below.refl w.heap.size w).alloc (Nat.le_refl _) (.cells #[.string p, .slice A1 C.length c1, .slice A2 T.length c2, .string q] 31)
  have HSH := hd (hsh.below B1)
  clear hsh
  obtain ⟨d0, d1, d2, d3, d4⟩ := id hD
  go_enter Tryz.func11, Tryz.ntmps11
  go_wp2_with fail
  generalize w.alloc (.cells #[.string p, .slice A1 C.length c1, .slice A2 T.length c2, .string q] 31) = w1 at hD B1 HSH d0 d1 d2 d3 d4 ⊢
  refine (desk_impl _ p q _ _ C T (hC.below B1) (hT.below B1) hp hq HSH.out).mono ?_
  rintro e w2 ⟨rfl, hb2⟩
  clear d0 d1 d2 d3 d4
  rcases ho : okDeskB p C T q with _ | _
  · have HR := hd (show textD p C T q = ⟨#[]⟩ by unfold textD; rw [ho]; rfl)
    go_wp2_with fail
    go_ret
    exact ⟨by rw [HR.out]; rfl, below_step B1 hb2⟩
  have HR := hd (show textD p C T q = deskS p C T by unfold textD; rw [if_pos ho])
  obtain ⟨b1, b2, b3⟩ := okDesk_bd ho
  have s1 := decS_size (n := (C.length : Int)) (by omega)
  have s2 := decS_size (n := (T.length : Int)) (by omega)
  obtain ⟨d0, d1, d2, d3, d4⟩ := hD.below hb2
  have g1 := gro_cell d1
  have g2 := gro_cell d2
  have g3 := gro_cell d3
  have HTB := hd (show ∀ x : Ext w2, Tab (gro w2 x) from fun x => (HSH.out.1.below hb2).below (gro_below x))
  clear d1 d2 d3 d4 ho
  go_wp2_with fail
  refine wp_region_calm (by kernel_rfl) (by kernel_rfl) ?_
  repeat (first | go_big_quiet_step ((go_at_call 24; exact calm_of (dec_impl _ _ (by omega) (HTB.out _)))) | quiet_step ((go_at_call 24; exact calm_of (dec_impl _ _ (by omega) (HTB.out _)))))
  refine wpQuiet_nil ?_
  rintro w3 ⟨x, rfl⟩
  have hb3 := gro_below x
  clear g1 g2 g3
  go_wp2_with fail
  go_ret
  exact ⟨by rw [HR.out]; rfl, below_step (below_step B1 hb2) hb3⟩
end Go.Proofs.YtfldalhojebblaaGreatDoor
