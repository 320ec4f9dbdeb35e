/- slices.Clone of hires; a hire is added to a list; reference and program alike. No condition but that the slices read. -/
import Derived.Test.YtidmpjlkdghmeaaOut2
import Derived.Test.YtidmpjlkdghmeaaApp
import Derived.Deep.RegionLaw
import Derived.Lib.SliceRun
namespace Go.Proofs.Ytidmpjlkdghmeaa
open Go Go.RowKit Go.ChangeShapes Go.WideShapes
set_option linter.unusedSimpArgs false
set_option linter.unusedVariables false

theorem GivesOwnI.is {α : Type} {enc : α → List Value} {w wr : World} {E : TypeId} {k : Nat} {r : List α × Int} {c : Int} {l : List α} {v : Value} (h : r = (l, c)) (ho : Own wr w.heap.size E k v enc l) (hb : Below w.heap.size w wr) : GivesOwnI w E k enc r (.returned (.tuple #[v, .int .i64 c])) wr := by
  subst h
  exact ⟨_, rfl, ho, hb⟩
theorem GivesOwnI.is_nil {α : Type} {enc : α → List Value} {w : World} {E : TypeId} {k : Nat} {r : List α × Int} {c : Int} (h : r = ([], c)) (wr : World) (hb : Below w.heap.size w wr) : GivesOwnI w E k enc r (.returned (.tuple #[.slice none 0 0, .int .i64 c])) wr := by
  subst h
  exact ⟨_, rfl, Own.nil _ _ _ _ _, hb⟩
def addR (S : List Int) (L : List THire) (x : THire) : List THire × Int :=
  if okHires S L then if isHireB S.length x then if L.length = 40 then ([], 5) else if canB S L x then (L ++ [x], 0) else ([], 9) else ([], 2) else ([], 1)
theorem addR_len (S : List Int) (L : List THire) (x : THire) : (addR S L x).1.length ≤ L.length + 1 := by
  unfold addR
  repeat' split
  all_goals simp

set_option maxHeartbeats 1000000 in
theorem clone_Hires (w : World) (v : Value) (l : List THire) (h : Sl w 3 v eHire l) (hl : l.length ≤ 1048576) :
    Calls Try.prog 122 #[v] w (GivesOwn w 74 3 eHire l) := by
  obtain ⟨-, A, c, rfl, -, -, hA⟩ := id h
  obtain ⟨i0, hi, hz0, hz1, hz2⟩ := info_parts info_Hire
  have q : ∀ (w : World) (a : Option Addr) (n c n' c' : Nat), (binOp .eql 68 (.slice a n c) (.slice none n' c')).run Try.prog w = .ok (.bool a.isNone) w := fun w a n c n' c' => Go.Lib.run_eql_slice_nil w _ _ a n c n' c' Try.underlying68
  rcases A with _ | ad
  · have hnil : l = [] := by
      rcases l with _ | ⟨y, l⟩
      · rfl
      · obtain ⟨b, o, he, -⟩ := hA 0 y rfl
        cases he
    subst hnil
    go_enter Try.func122, Try.ntmps122
    go_wp2_with fail
    go_ret
    exact ⟨_, rfl, Own.nil _ _ _ _ _, Below.refl _ _⟩
  · clear hA
    go_enter Try.func122, Try.ntmps122
    go_wp2_with (at_builtin; refine wpList_append_sl _ rfl _ _ 68 rfl i0 (.agg #[.int .i64 0, .int .i64 0, .int .i64 0]) 24 Try.underlying68 hi hz0 hz1 hz2 rfl (by decide) eHire_len (by rintro ⟨a, b, c⟩ u hu; simp [eHire] at hu; rcases hu with rfl | rfl | rfl <;> rfl) _ [] rfl (Own.made0 w w.heap.size 74 3 eHire (Nat.le_refl _)) _ l rfl (h.alloc _) (by unfold maxLen; simp; omega) (by simp; omega) (by simp) ?_)
    intro v' w1 hown hgr
    have hbel := ((Below.refl w.heap.size w).alloc (Nat.le_refl _) (.cells #[] 74)).grown hgr (by simp) (by intro g hg; simp [Value.ownBlock] at hg; omega)
    go_wp2_with fail
    go_ret
    exact ⟨_, rfl, by simpa using hown, hbel⟩

set_option maxHeartbeats 4000000 in
theorem add_impl (w : World) (vS : Value) (S : List Int) (hS : Sl w 1 vS eI S) (vL : Value) (L : List THire) (hL : Sl w 3 vL eHire L) (xa xb xc : Int) :
    Calls Try.prog 51 #[vS, vL, .agg #[.int .i64 xa, .int .i64 xb, .int .i64 xc]] w (GivesOwnI w 74 3 eHire (addR S L (xa, xb, xc))) := by
  have m1 := hS.len
  have m2 := hL.len
  obtain ⟨-, A1, c1, rfl, -, -, -⟩ := id hS
  obtain ⟨-, A2, c2, rfl, -, -, -⟩ := id hL
  have hw0 := (Below.refl w.heap.size w).alloc (Nat.le_refl _) (.cells #[.int .i64 xa, .int .i64 xb, .int .i64 xc] 74)
  rcases h1 : okHires S L with _ | _
  · have hc : canR S L (xa, xb, xc) = (false, 1) := by simp [canR, h1]
    go_enter Try.func51, Try.ntmps51
    go_wp2_with fail
    refine (canHire_impl _ _ _ (hS.alloc _) _ _ (hL.alloc _) _ _ _).mono ?_
    rintro e w1 ⟨rfl, hb⟩
    rw [hc]
    go_wp2_with fail
    go_ret2
    exact GivesOwnI.is_nil (by simp [addR, h1]) _ (below_step hw0 hb)
  rcases h2 : isHireB S.length (xa, xb, xc) with _ | _
  · have hc : canR S L (xa, xb, xc) = (false, 2) := by simp [canR, h1, h2]
    go_enter Try.func51, Try.ntmps51
    go_wp2_with fail
    refine (canHire_impl _ _ _ (hS.alloc _) _ _ (hL.alloc _) _ _ _).mono ?_
    rintro e w1 ⟨rfl, hb⟩
    rw [hc]
    go_wp2_with fail
    go_ret2
    exact GivesOwnI.is_nil (by simp [addR, h1, h2]) _ (below_step hw0 hb)
  have hc : canR S L (xa, xb, xc) = (canB S L (xa, xb, xc), 0) := by simp [canR, h1, h2]
  obtain ⟨-, -, -, z40⟩ := okHires_stock h1
  by_cases h3 : L.length = 40
  · have h3b : ((L.length : Int) == 40) = true := by rw [h3]; rfl
    have HN := hd (show addR S L (xa, xb, xc) = ([], 5) by simp [addR, h1, h2, h3])
    clear h3
    go_enter Try.func51, Try.ntmps51
    go_wp2_with fail
    refine (canHire_impl _ _ _ (hS.alloc _) _ _ (hL.alloc _) _ _ _).mono ?_
    rintro e w1 ⟨rfl, hb⟩
    rw [hc]
    go_wp2_with fail
    go_ret2
    exact GivesOwnI.is_nil (by exact HN.out) _ (below_step hw0 hb)
  have h3b : ((L.length : Int) == 40) = false := beq_eq_false_iff_ne.2 (by omega)
  have H3 := hd h3
  clear h3
  rcases h4 : canB S L (xa, xb, xc) with _ | _
  · rw [h4] at hc
    go_enter Try.func51, Try.ntmps51
    go_wp2_with fail
    refine (canHire_impl _ _ _ (hS.alloc _) _ _ (hL.alloc _) _ _ _).mono ?_
    rintro e w1 ⟨rfl, hb⟩
    rw [hc]
    go_wp2_with fail
    go_ret2
    exact GivesOwnI.is_nil (by have h3 := H3.out; simp [addR, h1, h2, h3, h4]) _ (below_step hw0 hb)
  rw [h4] at hc
  have HR := hd (show addR S L (xa, xb, xc) = (L ++ [(xa, xb, xc)], 0) by have h3 := H3.out; simp [addR, h1, h2, h3, h4])
  obtain ⟨i0, hi, hz0, hz1, hz2⟩ := info_parts info_Hire
  go_enter Try.func51, Try.ntmps51
  go_wp2_with fail
  refine (canHire_impl _ _ _ (hS.alloc _) _ _ (hL.alloc _) _ _ _).mono ?_
  rintro e w1 ⟨rfl, hb⟩
  rw [hc]
  have r0 := (hb.cell (p := ⟨w.heap.size, 0, none⟩) (by simp)).trans (new_cell w _ _ 0 _ rfl)
  have r1 := (hb.cell (p := ⟨w.heap.size, 1, none⟩) (by simp)).trans (new_cell w _ _ 1 _ rfl)
  have r2 := (hb.cell (p := ⟨w.heap.size, 2, none⟩) (by simp)).trans (new_cell w _ _ 2 _ rfl)
  have hb0 := below_step hw0 hb
  have hL1 := (hL.below hb0).drew
  have B0 : Below w.heap.size w w1.drew := below_drewN hb0 1
  clear hb hb0 h1 h2 hc h4
  go_wp2_with fail
  go_region_law (first | (go_simp; go_at_call 122; (first | (refine (clone_Hires w1.drew _ _ hL1 (by omega)).mono ?_; rintro e w3 ⟨v3, rfl, O3, hb3⟩; have B3 : Below w.heap.size w w3 := below_step B0 hb3; replace O3 := O3.base (show w.heap.size ≤ _ from B0.size); have OA := O3.alloc (.cells #[.int .i64 xa, .int .i64 xb, .int .i64 xc] 74); have BA := B3.alloc B3.size (.cells #[.int .i64 xa, .int .i64 xb, .int .i64 xc] 74); have HX := (show Sl (w3.alloc (.cells #[.int .i64 xa, .int .i64 xb, .int .i64 xc] 74)) 3 _ eHire [(xa, xb, xc)] from sl_one _ w3.heap.size _ _ (heap_alloc_new _ _) _ rfl); have x0 := (hb3.cell (World.block_lt_of_cell? w1 _ r0)).trans r0; have x1 := (hb3.cell (World.block_lt_of_cell? w1 _ r1)).trans r1; have x2 := (hb3.cell (World.block_lt_of_cell? w1 _ r2)).trans r2) | (refine (clone_Hires (w1.drew.alloc (.cells #[.int .i64 xa, .int .i64 xb, .int .i64 xc] 74)) _ _ (hL1.alloc _) (by omega)).mono ?_; rintro e w3 ⟨v3, rfl, O3, hb3⟩; have B3 : Below w.heap.size w w3 := below_step (B0.alloc B0.size _) hb3; replace O3 := O3.base (show w.heap.size ≤ _ from (B0.alloc B0.size _).size); have OA := O3; have BA := B3; have HX := (show Sl w3 3 _ eHire [(xa, xb, xc)] from (sl_one (k := 3) (enc := eHire) _ w1.drew.heap.size _ _ (heap_alloc_new _ _) (xa, xb, xc) rfl).below hb3)))) | (refine step_append_sl _ rfl _ _ 68 rfl i0 (.agg #[.int .i64 0, .int .i64 0, .int .i64 0]) 24 Try.underlying68 hi hz0 hz1 hz2 rfl (by decide) eHire_len (by rintro ⟨a, b, c⟩ u hu; simp [eHire] at hu; rcases hu with rfl | rfl | rfl <;> rfl) v3 L rfl OA _ [(xa, xb, xc)] rfl HX (by unfold maxLen; simp; omega) (by simp; omega) (by have := B3.size; first | exact this | (simp; omega)) ?_; intro v4 w4 O4 hg4; have B4 := BA.grown hg4 BA.size (fun g hg => (OA.lt g hg).1)))
  all_goals
    clear r0 r1 r2
    go_wp2_with fail
    go_ret2
    exact GivesOwnI.is HR.out O4 B4

theorem at_world {P : Program} (w : World) {ops : Array Oper} {o : Oper} {a : Act} {K : Act → World → Prop} {Q : Exit → Act → World → Prop} {X : Prop}
    (h : if Region.wanted o (yielded ops a.tmps) = true then Oper.wp P o a w K Q else X) : if Region.wanted o (yielded ops a.tmps) = true then Oper.wp P o a w K Q else X := h
set_option maxRecDepth 100000 in
set_option maxHeartbeats 8000000 in
theorem add_spec (w : World) (vS : Value) (S : List Int) (hS : Sl w 1 vS eI S) (vL : Value) (L : List THire) (hL : Sl w 3 vL eHire L) (xa xb xc : Int) :
    Calls Try.prog 52 #[vS, vL, .agg #[.int .i64 xa, .int .i64 xb, .int .i64 xc]] w (GivesOwnI w 74 3 eHire (addR S L (xa, xb, xc))) := by
  have m1 := hS.len
  have m2 := hL.len
  obtain ⟨-, A1, c1, rfl, -, -, -⟩ := id hS
  obtain ⟨-, A2, c2, rfl, -, -, -⟩ := id hL
  have hw0 := (Below.refl w.heap.size w).alloc (Nat.le_refl _) (.cells #[.int .i64 xa, .int .i64 xb, .int .i64 xc] 74)
  have hA := asked_spec _ _ _ (hS.alloc (.cells #[.int .i64 xa, .int .i64 xb, .int .i64 xc] 74)) _ _ (hL.alloc (.cells #[.int .i64 xa, .int .i64 xb, .int .i64 xc] 74)) xa xb xc w.heap.size 0 (new_cell w _ _ 0 _ rfl) (new_cell w _ _ 1 _ rfl) (new_cell w _ _ 2 _ rfl)
  have HA := hd hA
  clear hA
  rcases h1 : okHires S L with _ | _
  · have hc : askCode S L (xa, xb, xc) = 1 := by simp [askCode, h1]
    go_enter Try.func52, Try.ntmps52
    go_wp2_with fail
    refine HA.out.mono ?_
    rintro e w1 ⟨rfl, hb⟩
    rw [hc]
    have r0 := (hb.cell (p := ⟨w.heap.size, 0, none⟩) (by simp)).trans (new_cell w _ _ 0 _ rfl)
    have r1 := (hb.cell (p := ⟨w.heap.size, 1, none⟩) (by simp)).trans (new_cell w _ _ 1 _ rfl)
    have r2 := (hb.cell (p := ⟨w.heap.size, 2, none⟩) (by simp)).trans (new_cell w _ _ 2 _ rfl)
    have hb0 := below_step hw0 hb
    go_wp2_with fail
    go_ret2
    exact GivesOwnI.is_nil (by simp [addR, h1]) _ hb0
  rcases h2 : isHireB S.length (xa, xb, xc) with _ | _
  · have hc : askCode S L (xa, xb, xc) = 2 := by simp [askCode, h1, h2]
    go_enter Try.func52, Try.ntmps52
    go_wp2_with fail
    refine HA.out.mono ?_
    rintro e w1 ⟨rfl, hb⟩
    rw [hc]
    have r0 := (hb.cell (p := ⟨w.heap.size, 0, none⟩) (by simp)).trans (new_cell w _ _ 0 _ rfl)
    have r1 := (hb.cell (p := ⟨w.heap.size, 1, none⟩) (by simp)).trans (new_cell w _ _ 1 _ rfl)
    have r2 := (hb.cell (p := ⟨w.heap.size, 2, none⟩) (by simp)).trans (new_cell w _ _ 2 _ rfl)
    have hb0 := below_step hw0 hb
    go_wp2_with fail
    go_ret2
    exact GivesOwnI.is_nil (by simp [addR, h1, h2]) _ hb0
  have hc : askCode S L (xa, xb, xc) = 0 := by simp [askCode, h1, h2]
  obtain ⟨-, -, -, z40⟩ := okHires_stock h1
  by_cases h3 : L.length = 40
  · have h3b : decide ((40 : Int) ≤ (L.length : Int)) = true := by simp; omega
    have HN := hd (show addR S L (xa, xb, xc) = ([], 5) by simp [addR, h1, h2, h3])
    clear h3
    go_enter Try.func52, Try.ntmps52
    go_wp2_with fail
    refine HA.out.mono ?_
    rintro e w1 ⟨rfl, hb⟩
    rw [hc]
    have r0 := (hb.cell (p := ⟨w.heap.size, 0, none⟩) (by simp)).trans (new_cell w _ _ 0 _ rfl)
    have r1 := (hb.cell (p := ⟨w.heap.size, 1, none⟩) (by simp)).trans (new_cell w _ _ 1 _ rfl)
    have r2 := (hb.cell (p := ⟨w.heap.size, 2, none⟩) (by simp)).trans (new_cell w _ _ 2 _ rfl)
    have hb0 := below_step hw0 hb
    go_wp2_with fail
    go_ret2
    exact GivesOwnI.is_nil (by exact HN.out) _ hb0
  have h3b : decide ((40 : Int) ≤ (L.length : Int)) = false := by simp; omega
  have H3 := hd h3
  clear h3
  rcases h4 : canB S L (xa, xb, xc) with _ | _
  · skip
    go_enter Try.func52, Try.ntmps52
    go_wp2_with fail
    refine HA.out.mono ?_
    rintro e w1 ⟨rfl, hb⟩
    rw [hc]
    have r0 := (hb.cell (p := ⟨w.heap.size, 0, none⟩) (by simp)).trans (new_cell w _ _ 0 _ rfl)
    have r1 := (hb.cell (p := ⟨w.heap.size, 1, none⟩) (by simp)).trans (new_cell w _ _ 1 _ rfl)
    have r2 := (hb.cell (p := ⟨w.heap.size, 2, none⟩) (by simp)).trans (new_cell w _ _ 2 _ rfl)
    have hb0 := below_step hw0 hb
    go_wp2_with fail
    refine (can_spec _ _ _ (hS.below hb0) _ _ (hL.below hb0) _ _ _ _ _ r0 r1 r2 (good_of h1) h2).mono ?_
    rintro e w4 ⟨rfl, hb4⟩
    have hb0 := below_step hb0 hb4
    rw [h4]
    go_wp2_with fail
    go_ret2
    exact GivesOwnI.is_nil (by have h3 := H3.out; simp [addR, h1, h2, h3, h4]) _ hb0
  have HR := hd (show addR S L (xa, xb, xc) = ([] ++ L ++ [(xa, xb, xc)], 0) by have h3 := H3.out; simp [addR, h1, h2, h3, h4])
  obtain ⟨i0, hi, hz0, hz1, hz2⟩ := info_parts info_Hire
  go_enter Try.func52, Try.ntmps52
  go_wp2_with fail
  refine HA.out.mono ?_
  rintro e w0 ⟨rfl, hb⟩
  rw [hc]
  have r0 := (hb.cell (p := ⟨w.heap.size, 0, none⟩) (by simp)).trans (new_cell w _ _ 0 _ rfl)
  have r1 := (hb.cell (p := ⟨w.heap.size, 1, none⟩) (by simp)).trans (new_cell w _ _ 1 _ rfl)
  have r2 := (hb.cell (p := ⟨w.heap.size, 2, none⟩) (by simp)).trans (new_cell w _ _ 2 _ rfl)
  have hb0 := below_step hw0 hb
  go_wp2_with fail
  refine (can_spec _ _ _ (hS.below hb0) _ _ (hL.below hb0) _ _ _ _ _ r0 r1 r2 (good_of h1) h2).mono ?_
  rintro e w1 ⟨rfl, hb4⟩
  rw [h4]
  replace r0 := (hb4.cell (World.block_lt_of_cell? w0 _ r0)).trans r0
  replace r1 := (hb4.cell (World.block_lt_of_cell? w0 _ r1)).trans r1
  replace r2 := (hb4.cell (World.block_lt_of_cell? w0 _ r2)).trans r2
  replace hb0 := below_step hb0 hb4
  have hL1 := (hL.below hb0).drew
  have B0 : Below w.heap.size w w1.drew := below_drewN hb0 1
  clear hb hb0 hb4 h1 h2 hc h4
  have BE := (Below.refl w1.heap.size w1).alloc (Nat.le_refl _) (.cells #[] 74)
  have y0 := (BE.cell (World.block_lt_of_cell? w1 _ r0)).trans r0
  have y1 := (BE.cell (World.block_lt_of_cell? w1 _ r1)).trans r1
  have y2 := (BE.cell (World.block_lt_of_cell? w1 _ r2)).trans r2
  clear BE
  have HO2 : Hid (Own ((w1.drew.alloc (.cells #[.int .i64 xa, .int .i64 xb, .int .i64 xc] 74)).alloc (.cells #[] 74)) w.heap.size 74 3 (.slice (some ⟨w1.heap.size + 1, 0, none⟩) 0 0) eHire []) := hd (by
    have h := Own.made0 (w1.drew.alloc (.cells #[.int .i64 xa, .int .i64 xb, .int .i64 xc] 74)) w.heap.size 74 3 eHire (B0.alloc B0.size (.cells #[.int .i64 xa, .int .i64 xb, .int .i64 xc] 74)).size
    rw [show (w1.drew.alloc (.cells #[.int .i64 xa, .int .i64 xb, .int .i64 xc] 74)).heap.size = w1.heap.size + 1 from by simp] at h
    exact h)
  go_wp2_with fail
  go_region_law (first | (refine step_append_sl (w1.drew.alloc (.cells #[] 74)) rfl (.tmp 30) (.tmp 31) 68 rfl i0 (.agg #[.int .i64 0, .int .i64 0, .int .i64 0]) 24 Try.underlying68 hi hz0 hz1 hz2 rfl (by decide) eHire_len (by rintro ⟨a, b, c⟩ u hu; simp [eHire] at hu; rcases hu with rfl | rfl | rfl <;> rfl) _ [] rfl (Own.made0 w1.drew w.heap.size 74 3 eHire B0.size) _ L rfl (hL1.alloc _) (by unfold maxLen; simp; omega) (by simp; omega) (B0.alloc B0.size (.cells #[] 74)).size ?_; intro v3 w3 O3 hg3; have B3 : Below w.heap.size w w3 := (B0.alloc B0.size (.cells #[] 74)).grown hg3 (B0.alloc B0.size (.cells #[] 74)).size (fun g hg => (Option.some.inj (show some w1.drew.heap.size = some g from hg)) ▸ B0.size); have BD : Below w1.drew.heap.size w1.drew w3 := ((Below.refl _ w1.drew).alloc (Nat.le_refl _) (.cells #[] 74)).grown hg3 (by simp) (fun g hg => (Option.some.inj (show some w1.drew.heap.size = some g from hg)) ▸ Nat.le_refl _); have x0 := (BD.cell (World.block_lt_of_cell? w1 _ r0)).trans r0; have x1 := (BD.cell (World.block_lt_of_cell? w1 _ r1)).trans r1; have x2 := (BD.cell (World.block_lt_of_cell? w1 _ r2)).trans r2; have OA := O3.alloc (.cells #[.int .i64 xa, .int .i64 xb, .int .i64 xc] 74); have BA := B3.alloc B3.size (.cells #[.int .i64 xa, .int .i64 xb, .int .i64 xc] 74); have HX := (show Sl (w3.alloc (.cells #[.int .i64 xa, .int .i64 xb, .int .i64 xc] 74)) 3 _ eHire [(xa, xb, xc)] from sl_one _ w3.heap.size _ _ (heap_alloc_new _ _) _ rfl)) | (refine step_append_sl ((w1.drew.alloc (.cells #[.int .i64 xa, .int .i64 xb, .int .i64 xc] 74)).alloc (.cells #[] 74)) rfl (.tmp 30) (.tmp 31) 68 rfl i0 (.agg #[.int .i64 0, .int .i64 0, .int .i64 0]) 24 Try.underlying68 hi hz0 hz1 hz2 rfl (by decide) eHire_len (by rintro ⟨a, b, c⟩ u hu; simp [eHire] at hu; rcases hu with rfl | rfl | rfl <;> rfl) _ [] rfl HO2.out _ L rfl ((hL1.alloc _).alloc _) (by unfold maxLen; simp; omega) (by simp; omega) ((B0.alloc B0.size (.cells #[.int .i64 xa, .int .i64 xb, .int .i64 xc] 74)).alloc (B0.alloc B0.size (.cells #[.int .i64 xa, .int .i64 xb, .int .i64 xc] 74)).size (.cells #[] 74)).size ?_; intro v3 w3 O3 hg3; have BX0 := B0.alloc B0.size (.cells #[.int .i64 xa, .int .i64 xb, .int .i64 xc] 74); have BA : Below w.heap.size w w3 := (BX0.alloc BX0.size (.cells #[] 74)).grown hg3 (BX0.alloc BX0.size (.cells #[] 74)).size (fun g hg => (Option.some.inj (show some (w1.heap.size + 1) = some g from hg)) ▸ (show w.heap.size ≤ w1.heap.size + 1 from Nat.le_succ_of_le B0.size)); have BD : Below (w1.drew.alloc (.cells #[.int .i64 xa, .int .i64 xb, .int .i64 xc] 74)).heap.size (w1.drew.alloc (.cells #[.int .i64 xa, .int .i64 xb, .int .i64 xc] 74)) w3 := ((Below.refl _ (w1.drew.alloc (.cells #[.int .i64 xa, .int .i64 xb, .int .i64 xc] 74))).alloc (Nat.le_refl _) (.cells #[] 74)).grown hg3 (by simp) (fun g hg => (Option.some.inj (show some (w1.heap.size + 1) = some g from hg)) ▸ (show (w1.drew.alloc (.cells #[.int .i64 xa, .int .i64 xb, .int .i64 xc] 74)).heap.size ≤ w1.heap.size + 1 from by simp)); have OA := O3; have HX := (show Sl w3 3 _ eHire [(xa, xb, xc)] from (sl_one (k := 3) (enc := eHire) _ w1.drew.heap.size _ _ (heap_alloc_new _ _) (xa, xb, xc) rfl).below BD)) | (refine step_append_sl ((w1.drew.alloc (.cells #[] 74)).alloc (.cells #[.int .i64 xa, .int .i64 xb, .int .i64 xc] 74)) rfl (.tmp 30) (.tmp 31) 68 rfl i0 (.agg #[.int .i64 0, .int .i64 0, .int .i64 0]) 24 Try.underlying68 hi hz0 hz1 hz2 rfl (by decide) eHire_len (by rintro ⟨a, b, c⟩ u hu; simp [eHire] at hu; rcases hu with rfl | rfl | rfl <;> rfl) _ [] rfl ((Own.made0 w1.drew w.heap.size 74 3 eHire B0.size).alloc (.cells #[.int .i64 xa, .int .i64 xb, .int .i64 xc] 74)) _ L rfl ((hL1.alloc _).alloc _) (by unfold maxLen; simp; omega) (by simp; omega) ((B0.alloc B0.size (.cells #[] 74)).alloc (B0.alloc B0.size (.cells #[] 74)).size (.cells #[.int .i64 xa, .int .i64 xb, .int .i64 xc] 74)).size ?_; intro v3 w3 O3 hg3; have BX0 := B0.alloc B0.size (.cells #[] 74); have BA : Below w.heap.size w w3 := (BX0.alloc BX0.size (.cells #[.int .i64 xa, .int .i64 xb, .int .i64 xc] 74)).grown hg3 (BX0.alloc BX0.size (.cells #[.int .i64 xa, .int .i64 xb, .int .i64 xc] 74)).size (fun g hg => (Option.some.inj (show some w1.drew.heap.size = some g from hg)) ▸ B0.size); have OA := O3; have HX := (show Sl w3 3 (.slice (some ⟨w1.heap.size + 1, 0, none⟩) 1 1) eHire [(xa, xb, xc)] from by rw [show w1.heap.size + 1 = (w1.drew.alloc (.cells #[] 74)).heap.size from by simp]; exact sl_one _ (w1.drew.alloc (.cells #[] 74)).heap.size _ _ ((hg3.block _ (by simp) (show ¬ some (w1.drew.alloc (.cells #[] 74)).heap.size = some w1.drew.heap.size from by simp)).trans (heap_alloc_new _ _)) _ rfl)) | (refine step_append_sl _ rfl (.tmp 32) (.tmp 34) 68 rfl i0 (.agg #[.int .i64 0, .int .i64 0, .int .i64 0]) 24 Try.underlying68 hi hz0 hz1 hz2 rfl (by decide) eHire_len (by rintro ⟨a, b, c⟩ u hu; simp [eHire] at hu; rcases hu with rfl | rfl | rfl <;> rfl) v3 ([] ++ L) rfl OA _ [(xa, xb, xc)] rfl HX (by unfold maxLen; simp; omega) (by simp; omega) BA.size ?_; intro v4 w4 O4 hg4; have B4 := BA.grown hg4 BA.size (fun g hg => (OA.lt g hg).1)))
  all_goals
    clear r0 r1 r2 y0 y1 y2
    go_wp2_with fail
    go_ret2
    exact GivesOwnI.is HR.out O4 B4

end Go.Proofs.Ytidmpjlkdghmeaa
