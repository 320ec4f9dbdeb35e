/- Lemmas for the claim (the walks of its functions and their plain laws), joined. No condition. -/
import Derived.Test.YtgcodjkjdfahdaaGreatDoorJ35
import Derived.Deep.RegionHeld3
namespace Go.Proofs.YtgcodjkjdfahdaaGreatDoor
open Go Go.RowKit Go.ChangeShapes Go.WideShapes
set_option linter.unusedSimpArgs false
set_option linter.unusedVariables false
def addTR (l : List TTitle) (x : TTitle) : List TTitle × Int :=
  if okTitles l then if okTitleB x then if foundB l x.1 then ([], 4) else if l.length = 20 then ([], 5) else (insAt l (atK l x.1) x, 0) else ([], 2) else ([], 1)
theorem Sl.takenT {α : Type} {w : World} {k n c : Nat} {A : Option Addr} {enc : α → List Value} {l : List α} (h : Sl w k (.slice A n c) enc l) (i : Nat) (hi : i ≤ l.length) : Sl w k (.slice A i c) enc (l.take i) := by
  obtain ⟨h1, A', c', hv, hc, hc', h2⟩ := h
  injection hv with e1 e2 e3
  subst e1 e3
  have hl : (l.take i).length = i := by rw [List.length_take]; omega
  refine ⟨by omega, A, c, by rw [hl], by omega, hc', fun j x hx => h2 j x ?_⟩
  have : j < i := by have := (List.getElem?_eq_some_iff.1 hx).1; omega
  rw [List.getElem?_take, if_pos this] at hx
  exact hx
theorem Sl.droppedT {α : Type} {w : World} {k n c b o : Nat} {enc : α → List Value} {l : List α} (h : Sl w k (.slice (some ⟨b, o, none⟩) n c) enc l) (i : Nat) (hi : i ≤ l.length) (hci : c ≠ i) :
    Sl w k (.slice (some ⟨b, o + i * k, none⟩) (l.length - i) (c - i)) enc (l.drop i) := by
  obtain ⟨h1, A', c', hv, hc, hc', h2⟩ := h
  injection hv with e1 e2 e3
  subst e1 e3
  refine ⟨by simp; omega, _, _, by rw [List.length_drop], by rw [List.length_drop]; omega, by omega, fun j x hx => ?_⟩
  rw [List.getElem?_drop] at hx
  obtain ⟨b', o', hA, hb, h3⟩ := h2 (i + j) x hx
  injection hA with hA
  injection hA with hA1 hA2 _
  subst hA1 hA2
  refine ⟨b, o + i * k, rfl, hb, fun m u hu => ?_⟩
  have := h3 m u hu
  rw [show o + i * k + j * k + m = o + (i + j) * k + m by rw [Nat.add_mul]; omega]
  exact this
theorem Sl.empty {α : Type} (w : World) (k : Nat) (A : Option Addr) (c : Nat) {enc : α → List Value} (hc : c ≤ 9223372036854775807) : Sl w k (.slice A 0 c) enc [] := ⟨by simp, A, c, rfl, by simp, hc, fun i x hx => by simp at hx⟩
set_option maxRecDepth 100000 in
set_option maxHeartbeats 8000000 in
theorem addT_impl (w : World) (v : Value) (l : List TTitle) (h : Sl w 4 v eTitle l) (xa : Int) (xb : ByteArray) (xc xd : Int) :
    Calls Tryz.prog 81 #[v, .agg #[.int .i64 xa, .string xb, .int .i64 xc, .int .i64 xd]] w (GivesOwnI w 95 4 eTitle (addTR l (xa, xb, xc, xd))) := by
  have m1 := h.len
  obtain ⟨-, A, c, rfl, -, -, -⟩ := id h
  have hw0 := (Below.refl w.heap.size w).alloc (Nat.le_refl _) (.cells #[.int .i64 xa, .string xb, .int .i64 xc, .int .i64 xd] 95)
  rcases h1 : okTitles l with _ | _
  · have HR := hd (show addTR l (xa, xb, xc, xd) = ([], 1) by simp [addTR, h1])
    go_enter Tryz.func81, Tryz.ntmps81
    go_wp2_with fail
    refine (titles_impl _ _ _ (h.alloc _)).mono ?_
    rintro e w1 ⟨rfl, hb⟩
    rw [h1]
    go_wp2_with fail
    go_ret2
    exact GivesOwnI.is_nil HR.out _ (below_step hw0 hb)
  have h20 := okTitles_len h1
  rcases h2 : okTitleB (xa, xb, xc, xd) with _ | _
  · have HR := hd (show addTR l (xa, xb, xc, xd) = ([], 2) by simp [addTR, h1, h2])
    go_enter Tryz.func81, Tryz.ntmps81
    go_wp2_with fail
    refine (titles_impl _ _ _ (h.alloc _)).mono ?_
    rintro e w1 ⟨rfl, hb⟩
    rw [h1]
    have r0 := (hb.cell (p := ⟨w.heap.size, 0, none⟩) (by simp)).trans (new_cell w _ _ 0 _ rfl)
    have r1 := (hb.cell (p := ⟨w.heap.size, 1, none⟩) (by simp)).trans (new_cell w _ _ 1 _ rfl)
    have r2 := (hb.cell (p := ⟨w.heap.size, 2, none⟩) (by simp)).trans (new_cell w _ _ 2 _ rfl)
    have r3 := (hb.cell (p := ⟨w.heap.size, 3, none⟩) (by simp)).trans (new_cell w _ _ 3 _ rfl)
    have hb0 := below_step hw0 hb
    go_wp2_with fail
    refine (title_impl _ _ _ _ _).mono ?_
    rintro e w2 ⟨rfl, hb2⟩
    rw [h2]
    replace r0 := (hb2.cell (World.block_lt_of_cell? _ _ r0)).trans r0
    replace r1 := (hb2.cell (World.block_lt_of_cell? _ _ r1)).trans r1
    replace r2 := (hb2.cell (World.block_lt_of_cell? _ _ r2)).trans r2
    replace r3 := (hb2.cell (World.block_lt_of_cell? _ _ r3)).trans r3
    replace hb0 := below_step hb0 hb2
    clear hb hb2
    go_wp2_with fail
    go_ret2
    exact GivesOwnI.is_nil HR.out _ hb0
  have hkl := atK_le l xa
  rcases h3 : foundB l xa with _ | _
  case true =>
    have HR := hd (show addTR l (xa, xb, xc, xd) = ([], 4) by simp [addTR, h1, h2, h3])
    have HF := hd h3
    have hlt := found_lt h3
    go_enter Tryz.func81, Tryz.ntmps81
    go_wp2_with fail
    refine (titles_impl _ _ _ (h.alloc _)).mono ?_
    rintro e w1 ⟨rfl, hb⟩
    rw [h1]
    have r0 := (hb.cell (p := ⟨w.heap.size, 0, none⟩) (by simp)).trans (new_cell w _ _ 0 _ rfl)
    have r1 := (hb.cell (p := ⟨w.heap.size, 1, none⟩) (by simp)).trans (new_cell w _ _ 1 _ rfl)
    have r2 := (hb.cell (p := ⟨w.heap.size, 2, none⟩) (by simp)).trans (new_cell w _ _ 2 _ rfl)
    have r3 := (hb.cell (p := ⟨w.heap.size, 3, none⟩) (by simp)).trans (new_cell w _ _ 3 _ rfl)
    have hb0 := below_step hw0 hb
    go_wp2_with fail
    refine (title_impl _ _ _ _ _).mono ?_
    rintro e w2 ⟨rfl, hb2⟩
    rw [h2]
    replace r0 := (hb2.cell (World.block_lt_of_cell? _ _ r0)).trans r0
    replace r1 := (hb2.cell (World.block_lt_of_cell? _ _ r1)).trans r1
    replace r2 := (hb2.cell (World.block_lt_of_cell? _ _ r2)).trans r2
    replace r3 := (hb2.cell (World.block_lt_of_cell? _ _ r3)).trans r3
    replace hb0 := below_step hb0 hb2
    clear hb hb2
    go_wp2_with fail
    refine (place_impl _ _ _ (h.below hb0) _ h1).mono ?_
    rintro e w3 ⟨rfl, hb3⟩
    replace r0 := (hb3.cell (World.block_lt_of_cell? _ _ r0)).trans r0
    replace r1 := (hb3.cell (World.block_lt_of_cell? _ _ r1)).trans r1
    replace r2 := (hb3.cell (World.block_lt_of_cell? _ _ r2)).trans r2
    replace r3 := (hb3.cell (World.block_lt_of_cell? _ _ r3)).trans r3
    replace hb0 := below_step hb0 hb3
    clear hb3
    rw [h3]
    clear r0 r1 r2 r3 h1 h2 h3
    go_wp2_with fail
    go_ret2
    exact GivesOwnI.is_nil HR.out _ hb0
  have HNF := hd h3
  by_cases h4 : l.length = 20
  · have HR := hd (show addTR l (xa, xb, xc, xd) = ([], 5) by simp [addTR, h1, h2, h3, h4])
    have h4b : ((l.length : Int) == 20) = true := by rw [h4]; rfl
    have h4c : (20 : Int) ≤ (l.length : Int) := by omega
    clear h4
    go_enter Tryz.func81, Tryz.ntmps81
    go_wp2_with fail
    refine (titles_impl _ _ _ (h.alloc _)).mono ?_
    rintro e w1 ⟨rfl, hb⟩
    rw [h1]
    have r0 := (hb.cell (p := ⟨w.heap.size, 0, none⟩) (by simp)).trans (new_cell w _ _ 0 _ rfl)
    have r1 := (hb.cell (p := ⟨w.heap.size, 1, none⟩) (by simp)).trans (new_cell w _ _ 1 _ rfl)
    have r2 := (hb.cell (p := ⟨w.heap.size, 2, none⟩) (by simp)).trans (new_cell w _ _ 2 _ rfl)
    have r3 := (hb.cell (p := ⟨w.heap.size, 3, none⟩) (by simp)).trans (new_cell w _ _ 3 _ rfl)
    have hb0 := below_step hw0 hb
    go_wp2_with fail
    refine (title_impl _ _ _ _ _).mono ?_
    rintro e w2 ⟨rfl, hb2⟩
    rw [h2]
    replace r0 := (hb2.cell (World.block_lt_of_cell? _ _ r0)).trans r0
    replace r1 := (hb2.cell (World.block_lt_of_cell? _ _ r1)).trans r1
    replace r2 := (hb2.cell (World.block_lt_of_cell? _ _ r2)).trans r2
    replace r3 := (hb2.cell (World.block_lt_of_cell? _ _ r3)).trans r3
    replace hb0 := below_step hb0 hb2
    clear hb hb2
    go_wp2_with fail
    refine (place_impl _ _ _ (h.below hb0) _ h1).mono ?_
    rintro e w3 ⟨rfl, hb3⟩
    replace r0 := (hb3.cell (World.block_lt_of_cell? _ _ r0)).trans r0
    replace r1 := (hb3.cell (World.block_lt_of_cell? _ _ r1)).trans r1
    replace r2 := (hb3.cell (World.block_lt_of_cell? _ _ r2)).trans r2
    replace r3 := (hb3.cell (World.block_lt_of_cell? _ _ r3)).trans r3
    replace hb0 := below_step hb0 hb3
    clear hb3
    rw [h3]
    clear r0 r1 r2 r3 h1 h2 h3
    go_wp2_with fail
    go_ret2
    exact GivesOwnI.is_nil HR.out _ hb0
  have HR := hd (show addTR l (xa, xb, xc, xd) = (insAt l (atK l xa) (xa, xb, xc, xd), 0) by simp [addTR, h1, h2, h3, h4])
  have h4b : ((l.length : Int) == 20) = false := beq_eq_false_iff_ne.2 (by omega)
  have h19 : l.length ≤ 19 := by omega
  clear h4 h20
  obtain ⟨i0, hi, hz0, hz1, hz2⟩ := info_parts info_Title
  go_enter Tryz.func81, Tryz.ntmps81
  go_wp2_with fail
  refine (titles_impl _ _ _ (h.alloc _)).mono ?_
  rintro e w1 ⟨rfl, hb⟩
  rw [h1]
  have r0 := (hb.cell (p := ⟨w.heap.size, 0, none⟩) (by simp)).trans (new_cell w _ _ 0 _ rfl)
  have r1 := (hb.cell (p := ⟨w.heap.size, 1, none⟩) (by simp)).trans (new_cell w _ _ 1 _ rfl)
  have r2 := (hb.cell (p := ⟨w.heap.size, 2, none⟩) (by simp)).trans (new_cell w _ _ 2 _ rfl)
  have r3 := (hb.cell (p := ⟨w.heap.size, 3, none⟩) (by simp)).trans (new_cell w _ _ 3 _ rfl)
  have hb0 := below_step hw0 hb
  go_wp2_with fail
  refine (title_impl _ _ _ _ _).mono ?_
  rintro e w2 ⟨rfl, hb2⟩
  rw [h2]
  replace r0 := (hb2.cell (World.block_lt_of_cell? _ _ r0)).trans r0
  replace r1 := (hb2.cell (World.block_lt_of_cell? _ _ r1)).trans r1
  replace r2 := (hb2.cell (World.block_lt_of_cell? _ _ r2)).trans r2
  replace r3 := (hb2.cell (World.block_lt_of_cell? _ _ r3)).trans r3
  replace hb0 := below_step hb0 hb2
  clear hb hb2
  go_wp2_with fail
  refine (place_impl _ _ _ (h.below hb0) _ h1).mono ?_
  rintro e w3 ⟨rfl, hb3⟩
  replace r0 := (hb3.cell (World.block_lt_of_cell? _ _ r0)).trans r0
  replace r1 := (hb3.cell (World.block_lt_of_cell? _ _ r1)).trans r1
  replace r2 := (hb3.cell (World.block_lt_of_cell? _ _ r2)).trans r2
  replace r3 := (hb3.cell (World.block_lt_of_cell? _ _ r3)).trans r3
  replace hb0 := below_step hb0 hb3
  clear hb3
  rw [h3]
  have hgr : w.heap.size < w3.heap.size := World.block_lt_of_cell? _ _ r0
  have hL1 := (h.below hb0).drew
  have B0 : Below w3.heap.size w3 w3.drew := below_drewN (Below.refl _ _) 1
  have HS := hd (show ∀ w' : World, Below w3.heap.size w3 w' → w'.cell? ⟨w.heap.size, 0, none⟩ = some (.int .i64 xa) ∧ w'.cell? ⟨w.heap.size, 1, none⟩ = some (.string xb) ∧ w'.cell? ⟨w.heap.size, 2, none⟩ = some (.int .i64 xc) ∧ w'.cell? ⟨w.heap.size, 3, none⟩ = some (.int .i64 xd) from fun w' hb' => ⟨(hb'.cell (p := ⟨w.heap.size, 0, none⟩) hgr).trans r0, (hb'.cell (p := ⟨w.heap.size, 1, none⟩) hgr).trans r1, (hb'.cell (p := ⟨w.heap.size, 2, none⟩) hgr).trans r2, (hb'.cell (p := ⟨w.heap.size, 3, none⟩) hgr).trans r3⟩)
  clear h1 h2 h3
  go_upto_region 10 with fail
  go_region_held3 (fun ww => ww.cell? ⟨w.heap.size, 0, none⟩ = some (.int .i64 xa) ∧ ww.cell? ⟨w.heap.size, 1, none⟩ = some (.string xb) ∧ ww.cell? ⟨w.heap.size, 2, none⟩ = some (.int .i64 xc) ∧ ww.cell? ⟨w.heap.size, 3, none⟩ = some (.int .i64 xd)) (exact HS.out _ (by first | exact B5 | exact BA | exact B4 | exact B0.alloc B0.size _ | exact B0))
    (first | (go_at_call 64; (first | (refine (clone_Titles w3.drew _ _ hL1 (by omega)).mono ?_; rintro e w4 ⟨v4, rfl, O4, hb4⟩; have B4 : Below w3.heap.size w3 w4 := below_step B0 hb4; have BA := B4.alloc B4.size (.cells #[.int .i64 xa, .string xb, .int .i64 xc, .int .i64 xd] 95); have OA := O4.alloc (.cells #[.int .i64 xa, .string xb, .int .i64 xc, .int .i64 xd] 95); have HX := (show (w4.alloc (.cells #[.int .i64 xa, .string xb, .int .i64 xc, .int .i64 xd] 95)).heap[w4.heap.size]? = some (.cells (eTitle (xa, xb, xc, xd)).toArray 95 (0, 0)) from heap_alloc_new _ _); have hne : v4.ownBlock ≠ some w4.heap.size := fun q => by have := (O4.lt _ q).2; omega) | (refine (clone_Titles (w3.drew.alloc (.cells #[.int .i64 xa, .string xb, .int .i64 xc, .int .i64 xd] 95)) _ _ (hL1.alloc _) (by omega)).mono ?_; rintro e w4 ⟨v4, rfl, O4, hb4⟩; have B4 : Below w3.heap.size w3 w4 := below_step (B0.alloc B0.size _) hb4; have BA := B4; have OA := O4.base (show w3.drew.heap.size ≤ _ from by simp); have HX := (show w4.heap[w3.heap.size]? = some (.cells (eTitle (xa, xb, xc, xd)).toArray 95 (0, 0)) from (hb4.block w3.heap.size (by simp)).trans (heap_alloc_new _ _)); have hne : v4.ownBlock ≠ some w3.heap.size := fun q => by have := (O4.lt _ q).1; simp at this; omega))) | (go_at_call 151; refine (insert_title _ w3.heap.size v4 l OA (atK l xa) hkl (xa, xb, xc, xd) _ HX hne BA.size (by omega)).mono ?_; rintro e w5 ⟨v5, rfl, O5, hg5⟩; have B5 := BA.grown hg5 BA.size (fun g hg => (OA.lt g hg).1)))
  all_goals
    go_wp2_with fail
    go_ret2
    exact GivesOwnI.is HR.out (O5.base hb0.size) (below_step hb0 B5)
set_option maxRecDepth 100000 in
set_option maxHeartbeats 8000000 in
theorem addT_spec (w : World) (v : Value) (l : List TTitle) (h : Sl w 4 v eTitle l) (xa : Int) (xb : ByteArray) (xc xd : Int) :
    Calls Tryz.prog 182 #[v, .agg #[.int .i64 xa, .string xb, .int .i64 xc, .int .i64 xd]] w (GivesOwnI w 95 4 eTitle (addTR l (xa, xb, xc, xd))) := by
  have m1 := h.len
  obtain ⟨-, A, c, rfl, -, -, -⟩ := id h
  have hw0 := (Below.refl w.heap.size w).alloc (Nat.le_refl _) (.cells #[.int .i64 xa, .string xb, .int .i64 xc, .int .i64 xd] 95)
  rcases h1 : okTitles l with _ | _
  · have HR := hd (show addTR l (xa, xb, xc, xd) = ([], 1) by simp [addTR, h1])
    go_enter Tryz.func182, Tryz.ntmps182
    go_wp2_with fail
    refine (titles_spec0 _ _ _ (h.alloc _)).mono ?_
    rintro e w1 ⟨rfl, hb⟩
    rw [h1]
    go_wp2_with fail
    go_ret2
    exact GivesOwnI.is_nil HR.out _ (below_step hw0 hb)
  have h20 := okTitles_len h1
  rcases h2 : okTitleB (xa, xb, xc, xd) with _ | _
  · have HR := hd (show addTR l (xa, xb, xc, xd) = ([], 2) by simp [addTR, h1, h2])
    go_enter Tryz.func182, Tryz.ntmps182
    go_wp2_with fail
    refine (titles_spec0 _ _ _ (h.alloc _)).mono ?_
    rintro e w1 ⟨rfl, hb⟩
    rw [h1]
    have r0 := (hb.cell (p := ⟨w.heap.size, 0, none⟩) (by simp)).trans (new_cell w _ _ 0 _ rfl)
    have r1 := (hb.cell (p := ⟨w.heap.size, 1, none⟩) (by simp)).trans (new_cell w _ _ 1 _ rfl)
    have r2 := (hb.cell (p := ⟨w.heap.size, 2, none⟩) (by simp)).trans (new_cell w _ _ 2 _ rfl)
    have r3 := (hb.cell (p := ⟨w.heap.size, 3, none⟩) (by simp)).trans (new_cell w _ _ 3 _ rfl)
    have hb0 := below_step hw0 hb
    go_wp2_with fail
    refine (oneT_spec _ _ 0 _ _ _ _ r0 r1 r2 r3).mono ?_
    rintro e w2 ⟨rfl, hb2⟩
    rw [h2]
    replace r0 := (hb2.cell (World.block_lt_of_cell? _ _ r0)).trans r0
    replace r1 := (hb2.cell (World.block_lt_of_cell? _ _ r1)).trans r1
    replace r2 := (hb2.cell (World.block_lt_of_cell? _ _ r2)).trans r2
    replace r3 := (hb2.cell (World.block_lt_of_cell? _ _ r3)).trans r3
    replace hb0 := below_step hb0 hb2
    clear hb hb2
    go_wp2_with fail
    go_ret2
    exact GivesOwnI.is_nil HR.out _ hb0
  have hkl := atK_le l xa
  rcases h3 : foundB l xa with _ | _
  case true =>
    have HR := hd (show addTR l (xa, xb, xc, xd) = ([], 4) by simp [addTR, h1, h2, h3])
    have HF := hd h3
    have hlt := found_lt h3
    go_enter Tryz.func182, Tryz.ntmps182
    go_wp2_with fail
    refine (titles_spec0 _ _ _ (h.alloc _)).mono ?_
    rintro e w1 ⟨rfl, hb⟩
    rw [h1]
    have r0 := (hb.cell (p := ⟨w.heap.size, 0, none⟩) (by simp)).trans (new_cell w _ _ 0 _ rfl)
    have r1 := (hb.cell (p := ⟨w.heap.size, 1, none⟩) (by simp)).trans (new_cell w _ _ 1 _ rfl)
    have r2 := (hb.cell (p := ⟨w.heap.size, 2, none⟩) (by simp)).trans (new_cell w _ _ 2 _ rfl)
    have r3 := (hb.cell (p := ⟨w.heap.size, 3, none⟩) (by simp)).trans (new_cell w _ _ 3 _ rfl)
    have hb0 := below_step hw0 hb
    go_wp2_with fail
    refine (oneT_spec _ _ 0 _ _ _ _ r0 r1 r2 r3).mono ?_
    rintro e w2 ⟨rfl, hb2⟩
    rw [h2]
    replace r0 := (hb2.cell (World.block_lt_of_cell? _ _ r0)).trans r0
    replace r1 := (hb2.cell (World.block_lt_of_cell? _ _ r1)).trans r1
    replace r2 := (hb2.cell (World.block_lt_of_cell? _ _ r2)).trans r2
    replace r3 := (hb2.cell (World.block_lt_of_cell? _ _ r3)).trans r3
    replace hb0 := below_step hb0 hb2
    clear hb hb2
    go_wp2_with fail
    refine (at_spec _ _ _ (h.below hb0) _).mono ?_
    rintro e w3 ⟨rfl, hw3⟩
    obtain rfl : w2 = w3 := hw3.symm
    have hf := (foundB_at rfl hlt).symm.trans HF.out
    obtain ⟨bb, o, rfl, -, p0, -, -, -⟩ := (h.below hb0).Title_at hlt
    clear r1 r2 r3 h1 h2 h3 HF
    generalize atK l xa = k at hkl hlt hf p0 ⊢
    generalize l[k] = y at p0 hf
    have hlt' : decide ((k : Int) < (l.length : Int)) = true := by simpa using hlt
    go_upto_region 6 with fail
    go_quiet (fail)
    have hbq := below_drewN hb0 nq
    clear p0 r0
    go_wp2_with fail
    go_ret2
    exact GivesOwnI.is_nil HR.out _ hbq
  have HNF := hd h3
  by_cases h4 : l.length = 20
  · have HR := hd (show addTR l (xa, xb, xc, xd) = ([], 5) by simp [addTR, h1, h2, h3, h4])
    have h4b : ((l.length : Int) == 20) = true := by rw [h4]; rfl
    have h4c : (20 : Int) ≤ (l.length : Int) := by omega
    clear h4
    go_enter Tryz.func182, Tryz.ntmps182
    go_wp2_with fail
    refine (titles_spec0 _ _ _ (h.alloc _)).mono ?_
    rintro e w1 ⟨rfl, hb⟩
    rw [h1]
    have r0 := (hb.cell (p := ⟨w.heap.size, 0, none⟩) (by simp)).trans (new_cell w _ _ 0 _ rfl)
    have r1 := (hb.cell (p := ⟨w.heap.size, 1, none⟩) (by simp)).trans (new_cell w _ _ 1 _ rfl)
    have r2 := (hb.cell (p := ⟨w.heap.size, 2, none⟩) (by simp)).trans (new_cell w _ _ 2 _ rfl)
    have r3 := (hb.cell (p := ⟨w.heap.size, 3, none⟩) (by simp)).trans (new_cell w _ _ 3 _ rfl)
    have hb0 := below_step hw0 hb
    go_wp2_with fail
    refine (oneT_spec _ _ 0 _ _ _ _ r0 r1 r2 r3).mono ?_
    rintro e w2 ⟨rfl, hb2⟩
    rw [h2]
    replace r0 := (hb2.cell (World.block_lt_of_cell? _ _ r0)).trans r0
    replace r1 := (hb2.cell (World.block_lt_of_cell? _ _ r1)).trans r1
    replace r2 := (hb2.cell (World.block_lt_of_cell? _ _ r2)).trans r2
    replace r3 := (hb2.cell (World.block_lt_of_cell? _ _ r3)).trans r3
    replace hb0 := below_step hb0 hb2
    clear hb hb2
    go_wp2_with fail
    refine (at_spec _ _ _ (h.below hb0) _).mono ?_
    rintro e w3 ⟨rfl, hw3⟩
    obtain rfl : w2 = w3 := hw3.symm
    clear r1 r2 r3 h1 h2 h3
    by_cases hlt : atK l xa < l.length
    · have hf := (foundB_at rfl hlt).symm.trans HNF.out
      obtain ⟨bb, o, rfl, -, p0, -, -, -⟩ := (h.below hb0).Title_at hlt
      clear HNF
      generalize atK l xa = k at hkl hlt hf p0 ⊢
      generalize l[k] = y at p0 hf
      have hlt' : decide ((k : Int) < (l.length : Int)) = true := by simpa using hlt
      go_upto_region 6 with fail
      go_quiet (fail)
      have hbq := below_drewN hb0 nq
      clear p0 r0
      go_wp2_with fail
      go_ret2
      exact GivesOwnI.is_nil HR.out _ hbq
    · clear HNF
      generalize atK l xa = k at hkl hlt ⊢
      have hlt' : decide (k < l.length) = false := by simpa using hlt
      go_upto_region 6 with fail
      go_quiet (fail)
      have hbq := below_drewN hb0 nq
      clear r0
      go_wp2_with fail
      go_ret2
      exact GivesOwnI.is_nil HR.out _ hbq
  have HR := hd (show addTR l (xa, xb, xc, xd) = (insAt l (atK l xa) (xa, xb, xc, xd), 0) by simp [addTR, h1, h2, h3, h4])
  have h4b : ((l.length : Int) == 20) = false := beq_eq_false_iff_ne.2 (by omega)
  have h19 : l.length ≤ 19 := by omega
  clear h4 h20
  obtain ⟨i0, hi, hz0, hz1, hz2⟩ := info_parts info_Title
  go_enter Tryz.func182, Tryz.ntmps182
  go_wp2_with fail
  refine (titles_spec0 _ _ _ (h.alloc _)).mono ?_
  rintro e w1 ⟨rfl, hb⟩
  rw [h1]
  have r0 := (hb.cell (p := ⟨w.heap.size, 0, none⟩) (by simp)).trans (new_cell w _ _ 0 _ rfl)
  have r1 := (hb.cell (p := ⟨w.heap.size, 1, none⟩) (by simp)).trans (new_cell w _ _ 1 _ rfl)
  have r2 := (hb.cell (p := ⟨w.heap.size, 2, none⟩) (by simp)).trans (new_cell w _ _ 2 _ rfl)
  have r3 := (hb.cell (p := ⟨w.heap.size, 3, none⟩) (by simp)).trans (new_cell w _ _ 3 _ rfl)
  have hb0 := below_step hw0 hb
  go_wp2_with fail
  refine (oneT_spec _ _ 0 _ _ _ _ r0 r1 r2 r3).mono ?_
  rintro e w2 ⟨rfl, hb2⟩
  rw [h2]
  replace r0 := (hb2.cell (World.block_lt_of_cell? _ _ r0)).trans r0
  replace r1 := (hb2.cell (World.block_lt_of_cell? _ _ r1)).trans r1
  replace r2 := (hb2.cell (World.block_lt_of_cell? _ _ r2)).trans r2
  replace r3 := (hb2.cell (World.block_lt_of_cell? _ _ r3)).trans r3
  replace hb0 := below_step hb0 hb2
  clear hb hb2
  go_wp2_with fail
  refine (at_spec _ _ _ (h.below hb0) _).mono ?_
  rintro e w3 ⟨rfl, hw3⟩
  obtain rfl : w2 = w3 := hw3.symm
  clear h1 h2 h3
  have hcc : l.length ≤ c ∧ c ≤ 9223372036854775807 := by
    obtain ⟨-, A', c', hv, h5, h6, -⟩ := id h
    injection hv with _ _ e3
    subst e3
    exact ⟨h5, h6⟩
  obtain ⟨hcl, hcm⟩ := hcc
  have hz20 : decide ((20 : Int) ≤ (l.length : Int)) = false := by simp; omega
  by_cases hlt : atK l xa < l.length
  · have hf := (foundB_at rfl hlt).symm.trans HNF.out
    obtain ⟨bb, o, rfl, -, p0, -, -, -⟩ := (h.below hb0).Title_at hlt
    clear HNF
    generalize hk : atK l xa = k at hkl hlt hf p0 HR ⊢
    clear hk
    generalize l[k] = y at p0 hf
    have hlt' : decide ((k : Int) < (l.length : Int)) = true := by simpa using hlt
    have hck : c ≠ k := by omega
    have hkc : k ≤ c := by omega
    go_upto_region 6 with fail
    go_quiet (fail)
    have hbq := below_drewN hb0 nq
    replace r0 : (w2.drewN nq).cell? ⟨w.heap.size, 0, none⟩ = some (.int .i64 xa) := r0
    replace r1 : (w2.drewN nq).cell? ⟨w.heap.size, 1, none⟩ = some (.string xb) := r1
    replace r2 : (w2.drewN nq).cell? ⟨w.heap.size, 2, none⟩ = some (.int .i64 xc) := r2
    replace r3 : (w2.drewN nq).cell? ⟨w.heap.size, 3, none⟩ = some (.int .i64 xd) := r3
    clear p0 hb0
    have hT1 := (h.below hbq).takenT k hkl
    have HD := hd ((h.below hbq).droppedT k hkl (by have := h.2; omega))
    generalize (w2.drewN nq) = w4 at r0 r1 r2 r3 hbq hT1 HD ⊢
    have hgr : w.heap.size < w4.heap.size := World.block_lt_of_cell? _ _ r0
    go_upto_region 11 with (at_builtin; refine wpList_append_sl _ rfl (.tmp 34) (.tmp 37) 27 rfl i0 (.agg #[.int .i64 0, .string ByteArray.empty, .int .i64 0, .int .i64 0]) 40 Tryz.underlying27 hi hz0 hz1 hz2 rfl (by decide) eTitle_len (by rintro ⟨a, b, c, d⟩ u hu; simp [eTitle] at hu; rcases hu with rfl | rfl | rfl | rfl <;> rfl) _ [] rfl (Own.made0 w4 w4.heap.size 95 4 eTitle (Nat.le_refl _)) _ (l.take k) rfl (hT1.alloc _) (by unfold maxLen; simp; omega) (by simp; omega) (by simp) ?_)
    intro v5 w5 O5 hg5
    have B5 : Below w4.heap.size w4 w5 := ((Below.refl _ _).alloc (Nat.le_refl _) (.cells #[] 95)).grown hg5 (by simp) (fun g hg => (Option.some.inj (show some w4.heap.size = some g from hg)) ▸ Nat.le_refl _)
    have O5 : Own w5 w4.heap.size 95 4 v5 eTitle (l.take k) := O5
    have hl5 : (l.take k).length ≤ 19 := by rw [List.length_take]; omega
    replace r0 := (B5.cell (World.block_lt_of_cell? _ _ r0)).trans r0
    replace r1 := (B5.cell (World.block_lt_of_cell? _ _ r1)).trans r1
    replace r2 := (B5.cell (World.block_lt_of_cell? _ _ r2)).trans r2
    replace r3 := (B5.cell (World.block_lt_of_cell? _ _ r3)).trans r3
    obtain ⟨A5, c5, rfl⟩ := (O5.sl eTitle_len).isSlice
    clear hg5 hT1
    go_upto_region 12 with (at_builtin; refine wpList_push _ rfl (.tmp 39) (.tmp 41) 27 rfl i0 (.agg #[.int .i64 0, .string ByteArray.empty, .int .i64 0, .int .i64 0]) 40 Tryz.underlying27 hi hz0 hz1 hz2 rfl (by decide) _ _ (xa, xb, xc, xd) rfl (O5.alloc (.cells #[.int .i64 xa, .string xb, .int .i64 xc, .int .i64 xd] 95)) w5.heap.size rfl _ 95 (heap_alloc_new _ _) rfl rfl (one_Title _) (by unfold maxLen; omega) (by omega) (by have := B5.size; simp; omega) ?_)
    intro v6 w6 O6 hg6
    have B6 : Below w4.heap.size w4 w6 := (B5.alloc B5.size (.cells #[.int .i64 xa, .string xb, .int .i64 xc, .int .i64 xd] 95)).grown hg6 (B5.alloc B5.size (.cells #[.int .i64 xa, .string xb, .int .i64 xc, .int .i64 xd] 95)).size (fun g hg => (O5.lt g (by cases A5 <;> exact hg)).1)
    obtain ⟨A6, c6, rfl⟩ := (O6.sl eTitle_len).isSlice
    have hl6 : (l.take k ++ [(xa, xb, xc, xd)]).length ≤ 20 := by rw [List.length_append]; simp; omega
    have hD := HD.out.below B6
    clear HD hg6 O5 B5 r0 r1 r2 r3
    go_wp2_with (at_builtin; refine wpList_append_sl _ rfl (.tmp 43) (.tmp 46) 27 rfl i0 (.agg #[.int .i64 0, .string ByteArray.empty, .int .i64 0, .int .i64 0]) 40 Tryz.underlying27 hi hz0 hz1 hz2 rfl (by decide) eTitle_len (by rintro ⟨a, b, c, d⟩ u hu; simp [eTitle] at hu; rcases hu with rfl | rfl | rfl | rfl <;> rfl) _ (l.take k ++ [(xa, xb, xc, xd)]) rfl O6 _ (l.drop k) rfl (by first | exact hD | (simpa using hD)) (by unfold maxLen; simp; omega) (by simp; omega) B6.size ?_)
    all_goals
      intro v7 w7 O7 hg7
      have B7 := B6.grown hg7 B6.size (fun g hg => (O6.lt g (by cases A6 <;> exact hg)).1)
      go_wp2_with fail
      go_ret2
      exact GivesOwnI.is HR.out (by have O8 := O7.base hbq.size; exact O8) (below_step hbq B7)
  · clear HNF
    have hkn : atK l xa = l.length := by omega
    rw [hkn] at HR
    generalize hk : atK l xa = k at hkl hlt hkn ⊢
    clear hk
    have HR2 := hd (insAt_end l (xa, xb, xc, xd))
    have HTK := hd (show l.take k = l by rw [hkn, List.take_length])
    have hkc : k ≤ c := by omega
    have hlt' : decide (k < l.length) = false := by simpa using hlt
    have hln : l.length - k = 0 := by omega
    replace hkn := hd hkn
    go_upto_region 6 with fail
    go_quiet (fail)
    have hbq := below_drewN hb0 nq
    replace r0 : (w2.drewN nq).cell? ⟨w.heap.size, 0, none⟩ = some (.int .i64 xa) := r0
    replace r1 : (w2.drewN nq).cell? ⟨w.heap.size, 1, none⟩ = some (.string xb) := r1
    replace r2 : (w2.drewN nq).cell? ⟨w.heap.size, 2, none⟩ = some (.int .i64 xc) := r2
    replace r3 : (w2.drewN nq).cell? ⟨w.heap.size, 3, none⟩ = some (.int .i64 xd) := r3
    clear hb0
    have hT1 := (h.below hbq).takenT k hkl
    generalize (w2.drewN nq) = w4 at r0 r1 r2 r3 hbq hT1 ⊢
    have hgr : w.heap.size < w4.heap.size := World.block_lt_of_cell? _ _ r0
    go_upto_region 11 with (at_builtin; refine wpList_append_sl _ rfl (.tmp 34) (.tmp 37) 27 rfl i0 (.agg #[.int .i64 0, .string ByteArray.empty, .int .i64 0, .int .i64 0]) 40 Tryz.underlying27 hi hz0 hz1 hz2 rfl (by decide) eTitle_len (by rintro ⟨a, b, c, d⟩ u hu; simp [eTitle] at hu; rcases hu with rfl | rfl | rfl | rfl <;> rfl) _ [] rfl (Own.made0 w4 w4.heap.size 95 4 eTitle (Nat.le_refl _)) _ (l.take k) rfl (hT1.alloc _) (by unfold maxLen; simp; omega) (by simp; omega) (by simp) ?_)
    intro v5 w5 O5 hg5
    have B5 : Below w4.heap.size w4 w5 := ((Below.refl _ _).alloc (Nat.le_refl _) (.cells #[] 95)).grown hg5 (by simp) (fun g hg => (Option.some.inj (show some w4.heap.size = some g from hg)) ▸ Nat.le_refl _)
    have O5 : Own w5 w4.heap.size 95 4 v5 eTitle (l.take k) := O5
    have hl5 : (l.take k).length ≤ 19 := by rw [List.length_take]; omega
    replace r0 := (B5.cell (World.block_lt_of_cell? _ _ r0)).trans r0
    replace r1 := (B5.cell (World.block_lt_of_cell? _ _ r1)).trans r1
    replace r2 := (B5.cell (World.block_lt_of_cell? _ _ r2)).trans r2
    replace r3 := (B5.cell (World.block_lt_of_cell? _ _ r3)).trans r3
    obtain ⟨A5, c5, rfl⟩ := (O5.sl eTitle_len).isSlice
    clear hg5 hT1
    go_upto_region 12 with (at_builtin; refine wpList_push _ rfl (.tmp 39) (.tmp 41) 27 rfl i0 (.agg #[.int .i64 0, .string ByteArray.empty, .int .i64 0, .int .i64 0]) 40 Tryz.underlying27 hi hz0 hz1 hz2 rfl (by decide) _ _ (xa, xb, xc, xd) rfl (O5.alloc (.cells #[.int .i64 xa, .string xb, .int .i64 xc, .int .i64 xd] 95)) w5.heap.size rfl _ 95 (heap_alloc_new _ _) rfl rfl (one_Title _) (by unfold maxLen; omega) (by omega) (by have := B5.size; simp; omega) ?_)
    intro v6 w6 O6 hg6
    have B6 : Below w4.heap.size w4 w6 := (B5.alloc B5.size (.cells #[.int .i64 xa, .string xb, .int .i64 xc, .int .i64 xd] 95)).grown hg6 (B5.alloc B5.size (.cells #[.int .i64 xa, .string xb, .int .i64 xc, .int .i64 xd] 95)).size (fun g hg => (O5.lt g (by cases A5 <;> exact hg)).1)
    obtain ⟨A6, c6, rfl⟩ := (O6.sl eTitle_len).isSlice
    have hl6 : (l.take k ++ [(xa, xb, xc, xd)]).length ≤ 20 := by rw [List.length_append]; simp; omega
    clear hg6 O5 B5 r0 r1 r2 r3
    go_wp2_with (at_builtin; refine wpList_append_sl _ rfl (.tmp 43) (.tmp 46) 27 rfl i0 (.agg #[.int .i64 0, .string ByteArray.empty, .int .i64 0, .int .i64 0]) 40 Tryz.underlying27 hi hz0 hz1 hz2 rfl (by decide) eTitle_len (by rintro ⟨a, b, c, d⟩ u hu; simp [eTitle] at hu; rcases hu with rfl | rfl | rfl | rfl <;> rfl) _ (l.take k ++ [(xa, xb, xc, xd)]) rfl O6 _ ([]) rfl (Sl.empty _ _ _ _ (by omega)) (by unfold maxLen; simp; omega) (by simp; omega) B6.size ?_)
    all_goals
      intro v7 w7 O7 hg7
      have B7 := B6.grown hg7 B6.size (fun g hg => (O6.lt g (by cases A6 <;> exact hg)).1)
      go_wp2_with fail
      go_ret2
      exact GivesOwnI.is HR.out (by have O8 := O7.base hbq.size; first | (rw [HR2.out]; exact O8) | (rw [HTK.out] at O8; rw [HR2.out]; exact O8) | (rw [List.append_nil] at O8; rw [HR2.out]; exact O8)) (below_step hbq B7)
end Go.Proofs.YtgcodjkjdfahdaaGreatDoor

namespace Go.Proofs.YtgcodjkjdfahdaaGreatDoor
open Go Go.RowKit Go.ChangeShapes Go.WideShapes
set_option linter.unusedSimpArgs false
set_option linter.unusedVariables false
theorem okTitles_mk {l : List TTitle} (h1 : ∀ k (hk : k < l.length), okTitleB l[k] = true) (h2 : ∀ k (hk : k + 1 < l.length), l[k].1 < l[k + 1].1) (h3 : l.length ≤ 20) : okTitles l = true := by
  unfold okTitles
  rw [Bool.and_eq_true]
  refine ⟨allTo_true fun k hk => ?_, by simpa using h3⟩
  unfold titleOkAt titleBad
  have e : l.getD k noT = l[k] := by simp [hk]
  rw [e, h1 k hk]
  rcases k with _ | m
  · simp
  · have e2 : l.getD (m + 1 - 1) noT = l[m] := by simp [show m < l.length by omega]
    rw [e2]
    have := h2 m hk
    simp
    omega
section
variable {l : List TTitle}
end
end Go.Proofs.YtgcodjkjdfahdaaGreatDoor
