/- Texts of the claim, joined: each says at its head what it proves. No condition. -/
import Derived.Test.YtgcodjkjdfahdaaGreatDoorJ24
import Derived.Deep.RegionHeld3
/- A title is added to a catalogue: reference and program alike. No condition but that the slices read. -/
namespace Go.Proofs.YtgcodjkjdfahdaaGreatDoor
open Go Go.RowKit Go.ChangeShapes Go.WideShapes
set_option linter.unusedSimpArgs false
set_option linter.unusedVariables false
def addTR (l : List TTitle) (x : TTitle) : List TTitle × Int :=
  if okTitles l then if okTitleB x then if foundB l x.1 then ([], 4) else if l.length = 20 then ([], 5) else (insAt l (atK l x.1) x, 0) else ([], 2) else ([], 1)
theorem Sl.takenT {α : Type} {w : World} {k n c : Nat} {A : Option Addr} {enc : α → List Value} {l : List α} (h : Sl w k (.slice A n c) enc l) (i : Nat) (hi : i ≤ l.length) : Sl w k (.slice A i c) enc (l.take i) := by
  obtain ⟨h1, A', c', hv, hc, hc', h2⟩ := h
  injection hv with e1 e2 e3
  subst e1 e3
  have hl : (l.take i).length = i := by rw [List.length_take]; omega
  refine ⟨by omega, A, c, by rw [hl], by omega, hc', fun j x hx => h2 j x ?_⟩
  have : j < i := by have := (List.getElem?_eq_some_iff.1 hx).1; omega
  rw [List.getElem?_take, if_pos this] at hx
  exact hx
theorem Sl.droppedT {α : Type} {w : World} {k n c b o : Nat} {enc : α → List Value} {l : List α} (h : Sl w k (.slice (some ⟨b, o, none⟩) n c) enc l) (i : Nat) (hi : i ≤ l.length) (hci : c ≠ i) :
    Sl w k (.slice (some ⟨b, o + i * k, none⟩) (l.length - i) (c - i)) enc (l.drop i) := by
  obtain ⟨h1, A', c', hv, hc, hc', h2⟩ := h
  injection hv with e1 e2 e3
  subst e1 e3
  refine ⟨by simp; omega, _, _, by rw [List.length_drop], by rw [List.length_drop]; omega, by omega, fun j x hx => ?_⟩
  rw [List.getElem?_drop] at hx
  obtain ⟨b', o', hA, hb, h3⟩ := h2 (i + j) x hx
  injection hA with hA
  injection hA with hA1 hA2 _
  subst hA1 hA2
  refine ⟨b, o + i * k, rfl, hb, fun m u hu => ?_⟩
  have := h3 m u hu
  rw [show o + i * k + j * k + m = o + (i + j) * k + m by rw [Nat.add_mul]; omega]
  exact this
theorem Sl.empty {α : Type} (w : World) (k : Nat) (A : Option Addr) (c : Nat) {enc : α → List Value} (hc : c ≤ 9223372036854775807) : Sl w k (.slice A 0 c) enc [] := ⟨by simp, A, c, rfl, by simp, hc, fun i x hx => by simp at hx⟩
set_option maxRecDepth 100000 in
set_option maxHeartbeats 8000000 in
theorem addT_impl (w : World) (v : Value) (l : List TTitle) (h : Sl w 4 v eTitle l) (xa : Int) (xb : ByteArray) (xc xd : Int) :
    Calls Tryz.prog 81 #[v, .agg #[.int .i64 xa, .string xb, .int .i64 xc, .int .i64 xd]] w (GivesOwnI w 95 4 eTitle (addTR l (xa, xb, xc, xd))) := by
  have m1 := h.len
  obtain ⟨-, A, c, rfl, -, -, -⟩ := id h
  have hw0 := (Below.refl w.heap.size w).alloc (Nat.le_refl _) (.cells #[.int .i64 xa, .string xb, .int .i64 xc, .int .i64 xd] 95)
  rcases h1 : okTitles l with _ | _
  · have HR := hd (show addTR l (xa, xb, xc, xd) = ([], 1) by simp [addTR, h1])
    go_enter Tryz.func81, Tryz.ntmps81
    go_wp2_with fail
    refine (titles_impl _ _ _ (h.alloc _)).mono ?_
    rintro e w1 ⟨rfl, hb⟩
    rw [h1]
    go_wp2_with fail
    go_ret2
    exact GivesOwnI.is_nil HR.out _ (below_step hw0 hb)
  have h20 := okTitles_len h1
  rcases h2 : okTitleB (xa, xb, xc, xd) with _ | _
  · have HR := hd (show addTR l (xa, xb, xc, xd) = ([], 2) by simp [addTR, h1, h2])
    go_enter Tryz.func81, Tryz.ntmps81
    go_wp2_with fail
    refine (titles_impl _ _ _ (h.alloc _)).mono ?_
    rintro e w1 ⟨rfl, hb⟩
    rw [h1]
    have r0 := (hb.cell (p := ⟨w.heap.size, 0, none⟩) (by simp)).trans (new_cell w _ _ 0 _ rfl)
    have r1 := (hb.cell (p := ⟨w.heap.size, 1, none⟩) (by simp)).trans (new_cell w _ _ 1 _ rfl)
    have r2 := (hb.cell (p := ⟨w.heap.size, 2, none⟩) (by simp)).trans (new_cell w _ _ 2 _ rfl)
    have r3 := (hb.cell (p := ⟨w.heap.size, 3, none⟩) (by simp)).trans (new_cell w _ _ 3 _ rfl)
    have hb0 := below_step hw0 hb
    go_wp2_with fail
    refine (title_impl _ _ _ _ _).mono ?_
    rintro e w2 ⟨rfl, hb2⟩
    rw [h2]
    replace r0 := (hb2.cell (World.block_lt_of_cell? _ _ r0)).trans r0
    replace r1 := (hb2.cell (World.block_lt_of_cell? _ _ r1)).trans r1
    replace r2 := (hb2.cell (World.block_lt_of_cell? _ _ r2)).trans r2
    replace r3 := (hb2.cell (World.block_lt_of_cell? _ _ r3)).trans r3
    replace hb0 := below_step hb0 hb2
    clear hb hb2
    go_wp2_with fail
    go_ret2
    exact GivesOwnI.is_nil HR.out _ hb0
  have hkl := atK_le l xa
  rcases h3 : foundB l xa with _ | _
  case true =>
    have HR := hd (show addTR l (xa, xb, xc, xd) = ([], 4) by simp [addTR, h1, h2, h3])
    have HF := hd h3
    have hlt := found_lt h3
    go_enter Tryz.func81, Tryz.ntmps81
    go_wp2_with fail
    refine (titles_impl _ _ _ (h.alloc _)).mono ?_
    rintro e w1 ⟨rfl, hb⟩
    rw [h1]
    have r0 := (hb.cell (p := ⟨w.heap.size, 0, none⟩) (by simp)).trans (new_cell w _ _ 0 _ rfl)
    have r1 := (hb.cell (p := ⟨w.heap.size, 1, none⟩) (by simp)).trans (new_cell w _ _ 1 _ rfl)
    have r2 := (hb.cell (p := ⟨w.heap.size, 2, none⟩) (by simp)).trans (new_cell w _ _ 2 _ rfl)
    have r3 := (hb.cell (p := ⟨w.heap.size, 3, none⟩) (by simp)).trans (new_cell w _ _ 3 _ rfl)
    have hb0 := below_step hw0 hb
    go_wp2_with fail
    refine (title_impl _ _ _ _ _).mono ?_
    rintro e w2 ⟨rfl, hb2⟩
    rw [h2]
    replace r0 := (hb2.cell (World.block_lt_of_cell? _ _ r0)).trans r0
    replace r1 := (hb2.cell (World.block_lt_of_cell? _ _ r1)).trans r1
    replace r2 := (hb2.cell (World.block_lt_of_cell? _ _ r2)).trans r2
    replace r3 := (hb2.cell (World.block_lt_of_cell? _ _ r3)).trans r3
    replace hb0 := below_step hb0 hb2
    clear hb hb2
    go_wp2_with fail
    refine (place_impl _ _ _ (h.below hb0) _ h1).mono ?_
    rintro e w3 ⟨rfl, hb3⟩
    replace r0 := (hb3.cell (World.block_lt_of_cell? _ _ r0)).trans r0
    replace r1 := (hb3.cell (World.block_lt_of_cell? _ _ r1)).trans r1
    replace r2 := (hb3.cell (World.block_lt_of_cell? _ _ r2)).trans r2
    replace r3 := (hb3.cell (World.block_lt_of_cell? _ _ r3)).trans r3
    replace hb0 := below_step hb0 hb3
    clear hb3
    rw [h3]
    clear r0 r1 r2 r3 h1 h2 h3
    go_wp2_with fail
    go_ret2
    exact GivesOwnI.is_nil HR.out _ hb0
  have HNF := hd h3
  by_cases h4 : l.length = 20
  · have HR := hd (show addTR l (xa, xb, xc, xd) = ([], 5) by simp [addTR, h1, h2, h3, h4])
    have h4b : ((l.length : Int) == 20) = true := by rw [h4]; rfl
    have h4c : (20 : Int) ≤ (l.length : Int) := by omega
    clear h4
    go_enter Tryz.func81, Tryz.ntmps81
    go_wp2_with fail
    refine (titles_impl _ _ _ (h.alloc _)).mono ?_
    rintro e w1 ⟨rfl, hb⟩
    rw [h1]
    have r0 := (hb.cell (p := ⟨w.heap.size, 0, none⟩) (by simp)).trans (new_cell w _ _ 0 _ rfl)
    have r1 := (hb.cell (p := ⟨w.heap.size, 1, none⟩) (by simp)).trans (new_cell w _ _ 1 _ rfl)
    have r2 := (hb.cell (p := ⟨w.heap.size, 2, none⟩) (by simp)).trans (new_cell w _ _ 2 _ rfl)
    have r3 := (hb.cell (p := ⟨w.heap.size, 3, none⟩) (by simp)).trans (new_cell w _ _ 3 _ rfl)
    have hb0 := below_step hw0 hb
    go_wp2_with fail
    refine (title_impl _ _ _ _ _).mono ?_
    rintro e w2 ⟨rfl, hb2⟩
    rw [h2]
    replace r0 := (hb2.cell (World.block_lt_of_cell? _ _ r0)).trans r0
    replace r1 := (hb2.cell (World.block_lt_of_cell? _ _ r1)).trans r1
    replace r2 := (hb2.cell (World.block_lt_of_cell? _ _ r2)).trans r2
    replace r3 := (hb2.cell (World.block_lt_of_cell? _ _ r3)).trans r3
    replace hb0 := below_step hb0 hb2
    clear hb hb2
    go_wp2_with fail
    refine (place_impl _ _ _ (h.below hb0) _ h1).mono ?_
    rintro e w3 ⟨rfl, hb3⟩
    replace r0 := (hb3.cell (World.block_lt_of_cell? _ _ r0)).trans r0
    replace r1 := (hb3.cell (World.block_lt_of_cell? _ _ r1)).trans r1
    replace r2 := (hb3.cell (World.block_lt_of_cell? _ _ r2)).trans r2
    replace r3 := (hb3.cell (World.block_lt_of_cell? _ _ r3)).trans r3
    replace hb0 := below_step hb0 hb3
    clear hb3
    rw [h3]
    clear r0 r1 r2 r3 h1 h2 h3
    go_wp2_with fail
    go_ret2
    exact GivesOwnI.is_nil HR.out _ hb0
  have HR := hd (show addTR l (xa, xb, xc, xd) = (insAt l (atK l xa) (xa, xb, xc, xd), 0) by simp [addTR, h1, h2, h3, h4])
  have h4b : ((l.length : Int) == 20) = false := beq_eq_false_iff_ne.2 (by omega)
  have h19 : l.length ≤ 19 := by omega
  clear h4 h20
  obtain ⟨i0, hi, hz0, hz1, hz2⟩ := info_parts info_Title
  go_enter Tryz.func81, Tryz.ntmps81
  go_wp2_with fail
  refine (titles_impl _ _ _ (h.alloc _)).mono ?_
  rintro e w1 ⟨rfl, hb⟩
  rw [h1]
  have r0 := (hb.cell (p := ⟨w.heap.size, 0, none⟩) (by simp)).trans (new_cell w _ _ 0 _ rfl)
  have r1 := (hb.cell (p := ⟨w.heap.size, 1, none⟩) (by simp)).trans (new_cell w _ _ 1 _ rfl)
  have r2 := (hb.cell (p := ⟨w.heap.size, 2, none⟩) (by simp)).trans (new_cell w _ _ 2 _ rfl)
  have r3 := (hb.cell (p := ⟨w.heap.size, 3, none⟩) (by simp)).trans (new_cell w _ _ 3 _ rfl)
  have hb0 := below_step hw0 hb
  go_wp2_with fail
  refine (title_impl _ _ _ _ _).mono ?_
  rintro e w2 ⟨rfl, hb2⟩
  rw [h2]
  replace r0 := (hb2.cell (World.block_lt_of_cell? _ _ r0)).trans r0
  replace r1 := (hb2.cell (World.block_lt_of_cell? _ _ r1)).trans r1
  replace r2 := (hb2.cell (World.block_lt_of_cell? _ _ r2)).trans r2
  replace r3 := (hb2.cell (World.block_lt_of_cell? _ _ r3)).trans r3
  replace hb0 := below_step hb0 hb2
  clear hb hb2
  go_wp2_with fail
  refine (place_impl _ _ _ (h.below hb0) _ h1).mono ?_
  rintro e w3 ⟨rfl, hb3⟩
  replace r0 := (hb3.cell (World.block_lt_of_cell? _ _ r0)).trans r0
  replace r1 := (hb3.cell (World.block_lt_of_cell? _ _ r1)).trans r1
  replace r2 := (hb3.cell (World.block_lt_of_cell? _ _ r2)).trans r2
  replace r3 := (hb3.cell (World.block_lt_of_cell? _ _ r3)).trans r3
  replace hb0 := below_step hb0 hb3
  clear hb3
  rw [h3]
  have hgr : w.heap.size < w3.heap.size := World.block_lt_of_cell? _ _ r0
  have hL1 := (h.below hb0).drew
  have B0 : Below w3.heap.size w3 w3.drew := below_drewN (Below.refl _ _) 1
  have HS := hd (show ∀ w' : World, Below w3.heap.size w3 w' → w'.cell? ⟨w.heap.size, 0, none⟩ = some (.int .i64 xa) ∧ w'.cell? ⟨w.heap.size, 1, none⟩ = some (.string xb) ∧ w'.cell? ⟨w.heap.size, 2, none⟩ = some (.int .i64 xc) ∧ w'.cell? ⟨w.heap.size, 3, none⟩ = some (.int .i64 xd) from fun w' hb' => ⟨(hb'.cell (p := ⟨w.heap.size, 0, none⟩) hgr).trans r0, (hb'.cell (p := ⟨w.heap.size, 1, none⟩) hgr).trans r1, (hb'.cell (p := ⟨w.heap.size, 2, none⟩) hgr).trans r2, (hb'.cell (p := ⟨w.heap.size, 3, none⟩) hgr).trans r3⟩)
  clear h1 h2 h3
  go_upto_region 10 with fail
  go_region_held3 (fun ww => ww.cell? ⟨w.heap.size, 0, none⟩ = some (.int .i64 xa) ∧ ww.cell? ⟨w.heap.size, 1, none⟩ = some (.string xb) ∧ ww.cell? ⟨w.heap.size, 2, none⟩ = some (.int .i64 xc) ∧ ww.cell? ⟨w.heap.size, 3, none⟩ = some (.int .i64 xd)) (exact HS.out _ (by first | exact B5 | exact BA | exact B4 | exact B0.alloc B0.size _ | exact B0))
    (first | (go_at_call 64; (first | (refine (clone_Titles w3.drew _ _ hL1 (by omega)).mono ?_; rintro e w4 ⟨v4, rfl, O4, hb4⟩; have B4 : Below w3.heap.size w3 w4 := below_step B0 hb4; have BA := B4.alloc B4.size (.cells #[.int .i64 xa, .string xb, .int .i64 xc, .int .i64 xd] 95); have OA := O4.alloc (.cells #[.int .i64 xa, .string xb, .int .i64 xc, .int .i64 xd] 95); have HX := (show (w4.alloc (.cells #[.int .i64 xa, .string xb, .int .i64 xc, .int .i64 xd] 95)).heap[w4.heap.size]? = some (.cells (eTitle (xa, xb, xc, xd)).toArray 95 (0, 0)) from heap_alloc_new _ _); have hne : v4.ownBlock ≠ some w4.heap.size := fun q => by have := (O4.lt _ q).2; omega) | (refine (clone_Titles (w3.drew.alloc (.cells #[.int .i64 xa, .string xb, .int .i64 xc, .int .i64 xd] 95)) _ _ (hL1.alloc _) (by omega)).mono ?_; rintro e w4 ⟨v4, rfl, O4, hb4⟩; have B4 : Below w3.heap.size w3 w4 := below_step (B0.alloc B0.size _) hb4; have BA := B4; have OA := O4.base (show w3.drew.heap.size ≤ _ from by simp); have HX := (show w4.heap[w3.heap.size]? = some (.cells (eTitle (xa, xb, xc, xd)).toArray 95 (0, 0)) from (hb4.block w3.heap.size (by simp)).trans (heap_alloc_new _ _)); have hne : v4.ownBlock ≠ some w3.heap.size := fun q => by have := (O4.lt _ q).1; simp at this; omega))) | (go_at_call 151; refine (insert_title _ w3.heap.size v4 l OA (atK l xa) hkl (xa, xb, xc, xd) _ HX hne BA.size (by omega)).mono ?_; rintro e w5 ⟨v5, rfl, O5, hg5⟩; have B5 := BA.grown hg5 BA.size (fun g hg => (OA.lt g hg).1)))
  all_goals
    go_wp2_with fail
    go_ret2
    exact GivesOwnI.is HR.out (O5.base hb0.size) (below_step hb0 B5)
end Go.Proofs.YtgcodjkjdfahdaaGreatDoor

/- FnTitles: plain laws. Titles put back one by one; the least free number; a glass broken and mended. No condition. -/
namespace Go.Proofs.YtgcodjkjdfahdaaGreatDoor
open Go Go.RowKit Go.ChangeShapes Go.WideShapes
set_option linter.unusedSimpArgs false
set_option linter.unusedVariables false
theorem okTitles_mk {l : List TTitle} (h1 : ∀ k (hk : k < l.length), okTitleB l[k] = true) (h2 : ∀ k (hk : k + 1 < l.length), l[k].1 < l[k + 1].1) (h3 : l.length ≤ 20) : okTitles l = true := by
  unfold okTitles
  rw [Bool.and_eq_true]
  refine ⟨allTo_true fun k hk => ?_, by simpa using h3⟩
  unfold titleOkAt titleBad
  have e : l.getD k noT = l[k] := by simp [hk]
  rw [e, h1 k hk]
  rcases k with _ | m
  · simp
  · have e2 : l.getD (m + 1 - 1) noT = l[m] := by simp [show m < l.length by omega]
    rw [e2]
    have := h2 m hk
    simp
    omega
section
variable {l : List TTitle}
/-! ### the least free number -/
/-! ### whole titles -/
/-! ### a glass is broken and mended -/
end
end Go.Proofs.YtgcodjkjdfahdaaGreatDoor
