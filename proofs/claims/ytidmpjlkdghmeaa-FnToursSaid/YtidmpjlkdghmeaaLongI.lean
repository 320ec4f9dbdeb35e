/- LongestTour and BestTour: the program's functions. No condition but that the slices read. -/
import Derived.Test.YtidmpjlkdghmeaaVisitI
import Derived.OneCell
namespace Go.Proofs.Ytidmpjlkdghmeaa
open Go Go.RowKit Go.ChangeShapes Go.WideShapes
set_option linter.unusedSimpArgs false
set_option linter.unusedVariables false

def longR (l : List THall) (H : List Int) (R : List (List Int)) : Int × Int := if okHalls l H R = true then (longT l H R, 0) else (0, 1)
def bestR (l : List THall) (H : List Int) (R : List (List Int)) : List Int × Int × Int := if okHalls l H R = true then ((bestT l H R).1, (bestT l H R).2, 0) else ([], 0, 1)
theorem bestR_len (l : List THall) (H : List Int) (R : List (List Int)) : (bestR l H R).1.length ≤ l.length := by
  unfold bestR
  split
  · exact best_len ..
  · simp
def GivesOwnII {α : Type} (w : World) (E : TypeId) (k : Nat) (enc : α → List Value) (r : List α × Int × Int) (e : Ending) (w' : World) : Prop :=
  ∃ v, e = .returned (.tuple #[v, .int .i64 r.2.1, .int .i64 r.2.2]) ∧ Own w' w.heap.size E k v enc r.1 ∧ Below w.heap.size w w'
theorem touch_set (w : World) (g : Nat) (u : Value) (bs : List (Option Nat)) (h : some g ∈ bs) : TouchL w (w.setCell ⟨g, 0, none⟩ u) bs :=
  ⟨rfl, rfl, rfl, by simp, fun k _ hn => heap_setCell_other _ _ _ _ (fun e => hn _ h (by rw [e]))⟩
/-- a number in a block of its own -/
def StL (gm : Nat) (w : World) (m : Int) : Prop := w.heap[gm]? = some (.cells #[.int .i64 m] 3 (0, 0))
theorem StL.kept {gm : Nat} {w w' : World} {m : Int} (h : StL gm w m) (hb : Below w.heap.size w w') : StL gm w' m := (hb.block gm (lt_of_block h)).trans h

theorem enter_long (args : Array Value) (w : World) : Sem.run Try.prog (callFunc 92 args) w = .ok (.enter 92 args) w := by
  have hname : (Try.f92.name == "runtime.NumGoroutine") = false := by kernel_rfl
  obtain ⟨c, hc⟩ : ∃ c, Try.f92.body = some c := ⟨_, rfl⟩
  simp at hname
  simp [callFunc, go_sem, Try.func92, hname, hc]
theorem long_step (w : World) (gm : Nat) (m : Int) (hg : StL gm w m) (vt : Value) (T : List Int) (ht : Sl w 1 vt eI T) :
    Calls Try.prog 92 #[vt, .pointer (some ⟨gm, 0, none⟩)] w (GivesV w [some gm] (StL gm) (stepL m T)) := by
  have m1 := ht.len
  obtain ⟨At, ct, rfl⟩ := ht.slice
  have hg2 := hd hg
  have c0 := cell_of_one hg
  have f0 := free_of_one hg
  clear hg
  by_cases q : m < (T.length : Int)
  · have HE := hd (show stepL m T = (T.length : Int) by unfold stepL; omega)
    go_enter Try.func92, Try.ntmps92
    go_wp2_with fail
    go_end0
    exact ⟨rfl, by rw [HE.out]; exact one_setCell hg2.out, touch_set _ _ _ _ (by simp)⟩
  · have HE := hd (show stepL m T = m by unfold stepL; omega)
    have q' : (T.length : Int) ≤ m := by omega
    clear q
    go_enter Try.func92, Try.ntmps92
    go_wp2_with fail
    go_end0
    exact ⟨rfl, by rw [HE.out]; exact one_setCell hg2.out, touch_set _ _ _ _ (by simp)⟩

set_option maxRecDepth 100000 in
set_option maxHeartbeats 2000000 in
theorem long_impl (w : World) (v : Value) (l : List THall) (h : Sl w 3 v eHall l) (v1 v2 : Value) (H : List Int) (L : List TRow) (h1 : Sl w 1 v1 eI H) (h2 : SlR w v2 L) (R : List (List Int)) (hR : rowsOf L = R) :
    Calls Try.prog 18 #[v, .agg #[v1, v2]] w fun e w' => e = .returned (.tuple #[.int .i64 (longR l H R).1, .int .i64 (longR l H R).2]) ∧ Below w.heap.size w w' := by
  subst hR
  obtain ⟨A, c, rfl⟩ := h.slice
  obtain ⟨A1, c1, rfl⟩ := h1.slice
  obtain ⟨A2, c2, rfl⟩ := h2.1.slice
  have hb := (Below.refl w.heap.size w).alloc (Nat.le_refl _) (.cells #[.slice A1 H.length c1, .slice A2 L.length c2] 28)
  have b0 := new_cell w #[.slice A1 H.length c1, .slice A2 L.length c2] 28 0 _ rfl
  have b1 := new_cell w #[.slice A1 H.length c1, .slice A2 L.length c2] 28 1 _ rfl
  have hgs : w.heap.size < (w.alloc (.cells #[.slice A1 H.length c1, .slice A2 L.length c2] 28)).heap.size := by simp
  rcases q : okHalls l H (rowsOf L) with _ | _
  · have HE := hd (show longR l H (rowsOf L) = (0, 1) by unfold longR; rw [q]; rfl)
    go_enter Try.func18, Try.ntmps18
    go_wp2_with fail
    generalize (w.alloc (.cells #[.slice A1 H.length c1, .slice A2 L.length c2] 28)) = W at hb b0 b1 hgs ⊢
    refine (halls_impl _ _ _ (h.below hb) _ _ _ _ (h1.below hb) (h2.below hb)).mono ?_
    rintro e w1 ⟨rfl, hb1⟩
    have hb2 := below_step hb hb1
    rw [q]
    go_wp2_with fail
    go_ret2
    exact ⟨by rw [HE.out]; rfl, hb2⟩
  · have HQ := hd q
    go_enter Try.func18, Try.ntmps18
    go_wp2_with fail
    generalize (w.alloc (.cells #[.slice A1 H.length c1, .slice A2 L.length c2] 28)) = W at hb b0 b1 hgs ⊢
    refine (halls_impl _ _ _ (h.below hb) _ _ _ _ (h1.below hb) (h2.below hb)).mono ?_
    rintro e w1 ⟨rfl, hb1⟩
    have hb2 := below_step hb hb1
    rw [q]
    clear q
    have g0 := (hb1.cell (p := ⟨w.heap.size, 0, none⟩) hgs).trans b0
    have g1 := (hb1.cell (p := ⟨w.heap.size, 1, none⟩) hgs).trans b1
    have hg1 := Nat.lt_of_lt_of_le hgs hb1.size
    have h3 := h.below hb2
    have h4 := h1.below hb2
    have h5 := h2.below hb2
    have hbx := (Below.refl w1.heap.size w1).alloc (Nat.le_refl _) (.cells #[.int .i64 0] 3)
    have HG := hd (show StL w1.heap.size (w1.alloc (.cells #[.int .i64 0] 3)) 0 from heap_alloc_new w1 _)
    clear b0 b1 hgs hb hb1
    go_wp2_with fail
    refine (tours_any stepL w1.heap.size (w1.heap.size + 1) (StL w1.heap.size) [some w1.heap.size] 92 #[.pointer (some ⟨w1.heap.size, 0, none⟩)] enter_long w1 _ l h3 _ _ H L h4 h5 (hallsOk_of HQ.out) (Nat.le_refl _) (by intro b hb g hg; simp only [List.mem_singleton] at hb; subst hb; cases hg; omega) (fun w w' s hs hb => hs.kept hb)
      (fun w vt T s _ _ _ hs ho _ _ _ => long_step w _ s hs vt T (ho.sl eI_len)) l.length [] _ _ 0 (by simp) rfl hbx (by simp) (by simp) HG.out (Own.nil _ _ _ _ _) (by intro b hb; exact .inl rfl)).mono ?_
    rintro e w2 ⟨rfl, hs2, ht2⟩
    have c0 := cell_of_one hs2
    have f0 := free_of_one hs2
    have hb3 : Below w.heap.size w w2 := (below_step hb2 hbx).trans (below_touched ht2 (by have := hb2.size; simp; omega) (by intro b hb g hg; simp only [List.mem_singleton] at hb; subst hb; cases hg; exact hb2.size))
    clear HG hs2 ht2 g0 g1
    go_wp2_with fail
    go_ret2
    exact ⟨by unfold longR; rw [if_pos HQ.out]; rfl, hb3⟩
theorem ownsSet {α : Type} {w : World} {B : Nat} {E : TypeId} {k : Nat} {v : Value} {enc : α → List Value} {l : List α} (h : Own w B E k v enc l) {g : Nat} (hg : apart v.ownBlock (some g)) (u : Value) : Own (w.setCell ⟨g, 0, none⟩ u) B E k v enc l :=
  h.touched (touch_set w g u [some g] (by simp)) (by intro b hb; simp only [List.mem_singleton] at hb; subst hb; exact hg)
/-- the best tour and its income, each in a block of its own -/
def StB (gb gm B : Nat) (w : World) (s : List Int × Int) : Prop :=
  ∃ vb, Own w B 2 1 vb eI s.1 ∧ (∀ b ∈ [some gb, some gm], apart vb.ownBlock b) ∧ w.heap[gb]? = some (.cells #[vb] 25 (0, 0)) ∧ w.heap[gm]? = some (.cells #[.int .i64 s.2] 2 (0, 0))
theorem StB.kept {gb gm B : Nat} {w w' : World} {s : List Int × Int} (h : StB gb gm B w s) (hb : Below w.heap.size w w') : StB gb gm B w' s := by
  obtain ⟨vb, h1, h2, h3, h4⟩ := h
  exact ⟨vb, h1.below hb (Nat.le_refl _), h2, (hb.block gb (lt_of_block h3)).trans h3, (hb.block gm (lt_of_block h4)).trans h4⟩
theorem StB.store {gb gm B : Nat} {w w3 : World} {s : List Int × Int} (hne : gb ≠ gm) (h : StB gb gm B w s) (hb : Below w.heap.size w w3) {v3 : Value} {T : List Int} (ho : Own w3 w.heap.size 2 1 v3 eI T) (hB : B ≤ w.heap.size) (m : Int) :
    StB gb gm B ((w3.setCell ⟨gb, 0, none⟩ v3).setCell ⟨gm, 0, none⟩ (.int .i64 m)) (T, m) ∧ TouchL w ((w3.setCell ⟨gb, 0, none⟩ v3).setCell ⟨gm, 0, none⟩ (.int .i64 m)) [some gb, some gm] := by
  obtain ⟨vb, h1, h2, h3, h4⟩ := h
  have hgb := lt_of_block h3
  have hgm := lt_of_block h4
  have a1 : apart v3.ownBlock (some gb) := by
    cases hv : v3.ownBlock with
    | none => exact .inl rfl
    | some q => exact .inr fun e => by have := ho.lt q hv; simp only [Option.some.injEq] at e; omega
  have a2 : apart v3.ownBlock (some gm) := by
    cases hv : v3.ownBlock with
    | none => exact .inl rfl
    | some q => exact .inr fun e => by have := ho.lt q hv; simp only [Option.some.injEq] at e; omega
  have k3 := (hb.block gb hgb).trans h3
  have k4 := (hb.block gm hgm).trans h4
  refine ⟨⟨v3, ownsSet (ownsSet (ho.base hB) a1 _) a2 _, ?_, ?_, ?_⟩, touch_step (touch_below _ hb) (touch_step (touch_set _ _ _ _ (by simp)) (touch_set _ _ _ _ (by simp)))⟩
  · intro b hb'
    simp only [List.mem_cons, List.not_mem_nil, or_false] at hb'
    rcases hb' with rfl | rfl
    · exact a1
    · exact a2
  · rw [heap_setCell_other _ _ _ _ hne]
    exact one_setCell k3
  · exact one_setCell (by rw [heap_setCell_other _ _ _ _ (fun e => hne e.symm)]; exact k4)
theorem enter_best (args : Array Value) (w : World) : Sem.run Try.prog (callFunc 88 args) w = .ok (.enter 88 args) w := by
  have hname : (Try.f88.name == "runtime.NumGoroutine") = false := by kernel_rfl
  obtain ⟨c, hc⟩ : ∃ c, Try.f88.body = some c := ⟨_, rfl⟩
  simp at hname
  simp [callFunc, go_sem, Try.func88, hname, hc]
set_option maxHeartbeats 1000000 in
theorem best_step (w : World) (gl gm gb B : Nat) (hne : gb ≠ gm) (s : List Int × Int) (hg : StB gb gm B w s) (hB : B ≤ w.heap.size) (v : Value) (l : List THall) (h : Sl w 3 v eHall l) (hl : w.cell? ⟨gl, 0, none⟩ = some v) (vt : Value) (T : List Int) (ht : Sl w 1 vt eI T) (H : List Int) (R : List (List Int)) (ok : HallsOk l H R) (hT : tourOk l.length T = true) :
    Calls Try.prog 88 #[vt, .pointer (some ⟨gl, 0, none⟩), .pointer (some ⟨gm, 0, none⟩), .pointer (some ⟨gb, 0, none⟩)] w (GivesV w [some gb, some gm] (StB gb gm B) (stepB l H R s T)) := by
  have z6 := ok.six
  have hT6 := tourOk_len hT
  have m1 := ht.len
  obtain ⟨At, ct, rfl⟩ := ht.slice
  obtain ⟨A, c, rfl⟩ := h.slice
  have HG := hd hg
  have HOK := hd ok
  have HTO := hd hT
  obtain ⟨vb, h1, h2, h3, h4⟩ := hg
  obtain ⟨Ab, cb, rfl⟩ := h1.slice
  have c4 := cell_of_one h4
  have HE := hd (show stepB l H R s T = if s.2 < (runT l H R startT T).2.2.1 then (T, (runT l H R startT T).2.2.1) else s from rfl)
  have hgb := lt_of_block h3
  have hgm := lt_of_block h4
  have hk3 := hd h3
  have hk4 := hd h4
  clear ok hT h1 h2 h3 h4
  by_cases q : s.2 < (runT l H R startT T).2.2.1
  case pos =>
    have HQ := hd q
    have HI := hd (income_impl w _ l h _ T ht H R HOK.out HTO.out (by omega))
    have HS := hd (fun (w3 : World) (hb : Below w.heap.size w w3) (v3 : Value) (ho : Own w3 w.heap.size 2 1 v3 eI T) => HG.out.store hne hb ho hB (runT l H R startT T).2.2.1)
    generalize (runT l H R startT T).2.2.1 = m at q HE HQ HI HS
    go_enter Try.func88, Try.ntmps88
    go_wp2_with fail
    refine HI.out.mono ?_
    rintro e w2 ⟨rfl, hw⟩
    have hw := hw.symm
    subst hw
    go_wp2_with fail
    refine (clone_ints _ _ _ ht (by omega)).mono ?_
    rintro e w3 ⟨v3, rfl, O3, hb3⟩
    have HS3 := hd (HS.out w3 hb3 _ O3)
    obtain ⟨A3, c3, rfl⟩ := O3.slice
    have r3 := cell_of_one ((hb3.block gb hgb).trans hk3.out)
    have r3f := free_of_one ((hb3.block gb hgb).trans hk3.out)
    have r4 := cell_of_one ((hb3.block gm hgm).trans hk4.out)
    have r4f := free_of_one ((hb3.block gm hgm).trans hk4.out)
    clear O3 hb3
    go_wp2_with fail
    go_end0
    exact ⟨rfl, by rw [HE.out, if_pos HQ.out]; exact HS3.out.1, HS3.out.2⟩
  case neg =>
    have HQ := hd q
    have q' : (runT l H R startT T).2.2.1 ≤ s.2 := by omega
    have HI := hd (income_impl w _ l h _ T ht H R HOK.out HTO.out (by omega))
    generalize (runT l H R startT T).2.2.1 = m at q' HE HQ HI
    clear q
    go_enter Try.func88, Try.ntmps88
    go_wp2_with fail
    refine HI.out.mono ?_
    rintro e w2 ⟨rfl, hw⟩
    have hw := hw.symm
    subst hw
    go_wp2_with fail
    go_end0
    exact ⟨rfl, by rw [HE.out, if_neg (by omega)]; exact HG.out, TouchL.refl _ _⟩
set_option maxRecDepth 100000 in
set_option maxHeartbeats 2000000 in
theorem best_impl (w : World) (v : Value) (l : List THall) (h : Sl w 3 v eHall l) (v1 v2 : Value) (H : List Int) (L : List TRow) (h1 : Sl w 1 v1 eI H) (h2 : SlR w v2 L) (R : List (List Int)) (hR : rowsOf L = R) :
    Calls Try.prog 14 #[v, .agg #[v1, v2]] w (GivesOwnII w 2 1 eI (bestR l H R)) := by
  subst hR
  obtain ⟨A, c, rfl⟩ := h.slice
  obtain ⟨A1, c1, rfl⟩ := h1.slice
  obtain ⟨A2, c2, rfl⟩ := h2.1.slice
  obtain ⟨W0, hW⟩ : ∃ W, W = (w.alloc (.cells #[.slice A l.length c] 24)).alloc (.cells #[.slice A1 H.length c1, .slice A2 L.length c2] 28) := ⟨_, rfl⟩
  have hb : Below w.heap.size w W0 := by rw [hW]; exact ((Below.refl w.heap.size w).alloc (Nat.le_refl _) _).alloc (by simp) _
  have a0 : W0.cell? ⟨w.heap.size, 0, none⟩ = some (.slice A l.length c) := by rw [hW]; exact (((Below.refl _ _).alloc (Nat.le_refl _) _).cell (p := ⟨w.heap.size, 0, none⟩) (by simp)).trans (new_cell w _ _ 0 _ rfl)
  have b0 : W0.cell? ⟨w.heap.size + 1, 0, none⟩ = some (.slice A1 H.length c1) := by rw [hW]; simp
  have b1 : W0.cell? ⟨w.heap.size + 1, 1, none⟩ = some (.slice A2 L.length c2) := by rw [hW]; simp
  have hs0 : w.heap.size + 2 = W0.heap.size := by rw [hW]; simp
  have hgs : w.heap.size + 1 < W0.heap.size := by omega
  have hgs0 : w.heap.size < W0.heap.size := by omega
  have HW := hd hW
  clear hW hs0
  rcases q : okHalls l H (rowsOf L) with _ | _
  · have HE := hd (show bestR l H (rowsOf L) = ([], 0, 1) by unfold bestR; rw [q]; rfl)
    go_enter Try.func14, Try.ntmps14
    go_wp2_with fail
    rw [← HW.out]
    refine (halls_impl _ _ _ (h.below hb) _ _ _ _ (h1.below hb) (h2.below hb)).mono ?_
    rintro e w1 ⟨rfl, hb1⟩
    have hb2 := below_step hb hb1
    rw [q]
    go_wp2_with fail
    go_ret3
    exact ⟨.slice none 0 0, by rw [HE.out]; rfl, by rw [HE.out]; exact Own.nil _ _ _ _ _, hb2⟩
  · have HQ := hd q
    go_enter Try.func14, Try.ntmps14
    go_wp2_with fail
    rw [← HW.out]
    refine (halls_impl _ _ _ (h.below hb) _ _ _ _ (h1.below hb) (h2.below hb)).mono ?_
    rintro e w1 ⟨rfl, hb1⟩
    have hb2 := below_step hb hb1
    rw [q]
    clear q
    have g2 := (hb1.cell (p := ⟨w.heap.size, 0, none⟩) hgs0).trans a0
    have g0 := (hb1.cell (p := ⟨w.heap.size + 1, 0, none⟩) hgs).trans b0
    have g1 := (hb1.cell (p := ⟨w.heap.size + 1, 1, none⟩) hgs).trans b1
    have hg1 := Nat.lt_of_lt_of_le hgs hb1.size
    have hg2 := Nat.lt_of_lt_of_le hgs0 hb1.size
    have h3 := h.below hb2
    have h4 := h1.below hb2
    have h5 := h2.below hb2
    obtain ⟨W3, hW3⟩ : ∃ W, W = ((w1.alloc (.cells #[] 2)).alloc (.cells #[.slice (some ⟨w1.heap.size, 0, none⟩) 0 0] 25)).alloc (.cells #[.int .i64 (-1)] 2) := ⟨_, rfl⟩
    have hbx : Below w1.heap.size w1 W3 := by rw [hW3]; exact (((Below.refl w1.heap.size w1).alloc (Nat.le_refl _) _).alloc (by simp) _).alloc (by simp; omega) _
    have hs3 : W3.heap.size = w1.heap.size + 3 := by rw [hW3]; simp
    have y1 : W3.heap[w1.heap.size + 1]? = some (.cells #[.slice (some ⟨w1.heap.size, 0, none⟩) 0 0] 25 (0, 0)) := by
      rw [hW3]
      have e1 := heap_alloc_new (w1.alloc (.cells #[] 2)) (.cells #[.slice (some ⟨w1.heap.size, 0, none⟩) 0 0] 25)
      have e2 := ((Below.refl (w1.heap.size + 1 + 1) ((w1.alloc (.cells #[] 2)).alloc (.cells #[.slice (some ⟨w1.heap.size, 0, none⟩) 0 0] 25))).alloc (by simp) (.cells #[.int .i64 (-1)] 2)).block (w1.heap.size + 1) (by omega)
      rw [e2]
      simpa using e1
    have y2 : W3.heap[w1.heap.size + 1 + 1]? = some (.cells #[.int .i64 (-1)] 2 (0, 0)) := by
      rw [hW3]
      have e1 := heap_alloc_new ((w1.alloc (.cells #[] 2)).alloc (.cells #[.slice (some ⟨w1.heap.size, 0, none⟩) 0 0] 25)) (.cells #[.int .i64 (-1)] 2)
      rw [show ((w1.alloc (.cells #[] 2)).alloc (.cells #[.slice (some ⟨w1.heap.size, 0, none⟩) 0 0] 25)).heap.size = w1.heap.size + 1 + 1 from by simp] at e1
      exact e1
    have HG := hd (show StB (w1.heap.size + 1) (w1.heap.size + 1 + 1) w1.heap.size W3 ([], -1) from ⟨_, by rw [hW3]; exact ((Own.made0 w1 w1.heap.size 2 1 eI (Nat.le_refl _)).alloc _).alloc _, by intro b hb; simp only [List.mem_cons, List.not_mem_nil, or_false] at hb; rcases hb with rfl | rfl <;> exact .inr (fun e => by have := Option.some.inj (show some w1.heap.size = some _ from e); omega), y1, y2⟩)
    have HW3 := hd hW3
    have hq1 : w.heap.size < w1.heap.size + 1 := by omega
    have hq2 : w.heap.size < w1.heap.size + 1 + 1 := by omega
    have hq3 : w.heap.size + 1 < w1.heap.size + 1 := by omega
    have hq4 : w.heap.size + 1 < w1.heap.size + 1 + 1 := by omega
    clear a0 b0 b1 hgs hgs0 hb hb1 y1 y2 hW3
    go_wp2_with fail
    rw [← HW3.out]
    refine (tours_any (stepB l H (rowsOf L)) w1.heap.size (w1.heap.size + 3) (StB (w1.heap.size + 1) (w1.heap.size + 1 + 1) w1.heap.size) [some (w1.heap.size + 1), some (w1.heap.size + 1 + 1)] 88 #[.pointer (some ⟨w.heap.size, 0, none⟩), .pointer (some ⟨w1.heap.size + 1 + 1, 0, none⟩), .pointer (some ⟨w1.heap.size + 1, 0, none⟩)] enter_best w1 _ l h3 _ _ H L h4 h5 (hallsOk_of HQ.out) (Nat.le_refl _) (by intro b hb g hg; simp only [List.mem_cons, List.not_mem_nil, or_false] at hb; rcases hb with rfl | rfl <;> (cases hg; omega)) (fun w w' s hs hb => hs.kept hb)
      (fun w5 vt T s hw5 hn5 hB5 hs ho _ hT5 _ => best_step w5 _ _ _ _ (by omega) s hs hB5 _ l (h3.below hw5) ((hw5.cell (p := ⟨w.heap.size, 0, none⟩) hg2).trans g2) vt T (ho.sl eI_len) H (rowsOf L) (hallsOk_of HQ.out) hT5) l.length [] _ _ ([], -1) (by simp) rfl hbx (by omega) (by omega) HG.out (Own.nil _ _ _ _ _) (by intro b hb; exact .inl rfl)).mono ?_
    rintro e w2 ⟨rfl, hs2, ht2⟩
    have hb3 : Below w.heap.size w w2 := (below_step hb2 hbx).trans (below_touched ht2 (by have := hb2.size; omega) (by intro b hb g hg; simp only [List.mem_cons, List.not_mem_nil, or_false] at hb; have := hb2.size; rcases hb with rfl | rfl <;> (cases hg; omega)))
    obtain ⟨vb, OB, -, k3, k4⟩ := hs2
    obtain ⟨Ab, cb, rfl⟩ := OB.slice
    have c3 := cell_of_one k3
    have c4 := cell_of_one k4
    have OB2 := OB.base hb2.size
    clear HG ht2 g0 g1 g2 k3 k4 OB
    go_wp2_with fail
    go_quiet (fail)
    go_wp2_with fail
    go_ret3
    exact ⟨_, by unfold bestR; rw [if_pos HQ.out]; rfl, by unfold bestR; rw [if_pos HQ.out]; exact OB2, by first | exact hb3 | exact below_drewN hb3 _⟩
end Go.Proofs.Ytidmpjlkdghmeaa
