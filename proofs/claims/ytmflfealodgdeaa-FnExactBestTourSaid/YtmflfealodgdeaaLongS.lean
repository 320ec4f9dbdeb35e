/- LongestTour and BestTour: the reference's functions. No condition but that the slices read. -/
import Derived.Test.YtmflfealodgdeaaVisitS
namespace Go.Proofs.Ytmflfealodgdeaa
open Go Go.RowKit Go.ChangeShapes Go.WideShapes
set_option linter.unusedSimpArgs false
set_option linter.unusedVariables false

def GivesAll (w : World) (r : (List Int × Int) × Int) (e : Ending) (w' : World) : Prop :=
  ∃ gw vb, e = .returned (.pointer (some ⟨gw, 0, none⟩)) ∧ Own w' w.heap.size 2 1 vb eI r.1.1 ∧ w'.cell? ⟨gw, 2, none⟩ = some vb ∧ w'.cell? ⟨gw, 3, none⟩ = some (.int .i64 r.1.2) ∧ w'.cell? ⟨gw, 4, none⟩ = some (.int .i64 r.2) ∧ Below w.heap.size w w'
set_option maxRecDepth 100000 in
set_option maxHeartbeats 2000000 in
theorem all_spec (w : World) (v : Value) (l : List THall) (h : Sl w 3 v eHall l) (gr : Nat) (v1 v2 : Value) (r0 : w.cell? ⟨gr, 0, none⟩ = some v1) (r1 : w.cell? ⟨gr, 1, none⟩ = some v2) (H : List Int) (L : List TRow) (h1 : Sl w 1 v1 eI H) (h2 : SlR w v2 L) (ok : HallsOk l H (rowsOf L)) :
    Calls Try.prog 66 #[v, .pointer (some ⟨gr, 0, none⟩)] w (GivesAll w (bothT l H (rowsOf L))) := by
  obtain ⟨A, c, rfl⟩ := h.slice
  obtain ⟨W, hW⟩ : ∃ W, W = (w.alloc (.cells #[.slice A l.length c, .pointer (some ⟨gr, 0, none⟩), .slice none 0 0, .int .i64 (-1), .int .i64 0] 77)).alloc (.cells #[] 2) := ⟨_, rfl⟩
  have hb : Below w.heap.size w W := by rw [hW]; exact ((Below.refl w.heap.size w).alloc (Nat.le_refl _) _).alloc (by simp) _
  have hz : W.heap.size = w.heap.size + 2 := by rw [hW]; simp
  have hrow : W.heap[w.heap.size]? = some (.cells #[.slice A l.length c, .pointer (some ⟨gr, 0, none⟩), .slice none 0 0, .int .i64 (-1), .int .i64 0] 77 (0, 0)) := by
    rw [hW]
    exact (((Below.refl (w.heap.size + 1) (w.alloc _)).alloc (by simp) (.cells #[] 2)).block w.heap.size (by omega)).trans (heap_alloc_new w _)
  have HS := hd (show StS w.heap.size gr w.heap.size (.slice A l.length c) W (([], -1), 0) from ⟨_, Own.nil _ _ _ _ _, .inl rfl, hrow⟩)
  have HO := hd (show Own W w.heap.size 2 1 (.slice (some ⟨w.heap.size + 1, 0, none⟩) 0 0) eI [] by
    rw [hW]
    have := Own.made0 (w.alloc (.cells #[.slice A l.length c, .pointer (some ⟨gr, 0, none⟩), .slice none 0 0, .int .i64 (-1), .int .i64 0] 77)) w.heap.size 2 1 eI (by simp)
    simpa using this)
  have HW := hd hW
  have HOK := hd ok
  clear hW hrow ok
  go_enter Try.func66, Try.ntmps66
  go_wp2_with fail
  rw [← HW.out]
  refine (walk_any w.heap.size (w.heap.size + 1) w.heap.size gr w _ l h v1 v2 H L h1 h2 HOK.out r0 r1 (Nat.le_refl _) ⟨Nat.le_refl _, by omega⟩ l.length [] W _ (([], -1), 0) startT (by simp) rfl rfl rfl hb (by omega) (by omega) HS.out HO.out (.inr (fun e => by have := Option.some.inj (show some (w.heap.size + 1) = some _ from e); omega))).mono ?_
  rintro e w2 ⟨rfl, hs2, ht2⟩
  have hb3 : Below w.heap.size w w2 := hb.trans (below_touched ht2 (by omega) (by intro b hb g hg; simp only [List.mem_singleton] at hb; subst hb; cases hg; omega))
  have HS2 := hd hs2
  clear hs2 ht2 HS HO
  go_wp2_with fail
  go_ret
  obtain ⟨vb, OB, -, hr⟩ := HS2.out
  exact ⟨_, vb, rfl, OB, cell_of_row w2 _ 2 _ _ (0, 0) hr, cell_of_row w2 _ 3 _ _ (0, 0) hr, cell_of_row w2 _ 4 _ _ (0, 0) hr, hb3⟩

set_option maxRecDepth 100000 in
set_option maxHeartbeats 2000000 in
theorem long_spec (w : World) (v : Value) (l : List THall) (h : Sl w 3 v eHall l) (v1 v2 : Value) (H : List Int) (L : List TRow) (h1 : Sl w 1 v1 eI H) (h2 : SlR w v2 L) (R : List (List Int)) (hR : rowsOf L = R) :
    Calls Try.prog 25 #[v, .agg #[v1, v2]] w fun e w' => e = .returned (.tuple #[.int .i64 (longR l H R).1, .int .i64 (longR l H R).2]) ∧ Below w.heap.size w w' := by
  subst hR
  obtain ⟨A, c, rfl⟩ := h.slice
  obtain ⟨A1, c1, rfl⟩ := h1.slice
  obtain ⟨A2, c2, rfl⟩ := h2.1.slice
  have hb := (Below.refl w.heap.size w).alloc (Nat.le_refl _) (.cells #[.slice A1 H.length c1, .slice A2 L.length c2] 32)
  have b0 := new_cell w #[.slice A1 H.length c1, .slice A2 L.length c2] 32 0 _ rfl
  have b1 := new_cell w #[.slice A1 H.length c1, .slice A2 L.length c2] 32 1 _ rfl
  have hgs : w.heap.size < (w.alloc (.cells #[.slice A1 H.length c1, .slice A2 L.length c2] 32)).heap.size := by simp
  rcases q : okHalls l H (rowsOf L) with _ | _
  · have HE := hd (show longR l H (rowsOf L) = (0, 1) by unfold longR; rw [q]; rfl)
    go_enter Try.func25, Try.ntmps25
    go_wp2_with fail
    generalize (w.alloc (.cells #[.slice A1 H.length c1, .slice A2 L.length c2] 32)) = W at hb b0 b1 hgs ⊢
    refine (halls_spec0 _ _ _ (h.below hb) w.heap.size _ _ b0 b1 _ _ (h1.below hb) (h2.below hb)).mono ?_
    rintro e w1 ⟨rfl, hb1⟩
    have hb2 := below_step hb hb1
    rw [q]
    go_wp2_with fail
    go_ret2
    exact ⟨by rw [HE.out]; rfl, hb2⟩
  · have HQ := hd q
    go_enter Try.func25, Try.ntmps25
    go_wp2_with fail
    generalize (w.alloc (.cells #[.slice A1 H.length c1, .slice A2 L.length c2] 32)) = W at hb b0 b1 hgs ⊢
    refine (halls_spec0 _ _ _ (h.below hb) w.heap.size _ _ b0 b1 _ _ (h1.below hb) (h2.below hb)).mono ?_
    rintro e w1 ⟨rfl, hb1⟩
    have hb2 := below_step hb hb1
    rw [q]
    clear q
    have g0 := (hb1.cell (p := ⟨w.heap.size, 0, none⟩) hgs).trans b0
    have g1 := (hb1.cell (p := ⟨w.heap.size, 1, none⟩) hgs).trans b1
    clear b0 b1 hgs hb hb1
    go_wp2_with fail
    refine (all_spec _ _ l (h.below hb2) w.heap.size _ _ g0 g1 H L (h1.below hb2) (h2.below hb2) (hallsOk_of HQ.out)).mono ?_
    rintro e w2 ⟨gw, vb, rfl, OB, k2, k3, k4, hb3⟩
    have hb4 := below_step hb2 hb3
    clear g0 g1 OB
    go_wp2_with fail
    go_ret2
    exact ⟨by unfold longR; rw [if_pos HQ.out, ← both_long]; rfl, hb4⟩

set_option maxRecDepth 100000 in
set_option maxHeartbeats 2000000 in
theorem best_spec (w : World) (v : Value) (l : List THall) (h : Sl w 3 v eHall l) (v1 v2 : Value) (H : List Int) (L : List TRow) (h1 : Sl w 1 v1 eI H) (h2 : SlR w v2 L) (R : List (List Int)) (hR : rowsOf L = R) :
    Calls Try.prog 38 #[v, .agg #[v1, v2]] w (GivesOwnII w 2 1 eI (bestR l H R)) := by
  subst hR
  obtain ⟨A, c, rfl⟩ := h.slice
  obtain ⟨A1, c1, rfl⟩ := h1.slice
  obtain ⟨A2, c2, rfl⟩ := h2.1.slice
  have hb := (Below.refl w.heap.size w).alloc (Nat.le_refl _) (.cells #[.slice A1 H.length c1, .slice A2 L.length c2] 32)
  have b0 := new_cell w #[.slice A1 H.length c1, .slice A2 L.length c2] 32 0 _ rfl
  have b1 := new_cell w #[.slice A1 H.length c1, .slice A2 L.length c2] 32 1 _ rfl
  have hgs : w.heap.size < (w.alloc (.cells #[.slice A1 H.length c1, .slice A2 L.length c2] 32)).heap.size := by simp
  rcases q : okHalls l H (rowsOf L) with _ | _
  · have HE := hd (show bestR l H (rowsOf L) = ([], 0, 1) by unfold bestR; rw [q]; rfl)
    go_enter Try.func38, Try.ntmps38
    go_wp2_with fail
    generalize (w.alloc (.cells #[.slice A1 H.length c1, .slice A2 L.length c2] 32)) = W at hb b0 b1 hgs ⊢
    refine (halls_spec0 _ _ _ (h.below hb) w.heap.size _ _ b0 b1 _ _ (h1.below hb) (h2.below hb)).mono ?_
    rintro e w1 ⟨rfl, hb1⟩
    have hb2 := below_step hb hb1
    rw [q]
    go_wp2_with fail
    go_ret3
    exact ⟨.slice none 0 0, by rw [HE.out]; rfl, by rw [HE.out]; exact Own.nil _ _ _ _ _, hb2⟩
  · have HQ := hd q
    go_enter Try.func38, Try.ntmps38
    go_wp2_with fail
    generalize (w.alloc (.cells #[.slice A1 H.length c1, .slice A2 L.length c2] 32)) = W at hb b0 b1 hgs ⊢
    refine (halls_spec0 _ _ _ (h.below hb) w.heap.size _ _ b0 b1 _ _ (h1.below hb) (h2.below hb)).mono ?_
    rintro e w1 ⟨rfl, hb1⟩
    have hb2 := below_step hb hb1
    rw [q]
    clear q
    have g0 := (hb1.cell (p := ⟨w.heap.size, 0, none⟩) hgs).trans b0
    have g1 := (hb1.cell (p := ⟨w.heap.size, 1, none⟩) hgs).trans b1
    clear b0 b1 hgs hb hb1
    go_wp2_with fail
    refine (all_spec _ _ l (h.below hb2) w.heap.size _ _ g0 g1 H L (h1.below hb2) (h2.below hb2) (hallsOk_of HQ.out)).mono ?_
    rintro e w2 ⟨gw, vb, rfl, OB, k2, k3, k4, hb3⟩
    obtain ⟨Ab, cb, rfl⟩ := OB.slice
    have hb4 := below_step hb2 hb3
    have OB2 := OB.base hb2.size
    clear g0 g1 OB
    go_wp2_with fail
    go_quiet (fail)
    go_wp2_with fail
    go_ret3
    exact ⟨_, by unfold bestR; rw [if_pos HQ.out, ← both_best]; rfl, by unfold bestR; rw [if_pos HQ.out, ← both_best]; exact OB2, by first | exact hb4 | exact below_drewN hb4 _⟩
end Go.Proofs.Ytmflfealodgdeaa
