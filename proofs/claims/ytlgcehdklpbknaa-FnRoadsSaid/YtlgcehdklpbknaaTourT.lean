/- Tours: the reference's three answers over its tour code. No condition but that the slices read. -/
import Derived.Test.YtlgcehdklpbknaaTourS
import Derived.Deep.RegionLaw
namespace Go.Proofs.Ytlgcehdklpbknaa
open Go Go.RowKit Go.ChangeShapes Go.WideShapes
set_option linter.unusedSimpArgs false
set_option linter.unusedVariables false

set_option maxHeartbeats 2000000 in
theorem td_spec (w : World) (v : Value) (l : List THall) (h : Sl w 3 v eHall l) (v1 v2 : Value) (H : List Int) (L : List TRow) (h1 : Sl w 1 v1 eI H) (h2 : SlR w v2 L) (R : List (List Int)) (hR : rowsOf L = R) (vt : Value) (T : List Int) (ht : Sl w 1 vt eI T) (hTl : T.length ≤ 1048576) :
    Calls Try.prog 18 #[v, .agg #[v1, v2], vt] w (GivesOwnI w 2 1 eI (tdR l H R T)) := by
  subst hR
  obtain ⟨A, c, rfl⟩ := h.slice
  obtain ⟨A1, c1, rfl⟩ := h1.slice
  obtain ⟨A2, c2, rfl⟩ := h2.1.slice
  have hb := (Below.refl w.heap.size w).alloc (Nat.le_refl _) (.cells #[.slice A1 H.length c1, .slice A2 L.length c2] 28)
  have b0 := new_cell w #[.slice A1 H.length c1, .slice A2 L.length c2] 28 0 _ rfl
  have b1 := new_cell w #[.slice A1 H.length c1, .slice A2 L.length c2] 28 1 _ rfl
  have hgs : w.heap.size < (w.alloc (.cells #[.slice A1 H.length c1, .slice A2 L.length c2] 28)).heap.size := by simp
  go_enter Try.func18, Try.ntmps18
  go_wp2_with fail
  generalize (w.alloc (.cells #[.slice A1 H.length c1, .slice A2 L.length c2] 28)) = W at hb b0 b1 hgs ⊢
  refine (code_specT W _ _ (h.below hb) w.heap.size _ _ b0 b1 _ _ (h1.below hb) (h2.below hb) _ _ (ht.below hb) hTl).mono ?_
  rintro e w3 ⟨t, vd, rfl, ht0, OD, hb3⟩
  unfold eTS
  have HT0 := hd ht0
  clear ht0
  have nt : (w3.alloc (.cells #[.int .i64 t.1, .int .i64 t.2.1, .int .i64 t.2.2.1, .int .i64 t.2.2.2.1, .bool t.2.2.2.2] 99)).cell? ⟨w3.heap.size, 0, none⟩ = some (.int .i64 t.1) := new_cell w3 _ _ 0 _ rfl
  have ODN : Own (w3.alloc (.cells #[.int .i64 t.1, .int .i64 t.2.1, .int .i64 t.2.2.1, .int .i64 t.2.2.2.1, .bool t.2.2.2.2] 99)) w.heap.size 2 1 vd eI (showsR l H (rowsOf L) T) := Own.alloc (Own.base OD hb.size) _
  have hbN : Below w.heap.size w (w3.alloc (.cells #[.int .i64 t.1, .int .i64 t.2.1, .int .i64 t.2.2.1, .int .i64 t.2.2.2.1, .bool t.2.2.2.2] 99)) := (below_step hb hb3).alloc (below_step hb hb3).size _
  clear OD hb3 b0 b1 hgs hb
  by_cases q : tcode l H (rowsOf L) T = 0
  case pos =>
    have HQ := hd q
    rw [q]
    clear q
    go_wp2_with fail
    go_ret2
    exact ⟨vd, by unfold tdR; rw [HQ.out]; rfl, ODN, hbN⟩
  case neg =>
    have HE := hd q
    have hne : (tcode l H (rowsOf L) T != 0) = true := by simpa using q
    clear q
    go_wp2_with fail
    go_ret2
    exact ⟨.slice none 0 0, rfl, by unfold tdR; rw [showsR, if_neg HE.out]; exact Own.nil _ _ _ _ _, hbN⟩

theorem tw_implR (w : World) (v : Value) (l : List THall) (h : Sl w 3 v eHall l) (v1 v2 : Value) (H : List Int) (L : List TRow) (h1 : Sl w 1 v1 eI H) (h2 : SlR w v2 L) (R : List (List Int)) (hR : rowsOf L = R) (vt : Value) (T : List Int) (ht : Sl w 1 vt eI T) (hTl : T.length ≤ 1048576) :
    Calls Try.prog 17 #[v, .agg #[v1, v2], vt] w fun e w' => e = .returned (.tuple #[.int .i64 (twR l H R T).1, .int .i64 (twR l H R T).2]) ∧ Below w.heap.size w w' :=
  tw_impl w v l h v1 v2 H L h1 h2 vt T ht R hR hTl

end Go.Proofs.Ytlgcehdklpbknaa
