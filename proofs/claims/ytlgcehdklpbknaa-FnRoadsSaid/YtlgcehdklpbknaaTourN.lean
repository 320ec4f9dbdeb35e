/- Tours: the reference's next step. No condition but that the slices read. -/
import Derived.Test.YtlgcehdklpbknaaTourC
import Derived.Test.YtlgcehdklpbknaaMax
import Derived.BigRegion
import Derived.Laws.ResultCell
namespace Go.Proofs.Ytlgcehdklpbknaa
open Go Go.RowKit Go.ChangeShapes Go.WideShapes
set_option linter.unusedSimpArgs false
set_option linter.unusedVariables false

def eTS (t : TS) : Array Value := #[.int .i64 t.1, .int .i64 t.2.1, .int .i64 t.2.2.1, .int .i64 t.2.2.2.1, .bool t.2.2.2.2]
def GivesNext (w : World) (t : TS) (s : Int) (e : Ending) (w' : World) : Prop := e = .returned (.tuple #[.agg (eTS t), .int .i64 s]) ∧ Below w.heap.size w w'
theorem load_tour (Z : World) (b : Nat) (x0 x1 x2 x3 : Int) (x4 : Bool) (e0 : Z.cell? ⟨b, 0, none⟩ = some (.int .i64 x0)) (e1 : Z.cell? ⟨b, 1, none⟩ = some (.int .i64 x1)) (e2 : Z.cell? ⟨b, 2, none⟩ = some (.int .i64 x2)) (e3 : Z.cell? ⟨b, 3, none⟩ = some (.int .i64 x3)) (e4 : Z.cell? ⟨b, 4, none⟩ = some (.bool x4)) :
    (loadVar 99 ⟨b, 0, none⟩).run Try.prog Z = .ok (.agg #[.int .i64 x0, .int .i64 x1, .int .i64 x2, .int .i64 x3, .bool x4]) Z := by
  simp [loadVar, go_sem, e0, e1, e2, e3, e4]
theorem final_cells (N : World) (G h : Nat) (a b c d e x : Value) (d0 d1 d2 d3 d4 : Value) (hG1 : G ≠ h) (hG2 : h ≠ G)
    (c0 : N.cell? ⟨h, 0, none⟩ = some d0) (c1 : N.cell? ⟨h, 1, none⟩ = some d1) (c2 : N.cell? ⟨h, 2, none⟩ = some d2) (c3 : N.cell? ⟨h, 3, none⟩ = some d3) (c4 : N.cell? ⟨h, 4, none⟩ = some d4) :
    ((((((N.setCell ⟨G, 4, none⟩ x).setCell ⟨h, 0, none⟩ a).setCell ⟨h, 1, none⟩ b).setCell ⟨h, 2, none⟩ c).setCell ⟨h, 3, none⟩ d).setCell ⟨h, 4, none⟩ e).cell? ⟨h, 0, none⟩ = some a ∧
    ((((((N.setCell ⟨G, 4, none⟩ x).setCell ⟨h, 0, none⟩ a).setCell ⟨h, 1, none⟩ b).setCell ⟨h, 2, none⟩ c).setCell ⟨h, 3, none⟩ d).setCell ⟨h, 4, none⟩ e).cell? ⟨h, 1, none⟩ = some b ∧
    ((((((N.setCell ⟨G, 4, none⟩ x).setCell ⟨h, 0, none⟩ a).setCell ⟨h, 1, none⟩ b).setCell ⟨h, 2, none⟩ c).setCell ⟨h, 3, none⟩ d).setCell ⟨h, 4, none⟩ e).cell? ⟨h, 2, none⟩ = some c ∧
    ((((((N.setCell ⟨G, 4, none⟩ x).setCell ⟨h, 0, none⟩ a).setCell ⟨h, 1, none⟩ b).setCell ⟨h, 2, none⟩ c).setCell ⟨h, 3, none⟩ d).setCell ⟨h, 4, none⟩ e).cell? ⟨h, 3, none⟩ = some d ∧
    ((((((N.setCell ⟨G, 4, none⟩ x).setCell ⟨h, 0, none⟩ a).setCell ⟨h, 1, none⟩ b).setCell ⟨h, 2, none⟩ c).setCell ⟨h, 3, none⟩ d).setCell ⟨h, 4, none⟩ e).cell? ⟨h, 4, none⟩ = some e := by
  refine ⟨?_, ?_, ?_, ?_, ?_⟩ <;> go_simp
theorem region_facts (W : World) (a b c d e : Value) (T : TypeId) :
    (W.alloc (.cells #[a, b, c, d, e] T)).drew.cell? ⟨W.heap.size, 0, none⟩ = some a ∧ (W.alloc (.cells #[a, b, c, d, e] T)).drew.cell? ⟨W.heap.size, 1, none⟩ = some b ∧ (W.alloc (.cells #[a, b, c, d, e] T)).drew.cell? ⟨W.heap.size, 2, none⟩ = some c ∧
    (W.alloc (.cells #[a, b, c, d, e] T)).drew.cell? ⟨W.heap.size, 3, none⟩ = some d ∧ (W.alloc (.cells #[a, b, c, d, e] T)).drew.cell? ⟨W.heap.size, 4, none⟩ = some e ∧ (W.alloc (.cells #[a, b, c, d, e] T)).drew.frozen? ⟨W.heap.size, 4, none⟩ = false ∧
    (∀ (p : Addr) (u : Value), p.block < W.heap.size → W.cell? p = some u → (W.alloc (.cells #[a, b, c, d, e] T)).drew.cell? p = some u) ∧
    (∀ (p : Addr), p.block < W.heap.size → (W.alloc (.cells #[a, b, c, d, e] T)).drew.frozen? p = W.frozen? p) ∧ Below W.heap.size W (W.alloc (.cells #[a, b, c, d, e] T)).drew := by
  have hb : Below W.heap.size W (W.alloc (.cells #[a, b, c, d, e] T)).drew := ((Below.refl W.heap.size W).alloc (Nat.le_refl _) _).drew
  have g0 : (W.alloc (.cells #[a, b, c, d, e] T)).drew.heap[W.heap.size]? = some (.cells #[a, b, c, d, e] T (0, 0)) := heap_alloc_new W _
  exact ⟨cell_of_row _ _ 0 _ _ (0, 0) g0, cell_of_row _ _ 1 _ _ (0, 0) g0, cell_of_row _ _ 2 _ _ (0, 0) g0, cell_of_row _ _ 3 _ _ (0, 0) g0, cell_of_row _ _ 4 _ _ (0, 0) g0, free_at g0 4, fun p u hp hu => (hb.cell hp).trans hu, fun p hp => hb.frozen hp, hb⟩
theorem next_facts (w : World) (ta td ti tw : Int) (tl : Bool) :
    ((w.alloc (.cells #[.int .i64 ta, .int .i64 td, .int .i64 ti, .int .i64 tw, .bool tl] 99)).alloc (.cells #[.int .i64 0, .int .i64 0, .int .i64 0, .int .i64 0, .bool false] 99)).cell? ⟨w.heap.size, 0, none⟩ = some (.int .i64 ta) ∧ ((w.alloc (.cells #[.int .i64 ta, .int .i64 td, .int .i64 ti, .int .i64 tw, .bool tl] 99)).alloc (.cells #[.int .i64 0, .int .i64 0, .int .i64 0, .int .i64 0, .bool false] 99)).cell? ⟨w.heap.size, 1, none⟩ = some (.int .i64 td) ∧ ((w.alloc (.cells #[.int .i64 ta, .int .i64 td, .int .i64 ti, .int .i64 tw, .bool tl] 99)).alloc (.cells #[.int .i64 0, .int .i64 0, .int .i64 0, .int .i64 0, .bool false] 99)).cell? ⟨w.heap.size, 2, none⟩ = some (.int .i64 ti) ∧
    ((w.alloc (.cells #[.int .i64 ta, .int .i64 td, .int .i64 ti, .int .i64 tw, .bool tl] 99)).alloc (.cells #[.int .i64 0, .int .i64 0, .int .i64 0, .int .i64 0, .bool false] 99)).cell? ⟨w.heap.size, 3, none⟩ = some (.int .i64 tw) ∧ ((w.alloc (.cells #[.int .i64 ta, .int .i64 td, .int .i64 ti, .int .i64 tw, .bool tl] 99)).alloc (.cells #[.int .i64 0, .int .i64 0, .int .i64 0, .int .i64 0, .bool false] 99)).cell? ⟨w.heap.size, 4, none⟩ = some (.bool tl) ∧
    ((w.alloc (.cells #[.int .i64 ta, .int .i64 td, .int .i64 ti, .int .i64 tw, .bool tl] 99)).alloc (.cells #[.int .i64 0, .int .i64 0, .int .i64 0, .int .i64 0, .bool false] 99)).cell? ⟨w.heap.size + 1, 0, none⟩ = some (.int .i64 0) ∧ ((w.alloc (.cells #[.int .i64 ta, .int .i64 td, .int .i64 ti, .int .i64 tw, .bool tl] 99)).alloc (.cells #[.int .i64 0, .int .i64 0, .int .i64 0, .int .i64 0, .bool false] 99)).cell? ⟨w.heap.size + 1, 1, none⟩ = some (.int .i64 0) ∧ ((w.alloc (.cells #[.int .i64 ta, .int .i64 td, .int .i64 ti, .int .i64 tw, .bool tl] 99)).alloc (.cells #[.int .i64 0, .int .i64 0, .int .i64 0, .int .i64 0, .bool false] 99)).cell? ⟨w.heap.size + 1, 2, none⟩ = some (.int .i64 0) ∧
    ((w.alloc (.cells #[.int .i64 ta, .int .i64 td, .int .i64 ti, .int .i64 tw, .bool tl] 99)).alloc (.cells #[.int .i64 0, .int .i64 0, .int .i64 0, .int .i64 0, .bool false] 99)).cell? ⟨w.heap.size + 1, 3, none⟩ = some (.int .i64 0) ∧ ((w.alloc (.cells #[.int .i64 ta, .int .i64 td, .int .i64 ti, .int .i64 tw, .bool tl] 99)).alloc (.cells #[.int .i64 0, .int .i64 0, .int .i64 0, .int .i64 0, .bool false] 99)).cell? ⟨w.heap.size + 1, 4, none⟩ = some (.bool false) ∧
    ((w.alloc (.cells #[.int .i64 ta, .int .i64 td, .int .i64 ti, .int .i64 tw, .bool tl] 99)).alloc (.cells #[.int .i64 0, .int .i64 0, .int .i64 0, .int .i64 0, .bool false] 99)).frozen? ⟨w.heap.size + 1, 0, none⟩ = false ∧ ((w.alloc (.cells #[.int .i64 ta, .int .i64 td, .int .i64 ti, .int .i64 tw, .bool tl] 99)).alloc (.cells #[.int .i64 0, .int .i64 0, .int .i64 0, .int .i64 0, .bool false] 99)).frozen? ⟨w.heap.size + 1, 1, none⟩ = false ∧ ((w.alloc (.cells #[.int .i64 ta, .int .i64 td, .int .i64 ti, .int .i64 tw, .bool tl] 99)).alloc (.cells #[.int .i64 0, .int .i64 0, .int .i64 0, .int .i64 0, .bool false] 99)).frozen? ⟨w.heap.size + 1, 2, none⟩ = false ∧
    ((w.alloc (.cells #[.int .i64 ta, .int .i64 td, .int .i64 ti, .int .i64 tw, .bool tl] 99)).alloc (.cells #[.int .i64 0, .int .i64 0, .int .i64 0, .int .i64 0, .bool false] 99)).frozen? ⟨w.heap.size + 1, 3, none⟩ = false ∧ ((w.alloc (.cells #[.int .i64 ta, .int .i64 td, .int .i64 ti, .int .i64 tw, .bool tl] 99)).alloc (.cells #[.int .i64 0, .int .i64 0, .int .i64 0, .int .i64 0, .bool false] 99)).frozen? ⟨w.heap.size + 1, 4, none⟩ = false ∧
    w.heap.size < ((w.alloc (.cells #[.int .i64 ta, .int .i64 td, .int .i64 ti, .int .i64 tw, .bool tl] 99)).alloc (.cells #[.int .i64 0, .int .i64 0, .int .i64 0, .int .i64 0, .bool false] 99)).heap.size ∧ w.heap.size + 1 < ((w.alloc (.cells #[.int .i64 ta, .int .i64 td, .int .i64 ti, .int .i64 tw, .bool tl] 99)).alloc (.cells #[.int .i64 0, .int .i64 0, .int .i64 0, .int .i64 0, .bool false] 99)).heap.size ∧
    ∀ (a : Addr) (u : Value), a.block < w.heap.size → w.cell? a = some u → ((w.alloc (.cells #[.int .i64 ta, .int .i64 td, .int .i64 ti, .int .i64 tw, .bool tl] 99)).alloc (.cells #[.int .i64 0, .int .i64 0, .int .i64 0, .int .i64 0, .bool false] 99)).cell? a = some u := by
  have g0 : ((w.alloc (.cells #[.int .i64 ta, .int .i64 td, .int .i64 ti, .int .i64 tw, .bool tl] 99)).alloc (.cells #[.int .i64 0, .int .i64 0, .int .i64 0, .int .i64 0, .bool false] 99)).heap[w.heap.size]? = some (.cells #[.int .i64 ta, .int .i64 td, .int .i64 ti, .int .i64 tw, .bool tl] 99 (0, 0)) := (((Below.refl (w.heap.size + 1) (w.alloc (.cells #[.int .i64 ta, .int .i64 td, .int .i64 ti, .int .i64 tw, .bool tl] 99))).alloc (by simp) (.cells #[.int .i64 0, .int .i64 0, .int .i64 0, .int .i64 0, .bool false] 99)).block w.heap.size (by omega)).trans (heap_alloc_new w (.cells #[.int .i64 ta, .int .i64 td, .int .i64 ti, .int .i64 tw, .bool tl] 99))
  have g1 : ((w.alloc (.cells #[.int .i64 ta, .int .i64 td, .int .i64 ti, .int .i64 tw, .bool tl] 99)).alloc (.cells #[.int .i64 0, .int .i64 0, .int .i64 0, .int .i64 0, .bool false] 99)).heap[w.heap.size + 1]? = some (.cells #[.int .i64 0, .int .i64 0, .int .i64 0, .int .i64 0, .bool false] 99 (0, 0)) := by
    have e3 := heap_alloc_new (w.alloc (.cells #[.int .i64 ta, .int .i64 td, .int .i64 ti, .int .i64 tw, .bool tl] 99)) (.cells #[.int .i64 0, .int .i64 0, .int .i64 0, .int .i64 0, .bool false] 99)
    rw [show (w.alloc (.cells #[.int .i64 ta, .int .i64 td, .int .i64 ti, .int .i64 tw, .bool tl] 99)).heap.size = w.heap.size + 1 from by simp] at e3
    exact e3
  refine ⟨cell_of_row _ _ 0 _ _ (0, 0) g0, cell_of_row _ _ 1 _ _ (0, 0) g0, cell_of_row _ _ 2 _ _ (0, 0) g0, cell_of_row _ _ 3 _ _ (0, 0) g0, cell_of_row _ _ 4 _ _ (0, 0) g0, cell_of_row _ _ 0 _ _ (0, 0) g1, cell_of_row _ _ 1 _ _ (0, 0) g1, cell_of_row _ _ 2 _ _ (0, 0) g1, cell_of_row _ _ 3 _ _ (0, 0) g1, cell_of_row _ _ 4 _ _ (0, 0) g1,
    free_at g1 0, free_at g1 1, free_at g1 2, free_at g1 3, free_at g1 4, by simp; omega, by simp, fun a u ha hu => ?_⟩
  exact (((Below.refl w.heap.size w).alloc (Nat.le_refl _) (.cells #[.int .i64 ta, .int .i64 td, .int .i64 ti, .int .i64 tw, .bool tl] 99)).alloc (by simp) (.cells #[.int .i64 0, .int .i64 0, .int .i64 0, .int .i64 0, .bool false] 99)).cell ha |>.trans hu
set_option maxRecDepth 100000 in
set_option maxHeartbeats 4000000 in
theorem next_spec (w : World) (v : Value) (l : List THall) (h : Sl w 3 v eHall l) (g : Nat) (v1 v2 : Value) (p0 : w.cell? ⟨g, 0, none⟩ = some v1) (p1 : w.cell? ⟨g, 1, none⟩ = some v2) (H : List Int) (L : List TRow) (h1 : Sl w 1 v1 eI H) (h2 : SlR w v2 L)
    (ok : HallsOk l H (rowsOf L)) (t : TS) (i : Nat) (hi : i ≤ 1048576) (hbd : BdT l i t) (k : Nat) (hk : k < l.length) :
    Calls Try.prog 126 #[v, .pointer (some ⟨g, 0, none⟩), .agg (eTS t), .int .i64 k] w (GivesNext w (nextT l H (rowsOf L) t k) (showT l H (rowsOf L) t k)) := by
  have m0 := h.len
  obtain ⟨A, c, rfl⟩ := h.slice
  obtain ⟨A1, c1, rfl⟩ := h1.slice
  obtain ⟨A2, c2, rfl⟩ := h2.1.slice
  have z6 := ok.six
  have hkH : k < H.length := by have := ok.homes; omega
  obtain ⟨wy1, wy2⟩ := way_bd ok hbd hk
  obtain ⟨⟨a1, a2, a3⟩, a4, a5⟩ := ok.hall k hk
  have e0 : l.getD k (0, 0, 0) = l[k] := by simp [hk]
  rw [e0] at a1 a2 a3 a4 a5
  have HSH := hd (show showT l H (rowsOf L) t k = max (t.2.1 + way H (rowsOf L) t.1 k) l[k].1 by unfold showT; rw [hallAt_nat, e0]; rfl)
  have HNX := hd (show nextT l H (rowsOf L) t k = ((k : Int), showT l H (rowsOf L) t k + 1, t.2.2.1 + l[k].2.2, t.2.2.2.1 + showT l H (rowsOf L) t k - (t.2.1 + way H (rowsOf L) t.1 k), t.2.2.2.2 || decide (l[k].2.1 < showT l H (rowsOf L) t k)) by unfold nextT; rw [hallAt_nat, e0]; rfl)
  clear e0
  obtain ⟨bl, ol, rfl, hbl, r0, r1, r2⟩ := h.Hall_at hk
  have hgs := World.block_lt_of_cell? w _ p0
  generalize l[k] = x at r0 r1 r2 a1 a2 a3 a4 a5 HSH HNX
  obtain ⟨fa, fl, fi⟩ := x
  dsimp only at r0 r1 r2 a1 a2 a3 a4 a5 HSH HNX
  obtain ⟨hb1, ⟨hb2, hb3⟩, ⟨hb4, hb5⟩, hb6, hb7⟩ := hbd
  obtain ⟨bh, oh, rfl, hbh, ch⟩ := h1.int_at hkH
  obtain ⟨ta, td, ti, tw, tl⟩ := t
  dsimp only at hb1 hb2 hb3 hb4 hb5 hb6 hb7 HSH HNX wy1 wy2
  have hb := ((Below.refl w.heap.size w).alloc (Nat.le_refl _) (.cells #[.int .i64 ta, .int .i64 td, .int .i64 ti, .int .i64 tw, .bool tl] 99)).alloc (by simp) (.cells #[.int .i64 0, .int .i64 0, .int .i64 0, .int .i64 0, .bool false] 99)
  rcases hb1 with rfl | ⟨j, rfl, hj⟩
  · have hway := way_home (H := H) (R := rowsOf L) (p := -1) (by omega) hkH
    rw [hway] at wy1 wy2 HSH HNX
    generalize H[k] = d at ch wy1 wy2 HSH HNX
    clear hway
    go_enter Try.func126, Try.ntmps126
    unfold eTS
    go_wp2_with fail
    refine (max_spec _ _ _).mono ?_
    rintro e w3 ⟨rfl, hw⟩
    have hw := hw.symm
    subst hw
    have hsh : 0 ≤ max (td + d) fa ∧ max (td + d) fa ≤ 100000000 := by omega
    generalize hsd : max (td + d) fa = sh at hsh HSH ⊢
    clear hsd
    obtain ⟨sh1, sh2⟩ := hsh
    have F := next_facts w (-1) td ti tw tl
    generalize (w.alloc (.cells #[.int .i64 (-1), .int .i64 td, .int .i64 ti, .int .i64 tw, .bool tl] 99)).alloc (.cells #[.int .i64 0, .int .i64 0, .int .i64 0, .int .i64 0, .bool false] 99) = W at F hb ⊢
    obtain ⟨c0, c1', c2', c3, c4, d0, d1, d2, d3, d4, f0, f1, f2, f3, f4, z0, z1, B⟩ := F
    have y0 := B _ _ hbl r0
    have y1 := B _ _ hbl r1
    have y2 := B _ _ hbl r2
    have zbl : bl < W.heap.size := Nat.lt_trans hbl z0
    clear p0 p1 r0 r1 r2 ch B h h1 h2
    go_wp2_with fail
    go_region
    have M := region_facts W (.int .i64 k) (.int .i64 (sh + 1)) (.int .i64 (ti + fi)) (.int .i64 (tw + sh - (td + d))) (.bool false) 99
    have hbN := below_drewN (hb.alloc hb.size (.cells #[.int .i64 (k : Int), .int .i64 (sh + 1), .int .i64 (ti + fi), .int .i64 (tw + sh - (td + d)), .bool false] 99)) 1
    generalize (W.alloc (.cells #[.int .i64 (k : Int), .int .i64 (sh + 1), .int .i64 (ti + fi), .int .i64 (tw + sh - (td + d)), .bool false] 99)).drew = N at M ⊢
    generalize W.alloc (.cells #[.int .i64 (k : Int), .int .i64 (sh + 1), .int .i64 (ti + fi), .int .i64 (tw + sh - (td + d)), .bool false] 99) = N0 at hbN
    obtain ⟨n0, n1, n2, n3, n4, nf, NC, NF, NB⟩ := M
    have c4' := NC _ _ z0 c4
    have y1' := NC _ _ zbl y1
    have d0' := NC _ _ z1 d0
    have d1' := NC _ _ z1 d1
    have d2' := NC _ _ z1 d2
    have d3' := NC _ _ z1 d3
    have d4' := NC _ _ z1 d4
    have f0' := (NF ⟨w.heap.size + 1, 0, none⟩ z1).trans f0
    have f1' := (NF ⟨w.heap.size + 1, 1, none⟩ z1).trans f1
    have f2' := (NF ⟨w.heap.size + 1, 2, none⟩ z1).trans f2
    have f3' := (NF ⟨w.heap.size + 1, 3, none⟩ z1).trans f3
    have f4' := (NF ⟨w.heap.size + 1, 4, none⟩ z1).trans f4
    have hbN' := below_step hb (NB)
    have hWs := hb.size
    have hG1 : W.heap.size ≠ w.heap.size + 1 := by omega
    have hG2 : w.heap.size + 1 ≠ W.heap.size := by omega
    have hG3 : bl ≠ W.heap.size := by omega
    clear c0 c1' c2' c3 c4 d0 d1 d2 d3 d4 f0 f1 f2 f3 f4 y0 y1 y2 hbN NC NF NB zbl z0
    rcases tl with _ | _
    · rcases q : decide (fl < sh) with _ | _
      · have FC := final_cells N W.heap.size (w.heap.size + 1) (.int .i64 (k : Int)) (.int .i64 (sh + 1)) (.int .i64 (ti + fi)) (.int .i64 (tw + sh - (td + d))) (.bool false) (.bool false) _ _ _ _ _ hG1 hG2 d0' d1' d2' d3' d4'
        have BZ : Below w.heap.size w ((((((N.setCell ⟨W.heap.size, 4, none⟩ (.bool false)).setCell ⟨w.heap.size + 1, 0, none⟩ (.int .i64 (k : Int))).setCell ⟨w.heap.size + 1, 1, none⟩ (.int .i64 (sh + 1))).setCell ⟨w.heap.size + 1, 2, none⟩ (.int .i64 (ti + fi))).setCell ⟨w.heap.size + 1, 3, none⟩ (.int .i64 (tw + sh - (td + d)))).setCell ⟨w.heap.size + 1, 4, none⟩ (.bool false)) :=
          (((((hbN'.setCell (p := ⟨W.heap.size, 4, none⟩) hWs _).setCell (p := ⟨w.heap.size + 1, 0, none⟩) (Nat.le_succ _) _).setCell (p := ⟨w.heap.size + 1, 1, none⟩) (Nat.le_succ _) _).setCell (p := ⟨w.heap.size + 1, 2, none⟩) (Nat.le_succ _) _).setCell (p := ⟨w.heap.size + 1, 3, none⟩) (Nat.le_succ _) _).setCell (p := ⟨w.heap.size + 1, 4, none⟩) (Nat.le_succ _) _
        go_wp2_with fail
        generalize ((((((N.setCell ⟨W.heap.size, 4, none⟩ (.bool false)).setCell ⟨w.heap.size + 1, 0, none⟩ (.int .i64 (k : Int))).setCell ⟨w.heap.size + 1, 1, none⟩ (.int .i64 (sh + 1))).setCell ⟨w.heap.size + 1, 2, none⟩ (.int .i64 (ti + fi))).setCell ⟨w.heap.size + 1, 3, none⟩ (.int .i64 (tw + sh - (td + d)))).setCell ⟨w.heap.size + 1, 4, none⟩ (.bool false)) = Z at FC BZ ⊢
        obtain ⟨e0, e1, e2, e3, e4⟩ := FC
        refine bodyPost_ret (v := .tuple #[.agg #[.int .i64 k, .int .i64 (sh + 1), .int .i64 (ti + fi), .int .i64 (tw + sh - (td + d)), .bool false], .int .i64 sh]) ?_ rfl ?_
        · refine (results_cell_tmp Try.results126 _ _ _).trans ?_
          show (((loadVar 99 ⟨w.heap.size + 1, 0, none⟩).run Try.prog Z).andThen fun v w₂ => Result.ok (Value.tuple #[v, Value.int .i64 sh]) w₂) = _
          rw [load_tour Z _ _ _ _ _ _ e0 e1 e2 e3 e4]
          rfl
        · exact ⟨by rw [HNX.out, HSH.out, q]; rfl, BZ⟩
      · have FC := final_cells N W.heap.size (w.heap.size + 1) (.int .i64 (k : Int)) (.int .i64 (sh + 1)) (.int .i64 (ti + fi)) (.int .i64 (tw + sh - (td + d))) (.bool true) (.bool true) _ _ _ _ _ hG1 hG2 d0' d1' d2' d3' d4'
        have BZ : Below w.heap.size w ((((((N.setCell ⟨W.heap.size, 4, none⟩ (.bool true)).setCell ⟨w.heap.size + 1, 0, none⟩ (.int .i64 (k : Int))).setCell ⟨w.heap.size + 1, 1, none⟩ (.int .i64 (sh + 1))).setCell ⟨w.heap.size + 1, 2, none⟩ (.int .i64 (ti + fi))).setCell ⟨w.heap.size + 1, 3, none⟩ (.int .i64 (tw + sh - (td + d)))).setCell ⟨w.heap.size + 1, 4, none⟩ (.bool true)) :=
          (((((hbN'.setCell (p := ⟨W.heap.size, 4, none⟩) hWs _).setCell (p := ⟨w.heap.size + 1, 0, none⟩) (Nat.le_succ _) _).setCell (p := ⟨w.heap.size + 1, 1, none⟩) (Nat.le_succ _) _).setCell (p := ⟨w.heap.size + 1, 2, none⟩) (Nat.le_succ _) _).setCell (p := ⟨w.heap.size + 1, 3, none⟩) (Nat.le_succ _) _).setCell (p := ⟨w.heap.size + 1, 4, none⟩) (Nat.le_succ _) _
        go_wp2_with fail
        generalize ((((((N.setCell ⟨W.heap.size, 4, none⟩ (.bool true)).setCell ⟨w.heap.size + 1, 0, none⟩ (.int .i64 (k : Int))).setCell ⟨w.heap.size + 1, 1, none⟩ (.int .i64 (sh + 1))).setCell ⟨w.heap.size + 1, 2, none⟩ (.int .i64 (ti + fi))).setCell ⟨w.heap.size + 1, 3, none⟩ (.int .i64 (tw + sh - (td + d)))).setCell ⟨w.heap.size + 1, 4, none⟩ (.bool true)) = Z at FC BZ ⊢
        obtain ⟨e0, e1, e2, e3, e4⟩ := FC
        refine bodyPost_ret (v := .tuple #[.agg #[.int .i64 k, .int .i64 (sh + 1), .int .i64 (ti + fi), .int .i64 (tw + sh - (td + d)), .bool true], .int .i64 sh]) ?_ rfl ?_
        · refine (results_cell_tmp Try.results126 _ _ _).trans ?_
          show (((loadVar 99 ⟨w.heap.size + 1, 0, none⟩).run Try.prog Z).andThen fun v w₂ => Result.ok (Value.tuple #[v, Value.int .i64 sh]) w₂) = _
          rw [load_tour Z _ _ _ _ _ _ e0 e1 e2 e3 e4]
          rfl
        · exact ⟨by rw [HNX.out, HSH.out, q]; rfl, BZ⟩
    · have FC := final_cells N W.heap.size (w.heap.size + 1) (.int .i64 (k : Int)) (.int .i64 (sh + 1)) (.int .i64 (ti + fi)) (.int .i64 (tw + sh - (td + d))) (.bool true) (.bool true) _ _ _ _ _ hG1 hG2 d0' d1' d2' d3' d4'
      have BZ : Below w.heap.size w ((((((N.setCell ⟨W.heap.size, 4, none⟩ (.bool true)).setCell ⟨w.heap.size + 1, 0, none⟩ (.int .i64 (k : Int))).setCell ⟨w.heap.size + 1, 1, none⟩ (.int .i64 (sh + 1))).setCell ⟨w.heap.size + 1, 2, none⟩ (.int .i64 (ti + fi))).setCell ⟨w.heap.size + 1, 3, none⟩ (.int .i64 (tw + sh - (td + d)))).setCell ⟨w.heap.size + 1, 4, none⟩ (.bool true)) :=
        (((((hbN'.setCell (p := ⟨W.heap.size, 4, none⟩) hWs _).setCell (p := ⟨w.heap.size + 1, 0, none⟩) (Nat.le_succ _) _).setCell (p := ⟨w.heap.size + 1, 1, none⟩) (Nat.le_succ _) _).setCell (p := ⟨w.heap.size + 1, 2, none⟩) (Nat.le_succ _) _).setCell (p := ⟨w.heap.size + 1, 3, none⟩) (Nat.le_succ _) _).setCell (p := ⟨w.heap.size + 1, 4, none⟩) (Nat.le_succ _) _
      go_wp2_with fail
      generalize ((((((N.setCell ⟨W.heap.size, 4, none⟩ (.bool true)).setCell ⟨w.heap.size + 1, 0, none⟩ (.int .i64 (k : Int))).setCell ⟨w.heap.size + 1, 1, none⟩ (.int .i64 (sh + 1))).setCell ⟨w.heap.size + 1, 2, none⟩ (.int .i64 (ti + fi))).setCell ⟨w.heap.size + 1, 3, none⟩ (.int .i64 (tw + sh - (td + d)))).setCell ⟨w.heap.size + 1, 4, none⟩ (.bool true)) = Z at FC BZ ⊢
      obtain ⟨e0, e1, e2, e3, e4⟩ := FC
      refine bodyPost_ret (v := .tuple #[.agg #[.int .i64 k, .int .i64 (sh + 1), .int .i64 (ti + fi), .int .i64 (tw + sh - (td + d)), .bool true], .int .i64 sh]) ?_ rfl ?_
      · refine (results_cell_tmp Try.results126 _ _ _).trans ?_
        show (((loadVar 99 ⟨w.heap.size + 1, 0, none⟩).run Try.prog Z).andThen fun v w₂ => Result.ok (Value.tuple #[v, Value.int .i64 sh]) w₂) = _
        rw [load_tour Z _ _ _ _ _ _ e0 e1 e2 e3 e4]
        rfl
      · exact ⟨by rw [HNX.out, HSH.out]; rfl, BZ⟩
  · have hjL : j < L.length := by have := ok.rows; rw [rowsOf_len] at this; omega
    have hrl : L[j].2.length = l.length := by have := ok.row j hj; rwa [rowsOf_getD L j hjL] at this
    have hkr : k < L[j].2.length := by omega
    have hway := way_road (H := H) (L := L) (p := (j : Int)) rfl hjL hkr
    rw [hway] at wy1 wy2 HSH HNX
    obtain ⟨br, orr, rfl, hbr, cr, srow⟩ := h2.row_at hjL
    have mrow := srow.len
    have HRL := hd hrl
    clear hway hrl
    generalize L[j] = X at cr srow hkr wy1 wy2 HSH HNX mrow HRL
    obtain ⟨rv, rl⟩ := X
    dsimp only at cr srow hkr wy1 wy2 HSH HNX mrow HRL
    obtain ⟨Ar, cr', rfl⟩ := srow.slice
    obtain ⟨bq, oq, rfl, hbq, cq⟩ := srow.int_at hkr
    generalize rl[k] = d at cq wy1 wy2 HSH HNX
    go_enter Try.func126, Try.ntmps126
    unfold eTS
    go_wp2_with fail
    have F := next_facts w (j : Int) td ti tw tl
    generalize (w.alloc (.cells #[.int .i64 (j : Int), .int .i64 td, .int .i64 ti, .int .i64 tw, .bool tl] 99)).alloc (.cells #[.int .i64 0, .int .i64 0, .int .i64 0, .int .i64 0, .bool false] 99) = W0 at F hb ⊢
    obtain ⟨e0, e1, e2, e3, e4, g0, g1, g2, g3, g4, h0', h1', h2', h3', h4', z0', z1', B'⟩ := F
    have gp1 := gro_cell (B' _ _ hgs p1)
    have gcr := gro_cell (B' _ _ hbr cr)
    have gcq := gro_cell (B' _ _ hbq cq)
    have ge0 := gro_cell e0
    refine wp_region_calm (by kernel_rfl) (by kernel_rfl) ?_
    repeat (first | go_big_quiet_step (fail) | quiet_step (fail))
    refine wpQuiet_nil ?_
    rintro W ⟨x, hw⟩
    have F : W.cell? ⟨w.heap.size, 0, none⟩ = some (.int .i64 (j : Int)) ∧ W.cell? ⟨w.heap.size, 1, none⟩ = some (.int .i64 td) ∧ W.cell? ⟨w.heap.size, 2, none⟩ = some (.int .i64 ti) ∧ W.cell? ⟨w.heap.size, 3, none⟩ = some (.int .i64 tw) ∧ W.cell? ⟨w.heap.size, 4, none⟩ = some (.bool tl) ∧
        W.cell? ⟨w.heap.size + 1, 0, none⟩ = some (.int .i64 0) ∧ W.cell? ⟨w.heap.size + 1, 1, none⟩ = some (.int .i64 0) ∧ W.cell? ⟨w.heap.size + 1, 2, none⟩ = some (.int .i64 0) ∧ W.cell? ⟨w.heap.size + 1, 3, none⟩ = some (.int .i64 0) ∧ W.cell? ⟨w.heap.size + 1, 4, none⟩ = some (.bool false) ∧
        W.frozen? ⟨w.heap.size + 1, 0, none⟩ = false ∧ W.frozen? ⟨w.heap.size + 1, 1, none⟩ = false ∧ W.frozen? ⟨w.heap.size + 1, 2, none⟩ = false ∧ W.frozen? ⟨w.heap.size + 1, 3, none⟩ = false ∧ W.frozen? ⟨w.heap.size + 1, 4, none⟩ = false ∧
        w.heap.size < W.heap.size ∧ w.heap.size + 1 < W.heap.size ∧ ∀ (a : Addr) (u : Value), a.block < w.heap.size → w.cell? a = some u → W.cell? a = some u := by
      have gb := gro_below x
      rw [hw]
      exact ⟨gro_cell e0 x, gro_cell e1 x, gro_cell e2 x, gro_cell e3 x, gro_cell e4 x, gro_cell g0 x, gro_cell g1 x, gro_cell g2 x, gro_cell g3 x, gro_cell g4 x, (gb.frozen z1').trans h0', (gb.frozen z1').trans h1', (gb.frozen z1').trans h2', (gb.frozen z1').trans h3', (gb.frozen z1').trans h4', Nat.lt_of_lt_of_le z0' gb.size, Nat.lt_of_lt_of_le z1' gb.size, fun a u ha hu => gro_cell (B' a u ha hu) x⟩
    have hb' : Below w.heap.size w W := by rw [hw]; exact below_step hb (gro_below x)
    clear hb
    have hb := hb'
    have Q1 := F.1
    have Q2 := F.2.1
    have yy0 := F.2.2.2.2.2.2.2.2.2.2.2.2.2.2.2.2.2 _ _ hbl r0
    clear hb' hw e0 e1 e2 e3 e4 g0 g1 g2 g3 g4 h0' h1' h2' h3' h4' z0' z1' B' gp1 gcr gcq ge0 srow ch
    go_wp2_with fail
    refine (max_spec _ _ _).mono ?_
    rintro e w3 ⟨rfl, hw⟩
    have hw := hw.symm
    subst hw
    have hsh : 0 ≤ max (td + d) fa ∧ max (td + d) fa ≤ 100000000 := by omega
    generalize hsd : max (td + d) fa = sh at hsh HSH ⊢
    clear hsd
    obtain ⟨sh1, sh2⟩ := hsh
    clear Q1 Q2 yy0 cr cq
    obtain ⟨c0, c1', c2', c3, c4, d0, d1, d2, d3, d4, f0, f1, f2, f3, f4, z0, z1, B⟩ := F
    have y0 := B _ _ hbl r0
    have y1 := B _ _ hbl r1
    have y2 := B _ _ hbl r2
    have zbl : bl < W.heap.size := Nat.lt_trans hbl z0
    clear p0 p1 r0 r1 r2 B h h1 h2
    go_wp2_with fail
    go_region
    have M := region_facts W (.int .i64 k) (.int .i64 (sh + 1)) (.int .i64 (ti + fi)) (.int .i64 (tw + sh - (td + d))) (.bool false) 99
    have hbN := below_drewN (hb.alloc hb.size (.cells #[.int .i64 (k : Int), .int .i64 (sh + 1), .int .i64 (ti + fi), .int .i64 (tw + sh - (td + d)), .bool false] 99)) 1
    generalize (W.alloc (.cells #[.int .i64 (k : Int), .int .i64 (sh + 1), .int .i64 (ti + fi), .int .i64 (tw + sh - (td + d)), .bool false] 99)).drew = N at M ⊢
    generalize W.alloc (.cells #[.int .i64 (k : Int), .int .i64 (sh + 1), .int .i64 (ti + fi), .int .i64 (tw + sh - (td + d)), .bool false] 99) = N0 at hbN
    obtain ⟨n0, n1, n2, n3, n4, nf, NC, NF, NB⟩ := M
    have c4' := NC _ _ z0 c4
    have y1' := NC _ _ zbl y1
    have d0' := NC _ _ z1 d0
    have d1' := NC _ _ z1 d1
    have d2' := NC _ _ z1 d2
    have d3' := NC _ _ z1 d3
    have d4' := NC _ _ z1 d4
    have f0' := (NF ⟨w.heap.size + 1, 0, none⟩ z1).trans f0
    have f1' := (NF ⟨w.heap.size + 1, 1, none⟩ z1).trans f1
    have f2' := (NF ⟨w.heap.size + 1, 2, none⟩ z1).trans f2
    have f3' := (NF ⟨w.heap.size + 1, 3, none⟩ z1).trans f3
    have f4' := (NF ⟨w.heap.size + 1, 4, none⟩ z1).trans f4
    have hbN' := below_step hb (NB)
    have hWs := hb.size
    have hG1 : W.heap.size ≠ w.heap.size + 1 := by omega
    have hG2 : w.heap.size + 1 ≠ W.heap.size := by omega
    have hG3 : bl ≠ W.heap.size := by omega
    clear c0 c1' c2' c3 c4 d0 d1 d2 d3 d4 f0 f1 f2 f3 f4 y0 y1 y2 hbN NC NF NB zbl z0
    rcases tl with _ | _
    · rcases q : decide (fl < sh) with _ | _
      · have FC := final_cells N W.heap.size (w.heap.size + 1) (.int .i64 (k : Int)) (.int .i64 (sh + 1)) (.int .i64 (ti + fi)) (.int .i64 (tw + sh - (td + d))) (.bool false) (.bool false) _ _ _ _ _ hG1 hG2 d0' d1' d2' d3' d4'
        have BZ : Below w.heap.size w ((((((N.setCell ⟨W.heap.size, 4, none⟩ (.bool false)).setCell ⟨w.heap.size + 1, 0, none⟩ (.int .i64 (k : Int))).setCell ⟨w.heap.size + 1, 1, none⟩ (.int .i64 (sh + 1))).setCell ⟨w.heap.size + 1, 2, none⟩ (.int .i64 (ti + fi))).setCell ⟨w.heap.size + 1, 3, none⟩ (.int .i64 (tw + sh - (td + d)))).setCell ⟨w.heap.size + 1, 4, none⟩ (.bool false)) :=
          (((((hbN'.setCell (p := ⟨W.heap.size, 4, none⟩) hWs _).setCell (p := ⟨w.heap.size + 1, 0, none⟩) (Nat.le_succ _) _).setCell (p := ⟨w.heap.size + 1, 1, none⟩) (Nat.le_succ _) _).setCell (p := ⟨w.heap.size + 1, 2, none⟩) (Nat.le_succ _) _).setCell (p := ⟨w.heap.size + 1, 3, none⟩) (Nat.le_succ _) _).setCell (p := ⟨w.heap.size + 1, 4, none⟩) (Nat.le_succ _) _
        go_wp2_with fail
        generalize ((((((N.setCell ⟨W.heap.size, 4, none⟩ (.bool false)).setCell ⟨w.heap.size + 1, 0, none⟩ (.int .i64 (k : Int))).setCell ⟨w.heap.size + 1, 1, none⟩ (.int .i64 (sh + 1))).setCell ⟨w.heap.size + 1, 2, none⟩ (.int .i64 (ti + fi))).setCell ⟨w.heap.size + 1, 3, none⟩ (.int .i64 (tw + sh - (td + d)))).setCell ⟨w.heap.size + 1, 4, none⟩ (.bool false)) = Z at FC BZ ⊢
        obtain ⟨e0, e1, e2, e3, e4⟩ := FC
        refine bodyPost_ret (v := .tuple #[.agg #[.int .i64 k, .int .i64 (sh + 1), .int .i64 (ti + fi), .int .i64 (tw + sh - (td + d)), .bool false], .int .i64 sh]) ?_ rfl ?_
        · refine (results_cell_tmp Try.results126 _ _ _).trans ?_
          show (((loadVar 99 ⟨w.heap.size + 1, 0, none⟩).run Try.prog Z).andThen fun v w₂ => Result.ok (Value.tuple #[v, Value.int .i64 sh]) w₂) = _
          rw [load_tour Z _ _ _ _ _ _ e0 e1 e2 e3 e4]
          rfl
        · exact ⟨by rw [HNX.out, HSH.out, q]; rfl, BZ⟩
      · have FC := final_cells N W.heap.size (w.heap.size + 1) (.int .i64 (k : Int)) (.int .i64 (sh + 1)) (.int .i64 (ti + fi)) (.int .i64 (tw + sh - (td + d))) (.bool true) (.bool true) _ _ _ _ _ hG1 hG2 d0' d1' d2' d3' d4'
        have BZ : Below w.heap.size w ((((((N.setCell ⟨W.heap.size, 4, none⟩ (.bool true)).setCell ⟨w.heap.size + 1, 0, none⟩ (.int .i64 (k : Int))).setCell ⟨w.heap.size + 1, 1, none⟩ (.int .i64 (sh + 1))).setCell ⟨w.heap.size + 1, 2, none⟩ (.int .i64 (ti + fi))).setCell ⟨w.heap.size + 1, 3, none⟩ (.int .i64 (tw + sh - (td + d)))).setCell ⟨w.heap.size + 1, 4, none⟩ (.bool true)) :=
          (((((hbN'.setCell (p := ⟨W.heap.size, 4, none⟩) hWs _).setCell (p := ⟨w.heap.size + 1, 0, none⟩) (Nat.le_succ _) _).setCell (p := ⟨w.heap.size + 1, 1, none⟩) (Nat.le_succ _) _).setCell (p := ⟨w.heap.size + 1, 2, none⟩) (Nat.le_succ _) _).setCell (p := ⟨w.heap.size + 1, 3, none⟩) (Nat.le_succ _) _).setCell (p := ⟨w.heap.size + 1, 4, none⟩) (Nat.le_succ _) _
        go_wp2_with fail
        generalize ((((((N.setCell ⟨W.heap.size, 4, none⟩ (.bool true)).setCell ⟨w.heap.size + 1, 0, none⟩ (.int .i64 (k : Int))).setCell ⟨w.heap.size + 1, 1, none⟩ (.int .i64 (sh + 1))).setCell ⟨w.heap.size + 1, 2, none⟩ (.int .i64 (ti + fi))).setCell ⟨w.heap.size + 1, 3, none⟩ (.int .i64 (tw + sh - (td + d)))).setCell ⟨w.heap.size + 1, 4, none⟩ (.bool true)) = Z at FC BZ ⊢
        obtain ⟨e0, e1, e2, e3, e4⟩ := FC
        refine bodyPost_ret (v := .tuple #[.agg #[.int .i64 k, .int .i64 (sh + 1), .int .i64 (ti + fi), .int .i64 (tw + sh - (td + d)), .bool true], .int .i64 sh]) ?_ rfl ?_
        · refine (results_cell_tmp Try.results126 _ _ _).trans ?_
          show (((loadVar 99 ⟨w.heap.size + 1, 0, none⟩).run Try.prog Z).andThen fun v w₂ => Result.ok (Value.tuple #[v, Value.int .i64 sh]) w₂) = _
          rw [load_tour Z _ _ _ _ _ _ e0 e1 e2 e3 e4]
          rfl
        · exact ⟨by rw [HNX.out, HSH.out, q]; rfl, BZ⟩
    · have FC := final_cells N W.heap.size (w.heap.size + 1) (.int .i64 (k : Int)) (.int .i64 (sh + 1)) (.int .i64 (ti + fi)) (.int .i64 (tw + sh - (td + d))) (.bool true) (.bool true) _ _ _ _ _ hG1 hG2 d0' d1' d2' d3' d4'
      have BZ : Below w.heap.size w ((((((N.setCell ⟨W.heap.size, 4, none⟩ (.bool true)).setCell ⟨w.heap.size + 1, 0, none⟩ (.int .i64 (k : Int))).setCell ⟨w.heap.size + 1, 1, none⟩ (.int .i64 (sh + 1))).setCell ⟨w.heap.size + 1, 2, none⟩ (.int .i64 (ti + fi))).setCell ⟨w.heap.size + 1, 3, none⟩ (.int .i64 (tw + sh - (td + d)))).setCell ⟨w.heap.size + 1, 4, none⟩ (.bool true)) :=
        (((((hbN'.setCell (p := ⟨W.heap.size, 4, none⟩) hWs _).setCell (p := ⟨w.heap.size + 1, 0, none⟩) (Nat.le_succ _) _).setCell (p := ⟨w.heap.size + 1, 1, none⟩) (Nat.le_succ _) _).setCell (p := ⟨w.heap.size + 1, 2, none⟩) (Nat.le_succ _) _).setCell (p := ⟨w.heap.size + 1, 3, none⟩) (Nat.le_succ _) _).setCell (p := ⟨w.heap.size + 1, 4, none⟩) (Nat.le_succ _) _
      go_wp2_with fail
      generalize ((((((N.setCell ⟨W.heap.size, 4, none⟩ (.bool true)).setCell ⟨w.heap.size + 1, 0, none⟩ (.int .i64 (k : Int))).setCell ⟨w.heap.size + 1, 1, none⟩ (.int .i64 (sh + 1))).setCell ⟨w.heap.size + 1, 2, none⟩ (.int .i64 (ti + fi))).setCell ⟨w.heap.size + 1, 3, none⟩ (.int .i64 (tw + sh - (td + d)))).setCell ⟨w.heap.size + 1, 4, none⟩ (.bool true)) = Z at FC BZ ⊢
      obtain ⟨e0, e1, e2, e3, e4⟩ := FC
      refine bodyPost_ret (v := .tuple #[.agg #[.int .i64 k, .int .i64 (sh + 1), .int .i64 (ti + fi), .int .i64 (tw + sh - (td + d)), .bool true], .int .i64 sh]) ?_ rfl ?_
      · refine (results_cell_tmp Try.results126 _ _ _).trans ?_
        show (((loadVar 99 ⟨w.heap.size + 1, 0, none⟩).run Try.prog Z).andThen fun v w₂ => Result.ok (Value.tuple #[v, Value.int .i64 sh]) w₂) = _
        rw [load_tour Z _ _ _ _ _ _ e0 e1 e2 e3 e4]
        rfl
      · exact ⟨by rw [HNX.out, HSH.out]; rfl, BZ⟩
end Go.Proofs.Ytlgcehdklpbknaa
