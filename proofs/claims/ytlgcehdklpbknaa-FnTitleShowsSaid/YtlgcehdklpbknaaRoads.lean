/- Roads (the days from home, and from hall to hall): how they come in, and the laws' helpers on them: a copy, a comparison, marks. No condition but that the slices read. -/
import Derived.Test.YtlgcehdklpbknaaRowz
namespace Go.Proofs.Ytlgcehdklpbknaa
open Go Go.RowKit Go.ChangeShapes Go.WideShapes Go.Deep
set_option linter.unusedSimpArgs false
set_option linter.unusedVariables false

/-- What lay there reads and is held as before. -/
theorem cells_below {a b : World} (h : Below a.heap.size a b) : (∀ k j, k < a.heap.size → b.cell? ⟨k, j, none⟩ = a.cell? ⟨k, j, none⟩) ∧ (∀ k j, k < a.heap.size → b.frozen? ⟨k, j, none⟩ = a.frozen? ⟨k, j, none⟩) :=
  ⟨fun k j hk => h.cell (p := ⟨k, j, none⟩) hk, fun k j hk => h.frozen (p := ⟨k, j, none⟩) hk⟩
def inI64 (x : Int) : Prop := -9223372036854775808 ≤ x ∧ x ≤ 9223372036854775807
section
variable {H : Type} {enc : TypeId × Value → H} {w : World} {base : Nat} {spare : Nat → Bool} {held : Bool}
set_option maxRecDepth 100000 in
theorem trod_ints (n : Nat) (cs : List Value) (y : DataW H × List MemPlace) (h : DataW.trod enc Try.prog w base spare held n 25 cs = some y) : ∃ x : TRow, cs = eV x ∧ (Sl w 1 x.1 eI x.2 ∧ ∀ n ∈ x.2, inI64 n) := by
  have hv : ∃ v, cs = [v] := by
    rcases Go.Deep.open_slice Try.underlying25 h with ⟨hcs, _⟩ | ⟨a, len, cap, m, n', D, Pl, hcs, _⟩
    · exact ⟨_, hcs⟩
    · exact ⟨_, hcs⟩
  obtain ⟨v, rfl⟩ := hv
  obtain ⟨l, hl, hg⟩ := sl_of_trod (K := 1) (ec := eI) (good := inI64) Try.underlying25 (by kernel_rfl) (by omega) (fun n cs y hy => by
    obtain ⟨x, rfl, -, hw⟩ := DataW.trod_int Try.underlying2 hy
    exact ⟨x, rfl, i64_range hw⟩) h
  exact ⟨(v, l), rfl, hl, hg⟩
set_option maxRecDepth 100000 in
theorem trod_rows (n : Nat) (v : Value) (y : DataW H × List MemPlace) (h : DataW.trod enc Try.prog w base spare held n 26 [v] = some y) : ∃ L : List TRow, SlR w v L ∧ ∀ x ∈ L, ∀ n ∈ x.2, inI64 n := by
  obtain ⟨L, hL, hg⟩ := sl_of_trod (K := 1) (ec := eV) (good := fun x => Sl w 1 x.1 eI x.2 ∧ ∀ n ∈ x.2, inI64 n) Try.underlying26 (by kernel_rfl) (by omega) trod_ints h
  exact ⟨L, ⟨hL, fun x hx => (hg x hx).1⟩, fun x hx => (hg x hx).2⟩
set_option maxRecDepth 100000 in
theorem agg_of_Roads {r : Reach} {b0 : Nat} {v : Value} {d : DataW H} {p : List MemPlace} (hv : Value.okWide Try.prog w r b0 40 v) (h : DataW.Trod enc Try.prog w base spare held 40 v d p) :
    ∃ (v1 v2 : Value) (l : List Int) (L : List TRow), v = .agg #[v1, v2] ∧ (Sl w 1 v1 eI l ∧ ∀ x ∈ l, inI64 x) ∧ SlR w v2 L ∧ ∀ x ∈ L, ∀ n ∈ x.2, inI64 n := by
  obtain ⟨cs, rfl, -⟩ := okWide_struct Try.underlying40 hv
  obtain ⟨fuel, hf⟩ := h
  obtain ⟨hlen, hf'⟩ := struct_cells Try.underlying40 (by kernel_rfl) (by kernel_rfl) hf
  obtain ⟨v0, n0, y0, hv0, ht0⟩ := hf' 0 _ rfl
  obtain ⟨v1, n1, y1, hv1, ht1⟩ := hf' 1 _ rfl
  obtain ⟨x0, e0, s0, g0⟩ := trod_ints _ _ _ ht0
  simp only [eV, List.cons.injEq, and_true] at e0
  subst e0
  obtain ⟨L, sL, gL⟩ := trod_rows _ _ _ ht1
  refine ⟨x0.1, v1, x0.2, L, ?_, ⟨s0, g0⟩, sL, gL⟩
  have hsz : cs.toList.length = 2 := by simpa [Value.cells] using hlen
  have e : cs.toList = [x0.1, v1] := by
    simp only [Value.cells] at hv0 hv1
    match hcs : cs.toList, hsz with
    | [c0, c1], _ =>
      rw [hcs] at hv0 hv1
      simp at hv0 hv1
      rw [hv0, hv1]
  rw [← e]
end

theorem free_at {w : World} {b : Nat} {cs : Array Value} {t : TypeId} (h : w.heap[b]? = some (.cells cs t (0, 0))) (o : Nat) : w.frozen? ⟨b, o, none⟩ = false := by simp [World.frozen?, h]
theorem Own.above {α : Type} {w w' : World} {B N : Nat} {E : TypeId} {k : Nat} {v : Value} {enc : α → List Value} {l : List α} (h : Own w B E k v enc l) (hN : N ≤ B) (hk : ∀ k, N ≤ k → w'.heap[k]? = w.heap[k]?) : Own w' B E k v enc l := by
  refine ⟨h.1, ?_⟩
  rcases h.2 with hz | ⟨g, cap, cur, hv, hbg, hg, rest⟩
  · exact .inl hz
  · exact .inr ⟨g, cap, cur, hv, hbg, (hk g (by omega)).trans hg, rest⟩
/-- The call returns roads of its own that read so; what was there stands. -/
def OwnRd (w : World) (B : Nat) (u1 u2 : Value) (l : List Int) (M : List TRow) : Prop := Own w B 2 1 u1 eI l ∧ OwnR w B u2 M ∧ ∀ b ∈ blocksR u2 M, apart u1.ownBlock b
def blocksRd (u1 u2 : Value) (M : List TRow) : List (Option Nat) := u1.ownBlock :: blocksR u2 M
theorem OwnRd.base {w : World} {B B' : Nat} {u1 u2 : Value} {l : List Int} {M : List TRow} (h : OwnRd w B u1 u2 l M) (hB : B' ≤ B) : OwnRd w B' u1 u2 l M := ⟨h.1.base hB, h.2.1.base hB, h.2.2⟩
theorem OwnRd.below {w w' : World} {B C : Nat} {u1 u2 : Value} {l : List Int} {M : List TRow} (h : OwnRd w B u1 u2 l M) (hb : Below C w w') (hC : w.heap.size ≤ C) : OwnRd w' B u1 u2 l M := ⟨h.1.below hb hC, h.2.1.below hb hC, h.2.2⟩
theorem OwnRd.alloc {w : World} {B : Nat} {u1 u2 : Value} {l : List Int} {M : List TRow} (h : OwnRd w B u1 u2 l M) (o : Obj) : OwnRd (w.alloc o) B u1 u2 l M := ⟨h.1.alloc o, h.2.1.alloc o, h.2.2⟩
theorem OwnRd.drewN {w : World} {B : Nat} {u1 u2 : Value} {l : List Int} {M : List TRow} (h : OwnRd w B u1 u2 l M) (n : Nat) : OwnRd (w.drewN n) B u1 u2 l M := ⟨h.1.drewN n, h.2.1.drewN n, h.2.2⟩
theorem OwnRd.drew {w : World} {B : Nat} {u1 u2 : Value} {l : List Int} {M : List TRow} (h : OwnRd w B u1 u2 l M) : OwnRd w.drew B u1 u2 l M := ⟨h.1.drew, h.2.1.drew, h.2.2⟩
theorem OwnRd.lt {w : World} {B : Nat} {u1 u2 : Value} {l : List Int} {M : List TRow} (h : OwnRd w B u1 u2 l M) : ∀ b ∈ blocksRd u1 u2 M, ∀ g, b = some g → B ≤ g ∧ g < w.heap.size := by
  intro b hb g hg
  rcases List.mem_cons.1 hb with rfl | hb
  · exact h.1.lt g hg
  · exact h.2.1.lt b hb g hg
theorem OwnRd.touched {w w' : World} {B : Nat} {u1 u2 : Value} {l : List Int} {M : List TRow} {bs : List (Option Nat)} (h : OwnRd w B u1 u2 l M) (ht : TouchL w w' bs) (hn : ∀ a ∈ blocksRd u1 u2 M, ∀ b ∈ bs, apart a b) : OwnRd w' B u1 u2 l M :=
  ⟨h.1.touched ht (hn _ (by simp [blocksRd])), h.2.1.touched ht (fun a ha => hn a (by simp [blocksRd, ha])), h.2.2⟩
def GivesRoads (w : World) (l : List Int) (R : List (List Int)) (e : Ending) (w' : World) : Prop :=
  ∃ u1 u2 M, e = .returned (.agg #[u1, u2]) ∧ rowsOf M = R ∧ OwnRd w' w.heap.size u1 u2 l M ∧ Below w.heap.size w w'
theorem Own.ltL {α : Type} {w : World} {B : Nat} {E : TypeId} {k : Nat} {v : Value} {enc : α → List Value} {l : List α} (h : Own w B E k v enc l) : ∀ b ∈ [v.ownBlock], ∀ g, b = some g → B ≤ g ∧ g < w.heap.size := by
  intro b hb g hg
  simp only [List.mem_singleton] at hb
  subst hb
  exact h.lt g hg
/-- a struct of two values in a block of the call's own -/
def boxE (a b : Value) : Unit → List Value := fun _ => [a, b]
theorem own_box (w : World) (a b : Value) (T : TypeId) : Own (w.alloc (.cells #[a, b] T)) w.heap.size T 2 (.slice (some ⟨w.heap.size, 0, none⟩) 1 1) (boxE a b) [()] :=
  ⟨rfl, .inr ⟨w.heap.size, 1, #[a, b], rfl, Nat.le_refl _, heap_alloc_new w _, Nat.le_refl _, by decide, rfl, rfl⟩⟩
theorem Own.box0 {w : World} {B G : Nat} {T : TypeId} {a b : Value} (h : Own w B T 2 (.slice (some ⟨G, 0, none⟩) 1 1) (boxE a b) [()]) : w.cell? ⟨G, 0, none⟩ = some a := by
  have := World.ownsRow.cellAt h 0 (by decide)
  simpa [boxE] using this
theorem Own.box1 {w : World} {B G : Nat} {T : TypeId} {a b : Value} (h : Own w B T 2 (.slice (some ⟨G, 0, none⟩) 1 1) (boxE a b) [()]) : w.cell? ⟨G, 1, none⟩ = some b := by
  have := World.ownsRow.cellAt h 1 (by decide)
  simpa [boxE] using this
theorem apart_new {bs cs : List (Option Nat)} {B N M : Nat} (h1 : ∀ b ∈ bs, ∀ g, b = some g → B ≤ g ∧ g < N) (h2 : ∀ b ∈ cs, ∀ g, b = some g → N ≤ g ∧ g < M) : ∀ a ∈ bs, ∀ b ∈ cs, apart a b :=
  apart_of_lt (N := N) (fun b hb g hg => (h1 b hb g hg).2) (fun b hb g hg => (h2 b hb g hg).1)
theorem sumLen_of {L M : List TRow} (h : rowsOf L = rowsOf M) : sumLen L = sumLen M := by
  have e : ∀ L : List TRow, sumLen L = ((rowsOf L).map List.length).sum := by
    intro L
    unfold sumLen rowsOf
    rw [List.map_map]
    rfl
  rw [e, e, h]

set_option maxRecDepth 100000 in
set_option maxHeartbeats 1000000 in
theorem toRoads (w : World) (v1 v2 : Value) (l : List Int) (L : List TRow) (h1 : Sl w 1 v1 eI l) (h2 : SlR w v2 L) (hl : l.length ≤ 1048576) (hl2 : L.length ≤ 1048576) (hr : ∀ x ∈ L, x.2.length ≤ 1048576) :
    Calls Try.prog 22 #[.agg #[v1, v2]] w (GivesRoads w l (rowsOf L)) := by
  obtain ⟨A1, k1, rfl⟩ := h1.slice
  obtain ⟨A2, k2, rfl⟩ := h2.1.slice
  have HR := hd hr
  clear hr
  obtain ⟨W0, hW⟩ : ∃ W0, W0 = ((w.alloc (.cells #[.slice A1 l.length k1, .slice A2 L.length k2] 40)).alloc (.cells #[.slice none 0 0, .slice none 0 0] 28)).alloc (.cells #[.slice none 0 0, .slice none 0 0] 28) := ⟨_, rfl⟩
  have hb00 : Below w.heap.size w W0 := by rw [hW]; exact (((Below.refl w.heap.size w).alloc (Nat.le_refl _) _).alloc (by simp) _).alloc (by simp; omega) _
  have hsz : W0.heap.size = w.heap.size + 3 := by rw [hW]; simp
  have g0 : W0.heap[w.heap.size]? = some (.cells #[.slice A1 l.length k1, .slice A2 L.length k2] 40 (0, 0)) := by
    rw [hW]
    have e1 := ((Below.refl (w.heap.size + 1) (w.alloc (.cells #[.slice A1 l.length k1, .slice A2 L.length k2] 40))).alloc (by simp) (.cells #[.slice none 0 0, .slice none 0 0] 28)).block w.heap.size (by omega)
    have e2 := ((Below.refl (w.heap.size + 2) ((w.alloc (.cells #[.slice A1 l.length k1, .slice A2 L.length k2] 40)).alloc (.cells #[.slice none 0 0, .slice none 0 0] 28))).alloc (by simp) (.cells #[.slice none 0 0, .slice none 0 0] 28)).block w.heap.size (by omega)
    exact e2.trans (e1.trans (heap_alloc_new w (.cells #[.slice A1 l.length k1, .slice A2 L.length k2] 40)))
  have g1 : W0.heap[w.heap.size + 1]? = some (.cells #[.slice none 0 0, .slice none 0 0] 28 (0, 0)) := by
    rw [hW]
    have e2 := ((Below.refl (w.heap.size + 2) ((w.alloc (.cells #[.slice A1 l.length k1, .slice A2 L.length k2] 40)).alloc (.cells #[.slice none 0 0, .slice none 0 0] 28))).alloc (by simp) (.cells #[.slice none 0 0, .slice none 0 0] 28)).block (w.heap.size + 1) (by omega)
    have e3 := heap_alloc_new (w.alloc (.cells #[.slice A1 l.length k1, .slice A2 L.length k2] 40)) (.cells #[.slice none 0 0, .slice none 0 0] 28)
    rw [show (w.alloc (.cells #[.slice A1 l.length k1, .slice A2 L.length k2] 40)).heap.size = w.heap.size + 1 from by simp] at e3
    exact e2.trans e3
  have g2 : W0.heap[w.heap.size + 2]? = some (.cells #[.slice none 0 0, .slice none 0 0] 28 (0, 0)) := by
    rw [hW]
    have e3 := heap_alloc_new ((w.alloc (.cells #[.slice A1 l.length k1, .slice A2 L.length k2] 40)).alloc (.cells #[.slice none 0 0, .slice none 0 0] 28)) (.cells #[.slice none 0 0, .slice none 0 0] 28)
    rw [show ((w.alloc (.cells #[.slice A1 l.length k1, .slice A2 L.length k2] 40)).alloc (.cells #[.slice none 0 0, .slice none 0 0] 28)).heap.size = w.heap.size + 2 from by simp] at e3
    exact e3
  have HW := hd hW
  have z0 : w.heap.size < W0.heap.size := by omega
  have z1 : w.heap.size + 1 < W0.heap.size := by omega
  have z2 : w.heap.size + 2 < W0.heap.size := by omega
  clear hW hsz
  have s1 := h1.below hb00
  go_enter Try.func22, Try.ntmps22
  go_wp2_with fail
  rw [← HW.out]
  refine (toInts _ _ _ s1 hl).mono ?_
  rintro e w1 ⟨u1, rfl, O1, hb1⟩
  obtain ⟨A3, k3, rfl⟩ := O1.slice
  have d0 := (hb1.block _ z0).trans g0
  have d1 := (hb1.block _ z1).trans g1
  have d2 := (hb1.block _ z2).trans g2
  have B1 : Below w.heap.size w w1 := below_step hb00 hb1
  have BA := B1.setCell (p := ⟨w.heap.size + 2, 0, none⟩) (by simp) (.slice A3 l.length k3)
  have OA : Own (w1.setCell ⟨w.heap.size + 2, 0, none⟩ (.slice A3 l.length k3)) _ 2 1 (.slice A3 l.length k3) eI l := ownsRow_setCell_below O1 (a := ⟨w.heap.size + 2, 0, none⟩) z2 _
  have z1' : W0.heap.size ≤ w1.heap.size := hb1.size
  have HO1 := hd O1.lt
  have p1 := cell_of_row w1 w.heap.size 1 _ _ (0, 0) d0
  have q0 := cell_of_row w1 (w.heap.size + 2) 0 _ _ (0, 0) d2
  have f0 : w1.frozen? ⟨w.heap.size + 2, 0, none⟩ = false := free_at d2 0
  clear O1 hb1 s1 g0 g1 g2
  go_wp2_with fail
  refine (toRows _ _ _ (h2.below BA) hl2 HR.out).mono ?_
  rintro e w2 ⟨u2, M, rfl, hM, O2, hb2⟩
  obtain ⟨A4, k4, rfl⟩ := O2.1.slice
  have HM := hd hM
  clear hM
  have y1 : w.heap.size + 1 < (w1.setCell ⟨w.heap.size + 2, 0, none⟩ (.slice A3 l.length k3)).heap.size := by simp; omega
  have y2 : w.heap.size + 2 < (w1.setCell ⟨w.heap.size + 2, 0, none⟩ (.slice A3 l.length k3)).heap.size := by simp; omega
  have c20 : w2.cell? ⟨w.heap.size + 2, 0, none⟩ = some (.slice A3 l.length k3) := (hb2.cell (p := ⟨w.heap.size + 2, 0, none⟩) y2).trans (by go_simp)
  have c21 : w2.cell? ⟨w.heap.size + 2, 1, none⟩ = some (.slice none 0 0) := (hb2.cell (p := ⟨w.heap.size + 2, 1, none⟩) y2).trans (by have := cell_of_row w1 (w.heap.size + 2) 1 _ _ (0, 0) d2; go_simp)
  have f21 : w2.frozen? ⟨w.heap.size + 2, 1, none⟩ = false := (hb2.frozen (p := ⟨w.heap.size + 2, 1, none⟩) y2).trans (by have := free_at d2 1; go_simp)
  have c10 : w2.cell? ⟨w.heap.size + 1, 0, none⟩ = some (.slice none 0 0) := (hb2.cell (p := ⟨w.heap.size + 1, 0, none⟩) y1).trans (by have := cell_of_row w1 (w.heap.size + 1) 0 _ _ (0, 0) d1; go_simp)
  have c11 : w2.cell? ⟨w.heap.size + 1, 1, none⟩ = some (.slice none 0 0) := (hb2.cell (p := ⟨w.heap.size + 1, 1, none⟩) y1).trans (by have := cell_of_row w1 (w.heap.size + 1) 1 _ _ (0, 0) d1; go_simp)
  have f10 : w2.frozen? ⟨w.heap.size + 1, 0, none⟩ = false := (hb2.frozen (p := ⟨w.heap.size + 1, 0, none⟩) y1).trans (by have := free_at d1 0; go_simp)
  have f11 : w2.frozen? ⟨w.heap.size + 1, 1, none⟩ = false := (hb2.frozen (p := ⟨w.heap.size + 1, 1, none⟩) y1).trans (by have := free_at d1 1; go_simp)
  have B2 : Below w.heap.size w w2 := below_step BA hb2
  have OA2 := OA.below hb2 (Nat.le_refl _)
  have HA := hd (show ∀ b ∈ blocksR (.slice A4 M.length k4) M, apart (Value.slice A3 l.length k3).ownBlock b from fun b hb => apart_of_lt (bs := [(Value.slice A3 l.length k3).ownBlock]) (cs := blocksR (.slice A4 M.length k4) M) (N := (w1.setCell ⟨w.heap.size + 2, 0, none⟩ (.slice A3 l.length k3)).heap.size) (fun b hb g hg => by simp only [List.mem_singleton] at hb; subst hb; have := (HO1.out g hg).2; simpa using this) (fun b hb g hg => (O2.lt b hb g hg).1) _ (by simp) b hb)
  have hz0 : w.heap.size + 3 ≤ W0.heap.size := z2
  have hz1 : w.heap.size + 3 ≤ (w1.setCell ⟨w.heap.size + 2, 0, none⟩ (.slice A3 l.length k3)).heap.size := y2
  have HE := hd (fun (w3 : World) (hs : w3.heap.size = w2.heap.size) (hk : ∀ k, w.heap.size + 3 ≤ k → w3.heap[k]? = w2.heap[k]?) => (show OwnRd w3 w.heap.size (.slice A3 l.length k3) (.slice A4 M.length k4) l M from
    ⟨(OA2.above (by omega) hk).base (by omega), ⟨(O2.1.above (by omega) hk).base (by omega), fun x hx => ((O2.2.1 x hx).above (by omega) hk).base (by omega), O2.2.2⟩, HA.out⟩))
  clear O2 hb2 OA OA2 y1 y2 d0 d1 d2 HO1 hz0 hz1
  go_wp2
  refine bodyPost_ret (v := .agg #[.slice A3 l.length k3, .slice A4 M.length k4]) (by simp [results, Try.results22, go_sem, c10, c11, c20, c21, f10, f11, f21]) rfl ?_
  refine ⟨_, _, M, rfl, HM.out, HE.out _ (by simp) (fun k hk => ?_), ?_⟩
  · rw [Below.heap_setCell, Below.heap_setCell, Below.heap_setCell]
    all_goals (simp only [ne_eq]; omega)
  · exact ((B2.setCell (p := ⟨w.heap.size + 2, 1, none⟩) (by simp) _).setCell (p := ⟨w.heap.size + 1, 0, none⟩) (by simp) _).setCell (p := ⟨w.heap.size + 1, 1, none⟩) (by simp) _

set_option maxHeartbeats 1000000 in
theorem eqRoads (w : World) (u1 u2 t1 t2 : Value) (l m : List Int) (L M : List TRow) (h1 : Sl w 1 u1 eI l) (h2 : SlR w u2 L) (k1 : Sl w 1 t1 eI m) (k2 : SlR w t2 M) :
    Calls Try.prog 23 #[.agg #[u1, u2], .agg #[t1, t2]] w fun e w' => e = .returned (.bool (decide (l = m) && decide (rowsOf L = rowsOf M))) ∧ Below w.heap.size w w' := by
  obtain ⟨A1, c1, rfl⟩ := h1.slice
  obtain ⟨A2, c2, rfl⟩ := h2.1.slice
  obtain ⟨A3, c3, rfl⟩ := k1.slice
  obtain ⟨A4, c4, rfl⟩ := k2.1.slice
  obtain ⟨W, hW⟩ : ∃ W, W = (w.alloc (.cells #[(.slice A1 l.length c1), (.slice A2 L.length c2)] 28)).alloc (.cells #[(.slice A3 m.length c3), (.slice A4 M.length c4)] 28) := ⟨_, rfl⟩
  have hb : Below w.heap.size w W := by rw [hW]; exact ((Below.refl w.heap.size w).alloc (Nat.le_refl _) _).alloc (by simp) _
  have a0 : W.cell? ⟨w.heap.size, 0, none⟩ = some (.slice A1 l.length c1) := by rw [hW]; exact (((Below.refl _ _).alloc (Nat.le_refl _) _).cell (p := ⟨w.heap.size, 0, none⟩) (by simp)).trans (new_cell w _ _ 0 _ rfl)
  have a1 : W.cell? ⟨w.heap.size, 1, none⟩ = some (.slice A2 L.length c2) := by rw [hW]; exact (((Below.refl _ _).alloc (Nat.le_refl _) _).cell (p := ⟨w.heap.size, 1, none⟩) (by simp)).trans (new_cell w _ _ 1 _ rfl)
  have b0 : W.cell? ⟨w.heap.size + 1, 0, none⟩ = some (.slice A3 m.length c3) := by rw [hW]; first | (simp; done) | (have := new_cell (w.alloc (.cells #[(.slice A1 l.length c1), (.slice A2 L.length c2)] 28)) #[(.slice A3 m.length c3), (.slice A4 M.length c4)] 28 0 _ rfl; simpa using this)
  have b1 : W.cell? ⟨w.heap.size + 1, 1, none⟩ = some (.slice A4 M.length c4) := by rw [hW]; first | (simp; done) | (have := new_cell (w.alloc (.cells #[(.slice A1 l.length c1), (.slice A2 L.length c2)] 28)) #[(.slice A3 m.length c3), (.slice A4 M.length c4)] 28 1 _ rfl; simpa using this)
  have HW := hd hW
  clear hW
  by_cases q1 : l = m
  case neg =>
    have HN := hd (show (decide (l = m) && decide (rowsOf L = rowsOf M)) = false by simp [q1])
    have hq : decide (l = m) = false := by simp [q1]
    clear q1
    go_enter Try.func23, Try.ntmps23
    go_wp2_with fail
    rw [← HW.out]
    refine (eqInts _ _ _ _ _ (h1.below hb) (k1.below hb)).mono ?_
    rintro e w1 ⟨rfl, n1, hw⟩
    have hb1 : Below w.heap.size w w1 := by rw [hw]; exact below_drewN hb n1
    clear hw
    rw [hq]
    go_wp2_with fail
    go_ret
    exact ⟨by rw [HN.out]; rfl, hb1⟩
  have HY := hd (show (decide (l = m) && decide (rowsOf L = rowsOf M)) = decide (rowsOf L = rowsOf M) by simp [q1])
  have HQ := hd (decide_eq_true q1)
  clear q1
  go_enter Try.func23, Try.ntmps23
  go_wp2_with fail
  rw [← HW.out]
  refine (eqInts _ _ _ _ _ (h1.below hb) (k1.below hb)).mono ?_
  rintro e w1 ⟨rfl, n1, hw⟩
  have hb1 : Below w.heap.size w w1 := by rw [hw]; exact below_drewN hb n1
  have a1' : w1.cell? ⟨w.heap.size, 1, none⟩ = some (.slice A2 L.length c2) := by rw [hw]; exact a1
  have b1' : w1.cell? ⟨w.heap.size + 1, 1, none⟩ = some (.slice A4 M.length c4) := by rw [hw]; exact b1
  clear hw a0 a1 b0 b1
  rw [HQ.out]
  go_wp2_with fail
  refine (eqRows _ _ _ _ _ (h2.below hb1) (k2.below hb1)).mono ?_
  rintro e w2 ⟨rfl, hb2⟩
  have hb3 := below_step hb1 hb2
  rcases q2 : decide (rowsOf L = rowsOf M) with _ | _
  all_goals
    go_wp2_with fail
    go_ret
    exact ⟨by rw [HY.out, q2]; rfl, hb3⟩

theorem eqRoads_same (w : World) (u1 u2 t1 t2 : Value) (l : List Int) (L M : List TRow) (h1 : Sl w 1 u1 eI l) (h2 : SlR w u2 L) (k1 : Sl w 1 t1 eI l) (k2 : SlR w t2 M) (hR : rowsOf L = rowsOf M) :
    Calls Try.prog 23 #[.agg #[u1, u2], .agg #[t1, t2]] w fun e w' => e = .returned (.bool true) ∧ Below w.heap.size w w' := by
  have := eqRoads w u1 u2 t1 t2 l l L M h1 h2 k1 k2
  rw [decide_eq_true rfl, decide_eq_true hR] at this
  exact this
set_option maxHeartbeats 1000000 in
theorem markRoads (w : World) (B : Nat) (u1 u2 : Value) (l : List Int) (L : List TRow) (h : OwnRd w B u1 u2 l L) (k : Int) (h0 : 0 ≤ k) (hk : k + (l.length : Int) + (sumLen L : Int) ≤ 4611686018427387904) :
    Calls Try.prog 24 #[.agg #[u1, u2], .int .i64 k] w fun e w' => e = .returned (.int .i64 (k + (l.length : Int) + (sumLen L : Int))) ∧ OwnRd w' B u1 u2 (marks k l.length) (marksRows (k + (l.length : Int)) L) ∧ TouchL w w' (blocksRd u1 u2 L) := by
  obtain ⟨h1, h2, h3⟩ := h
  obtain ⟨A1, c1, rfl⟩ := h1.slice
  obtain ⟨A2, c2, rfl⟩ := h2.1.slice
  have H3 := hd h3
  clear h3
  have O1 := h1.alloc (.cells #[(Value.slice A1 l.length c1), (Value.slice A2 L.length c2)] 28)
  have O2 := h2.alloc (.cells #[(Value.slice A1 l.length c1), (Value.slice A2 L.length c2)] 28)
  have hT0 : TouchL w (w.alloc (.cells #[(Value.slice A1 l.length c1), (Value.slice A2 L.length c2)] 28)) [] := (TouchL.of_grown (World.grownBy_alloc w (.cells #[(Value.slice A1 l.length c1), (Value.slice A2 L.length c2)] 28) none)).trans (TouchL.refl _ []) |> fun t => ⟨t.os, t.tape, t.output, t.size, fun k hk _ => t.block k hk (by simp)⟩
  have p1 := new_cell w #[(Value.slice A1 l.length c1), (Value.slice A2 L.length c2)] 28 1 _ rfl
  have hlt : ∀ b ∈ [(Value.slice A1 l.length c1).ownBlock], b ≠ some w.heap.size := by
    intro b hb e
    simp only [List.mem_singleton] at hb
    subst hb
    have := (h1.lt _ e).2
    omega
  have HLT := hd hlt
  clear h1 h2 hlt
  go_enter Try.func24, Try.ntmps24
  go_wp2_with fail
  refine (markInts _ _ _ _ _ O1 _ (by omega) (by omega)).mono ?_
  rintro e w1 ⟨rfl, P1, hg1⟩
  have hT1 := TouchL.of_grown hg1
  have p1' : w1.cell? ⟨w.heap.size, 1, none⟩ = some (Value.slice A2 L.length c2) := hg1.cell p1 (fun e => HLT.out _ (by simp) e.symm)
  have P2 := O2.touched hT1 (by intro a ha b hb; simp only [List.mem_singleton] at hb; subst hb; exact apart_symm (H3.out a ha))
  clear O1 O2 hg1 p1
  go_wp2_with fail
  refine (markRows _ _ _ _ P2 _ (by omega) (by omega)).mono ?_
  rintro e w2 ⟨rfl, Q2, hT2⟩
  have Q1 := P1.touched hT2 (by intro b hb; exact H3.out b (by simp only [blocksR, List.mem_cons]; exact .inr hb))
  have hT := ((hT0.trans hT1).trans hT2).mono (cs := blocksRd (Value.slice A1 l.length c1) (Value.slice A2 L.length c2) L) (by intro x hx; simp only [List.nil_append, List.mem_append, List.mem_singleton] at hx; simp only [blocksRd, blocksR, List.mem_cons]; rcases hx with hx | hx; exact .inl hx; exact .inr (.inr hx))
  have HA : Hid (∀ b ∈ blocksR (Value.slice A2 L.length c2) (marksRows (k + (l.length : Int)) L), apart (Value.slice A1 l.length c1).ownBlock b) := hd (by rw [blocks_marks]; exact H3.out)
  clear P1 P2 hT1 hT2 hT0
  go_wp2_with fail
  go_ret
  exact ⟨rfl, ⟨Q1, Q2, HA.out⟩, hT⟩

set_option maxHeartbeats 1000000 in
theorem heldRoads (w : World) (u1 u2 : Value) (k : Int) (n : Nat) (L : List TRow) (h1 : Sl w 1 u1 eI (marks k n)) (h2 : SlR w u2 (marksRows (k + (n : Int)) L)) (h0 : 0 ≤ k) (hk : k + (n : Int) + (sumLen L : Int) ≤ 4611686018427387904) :
    Calls Try.prog 25 #[.agg #[u1, u2], .int .i64 k] w fun e w' => e = .returned (.int .i64 (k + (n : Int) + (sumLen L : Int))) ∧ Below w.heap.size w w' := by
  obtain ⟨A1, c1, rfl⟩ := h1.slice
  obtain ⟨A2, c2, rfl⟩ := h2.1.slice
  have s1 := h1.alloc (.cells #[.slice A1 (marks k n).length c1, .slice A2 (marksRows (k + (n : Int)) L).length c2] 28)
  have s2 := h2.alloc (.cells #[.slice A1 (marks k n).length c1, .slice A2 (marksRows (k + (n : Int)) L).length c2] 28)
  have hb := (Below.refl w.heap.size w).alloc (Nat.le_refl _) (.cells #[.slice A1 (marks k n).length c1, .slice A2 (marksRows (k + (n : Int)) L).length c2] 28)
  clear h1 h2
  go_enter Try.func25, Try.ntmps25
  go_wp2_with fail
  refine (heldInts _ _ _ _ s1 (by omega) (by omega)).mono ?_
  rintro e w1 ⟨rfl, rfl⟩
  have hp : 0 ≤ k + (n : Int) := by omega
  go_wp2_with fail
  refine (heldRows _ _ _ _ s2 (by omega) (by omega)).mono ?_
  rintro e w2 ⟨rfl, rfl⟩
  have hp2 : 0 ≤ k + (n : Int) + (sumLen L : Int) := by omega
  go_wp2_with fail
  go_ret
  exact ⟨rfl, hb⟩
def totRd (l : List Int) (L : List TRow) : Nat := l.length + totR L
theorem totRd_bd {l : List Int} {L : List TRow} {n : Nat} (h : totRd l L ≤ n) : l.length ≤ n ∧ L.length ≤ n ∧ l.length + sumLen L ≤ n ∧ ∀ x ∈ L, x.2.length ≤ n := by
  unfold totRd totR at h
  refine ⟨by omega, by omega, by omega, fun x hx => ?_⟩
  have : x.2.length ≤ sumLen L := by
    unfold sumLen
    clear h
    induction L with
    | nil => simp at hx
    | cons y L ih =>
      rcases List.mem_cons.1 hx with rfl | hx
      · simp
      · have := ih hx
        simp only [List.map_cons, List.sum_cons]
        omega
  omega
set_option maxHeartbeats 1000000 in
theorem szRoads_yes (w : World) (v1 v2 : Value) (l : List Int) (L : List TRow) (h1 : Sl w 1 v1 eI l) (h2 : SlR w v2 L) (left : Int) (h0 : 0 ≤ left) (hl : left ≤ 1048576) (hle : (totRd l L : Int) ≤ left) :
    Calls Try.prog 21 #[.agg #[v1, v2], .int .i64 left] w fun e w' => e = .returned (.int .i64 (left - (totRd l L : Int))) ∧ Below w.heap.size w w' := by
  obtain ⟨A1, c1, rfl⟩ := h1.slice
  obtain ⟨A2, c2, rfl⟩ := h2.1.slice
  have s1 := h1.alloc (.cells #[.slice A1 l.length c1, .slice A2 L.length c2] 40)
  have s2 := h2.alloc (.cells #[.slice A1 l.length c1, .slice A2 L.length c2] 40)
  have hb := (Below.refl w.heap.size w).alloc (Nat.le_refl _) (.cells #[.slice A1 l.length c1, .slice A2 L.length c2] 40)
  have e0 : (totRd l L : Int) = (l.length : Int) + (totR L : Int) := by simp [totRd]
  have H1 := hd (szI_yes (n := (l.length : Int)) (left := left) (by omega))
  have H2 := hd (show szRow L (left - (l.length : Int)) = left - (totRd l L : Int) by unfold szRow; rw [if_pos (by omega)]; omega)
  have hp1 : 0 ≤ left - (l.length : Int) := by omega
  have hp2 : 0 ≤ left - (totRd l L : Int) := by omega
  have HE := hd e0
  clear h1 h2 e0
  go_enter Try.func21, Try.ntmps21
  go_wp2_with fail
  refine (szInts _ _ _ s1 _ (by omega) (by omega)).mono ?_
  rintro e w1 ⟨rfl, rfl⟩
  rw [H1.out]
  go_wp2_with fail
  refine (szRows _ _ _ s2 _ (by omega) (by omega)).mono ?_
  rintro e w2 ⟨rfl, rfl⟩
  rw [H2.out]
  go_wp2_with fail
  go_ret
  exact ⟨rfl, hb⟩
set_option maxHeartbeats 1000000 in
theorem szRoads_no (w : World) (v1 v2 : Value) (l : List Int) (L : List TRow) (h1 : Sl w 1 v1 eI l) (h2 : SlR w v2 L) (left : Int) (h0 : 0 ≤ left) (hl : left ≤ 1048576) (hle : left < (totRd l L : Int)) :
    Calls Try.prog 21 #[.agg #[v1, v2], .int .i64 left] w fun e w' => e = .returned (.int .i64 (-1)) ∧ Below w.heap.size w w' := by
  obtain ⟨A1, c1, rfl⟩ := h1.slice
  obtain ⟨A2, c2, rfl⟩ := h2.1.slice
  have s1 := h1.alloc (.cells #[.slice A1 l.length c1, .slice A2 L.length c2] 40)
  have s2 := h2.alloc (.cells #[.slice A1 l.length c1, .slice A2 L.length c2] 40)
  have hb := (Below.refl w.heap.size w).alloc (Nat.le_refl _) (.cells #[.slice A1 l.length c1, .slice A2 L.length c2] 40)
  have e0 : (totRd l L : Int) = (l.length : Int) + (totR L : Int) := by simp [totRd]
  clear h1 h2
  by_cases q : (l.length : Int) ≤ left
  · have H1 := hd (szI_yes q)
    have H2 := hd (show szRow L (left - (l.length : Int)) = -1 by unfold szRow; rw [if_neg (by omega)])
    have hp1 : 0 ≤ left - (l.length : Int) := by omega
    have HE := hd e0
    clear e0
    go_enter Try.func21, Try.ntmps21
    go_wp2_with fail
    refine (szInts _ _ _ s1 _ (by omega) (by omega)).mono ?_
    rintro e w1 ⟨rfl, rfl⟩
    rw [H1.out]
    go_wp2_with fail
    refine (szRows _ _ _ s2 _ (by omega) (by omega)).mono ?_
    rintro e w2 ⟨rfl, rfl⟩
    rw [H2.out]
    go_wp2_with fail
    go_ret
    exact ⟨rfl, hb⟩
  · have H1 := hd (szI_no q)
    clear q e0
    go_enter Try.func21, Try.ntmps21
    go_wp2_with fail
    refine (szInts _ _ _ s1 _ (by omega) (by omega)).mono ?_
    rintro e w1 ⟨rfl, rfl⟩
    rw [H1.out]
    go_wp2_with fail
    go_ret
    exact ⟨rfl, hb⟩
end Go.Proofs.Ytlgcehdklpbknaa
