/- Desks (a disc, cues, titles, a log): how they come in, the laws' helpers on them: a copy, a comparison, sizes; and SameDesk of both packages. No condition. -/
import Derived.Test.YtfldalhojebblaaGreatDoorSCue
import Derived.Test.YtfldalhojebblaaGreatDoorSTitle
import Derived.OneCell
namespace Go.Proofs.YtfldalhojebblaaGreatDoor
open Go Go.RowKit Go.ChangeShapes Go.WideShapes
set_option linter.unusedSimpArgs false
set_option linter.unusedVariables false
theorem freeD {w : World} {b : Nat} {cs : Array Value} {t : TypeId} (h : w.heap[b]? = some (.cells cs t (0, 0))) (o : Nat) : w.frozen? ⟨b, o, none⟩ = false := by simp [World.frozen?, h]
theorem Own.aboveD {α : Type} {w w' : World} {B N : Nat} {E : TypeId} {k : Nat} {v : Value} {enc : α → List Value} {l : List α} (h : Own w B E k v enc l) (hN : N ≤ B) (hk : ∀ k, N ≤ k → w'.heap[k]? = w.heap[k]?) : Own w' B E k v enc l := by
  refine ⟨h.1, ?_⟩
  rcases h.2 with hz | ⟨g, cap, cur, hv, hbg, hg, rest⟩
  · exact .inl hz
  · exact .inr ⟨g, cap, cur, hv, hbg, (hk g (by omega)).trans hg, rest⟩
theorem Own.sliceD {α : Type} {w : World} {B : Nat} {E : TypeId} {k : Nat} {v : Value} {enc : α → List Value} {l : List α} (h : Own w B E k v enc l) (hk : ∀ x, (enc x).length = k) : ∃ A c, v = .slice A l.length c := by
  obtain ⟨-, A, c, hv, -⟩ := h.sl hk
  exact ⟨A, c, hv⟩
theorem Sl.sliceD {α : Type} {w : World} {k : Nat} {v : Value} {enc : α → List Value} {l : List α} (h : Sl w k v enc l) : ∃ A c, v = .slice A l.length c := by
  obtain ⟨-, A, c, hv, -⟩ := h
  exact ⟨A, c, hv⟩
abbrev TDesk := ByteArray × List TCue × List TTitle × ByteArray
def sameD (p : ByteArray) (C : List TCue) (T : List TTitle) (q : ByteArray) (p' : ByteArray) (C' : List TCue) (T' : List TTitle) (q' : ByteArray) : Bool := (p.toList == p'.toList) && (decide (C = C') && (decide (T = T') && (q.toList == q'.toList)))
theorem sameD_self (p : ByteArray) (C : List TCue) (T : List TTitle) (q : ByteArray) : sameD p C T q p C T q = true := by simp [sameD]
def totDesk (p : ByteArray) (C : List TCue) (T : List TTitle) (q : ByteArray) : Nat := p.size + C.length + totTitle T + q.size
section
variable {H : Type} {enc : TypeId × Value → H} {w : World} {base : Nat} {spare : Nat → Bool} {held : Bool}
set_option maxRecDepth 100000 in
theorem trod_Cues (n : Nat) (cs : List Value) (y : DataW H × List MemPlace) (h : DataW.trod enc Tryz.prog w base spare held n 22 cs = some y) : ∃ (v : Value) (l : List TCue), cs = [v] ∧ Sl w 4 v eCue l ∧ ∀ x ∈ l, okCue x := by
  have hv : ∃ v, cs = [v] := by
    rcases Go.Deep.open_slice Tryz.underlying22 h with ⟨hcs, _⟩ | ⟨a, len, cap, m, n', D, Pl, hcs, _⟩
    · exact ⟨_, hcs⟩
    · exact ⟨_, hcs⟩
  obtain ⟨v, rfl⟩ := hv
  obtain ⟨l, hl, hg⟩ := sl_of_trod (K := 4) Tryz.underlying22 (by kernel_rfl) (by omega) trod_Cue h
  exact ⟨v, l, rfl, hl, hg⟩
set_option maxRecDepth 100000 in
theorem trod_Titles (n : Nat) (cs : List Value) (y : DataW H × List MemPlace) (h : DataW.trod enc Tryz.prog w base spare held n 23 cs = some y) : ∃ (v : Value) (l : List TTitle), cs = [v] ∧ Sl w 4 v eTitle l ∧ ∀ x ∈ l, okTitle x := by
  have hv : ∃ v, cs = [v] := by
    rcases Go.Deep.open_slice Tryz.underlying23 h with ⟨hcs, _⟩ | ⟨a, len, cap, m, n', D, Pl, hcs, _⟩
    · exact ⟨_, hcs⟩
    · exact ⟨_, hcs⟩
  obtain ⟨v, rfl⟩ := hv
  obtain ⟨l, hl, hg⟩ := sl_of_trod (K := 4) Tryz.underlying23 (by kernel_rfl) (by omega) trod_Title h
  exact ⟨v, l, rfl, hl, hg⟩
set_option maxRecDepth 100000 in
theorem agg_of_Desk {r : Reach} {b0 : Nat} {v : Value} {d : DataW H} {p : List MemPlace} (hv : Value.okWide Tryz.prog w r b0 25 v) (h : DataW.Trod enc Tryz.prog w base spare held 25 v d p) :
    ∃ (s1 : ByteArray) (v1 v2 : Value) (C : List TCue) (T : List TTitle) (s2 : ByteArray), v = .agg #[.string s1, v1, v2, .string s2] ∧ s1.size ≤ maxLen ∧ Sl w 4 v1 eCue C ∧ Sl w 4 v2 eTitle T ∧ (∀ x ∈ T, okTitle x) ∧ s2.size ≤ maxLen := by
  obtain ⟨cs, rfl, -⟩ := okWide_struct Tryz.underlying25 hv
  obtain ⟨fuel, hf⟩ := h
  obtain ⟨hlen, hf'⟩ := struct_cells Tryz.underlying25 (by kernel_rfl) (by kernel_rfl) hf
  obtain ⟨v0, n0, y0, hv0, ht0⟩ := hf' 0 _ rfl
  obtain ⟨v1, n1, y1, hv1, ht1⟩ := hf' 1 _ rfl
  obtain ⟨v2, n2, y2, hv2, ht2⟩ := hf' 2 _ rfl
  obtain ⟨v3, n3, y3, hv3, ht3⟩ := hf' 3 _ rfl
  obtain ⟨x0, e0, -, wf0⟩ := DataW.trod_string Tryz.underlying9 ht0
  simp at e0
  subst e0
  obtain ⟨x1, C, e1, s1, g1⟩ := trod_Cues _ _ _ ht1
  simp at e1
  subst e1
  obtain ⟨x2, T, e2, s2, g2⟩ := trod_Titles _ _ _ ht2
  simp at e2
  subst e2
  obtain ⟨x3, e3, -, wf3⟩ := DataW.trod_string Tryz.underlying9 ht3
  simp at e3
  subst e3
  refine ⟨x0, v1, v2, C, T, x3, ?_, wf0, s1, s2, g2, wf3⟩
  have hsz : cs.toList.length = 4 := by simpa [Value.cells] using hlen
  have e : cs.toList = [.string x0, v1, v2, .string x3] := by
    simp only [Value.cells] at hv0 hv1 hv2 hv3
    match hcs : cs.toList, hsz with
    | [c0, c1, c2, c3], _ =>
      rw [hcs] at hv0 hv1 hv2 hv3
      simp at hv0 hv1 hv2 hv3
      rw [hv0, hv1, hv2, hv3]
  rw [← e]
end
set_option maxRecDepth 100000 in
set_option maxHeartbeats 2000000 in
theorem toDesk (w : World) (p q : ByteArray) (v1 v2 : Value) (C : List TCue) (T : List TTitle) (h1 : Sl w 4 v1 eCue C) (h2 : Sl w 4 v2 eTitle T) (hC : C.length ≤ 1048576) (hT : T.length ≤ 1048576) :
    Calls Tryz.prog 7 #[.agg #[.string p, v1, v2, .string q]] w fun e w' => ∃ A1 c1 A2 c2, e = .returned (.agg #[.string p, .slice A1 C.length c1, .slice A2 T.length c2, .string q]) ∧ Sl w' 4 (.slice A1 C.length c1) eCue C ∧ Sl w' 4 (.slice A2 T.length c2) eTitle T ∧ Below w.heap.size w w' := by
  obtain ⟨A1, c1, rfl⟩ := h1.sliceD
  obtain ⟨A2, c2, rfl⟩ := h2.sliceD
  obtain ⟨WA, hW⟩ : ∃ WA, WA = ((w.alloc (.cells #[.string p, .slice A1 C.length c1, .slice A2 T.length c2, .string q] 25)).alloc (.cells #[.string ⟨#[]⟩, .slice none 0 0, .slice none 0 0, .string ⟨#[]⟩] 31)).alloc (.cells #[.string p, .slice none 0 0, .slice none 0 0, .string ⟨#[]⟩] 31) := ⟨_, rfl⟩
  have hbA : Below w.heap.size w WA := by rw [hW]; exact (((Below.refl w.heap.size w).alloc (Nat.le_refl _) _).alloc (by simp) _).alloc (by simp; omega) _
  have hsA : WA.heap.size = w.heap.size + 3 := by rw [hW]; simp
  have g0 : WA.heap[w.heap.size]? = some (.cells #[.string p, .slice A1 C.length c1, .slice A2 T.length c2, .string q] 25 (0, 0)) := by
    rw [hW]
    have e1 := ((Below.refl (w.heap.size + 1) (w.alloc (.cells #[.string p, .slice A1 C.length c1, .slice A2 T.length c2, .string q] 25))).alloc (by simp) (.cells #[.string ⟨#[]⟩, .slice none 0 0, .slice none 0 0, .string ⟨#[]⟩] 31)).block w.heap.size (by omega)
    have e2 := ((Below.refl (w.heap.size + 2) ((w.alloc (.cells #[.string p, .slice A1 C.length c1, .slice A2 T.length c2, .string q] 25)).alloc (.cells #[.string ⟨#[]⟩, .slice none 0 0, .slice none 0 0, .string ⟨#[]⟩] 31))).alloc (by simp) (.cells #[.string p, .slice none 0 0, .slice none 0 0, .string ⟨#[]⟩] 31)).block w.heap.size (by omega)
    exact e2.trans (e1.trans (heap_alloc_new w (.cells #[.string p, .slice A1 C.length c1, .slice A2 T.length c2, .string q] 25)))
  have g1 : WA.heap[w.heap.size + 1]? = some (.cells #[.string ⟨#[]⟩, .slice none 0 0, .slice none 0 0, .string ⟨#[]⟩] 31 (0, 0)) := by
    rw [hW]
    have e2 := ((Below.refl (w.heap.size + 2) ((w.alloc (.cells #[.string p, .slice A1 C.length c1, .slice A2 T.length c2, .string q] 25)).alloc (.cells #[.string ⟨#[]⟩, .slice none 0 0, .slice none 0 0, .string ⟨#[]⟩] 31))).alloc (by simp) (.cells #[.string p, .slice none 0 0, .slice none 0 0, .string ⟨#[]⟩] 31)).block (w.heap.size + 1) (by omega)
    have e3 := heap_alloc_new (w.alloc (.cells #[.string p, .slice A1 C.length c1, .slice A2 T.length c2, .string q] 25)) (.cells #[.string ⟨#[]⟩, .slice none 0 0, .slice none 0 0, .string ⟨#[]⟩] 31)
    rw [show (w.alloc (.cells #[.string p, .slice A1 C.length c1, .slice A2 T.length c2, .string q] 25)).heap.size = w.heap.size + 1 from by simp] at e3
    exact e2.trans e3
  have g2 : WA.heap[w.heap.size + 1 + 1]? = some (.cells #[.string p, .slice none 0 0, .slice none 0 0, .string ⟨#[]⟩] 31 (0, 0)) := by
    rw [hW]
    have e3 := heap_alloc_new ((w.alloc (.cells #[.string p, .slice A1 C.length c1, .slice A2 T.length c2, .string q] 25)).alloc (.cells #[.string ⟨#[]⟩, .slice none 0 0, .slice none 0 0, .string ⟨#[]⟩] 31)) (.cells #[.string p, .slice none 0 0, .slice none 0 0, .string ⟨#[]⟩] 31)
    rw [show ((w.alloc (.cells #[.string p, .slice A1 C.length c1, .slice A2 T.length c2, .string q] 25)).alloc (.cells #[.string ⟨#[]⟩, .slice none 0 0, .slice none 0 0, .string ⟨#[]⟩] 31)).heap.size = w.heap.size + 1 + 1 from by simp] at e3
    exact e3
  have a0 := cell_of_row WA w.heap.size 0 _ _ (0, 0) g0
  have r0 := cell_of_row WA (w.heap.size + 1) 0 _ _ (0, 0) g1
  have o0 := cell_of_row WA (w.heap.size + 1 + 1) 0 _ _ (0, 0) g2
  have e0 := freeD g1 0
  have f0 := freeD g2 0
  have a1 := cell_of_row WA w.heap.size 1 _ _ (0, 0) g0
  have r1 := cell_of_row WA (w.heap.size + 1) 1 _ _ (0, 0) g1
  have o1 := cell_of_row WA (w.heap.size + 1 + 1) 1 _ _ (0, 0) g2
  have e1 := freeD g1 1
  have f1 := freeD g2 1
  have a2 := cell_of_row WA w.heap.size 2 _ _ (0, 0) g0
  have r2 := cell_of_row WA (w.heap.size + 1) 2 _ _ (0, 0) g1
  have o2 := cell_of_row WA (w.heap.size + 1 + 1) 2 _ _ (0, 0) g2
  have e2 := freeD g1 2
  have f2 := freeD g2 2
  have a3 := cell_of_row WA w.heap.size 3 _ _ (0, 0) g0
  have r3 := cell_of_row WA (w.heap.size + 1) 3 _ _ (0, 0) g1
  have o3 := cell_of_row WA (w.heap.size + 1 + 1) 3 _ _ (0, 0) g2
  have e3 := freeD g1 3
  have f3 := freeD g2 3
  have HW := hd hW
  have z0 : w.heap.size < WA.heap.size := by omega
  have z1 : w.heap.size + 1 < WA.heap.size := by omega
  have z2 : w.heap.size + 1 + 1 < WA.heap.size := by omega
  clear hW g0 g1 g2
  go_enter Tryz.func7, Tryz.ntmps7
  go_wp2_with fail
  rw [← HW.out]
  refine (toCues _ _ _ (h1.below hbA) hC).mono ?_
  rintro e w1 ⟨u1, rfl, O1, hb1⟩
  obtain ⟨A3, c3, rfl⟩ := O1.sliceD eCue_len
  replace a0 := (hb1.cell (p := ⟨w.heap.size, 0, none⟩) z0).trans a0
  replace r0 := (hb1.cell (p := ⟨(w.heap.size + 1), 0, none⟩) z1).trans r0
  replace o0 := (hb1.cell (p := ⟨(w.heap.size + 1 + 1), 0, none⟩) z2).trans o0
  replace e0 := (hb1.frozen (p := ⟨(w.heap.size + 1), 0, none⟩) z1).trans e0
  replace f0 := (hb1.frozen (p := ⟨(w.heap.size + 1 + 1), 0, none⟩) z2).trans f0
  replace a1 := (hb1.cell (p := ⟨w.heap.size, 1, none⟩) z0).trans a1
  replace r1 := (hb1.cell (p := ⟨(w.heap.size + 1), 1, none⟩) z1).trans r1
  replace o1 := (hb1.cell (p := ⟨(w.heap.size + 1 + 1), 1, none⟩) z2).trans o1
  replace e1 := (hb1.frozen (p := ⟨(w.heap.size + 1), 1, none⟩) z1).trans e1
  replace f1 := (hb1.frozen (p := ⟨(w.heap.size + 1 + 1), 1, none⟩) z2).trans f1
  replace a2 := (hb1.cell (p := ⟨w.heap.size, 2, none⟩) z0).trans a2
  replace r2 := (hb1.cell (p := ⟨(w.heap.size + 1), 2, none⟩) z1).trans r2
  replace o2 := (hb1.cell (p := ⟨(w.heap.size + 1 + 1), 2, none⟩) z2).trans o2
  replace e2 := (hb1.frozen (p := ⟨(w.heap.size + 1), 2, none⟩) z1).trans e2
  replace f2 := (hb1.frozen (p := ⟨(w.heap.size + 1 + 1), 2, none⟩) z2).trans f2
  replace a3 := (hb1.cell (p := ⟨w.heap.size, 3, none⟩) z0).trans a3
  replace r3 := (hb1.cell (p := ⟨(w.heap.size + 1), 3, none⟩) z1).trans r3
  replace o3 := (hb1.cell (p := ⟨(w.heap.size + 1 + 1), 3, none⟩) z2).trans o3
  replace e3 := (hb1.frozen (p := ⟨(w.heap.size + 1), 3, none⟩) z1).trans e3
  replace f3 := (hb1.frozen (p := ⟨(w.heap.size + 1 + 1), 3, none⟩) z2).trans f3
  have B1 : Below w.heap.size w w1 := below_step hbA hb1
  have zs : WA.heap.size ≤ w1.heap.size := hb1.size
  obtain ⟨WB, hB⟩ : ∃ WB, WB = w1.setCell ⟨w.heap.size + 1 + 1, 1, none⟩ (.slice A3 C.length c3) := ⟨_, rfl⟩
  have hBB : Below w.heap.size w WB := by rw [hB]; exact B1.setCell (by show w.heap.size ≤ w.heap.size + 1 + 1; omega) _
  have OA : Own WB WA.heap.size 56 4 (.slice A3 C.length c3) eCue C := by rw [hB]; exact ownsRow_setCell_below O1 (a := ⟨w.heap.size + 1 + 1, 1, none⟩) z2 _
  have sB : WB.heap.size = w1.heap.size := by rw [hB]; simp
  have XA0 : WB.cell? ⟨w.heap.size, 0, none⟩ = some (.string p) := by rw [hB]; go_simp
  have R0 : WB.cell? ⟨(w.heap.size + 1), 0, none⟩ = some (.string ⟨#[]⟩) := by rw [hB]; go_simp
  have O0' : WB.cell? ⟨(w.heap.size + 1 + 1), 0, none⟩ = some (.string p) := by rw [hB]; go_simp
  have E0 : WB.frozen? ⟨(w.heap.size + 1), 0, none⟩ = false := by rw [hB]; go_simp
  have F0 : WB.frozen? ⟨(w.heap.size + 1 + 1), 0, none⟩ = false := by rw [hB]; go_simp
  have XA1 : WB.cell? ⟨w.heap.size, 1, none⟩ = some (.slice A1 C.length c1) := by rw [hB]; go_simp
  have R1 : WB.cell? ⟨(w.heap.size + 1), 1, none⟩ = some (.slice none 0 0) := by rw [hB]; go_simp
  have O1' : WB.cell? ⟨(w.heap.size + 1 + 1), 1, none⟩ = some (.slice A3 C.length c3) := by rw [hB]; go_simp
  have E1 : WB.frozen? ⟨(w.heap.size + 1), 1, none⟩ = false := by rw [hB]; go_simp
  have F1 : WB.frozen? ⟨(w.heap.size + 1 + 1), 1, none⟩ = false := by rw [hB]; go_simp
  have XA2 : WB.cell? ⟨w.heap.size, 2, none⟩ = some (.slice A2 T.length c2) := by rw [hB]; go_simp
  have R2 : WB.cell? ⟨(w.heap.size + 1), 2, none⟩ = some (.slice none 0 0) := by rw [hB]; go_simp
  have O2' : WB.cell? ⟨(w.heap.size + 1 + 1), 2, none⟩ = some (.slice none 0 0) := by rw [hB]; go_simp
  have E2 : WB.frozen? ⟨(w.heap.size + 1), 2, none⟩ = false := by rw [hB]; go_simp
  have F2 : WB.frozen? ⟨(w.heap.size + 1 + 1), 2, none⟩ = false := by rw [hB]; go_simp
  have XA3 : WB.cell? ⟨w.heap.size, 3, none⟩ = some (.string q) := by rw [hB]; go_simp
  have R3 : WB.cell? ⟨(w.heap.size + 1), 3, none⟩ = some (.string ⟨#[]⟩) := by rw [hB]; go_simp
  have O3' : WB.cell? ⟨(w.heap.size + 1 + 1), 3, none⟩ = some (.string ⟨#[]⟩) := by rw [hB]; go_simp
  have E3 : WB.frozen? ⟨(w.heap.size + 1), 3, none⟩ = false := by rw [hB]; go_simp
  have F3 : WB.frozen? ⟨(w.heap.size + 1 + 1), 3, none⟩ = false := by rw [hB]; go_simp
  have HB := hd hB
  clear hB O1 hb1 hbA
  go_wp2_with fail
  rw [← HB.out]
  clear a0 r0 o0 e0 f0 a1 r1 o1 e1 f1 a2 r2 o2 e2 f2 a3 r3 o3 e3 f3
  have y0 : w.heap.size < WB.heap.size := by omega
  have y1 : w.heap.size + 1 < WB.heap.size := by omega
  have y2 : w.heap.size + 1 + 1 < WB.heap.size := by omega
  refine (toTitles _ _ _ (h2.below hBB) hT).mono ?_
  rintro e w2 ⟨u2, rfl, O2, hb2⟩
  obtain ⟨A4, c4, rfl⟩ := O2.sliceD eTitle_len
  replace XA0 := (hb2.cell (p := ⟨w.heap.size, 0, none⟩) y0).trans XA0
  replace R0 := (hb2.cell (p := ⟨(w.heap.size + 1), 0, none⟩) y1).trans R0
  replace O0' := (hb2.cell (p := ⟨(w.heap.size + 1 + 1), 0, none⟩) y2).trans O0'
  replace E0 := (hb2.frozen (p := ⟨(w.heap.size + 1), 0, none⟩) y1).trans E0
  replace F0 := (hb2.frozen (p := ⟨(w.heap.size + 1 + 1), 0, none⟩) y2).trans F0
  replace XA1 := (hb2.cell (p := ⟨w.heap.size, 1, none⟩) y0).trans XA1
  replace R1 := (hb2.cell (p := ⟨(w.heap.size + 1), 1, none⟩) y1).trans R1
  replace O1' := (hb2.cell (p := ⟨(w.heap.size + 1 + 1), 1, none⟩) y2).trans O1'
  replace E1 := (hb2.frozen (p := ⟨(w.heap.size + 1), 1, none⟩) y1).trans E1
  replace F1 := (hb2.frozen (p := ⟨(w.heap.size + 1 + 1), 1, none⟩) y2).trans F1
  replace XA2 := (hb2.cell (p := ⟨w.heap.size, 2, none⟩) y0).trans XA2
  replace R2 := (hb2.cell (p := ⟨(w.heap.size + 1), 2, none⟩) y1).trans R2
  replace O2' := (hb2.cell (p := ⟨(w.heap.size + 1 + 1), 2, none⟩) y2).trans O2'
  replace E2 := (hb2.frozen (p := ⟨(w.heap.size + 1), 2, none⟩) y1).trans E2
  replace F2 := (hb2.frozen (p := ⟨(w.heap.size + 1 + 1), 2, none⟩) y2).trans F2
  replace XA3 := (hb2.cell (p := ⟨w.heap.size, 3, none⟩) y0).trans XA3
  replace R3 := (hb2.cell (p := ⟨(w.heap.size + 1), 3, none⟩) y1).trans R3
  replace O3' := (hb2.cell (p := ⟨(w.heap.size + 1 + 1), 3, none⟩) y2).trans O3'
  replace E3 := (hb2.frozen (p := ⟨(w.heap.size + 1), 3, none⟩) y1).trans E3
  replace F3 := (hb2.frozen (p := ⟨(w.heap.size + 1 + 1), 3, none⟩) y2).trans F3
  have B2 : Below w.heap.size w w2 := below_step hBB hb2
  have OA2 := OA.below hb2 (Nat.le_refl _)
  have q1 : w.heap.size + 3 ≤ WA.heap.size := z2
  have q2 : w.heap.size + 3 ≤ WB.heap.size := y2
  have HE := hd (fun (w3 : World) (hk : ∀ k, w.heap.size + 3 ≤ k → w3.heap[k]? = w2.heap[k]?) => (show Sl w3 4 (.slice A3 C.length c3) eCue C ∧ Sl w3 4 (.slice A4 T.length c4) eTitle T from
    ⟨(OA2.aboveD (by omega) hk).sl eCue_len, (O2.aboveD (by omega) hk).sl eTitle_len⟩))
  clear O2 OA OA2 hb2 hBB h1 h2
  go_wp2
  refine bodyPost_ret (v := .agg #[.string p, .slice A3 C.length c3, .slice A4 T.length c4, .string q]) (by simp [results, Tryz.results7, go_sem, XA0, R0, O0', E0, F0, XA1, R1, O1', E1, F1, XA2, R2, O2', E2, F2, XA3, R3, O3', E3, F3]) rfl ?_
  refine ⟨_, _, _, _, rfl, (HE.out _ (fun k hk => ?_)).1, (HE.out _ (fun k hk => ?_)).2, ?_⟩
  · rw [Below.heap_setCell, Below.heap_setCell, Below.heap_setCell, Below.heap_setCell, Below.heap_setCell, Below.heap_setCell]
    all_goals (simp only [ne_eq]; omega)
  · rw [Below.heap_setCell, Below.heap_setCell, Below.heap_setCell, Below.heap_setCell, Below.heap_setCell, Below.heap_setCell]
    all_goals (simp only [ne_eq]; omega)
  · repeat (refine Below.setCell ?_ (by first | (simp; done) | (simp; omega)) _)
    exact B2
set_option maxRecDepth 100000 in
set_option maxHeartbeats 2000000 in
theorem eqDesk (w : World) (p q p' q' : ByteArray) (v1 v2 t1 t2 : Value) (C C' : List TCue) (T T' : List TTitle) (hC : Sl w 4 v1 eCue C) (hT : Sl w 4 v2 eTitle T) (kC : Sl w 4 t1 eCue C') (kT : Sl w 4 t2 eTitle T') :
    Calls Tryz.prog 9 #[.agg #[.string p, v1, v2, .string q], .agg #[.string p', t1, t2, .string q']] w fun e w' => e = .returned (.bool (sameD p C T q p' C' T' q')) ∧ Below w.heap.size w w' := by
  obtain ⟨A1, c1, rfl⟩ := hC.sliceD
  obtain ⟨A2, c2, rfl⟩ := hT.sliceD
  obtain ⟨Ab1, cb1, rfl⟩ := kC.sliceD
  obtain ⟨Ab2, cb2, rfl⟩ := kT.sliceD
  obtain ⟨W, hW⟩ : ∃ W, W = (w.alloc (.cells #[.string p, .slice A1 C.length c1, .slice A2 T.length c2, .string q] 31)).alloc (.cells #[.string p', .slice Ab1 C'.length cb1, .slice Ab2 T'.length cb2, .string q'] 31) := ⟨_, rfl⟩
  have hb : Below w.heap.size w W := by rw [hW]; exact ((Below.refl w.heap.size w).alloc (Nat.le_refl _) _).alloc (by simp) _
  have g1 : W.heap[w.heap.size]? = some (.cells #[.string p, .slice A1 C.length c1, .slice A2 T.length c2, .string q] 31 (0, 0)) := by
    rw [hW]
    exact (((Below.refl (w.heap.size + 1) (w.alloc (.cells #[.string p, .slice A1 C.length c1, .slice A2 T.length c2, .string q] 31))).alloc (by simp) (.cells #[.string p', .slice Ab1 C'.length cb1, .slice Ab2 T'.length cb2, .string q'] 31)).block w.heap.size (by omega)).trans (heap_alloc_new w _)
  have g2 : W.heap[w.heap.size + 1]? = some (.cells #[.string p', .slice Ab1 C'.length cb1, .slice Ab2 T'.length cb2, .string q'] 31 (0, 0)) := by
    rw [hW]
    have e := heap_alloc_new (w.alloc (.cells #[.string p, .slice A1 C.length c1, .slice A2 T.length c2, .string q] 31)) (.cells #[.string p', .slice Ab1 C'.length cb1, .slice Ab2 T'.length cb2, .string q'] 31)
    rw [show (w.alloc (.cells #[.string p, .slice A1 C.length c1, .slice A2 T.length c2, .string q] 31)).heap.size = w.heap.size + 1 from by simp] at e
    exact e
  have z1 : w.heap.size < W.heap.size := lt_of_block g1
  have z2 : w.heap.size + 1 < W.heap.size := lt_of_block g2
  have a0 := cell_of_row W w.heap.size 0 _ _ (0, 0) g1
  have b0 := cell_of_row W (w.heap.size + 1) 0 _ _ (0, 0) g2
  have a1 := cell_of_row W w.heap.size 1 _ _ (0, 0) g1
  have b1 := cell_of_row W (w.heap.size + 1) 1 _ _ (0, 0) g2
  have a2 := cell_of_row W w.heap.size 2 _ _ (0, 0) g1
  have b2 := cell_of_row W (w.heap.size + 1) 2 _ _ (0, 0) g2
  have a3 := cell_of_row W w.heap.size 3 _ _ (0, 0) g1
  have b3 := cell_of_row W (w.heap.size + 1) 3 _ _ (0, 0) g2
  have HW := hd hW
  clear hW g1 g2
  by_cases hx : p = p'
  case neg =>
    have hq : (p.toList == p'.toList) = false := beq_eq_false_iff_ne.2 (fun e => hx (bytes_of_toList e))
    have HN := hd hq
    clear hx
    go_enter Tryz.func9, Tryz.ntmps9
    go_wp2_with fail
    go_ret
    exact ⟨by unfold sameD; rw [HN.out]; simp, by (rw [← HW.out]; exact hb)⟩
  subst hx
  by_cases hx : C = C'
  case neg =>
    have hq : decide (C = C') = false := decide_eq_false hx
    have HN := hd hq
    clear hx
    go_enter Tryz.func9, Tryz.ntmps9
    go_wp2_with fail
    rw [← HW.out]
    refine (eqCues _ _ _ _ _ (hC.below hb) (kC.below hb)).mono ?_
    rintro e w1 ⟨rfl, hb1⟩
    have H1 := below_step hb hb1
    replace a0 := (hb1.cell (p := ⟨w.heap.size, 0, none⟩) z1).trans a0
    replace b0 := (hb1.cell (p := ⟨w.heap.size + 1, 0, none⟩) z2).trans b0
    replace a1 := (hb1.cell (p := ⟨w.heap.size, 1, none⟩) z1).trans a1
    replace b1 := (hb1.cell (p := ⟨w.heap.size + 1, 1, none⟩) z2).trans b1
    replace a2 := (hb1.cell (p := ⟨w.heap.size, 2, none⟩) z1).trans a2
    replace b2 := (hb1.cell (p := ⟨w.heap.size + 1, 2, none⟩) z2).trans b2
    replace a3 := (hb1.cell (p := ⟨w.heap.size, 3, none⟩) z1).trans a3
    replace b3 := (hb1.cell (p := ⟨w.heap.size + 1, 3, none⟩) z2).trans b3
    have y1 := Nat.lt_of_lt_of_le z1 hb1.size
    have x1 := Nat.lt_of_lt_of_le z2 hb1.size
    clear hb1 z1 z2
    rw [hq]
    go_wp2_with fail
    go_ret
    exact ⟨by unfold sameD; rw [HN.out]; simp, by exact H1⟩
  subst hx
  by_cases hx : T = T'
  case neg =>
    have hq : decide (T = T') = false := decide_eq_false hx
    have HN := hd hq
    clear hx
    go_enter Tryz.func9, Tryz.ntmps9
    go_wp2_with fail
    rw [← HW.out]
    refine (eqCues _ _ _ _ _ (hC.below hb) (kC.below hb)).mono ?_
    rintro e w1 ⟨rfl, hb1⟩
    have H1 := below_step hb hb1
    replace a0 := (hb1.cell (p := ⟨w.heap.size, 0, none⟩) z1).trans a0
    replace b0 := (hb1.cell (p := ⟨w.heap.size + 1, 0, none⟩) z2).trans b0
    replace a1 := (hb1.cell (p := ⟨w.heap.size, 1, none⟩) z1).trans a1
    replace b1 := (hb1.cell (p := ⟨w.heap.size + 1, 1, none⟩) z2).trans b1
    replace a2 := (hb1.cell (p := ⟨w.heap.size, 2, none⟩) z1).trans a2
    replace b2 := (hb1.cell (p := ⟨w.heap.size + 1, 2, none⟩) z2).trans b2
    replace a3 := (hb1.cell (p := ⟨w.heap.size, 3, none⟩) z1).trans a3
    replace b3 := (hb1.cell (p := ⟨w.heap.size + 1, 3, none⟩) z2).trans b3
    have y1 := Nat.lt_of_lt_of_le z1 hb1.size
    have x1 := Nat.lt_of_lt_of_le z2 hb1.size
    clear hb1 z1 z2
    rw [decide_eq_true rfl]
    go_wp2_with fail
    refine (eqTitles _ _ _ _ _ (hT.below H1) (kT.below H1)).mono ?_
    rintro e w2 ⟨rfl, hb2⟩
    have H2 := below_step H1 hb2
    replace a0 := (hb2.cell (p := ⟨w.heap.size, 0, none⟩) y1).trans a0
    replace b0 := (hb2.cell (p := ⟨w.heap.size + 1, 0, none⟩) x1).trans b0
    replace a1 := (hb2.cell (p := ⟨w.heap.size, 1, none⟩) y1).trans a1
    replace b1 := (hb2.cell (p := ⟨w.heap.size + 1, 1, none⟩) x1).trans b1
    replace a2 := (hb2.cell (p := ⟨w.heap.size, 2, none⟩) y1).trans a2
    replace b2 := (hb2.cell (p := ⟨w.heap.size + 1, 2, none⟩) x1).trans b2
    replace a3 := (hb2.cell (p := ⟨w.heap.size, 3, none⟩) y1).trans a3
    replace b3 := (hb2.cell (p := ⟨w.heap.size + 1, 3, none⟩) x1).trans b3
    have y2 := Nat.lt_of_lt_of_le y1 hb2.size
    have x2 := Nat.lt_of_lt_of_le x1 hb2.size
    clear hb2 y1 x1
    rw [hq]
    go_wp2_with fail
    go_ret
    exact ⟨by unfold sameD; rw [HN.out]; simp, by exact H2⟩
  subst hx
  by_cases hx : q = q'
  case neg =>
    have hq : (q.toList == q'.toList) = false := beq_eq_false_iff_ne.2 (fun e => hx (bytes_of_toList e))
    have HN := hd hq
    clear hx
    go_enter Tryz.func9, Tryz.ntmps9
    go_wp2_with fail
    rw [← HW.out]
    refine (eqCues _ _ _ _ _ (hC.below hb) (kC.below hb)).mono ?_
    rintro e w1 ⟨rfl, hb1⟩
    have H1 := below_step hb hb1
    replace a0 := (hb1.cell (p := ⟨w.heap.size, 0, none⟩) z1).trans a0
    replace b0 := (hb1.cell (p := ⟨w.heap.size + 1, 0, none⟩) z2).trans b0
    replace a1 := (hb1.cell (p := ⟨w.heap.size, 1, none⟩) z1).trans a1
    replace b1 := (hb1.cell (p := ⟨w.heap.size + 1, 1, none⟩) z2).trans b1
    replace a2 := (hb1.cell (p := ⟨w.heap.size, 2, none⟩) z1).trans a2
    replace b2 := (hb1.cell (p := ⟨w.heap.size + 1, 2, none⟩) z2).trans b2
    replace a3 := (hb1.cell (p := ⟨w.heap.size, 3, none⟩) z1).trans a3
    replace b3 := (hb1.cell (p := ⟨w.heap.size + 1, 3, none⟩) z2).trans b3
    have y1 := Nat.lt_of_lt_of_le z1 hb1.size
    have x1 := Nat.lt_of_lt_of_le z2 hb1.size
    clear hb1 z1 z2
    rw [decide_eq_true rfl]
    go_wp2_with fail
    refine (eqTitles _ _ _ _ _ (hT.below H1) (kT.below H1)).mono ?_
    rintro e w2 ⟨rfl, hb2⟩
    have H2 := below_step H1 hb2
    replace a0 := (hb2.cell (p := ⟨w.heap.size, 0, none⟩) y1).trans a0
    replace b0 := (hb2.cell (p := ⟨w.heap.size + 1, 0, none⟩) x1).trans b0
    replace a1 := (hb2.cell (p := ⟨w.heap.size, 1, none⟩) y1).trans a1
    replace b1 := (hb2.cell (p := ⟨w.heap.size + 1, 1, none⟩) x1).trans b1
    replace a2 := (hb2.cell (p := ⟨w.heap.size, 2, none⟩) y1).trans a2
    replace b2 := (hb2.cell (p := ⟨w.heap.size + 1, 2, none⟩) x1).trans b2
    replace a3 := (hb2.cell (p := ⟨w.heap.size, 3, none⟩) y1).trans a3
    replace b3 := (hb2.cell (p := ⟨w.heap.size + 1, 3, none⟩) x1).trans b3
    have y2 := Nat.lt_of_lt_of_le y1 hb2.size
    have x2 := Nat.lt_of_lt_of_le x1 hb2.size
    clear hb2 y1 x1
    rw [decide_eq_true rfl]
    go_wp2_with fail
    go_ret
    exact ⟨by unfold sameD; rw [HN.out]; simp, by exact H2⟩
  subst hx
  go_enter Tryz.func9, Tryz.ntmps9
  go_wp2_with fail
  rw [← HW.out]
  refine (eqCues _ _ _ _ _ (hC.below hb) (kC.below hb)).mono ?_
  rintro e w1 ⟨rfl, hb1⟩
  have H1 := below_step hb hb1
  replace a0 := (hb1.cell (p := ⟨w.heap.size, 0, none⟩) z1).trans a0
  replace b0 := (hb1.cell (p := ⟨w.heap.size + 1, 0, none⟩) z2).trans b0
  replace a1 := (hb1.cell (p := ⟨w.heap.size, 1, none⟩) z1).trans a1
  replace b1 := (hb1.cell (p := ⟨w.heap.size + 1, 1, none⟩) z2).trans b1
  replace a2 := (hb1.cell (p := ⟨w.heap.size, 2, none⟩) z1).trans a2
  replace b2 := (hb1.cell (p := ⟨w.heap.size + 1, 2, none⟩) z2).trans b2
  replace a3 := (hb1.cell (p := ⟨w.heap.size, 3, none⟩) z1).trans a3
  replace b3 := (hb1.cell (p := ⟨w.heap.size + 1, 3, none⟩) z2).trans b3
  have y1 := Nat.lt_of_lt_of_le z1 hb1.size
  have x1 := Nat.lt_of_lt_of_le z2 hb1.size
  clear hb1 z1 z2
  rw [decide_eq_true rfl]
  go_wp2_with fail
  refine (eqTitles _ _ _ _ _ (hT.below H1) (kT.below H1)).mono ?_
  rintro e w2 ⟨rfl, hb2⟩
  have H2 := below_step H1 hb2
  replace a0 := (hb2.cell (p := ⟨w.heap.size, 0, none⟩) y1).trans a0
  replace b0 := (hb2.cell (p := ⟨w.heap.size + 1, 0, none⟩) x1).trans b0
  replace a1 := (hb2.cell (p := ⟨w.heap.size, 1, none⟩) y1).trans a1
  replace b1 := (hb2.cell (p := ⟨w.heap.size + 1, 1, none⟩) x1).trans b1
  replace a2 := (hb2.cell (p := ⟨w.heap.size, 2, none⟩) y1).trans a2
  replace b2 := (hb2.cell (p := ⟨w.heap.size + 1, 2, none⟩) x1).trans b2
  replace a3 := (hb2.cell (p := ⟨w.heap.size, 3, none⟩) y1).trans a3
  replace b3 := (hb2.cell (p := ⟨w.heap.size + 1, 3, none⟩) x1).trans b3
  have y2 := Nat.lt_of_lt_of_le y1 hb2.size
  have x2 := Nat.lt_of_lt_of_le x1 hb2.size
  clear hb2 y1 x1
  rw [decide_eq_true rfl]
  go_wp2_with fail
  go_ret
  exact ⟨by simp [sameD], by exact H2⟩
set_option maxHeartbeats 2000000 in
theorem szDesk_yes (w : World) (p q : ByteArray) (v1 v2 : Value) (C : List TCue) (T : List TTitle) (hp : p.size ≤ maxLen) (hq : q.size ≤ maxLen) (h1 : Sl w 4 v1 eCue C) (h2 : Sl w 4 v2 eTitle T) (hg : ∀ x ∈ T, okTitle x) (left : Int) (h0 : 0 ≤ left) (hl : left ≤ 1048576) (hle : (totDesk p C T q : Int) ≤ left) :
    Calls Tryz.prog 5 #[.agg #[.string p, v1, v2, .string q], .int .i64 left] w fun e w' => e = .returned (.int .i64 (left - (totDesk p C T q : Int))) ∧ Below w.heap.size w w' := by
  obtain ⟨A1, c1, rfl⟩ := h1.sliceD
  obtain ⟨A2, c2, rfl⟩ := h2.sliceD
  have mp : p.size ≤ 9223372036854775807 := by unfold maxLen at hp; omega
  have mq : q.size ≤ 9223372036854775807 := by unfold maxLen at hq; omega
  have HG := hd (fun (x : TTitle) (hx : x ∈ T) => (hg x hx).2.1)
  have e0 : (totDesk p C T q : Int) = (p.size : Int) + (C.length : Int) + (totTitle T : Int) + (q.size : Int) := by simp [totDesk]
  have hb := (Below.refl w.heap.size w).alloc (Nat.le_refl _) (.cells #[.string p, .slice A1 C.length c1, .slice A2 T.length c2, .string q] 25)
  have z0 : w.heap.size < (w.alloc (.cells #[.string p, .slice A1 C.length c1, .slice A2 T.length c2, .string q] 25)).heap.size := by simp
  replace h1 := h1.alloc (.cells #[.string p, .slice A1 C.length c1, .slice A2 T.length c2, .string q] 25)
  replace h2 := h2.alloc (.cells #[.string p, .slice A1 C.length c1, .slice A2 T.length c2, .string q] 25)
  have a0 := new_cell w #[.string p, .slice A1 C.length c1, .slice A2 T.length c2, .string q] 25 0 _ rfl
  have a1 := new_cell w #[.string p, .slice A1 C.length c1, .slice A2 T.length c2, .string q] 25 1 _ rfl
  have a2 := new_cell w #[.string p, .slice A1 C.length c1, .slice A2 T.length c2, .string q] 25 2 _ rfl
  have a3 := new_cell w #[.string p, .slice A1 C.length c1, .slice A2 T.length c2, .string q] 25 3 _ rfl
  clear hp hq hg
  have s0 : (p.size : Int) ≤ left := by omega
  have s1 : (C.length : Int) ≤ left - (p.size : Int) := by omega
  have s2 : (totTitle T : Int) ≤ left - (p.size : Int) - (C.length : Int) := by omega
  have s3 : (q.size : Int) ≤ left - (p.size : Int) - (C.length : Int) - (totTitle T : Int) := by omega
  have HE := hd (show left - (totDesk p C T q : Int) = left - (p.size : Int) - (C.length : Int) - (totTitle T : Int) - (q.size : Int) by omega)
  clear e0 hle
  go_enter Tryz.func5, Tryz.ntmps5
  go_wp2_with fail
  generalize w.alloc (.cells #[.string p, .slice A1 C.length c1, .slice A2 T.length c2, .string q] 25) = W at hb z0 a0 a1 a2 a3 h1 h2 ⊢
  refine (szCues_yes _ _ _ h1 _ (by omega) (by omega) (by omega)).mono ?_
  rintro e w1 ⟨rfl, rfl⟩
  go_wp2_with fail
  refine (szTitles_yes _ _ _ h2 HG.out _ (by omega) (by omega) (by omega)).mono ?_
  rintro e w2 ⟨rfl, hb2⟩
  have B2 := below_step hb hb2
  have d0 := (hb2.cell (p := ⟨w.heap.size, 0, none⟩) z0).trans a0
  have d1 := (hb2.cell (p := ⟨w.heap.size, 1, none⟩) z0).trans a1
  have d2 := (hb2.cell (p := ⟨w.heap.size, 2, none⟩) z0).trans a2
  have d3 := (hb2.cell (p := ⟨w.heap.size, 3, none⟩) z0).trans a3
  clear hb2 a0 a1 a2 a3
  go_wp2_with fail
  go_ret
  exact ⟨by rw [HE.out]; rfl, B2⟩
set_option maxHeartbeats 2000000 in
theorem szDesk_no (w : World) (p q : ByteArray) (v1 v2 : Value) (C : List TCue) (T : List TTitle) (hp : p.size ≤ maxLen) (hq : q.size ≤ maxLen) (h1 : Sl w 4 v1 eCue C) (h2 : Sl w 4 v2 eTitle T) (hg : ∀ x ∈ T, okTitle x) (left : Int) (h0 : 0 ≤ left) (hl : left ≤ 1048576) (hle : left < (totDesk p C T q : Int)) :
    Calls Tryz.prog 5 #[.agg #[.string p, v1, v2, .string q], .int .i64 left] w fun e w' => e = .returned (.int .i64 (-1)) ∧ Below w.heap.size w w' := by
  obtain ⟨A1, c1, rfl⟩ := h1.sliceD
  obtain ⟨A2, c2, rfl⟩ := h2.sliceD
  have mp : p.size ≤ 9223372036854775807 := by unfold maxLen at hp; omega
  have mq : q.size ≤ 9223372036854775807 := by unfold maxLen at hq; omega
  have HG := hd (fun (x : TTitle) (hx : x ∈ T) => (hg x hx).2.1)
  have e0 : (totDesk p C T q : Int) = (p.size : Int) + (C.length : Int) + (totTitle T : Int) + (q.size : Int) := by simp [totDesk]
  have hb := (Below.refl w.heap.size w).alloc (Nat.le_refl _) (.cells #[.string p, .slice A1 C.length c1, .slice A2 T.length c2, .string q] 25)
  have z0 : w.heap.size < (w.alloc (.cells #[.string p, .slice A1 C.length c1, .slice A2 T.length c2, .string q] 25)).heap.size := by simp
  replace h1 := h1.alloc (.cells #[.string p, .slice A1 C.length c1, .slice A2 T.length c2, .string q] 25)
  replace h2 := h2.alloc (.cells #[.string p, .slice A1 C.length c1, .slice A2 T.length c2, .string q] 25)
  have a0 := new_cell w #[.string p, .slice A1 C.length c1, .slice A2 T.length c2, .string q] 25 0 _ rfl
  have a1 := new_cell w #[.string p, .slice A1 C.length c1, .slice A2 T.length c2, .string q] 25 1 _ rfl
  have a2 := new_cell w #[.string p, .slice A1 C.length c1, .slice A2 T.length c2, .string q] 25 2 _ rfl
  have a3 := new_cell w #[.string p, .slice A1 C.length c1, .slice A2 T.length c2, .string q] 25 3 _ rfl
  clear hp hq hg
  by_cases s0 : (p.size : Int) ≤ left
  case neg =>
    clear e0 hle
    have s0 := Int.not_le.1 s0
    go_enter Tryz.func5, Tryz.ntmps5
    go_wp2_with fail
    go_ret
    exact ⟨rfl, hb⟩
  by_cases s1 : (C.length : Int) ≤ left - (p.size : Int)
  case neg =>
    clear e0 hle
    have s1 := Int.not_le.1 s1
    go_enter Tryz.func5, Tryz.ntmps5
    go_wp2_with fail
    generalize w.alloc (.cells #[.string p, .slice A1 C.length c1, .slice A2 T.length c2, .string q] 25) = W at hb z0 a0 a1 a2 a3 h1 h2 ⊢
    refine (szCues_no _ _ _ h1 _ (by omega) (by omega) (by omega)).mono ?_
    rintro e w1 ⟨rfl, rfl⟩
    go_wp2_with fail
    go_ret
    exact ⟨rfl, hb⟩
  by_cases s2 : (totTitle T : Int) ≤ left - (p.size : Int) - (C.length : Int)
  case neg =>
    clear e0 hle
    have s2 := Int.not_le.1 s2
    go_enter Tryz.func5, Tryz.ntmps5
    go_wp2_with fail
    generalize w.alloc (.cells #[.string p, .slice A1 C.length c1, .slice A2 T.length c2, .string q] 25) = W at hb z0 a0 a1 a2 a3 h1 h2 ⊢
    refine (szCues_yes _ _ _ h1 _ (by omega) (by omega) (by omega)).mono ?_
    rintro e w1 ⟨rfl, rfl⟩
    go_wp2_with fail
    refine (szTitles_no _ _ _ h2 HG.out _ (by omega) (by omega) (by omega)).mono ?_
    rintro e w2 ⟨rfl, hb2⟩
    have B2 := below_step hb hb2
    have d0 := (hb2.cell (p := ⟨w.heap.size, 0, none⟩) z0).trans a0
    have d1 := (hb2.cell (p := ⟨w.heap.size, 1, none⟩) z0).trans a1
    have d2 := (hb2.cell (p := ⟨w.heap.size, 2, none⟩) z0).trans a2
    have d3 := (hb2.cell (p := ⟨w.heap.size, 3, none⟩) z0).trans a3
    clear hb2 a0 a1 a2 a3
    go_wp2_with fail
    go_ret
    exact ⟨rfl, B2⟩
  have s3 : left - (p.size : Int) - (C.length : Int) - (totTitle T : Int) < (q.size : Int) := by omega
  clear e0 hle
  go_enter Tryz.func5, Tryz.ntmps5
  go_wp2_with fail
  generalize w.alloc (.cells #[.string p, .slice A1 C.length c1, .slice A2 T.length c2, .string q] 25) = W at hb z0 a0 a1 a2 a3 h1 h2 ⊢
  refine (szCues_yes _ _ _ h1 _ (by omega) (by omega) (by omega)).mono ?_
  rintro e w1 ⟨rfl, rfl⟩
  go_wp2_with fail
  refine (szTitles_yes _ _ _ h2 HG.out _ (by omega) (by omega) (by omega)).mono ?_
  rintro e w2 ⟨rfl, hb2⟩
  have B2 := below_step hb hb2
  have d0 := (hb2.cell (p := ⟨w.heap.size, 0, none⟩) z0).trans a0
  have d1 := (hb2.cell (p := ⟨w.heap.size, 1, none⟩) z0).trans a1
  have d2 := (hb2.cell (p := ⟨w.heap.size, 2, none⟩) z0).trans a2
  have d3 := (hb2.cell (p := ⟨w.heap.size, 3, none⟩) z0).trans a3
  clear hb2 a0 a1 a2 a3
  go_wp2_with fail
  go_ret
  exact ⟨rfl, B2⟩
end Go.Proofs.YtfldalhojebblaaGreatDoor
