/- Lemmas for the claim (the walks of its functions and their plain laws), joined. No condition. -/
import Derived.Test.YtgcodjkjdfahdaaGreatDoorJ1
import Derived.Test.YtgcodjkjdfahdaaGreatDoorJ15
import Derived.Test.YtgcodjkjdfahdaaGreatDoorJ14
import Derived.Lib.SliceRun
namespace Go.Proofs.YtgcodjkjdfahdaaGreatDoor
open Go Go.RowKit Go.ChangeShapes Go.WideShapes
set_option linter.unusedSimpArgs false
set_option linter.unusedVariables false
def broken (x : TTitle) (d : Int) : TTitle := (x.1, x.2.1, x.2.2.1, d)
set_option maxHeartbeats 1000000 in
theorem clone_Titles (w : World) (v : Value) (l : List TTitle) (h : Sl w 4 v eTitle l) (hl : l.length ≤ 1048576) :
    Calls Tryz.prog 64 #[v] w (GivesOwn w 95 4 eTitle l) := by
  obtain ⟨-, A, c, rfl, -, -, hA⟩ := id h
  obtain ⟨i0, hi, hz0, hz1, hz2⟩ := info_parts info_Title
  have q : ∀ (w : World) (a : Option Addr) (n c n' c' : Nat), (binOp .eql 27 (.slice a n c) (.slice none n' c')).run Tryz.prog w = .ok (.bool a.isNone) w := fun w a n c n' c' => Go.Lib.run_eql_slice_nil w _ _ a n c n' c' Tryz.underlying27
  rcases A with _ | ad
  · have hnil : l = [] := by
      rcases l with _ | ⟨y, l⟩
      · rfl
      · obtain ⟨b, o, he, -⟩ := hA 0 y rfl
        cases he
    subst hnil
    go_enter Tryz.func64, Tryz.ntmps64
    go_wp2_with fail
    go_ret
    exact ⟨_, rfl, Own.nil _ _ _ _ _, Below.refl _ _⟩
  · clear hA
    go_enter Tryz.func64, Tryz.ntmps64
    go_wp2_with (at_builtin; refine wpList_append_sl _ rfl _ _ 27 rfl i0 (.agg #[.int .i64 0, .string ByteArray.empty, .int .i64 0, .int .i64 0]) 40 Tryz.underlying27 hi hz0 hz1 hz2 rfl (by decide) eTitle_len (by rintro ⟨a, b, c, d⟩ u hu; simp [eTitle] at hu; rcases hu with rfl | rfl | rfl | rfl <;> rfl) _ [] rfl (Own.made0 w w.heap.size 95 4 eTitle (Nat.le_refl _)) _ l rfl (h.alloc _) (by unfold maxLen; simp; omega) (by simp; omega) (by simp) ?_)
    intro v' w1 hown hgr
    have hbel := ((Below.refl w.heap.size w).alloc (Nat.le_refl _) (.cells #[] 95)).grown hgr (by simp) (by intro g hg; simp [Value.ownBlock] at hg; omega)
    go_wp2_with fail
    go_ret
    exact ⟨_, rfl, by simpa using hown, hbel⟩
end Go.Proofs.YtgcodjkjdfahdaaGreatDoor

namespace Go.Proofs.YtgcodjkjdfahdaaGreatDoor
open Go Go.RowKit Go.ChangeShapes Go.WideShapes
set_option linter.unusedSimpArgs false
set_option linter.unusedVariables false
set_option maxRecDepth 100000 in
set_option maxHeartbeats 2000000 in
theorem toDeskO (w : World) (p q : ByteArray) (v1 v2 : Value) (C : List TCue) (T : List TTitle) (h1 : Sl w 4 v1 eCue C) (h2 : Sl w 4 v2 eTitle T) (hC : C.length ≤ 1048576) (hT : T.length ≤ 1048576) :
    Calls Tryz.prog 16 #[.agg #[.string p, v1, v2, .string q]] w fun e w' => ∃ A1 c1 A2 c2, e = .returned (.agg #[.string p, .slice A1 C.length c1, .slice A2 T.length c2, .string q]) ∧ Own w' w.heap.size 92 4 (.slice A1 C.length c1) eCue C ∧ Own w' w.heap.size 95 4 (.slice A2 T.length c2) eTitle T ∧ Below w.heap.size w w' := by
  obtain ⟨A1, c1, rfl⟩ := h1.sliceD
  obtain ⟨A2, c2, rfl⟩ := h2.sliceD
  obtain ⟨WA, hW⟩ : ∃ WA, WA = ((w.alloc (.cells #[.string p, .slice A1 C.length c1, .slice A2 T.length c2, .string q] 41)).alloc (.cells #[.string ⟨#[]⟩, .slice none 0 0, .slice none 0 0, .string ⟨#[]⟩] 29)).alloc (.cells #[.string p, .slice none 0 0, .slice none 0 0, .string ⟨#[]⟩] 29) := ⟨_, rfl⟩
  have hbA : Below w.heap.size w WA := by rw [hW]; exact (((Below.refl w.heap.size w).alloc (Nat.le_refl _) _).alloc (by simp) _).alloc (by simp; omega) _
  have hsA : WA.heap.size = w.heap.size + 3 := by rw [hW]; simp
  have g0 : WA.heap[w.heap.size]? = some (.cells #[.string p, .slice A1 C.length c1, .slice A2 T.length c2, .string q] 41 (0, 0)) := by
    rw [hW]
    have e1 := ((Below.refl (w.heap.size + 1) (w.alloc (.cells #[.string p, .slice A1 C.length c1, .slice A2 T.length c2, .string q] 41))).alloc (by simp) (.cells #[.string ⟨#[]⟩, .slice none 0 0, .slice none 0 0, .string ⟨#[]⟩] 29)).block w.heap.size (by omega)
    have e2 := ((Below.refl (w.heap.size + 2) ((w.alloc (.cells #[.string p, .slice A1 C.length c1, .slice A2 T.length c2, .string q] 41)).alloc (.cells #[.string ⟨#[]⟩, .slice none 0 0, .slice none 0 0, .string ⟨#[]⟩] 29))).alloc (by simp) (.cells #[.string p, .slice none 0 0, .slice none 0 0, .string ⟨#[]⟩] 29)).block w.heap.size (by omega)
    exact e2.trans (e1.trans (heap_alloc_new w (.cells #[.string p, .slice A1 C.length c1, .slice A2 T.length c2, .string q] 41)))
  have g1 : WA.heap[w.heap.size + 1]? = some (.cells #[.string ⟨#[]⟩, .slice none 0 0, .slice none 0 0, .string ⟨#[]⟩] 29 (0, 0)) := by
    rw [hW]
    have e2 := ((Below.refl (w.heap.size + 2) ((w.alloc (.cells #[.string p, .slice A1 C.length c1, .slice A2 T.length c2, .string q] 41)).alloc (.cells #[.string ⟨#[]⟩, .slice none 0 0, .slice none 0 0, .string ⟨#[]⟩] 29))).alloc (by simp) (.cells #[.string p, .slice none 0 0, .slice none 0 0, .string ⟨#[]⟩] 29)).block (w.heap.size + 1) (by omega)
    have e3 := heap_alloc_new (w.alloc (.cells #[.string p, .slice A1 C.length c1, .slice A2 T.length c2, .string q] 41)) (.cells #[.string ⟨#[]⟩, .slice none 0 0, .slice none 0 0, .string ⟨#[]⟩] 29)
    rw [show (w.alloc (.cells #[.string p, .slice A1 C.length c1, .slice A2 T.length c2, .string q] 41)).heap.size = w.heap.size + 1 from by simp] at e3
    exact e2.trans e3
  have g2 : WA.heap[w.heap.size + 1 + 1]? = some (.cells #[.string p, .slice none 0 0, .slice none 0 0, .string ⟨#[]⟩] 29 (0, 0)) := by
    rw [hW]
    have e3 := heap_alloc_new ((w.alloc (.cells #[.string p, .slice A1 C.length c1, .slice A2 T.length c2, .string q] 41)).alloc (.cells #[.string ⟨#[]⟩, .slice none 0 0, .slice none 0 0, .string ⟨#[]⟩] 29)) (.cells #[.string p, .slice none 0 0, .slice none 0 0, .string ⟨#[]⟩] 29)
    rw [show ((w.alloc (.cells #[.string p, .slice A1 C.length c1, .slice A2 T.length c2, .string q] 41)).alloc (.cells #[.string ⟨#[]⟩, .slice none 0 0, .slice none 0 0, .string ⟨#[]⟩] 29)).heap.size = w.heap.size + 1 + 1 from by simp] at e3
    exact e3
  have a0 := cell_of_row WA w.heap.size 0 _ _ (0, 0) g0
  have r0 := cell_of_row WA (w.heap.size + 1) 0 _ _ (0, 0) g1
  have o0 := cell_of_row WA (w.heap.size + 1 + 1) 0 _ _ (0, 0) g2
  have e0 := freeD g1 0
  have f0 := freeD g2 0
  have a1 := cell_of_row WA w.heap.size 1 _ _ (0, 0) g0
  have r1 := cell_of_row WA (w.heap.size + 1) 1 _ _ (0, 0) g1
  have o1 := cell_of_row WA (w.heap.size + 1 + 1) 1 _ _ (0, 0) g2
  have e1 := freeD g1 1
  have f1 := freeD g2 1
  have a2 := cell_of_row WA w.heap.size 2 _ _ (0, 0) g0
  have r2 := cell_of_row WA (w.heap.size + 1) 2 _ _ (0, 0) g1
  have o2 := cell_of_row WA (w.heap.size + 1 + 1) 2 _ _ (0, 0) g2
  have e2 := freeD g1 2
  have f2 := freeD g2 2
  have a3 := cell_of_row WA w.heap.size 3 _ _ (0, 0) g0
  have r3 := cell_of_row WA (w.heap.size + 1) 3 _ _ (0, 0) g1
  have o3 := cell_of_row WA (w.heap.size + 1 + 1) 3 _ _ (0, 0) g2
  have e3 := freeD g1 3
  have f3 := freeD g2 3
  have HW := hd hW
  have z0 : w.heap.size < WA.heap.size := by omega
  have z1 : w.heap.size + 1 < WA.heap.size := by omega
  have z2 : w.heap.size + 1 + 1 < WA.heap.size := by omega
  clear hW g0 g1 g2
  go_enter Tryz.func16, Tryz.ntmps16
  go_wp2_with fail
  rw [← HW.out]
  refine (toCues _ _ _ (h1.below hbA) hC).mono ?_
  rintro e w1 ⟨u1, rfl, O1, hb1⟩
  obtain ⟨A3, c3, rfl⟩ := O1.sliceD eCue_len
  replace a0 := (hb1.cell (p := ⟨w.heap.size, 0, none⟩) z0).trans a0
  replace r0 := (hb1.cell (p := ⟨(w.heap.size + 1), 0, none⟩) z1).trans r0
  replace o0 := (hb1.cell (p := ⟨(w.heap.size + 1 + 1), 0, none⟩) z2).trans o0
  replace e0 := (hb1.frozen (p := ⟨(w.heap.size + 1), 0, none⟩) z1).trans e0
  replace f0 := (hb1.frozen (p := ⟨(w.heap.size + 1 + 1), 0, none⟩) z2).trans f0
  replace a1 := (hb1.cell (p := ⟨w.heap.size, 1, none⟩) z0).trans a1
  replace r1 := (hb1.cell (p := ⟨(w.heap.size + 1), 1, none⟩) z1).trans r1
  replace o1 := (hb1.cell (p := ⟨(w.heap.size + 1 + 1), 1, none⟩) z2).trans o1
  replace e1 := (hb1.frozen (p := ⟨(w.heap.size + 1), 1, none⟩) z1).trans e1
  replace f1 := (hb1.frozen (p := ⟨(w.heap.size + 1 + 1), 1, none⟩) z2).trans f1
  replace a2 := (hb1.cell (p := ⟨w.heap.size, 2, none⟩) z0).trans a2
  replace r2 := (hb1.cell (p := ⟨(w.heap.size + 1), 2, none⟩) z1).trans r2
  replace o2 := (hb1.cell (p := ⟨(w.heap.size + 1 + 1), 2, none⟩) z2).trans o2
  replace e2 := (hb1.frozen (p := ⟨(w.heap.size + 1), 2, none⟩) z1).trans e2
  replace f2 := (hb1.frozen (p := ⟨(w.heap.size + 1 + 1), 2, none⟩) z2).trans f2
  replace a3 := (hb1.cell (p := ⟨w.heap.size, 3, none⟩) z0).trans a3
  replace r3 := (hb1.cell (p := ⟨(w.heap.size + 1), 3, none⟩) z1).trans r3
  replace o3 := (hb1.cell (p := ⟨(w.heap.size + 1 + 1), 3, none⟩) z2).trans o3
  replace e3 := (hb1.frozen (p := ⟨(w.heap.size + 1), 3, none⟩) z1).trans e3
  replace f3 := (hb1.frozen (p := ⟨(w.heap.size + 1 + 1), 3, none⟩) z2).trans f3
  have B1 : Below w.heap.size w w1 := below_step hbA hb1
  have zs : WA.heap.size ≤ w1.heap.size := hb1.size
  obtain ⟨WB, hB⟩ : ∃ WB, WB = w1.setCell ⟨w.heap.size + 1 + 1, 1, none⟩ (.slice A3 C.length c3) := ⟨_, rfl⟩
  have hBB : Below w.heap.size w WB := by rw [hB]; exact B1.setCell (by show w.heap.size ≤ w.heap.size + 1 + 1; omega) _
  have OA : Own WB WA.heap.size 92 4 (.slice A3 C.length c3) eCue C := by rw [hB]; exact ownsRow_setCell_below O1 (a := ⟨w.heap.size + 1 + 1, 1, none⟩) z2 _
  have sB : WB.heap.size = w1.heap.size := by rw [hB]; simp
  have XA0 : WB.cell? ⟨w.heap.size, 0, none⟩ = some (.string p) := by rw [hB]; go_simp
  have R0 : WB.cell? ⟨(w.heap.size + 1), 0, none⟩ = some (.string ⟨#[]⟩) := by rw [hB]; go_simp
  have O0' : WB.cell? ⟨(w.heap.size + 1 + 1), 0, none⟩ = some (.string p) := by rw [hB]; go_simp
  have E0 : WB.frozen? ⟨(w.heap.size + 1), 0, none⟩ = false := by rw [hB]; go_simp
  have F0 : WB.frozen? ⟨(w.heap.size + 1 + 1), 0, none⟩ = false := by rw [hB]; go_simp
  have XA1 : WB.cell? ⟨w.heap.size, 1, none⟩ = some (.slice A1 C.length c1) := by rw [hB]; go_simp
  have R1 : WB.cell? ⟨(w.heap.size + 1), 1, none⟩ = some (.slice none 0 0) := by rw [hB]; go_simp
  have O1' : WB.cell? ⟨(w.heap.size + 1 + 1), 1, none⟩ = some (.slice A3 C.length c3) := by rw [hB]; go_simp
  have E1 : WB.frozen? ⟨(w.heap.size + 1), 1, none⟩ = false := by rw [hB]; go_simp
  have F1 : WB.frozen? ⟨(w.heap.size + 1 + 1), 1, none⟩ = false := by rw [hB]; go_simp
  have XA2 : WB.cell? ⟨w.heap.size, 2, none⟩ = some (.slice A2 T.length c2) := by rw [hB]; go_simp
  have R2 : WB.cell? ⟨(w.heap.size + 1), 2, none⟩ = some (.slice none 0 0) := by rw [hB]; go_simp
  have O2' : WB.cell? ⟨(w.heap.size + 1 + 1), 2, none⟩ = some (.slice none 0 0) := by rw [hB]; go_simp
  have E2 : WB.frozen? ⟨(w.heap.size + 1), 2, none⟩ = false := by rw [hB]; go_simp
  have F2 : WB.frozen? ⟨(w.heap.size + 1 + 1), 2, none⟩ = false := by rw [hB]; go_simp
  have XA3 : WB.cell? ⟨w.heap.size, 3, none⟩ = some (.string q) := by rw [hB]; go_simp
  have R3 : WB.cell? ⟨(w.heap.size + 1), 3, none⟩ = some (.string ⟨#[]⟩) := by rw [hB]; go_simp
  have O3' : WB.cell? ⟨(w.heap.size + 1 + 1), 3, none⟩ = some (.string ⟨#[]⟩) := by rw [hB]; go_simp
  have E3 : WB.frozen? ⟨(w.heap.size + 1), 3, none⟩ = false := by rw [hB]; go_simp
  have F3 : WB.frozen? ⟨(w.heap.size + 1 + 1), 3, none⟩ = false := by rw [hB]; go_simp
  have HB := hd hB
  clear hB O1 hb1 hbA
  go_wp2_with fail
  rw [← HB.out]
  clear a0 r0 o0 e0 f0 a1 r1 o1 e1 f1 a2 r2 o2 e2 f2 a3 r3 o3 e3 f3
  have y0 : w.heap.size < WB.heap.size := by omega
  have y1 : w.heap.size + 1 < WB.heap.size := by omega
  have y2 : w.heap.size + 1 + 1 < WB.heap.size := by omega
  refine (toTitles _ _ _ (h2.below hBB) hT).mono ?_
  rintro e w2 ⟨u2, rfl, O2, hb2⟩
  obtain ⟨A4, c4, rfl⟩ := O2.sliceD eTitle_len
  replace XA0 := (hb2.cell (p := ⟨w.heap.size, 0, none⟩) y0).trans XA0
  replace R0 := (hb2.cell (p := ⟨(w.heap.size + 1), 0, none⟩) y1).trans R0
  replace O0' := (hb2.cell (p := ⟨(w.heap.size + 1 + 1), 0, none⟩) y2).trans O0'
  replace E0 := (hb2.frozen (p := ⟨(w.heap.size + 1), 0, none⟩) y1).trans E0
  replace F0 := (hb2.frozen (p := ⟨(w.heap.size + 1 + 1), 0, none⟩) y2).trans F0
  replace XA1 := (hb2.cell (p := ⟨w.heap.size, 1, none⟩) y0).trans XA1
  replace R1 := (hb2.cell (p := ⟨(w.heap.size + 1), 1, none⟩) y1).trans R1
  replace O1' := (hb2.cell (p := ⟨(w.heap.size + 1 + 1), 1, none⟩) y2).trans O1'
  replace E1 := (hb2.frozen (p := ⟨(w.heap.size + 1), 1, none⟩) y1).trans E1
  replace F1 := (hb2.frozen (p := ⟨(w.heap.size + 1 + 1), 1, none⟩) y2).trans F1
  replace XA2 := (hb2.cell (p := ⟨w.heap.size, 2, none⟩) y0).trans XA2
  replace R2 := (hb2.cell (p := ⟨(w.heap.size + 1), 2, none⟩) y1).trans R2
  replace O2' := (hb2.cell (p := ⟨(w.heap.size + 1 + 1), 2, none⟩) y2).trans O2'
  replace E2 := (hb2.frozen (p := ⟨(w.heap.size + 1), 2, none⟩) y1).trans E2
  replace F2 := (hb2.frozen (p := ⟨(w.heap.size + 1 + 1), 2, none⟩) y2).trans F2
  replace XA3 := (hb2.cell (p := ⟨w.heap.size, 3, none⟩) y0).trans XA3
  replace R3 := (hb2.cell (p := ⟨(w.heap.size + 1), 3, none⟩) y1).trans R3
  replace O3' := (hb2.cell (p := ⟨(w.heap.size + 1 + 1), 3, none⟩) y2).trans O3'
  replace E3 := (hb2.frozen (p := ⟨(w.heap.size + 1), 3, none⟩) y1).trans E3
  replace F3 := (hb2.frozen (p := ⟨(w.heap.size + 1 + 1), 3, none⟩) y2).trans F3
  have B2 : Below w.heap.size w w2 := below_step hBB hb2
  have OA2 := OA.below hb2 (Nat.le_refl _)
  have q1 : w.heap.size + 3 ≤ WA.heap.size := z2
  have q2 : w.heap.size + 3 ≤ WB.heap.size := y2
  have HE := hd (fun (w3 : World) (hk : ∀ k, w.heap.size + 3 ≤ k → w3.heap[k]? = w2.heap[k]?) => (show Own w3 w.heap.size 92 4 (.slice A3 C.length c3) eCue C ∧ Own w3 w.heap.size 95 4 (.slice A4 T.length c4) eTitle T from
    ⟨(OA2.aboveD (by omega) hk).base (by omega), (O2.aboveD (by omega) hk).base (by omega)⟩))
  clear O2 OA OA2 hb2 hBB h1 h2
  go_wp2
  refine bodyPost_ret (v := .agg #[.string p, .slice A3 C.length c3, .slice A4 T.length c4, .string q]) (by simp [results, Tryz.results16, go_sem, XA0, R0, O0', E0, F0, XA1, R1, O1', E1, F1, XA2, R2, O2', E2, F2, XA3, R3, O3', E3, F3]) rfl ?_
  refine ⟨_, _, _, _, rfl, (HE.out _ (fun k hk => ?_)).1, (HE.out _ (fun k hk => ?_)).2, ?_⟩
  · rw [Below.heap_setCell, Below.heap_setCell, Below.heap_setCell, Below.heap_setCell, Below.heap_setCell, Below.heap_setCell]
    all_goals (simp only [ne_eq]; omega)
  · rw [Below.heap_setCell, Below.heap_setCell, Below.heap_setCell, Below.heap_setCell, Below.heap_setCell, Below.heap_setCell]
    all_goals (simp only [ne_eq]; omega)
  · repeat (refine Below.setCell ?_ (by first | (simp; done) | (simp; omega)) _)
    exact B2
end Go.Proofs.YtgcodjkjdfahdaaGreatDoor
