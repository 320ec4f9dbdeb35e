/- Lemmas for the claim (the walks of its functions and their plain laws), joined. No condition. -/
import Derived.Test.YtgcodjkjdfahdaaGreatDoorJ19
import Derived.Laws.ResultCell
namespace Go.Proofs.YtgcodjkjdfahdaaGreatDoor
open Go Go.RowKit Go.ChangeShapes Go.WideShapes
set_option linter.unusedSimpArgs false
set_option linter.unusedVariables false
set_option maxRecDepth 100000 in
set_option maxHeartbeats 8000000 in
theorem readT_spec (w : World) (s : ByteArray) (hs : s.size ≤ 1048576) :
    Calls Tryz.prog 181 #[.string s] w fun e w' => e = .returned (.tuple #[.agg #[.int .i64 (rtV s).1, .string (rtV s).2.1, .int .i64 (rtV s).2.2.1, .int .i64 (rtV s).2.2.2], .bool (rtB s)]) ∧ Below w.heap.size w w' := by
  have hb0 := (title_new w (.int .i64 0) (.string ⟨#[]⟩) (.int .i64 0) (.int .i64 0) 95).2.2.2.2.2.2.2.2.2
  have hz0 := (title_new w (.int .i64 0) (.string ⟨#[]⟩) (.int .i64 0) (.int .i64 0) 95).2.2.2.2.2.2.2.2.1
  have X0 := box_new w (.int .i64 0) (.string ⟨#[]⟩) (.int .i64 0) (.int .i64 0) 95
  go_enter Tryz.func181, Tryz.ntmps181
  go_wp2_with fail
  generalize w.alloc (.cells #[.int .i64 0, .string ⟨#[]⟩, .int .i64 0, .int .i64 0] 95) = W0 at hb0 hz0 X0 ⊢
  refine (split_spec _ _ 32 hs).mono ?_
  rintro e w1 ⟨v, rfl, hown, hb1⟩
  have B1 := below_step hb0 hb1
  have X1 := X0.below hb1
  by_cases hlen : (partsB 32 s).length = 7
  case neg =>
    have HN := hd (readT_len hlen)
    have hlen' : (((partsB 32 s).length : Nat) : Int) ≠ 7 := by omega
    have hle := partsB_len_le 32 s
    obtain ⟨A, cc, rfl⟩ := hown.isSlice
    obtain ⟨x0, ⟨d0, d1, d2, d3, c0, c1, c2, c3⟩, f0, f1, f2, f3⟩ := X1
    clear hlen hown X0
    go_wp2_with fail
    have FC := title_cells w1 w.heap.size (.int .i64 0) (.string ⟨#[]⟩) (.int .i64 0) (.int .i64 0) _ _ _ _ c0 c1 c2 c3
    have BZ := box_below B1 (.int .i64 0) (.string ⟨#[]⟩) (.int .i64 0) (.int .i64 0)
    generalize ((((w1.setCell ⟨w.heap.size, 0, none⟩ (.int .i64 0)).setCell ⟨w.heap.size, 1, none⟩ (.string ⟨#[]⟩)).setCell ⟨w.heap.size, 2, none⟩ (.int .i64 0)).setCell ⟨w.heap.size, 3, none⟩ (.int .i64 0)) = Z at FC BZ ⊢
    obtain ⟨e0, e1, e2, e3⟩ := FC
    refine bodyPost_ret (v := .tuple #[.agg #[.int .i64 0, .string ⟨#[]⟩, .int .i64 0, .int .i64 0], .bool false]) ?_ rfl ?_
    · refine (results_cell_tmp Tryz.results181 _ _ _).trans ?_
      show (((loadVar 95 ⟨w.heap.size, 0, none⟩).run Tryz.prog Z).andThen fun v w₂ => Result.ok (Value.tuple #[v, Value.bool false]) w₂) = _
      rw [load_title Z _ _ _ _ _ e0 e1 e2 e3]
      rfl
    · exact ⟨by unfold rtV rtB; rw [HN.out]; rfl, BZ⟩
  obtain ⟨y0, y1, y2, y3, y4, y5, y6, hL⟩ := seven hlen
  have hsz : ∀ x ∈ partsB 32 s, x.size ≤ 1048576 := fun x hx => Nat.le_trans (partsB_size 32 s x hx) hs
  obtain ⟨g, cap, rfl, hg, hcap, hcap2, CE1⟩ := own_cells hown (by omega)
  rw [hlen] at hcap ⊢
  rw [hL] at hsz CE1
  have HL := hd hL
  have z0 : y0.size ≤ 1048576 := hsz y0 (by simp)
  have z1 : y1.size ≤ 1048576 := hsz y1 (by simp)
  have z2 : y2.size ≤ 1048576 := hsz y2 (by simp)
  have z3 : y3.size ≤ 1048576 := hsz y3 (by simp)
  have z4 : y4.size ≤ 1048576 := hsz y4 (by simp)
  have z5 : y5.size ≤ 1048576 := hsz y5 (by simp)
  have z6 : y6.size ≤ 1048576 := hsz y6 (by simp)
  clear hsz hL hown hlen X0
  have q0 : w1.cell? ⟨g, 0, none⟩ = some (.string y0) := CE1.2 0 y0 rfl
  have q3 : w1.cell? ⟨g, 3, none⟩ = some (.string y3) := CE1.2 3 y3 rfl
  have q5 : w1.cell? ⟨g, 5, none⟩ = some (.string y5) := CE1.2 5 y5 rfl
  by_cases ew0 : y0 = wNo
  case neg =>
    have HN := hd (readT_word HL.out (fun e => ew0 e.1))
    have kk : (y0.toList == [110, 111]) = false := beq_eq_false_iff_ne.2 (fun e => ew0 (bytes_of_toList (e.trans (Lib.toList_data wNo).symm)))
    obtain ⟨x0, ⟨d0, d1, d2, d3, c0, c1, c2, c3⟩, f0, f1, f2, f3⟩ := X1
    clear ew0
    go_wp2_with fail
    have FC := title_cells w1 w.heap.size (.int .i64 0) (.string ⟨#[]⟩) (.int .i64 0) (.int .i64 0) _ _ _ _ c0 c1 c2 c3
    have BZ := box_below B1 (.int .i64 0) (.string ⟨#[]⟩) (.int .i64 0) (.int .i64 0)
    generalize ((((w1.setCell ⟨w.heap.size, 0, none⟩ (.int .i64 0)).setCell ⟨w.heap.size, 1, none⟩ (.string ⟨#[]⟩)).setCell ⟨w.heap.size, 2, none⟩ (.int .i64 0)).setCell ⟨w.heap.size, 3, none⟩ (.int .i64 0)) = Z at FC BZ ⊢
    obtain ⟨e0, e1, e2, e3⟩ := FC
    refine bodyPost_ret (v := .tuple #[.agg #[.int .i64 0, .string ⟨#[]⟩, .int .i64 0, .int .i64 0], .bool false]) ?_ rfl ?_
    · refine (results_cell_tmp Tryz.results181 _ _ _).trans ?_
      show (((loadVar 95 ⟨w.heap.size, 0, none⟩).run Tryz.prog Z).andThen fun v w₂ => Result.ok (Value.tuple #[v, Value.bool false]) w₂) = _
      rw [load_title Z _ _ _ _ _ e0 e1 e2 e3]
      rfl
    · exact ⟨by unfold rtV rtB; rw [HN.out]; rfl, BZ⟩
  have HW0 := hd ew0
  have ky0 : (y0.toList == [110, 111]) = true := by rw [ew0, Lib.toList_data]; rfl
  clear ew0
  by_cases ew3 : y3 = wGl
  case neg =>
    have HN := hd (readT_word HL.out (fun e => ew3 e.2.1))
    have kk : (y3.toList == [103, 108, 97, 115, 115, 101, 115]) = false := beq_eq_false_iff_ne.2 (fun e => ew3 (bytes_of_toList (e.trans (Lib.toList_data wGl).symm)))
    obtain ⟨x0, ⟨d0, d1, d2, d3, c0, c1, c2, c3⟩, f0, f1, f2, f3⟩ := X1
    clear ew3
    go_wp2_with fail
    have FC := title_cells w1 w.heap.size (.int .i64 0) (.string ⟨#[]⟩) (.int .i64 0) (.int .i64 0) _ _ _ _ c0 c1 c2 c3
    have BZ := box_below B1 (.int .i64 0) (.string ⟨#[]⟩) (.int .i64 0) (.int .i64 0)
    generalize ((((w1.setCell ⟨w.heap.size, 0, none⟩ (.int .i64 0)).setCell ⟨w.heap.size, 1, none⟩ (.string ⟨#[]⟩)).setCell ⟨w.heap.size, 2, none⟩ (.int .i64 0)).setCell ⟨w.heap.size, 3, none⟩ (.int .i64 0)) = Z at FC BZ ⊢
    obtain ⟨e0, e1, e2, e3⟩ := FC
    refine bodyPost_ret (v := .tuple #[.agg #[.int .i64 0, .string ⟨#[]⟩, .int .i64 0, .int .i64 0], .bool false]) ?_ rfl ?_
    · refine (results_cell_tmp Tryz.results181 _ _ _).trans ?_
      show (((loadVar 95 ⟨w.heap.size, 0, none⟩).run Tryz.prog Z).andThen fun v w₂ => Result.ok (Value.tuple #[v, Value.bool false]) w₂) = _
      rw [load_title Z _ _ _ _ _ e0 e1 e2 e3]
      rfl
    · exact ⟨by unfold rtV rtB; rw [HN.out]; rfl, BZ⟩
  have HW3 := hd ew3
  have ky3 : (y3.toList == [103, 108, 97, 115, 115, 101, 115]) = true := by rw [ew3, Lib.toList_data]; rfl
  clear ew3
  by_cases ew5 : y5 = wBr
  case neg =>
    have HN := hd (readT_word HL.out (fun e => ew5 e.2.2))
    have kk : (y5.toList == [98, 114, 111, 107, 101, 110]) = false := beq_eq_false_iff_ne.2 (fun e => ew5 (bytes_of_toList (e.trans (Lib.toList_data wBr).symm)))
    obtain ⟨x0, ⟨d0, d1, d2, d3, c0, c1, c2, c3⟩, f0, f1, f2, f3⟩ := X1
    clear ew5
    go_wp2_with fail
    have FC := title_cells w1 w.heap.size (.int .i64 0) (.string ⟨#[]⟩) (.int .i64 0) (.int .i64 0) _ _ _ _ c0 c1 c2 c3
    have BZ := box_below B1 (.int .i64 0) (.string ⟨#[]⟩) (.int .i64 0) (.int .i64 0)
    generalize ((((w1.setCell ⟨w.heap.size, 0, none⟩ (.int .i64 0)).setCell ⟨w.heap.size, 1, none⟩ (.string ⟨#[]⟩)).setCell ⟨w.heap.size, 2, none⟩ (.int .i64 0)).setCell ⟨w.heap.size, 3, none⟩ (.int .i64 0)) = Z at FC BZ ⊢
    obtain ⟨e0, e1, e2, e3⟩ := FC
    refine bodyPost_ret (v := .tuple #[.agg #[.int .i64 0, .string ⟨#[]⟩, .int .i64 0, .int .i64 0], .bool false]) ?_ rfl ?_
    · refine (results_cell_tmp Tryz.results181 _ _ _).trans ?_
      show (((loadVar 95 ⟨w.heap.size, 0, none⟩).run Tryz.prog Z).andThen fun v w₂ => Result.ok (Value.tuple #[v, Value.bool false]) w₂) = _
      rw [load_title Z _ _ _ _ _ e0 e1 e2 e3]
      rfl
    · exact ⟨by unfold rtV rtB; rw [HN.out]; rfl, BZ⟩
  have HW5 := hd ew5
  have ky5 : (y5.toList == [98, 114, 111, 107, 101, 110]) = true := by rw [ew5, Lib.toList_data]; rfl
  clear ew5
  have p1 : w1.cell? ⟨g, 1, none⟩ = some (.string y1) := CE1.2 1 y1 rfl
  go_wp2_with fail
  refine (number_spec _ _ z1).mono ?_
  rintro e w2 ⟨rfl, hb2⟩
  obtain ⟨a, oka, la, ua, hra, ya, na⟩ := num_form y1.data.toList
  rw [hra]
  have Ya := hd ya
  have Na := hd na
  clear hra ya na
  have B2 := below_step B1 hb2
  have X2 := X1.below hb2
  have CE2 := CE1.below hb2
  have p4 : w2.cell? ⟨g, 4, none⟩ = some (.string y4) := CE2.2 4 y4 rfl
  go_wp2_with fail
  refine (number_spec _ _ z4).mono ?_
  rintro e w3 ⟨rfl, hb3⟩
  obtain ⟨c, okc, lc, uc, hrc, yc, nc⟩ := num_form y4.data.toList
  rw [hrc]
  have Yc := hd yc
  have Nc := hd nc
  clear hrc yc nc
  have B3 := below_step B2 hb3
  have X3 := X2.below hb3
  have CE3 := CE2.below hb3
  have p6 : w3.cell? ⟨g, 6, none⟩ = some (.string y6) := CE3.2 6 y6 rfl
  go_wp2_with fail
  refine (number_spec _ _ z6).mono ?_
  rintro e w4 ⟨rfl, hb4⟩
  obtain ⟨d, okd, ld, ud, hrd, yd, nd⟩ := num_form y6.data.toList
  rw [hrd]
  have Yd := hd yd
  have Nd := hd nd
  clear hrd yd nd
  have B4 := below_step B3 hb4
  have X4 := X3.below hb4
  have CE4 := CE3.below hb4
  have p2 : w4.cell? ⟨g, 2, none⟩ = some (.string y2) := CE4.2 2 y2 rfl
  have HX := title_new w4 (.int .i64 a) (.string y2) (.int .i64 c) (.int .i64 d) 95
  have X5 := X4.below HX.2.2.2.2.2.2.2.2.2
  have B5 := below_step B4 HX.2.2.2.2.2.2.2.2.2
  obtain ⟨t0, t1, t2, t3, -, -, -, -, hz5, -⟩ := HX
  rcases oka with _ | _
  · have HN := hd (readT_num HL.out (.inl (Na.out (by trivial))))
    obtain ⟨x0, ⟨d0, d1, d2, d3, c0, c1, c2, c3⟩, f0, f1, f2, f3⟩ := X5
    go_wp2_with fail
    have FC := title_cells (w4.alloc (.cells #[.int .i64 a, .string y2, .int .i64 c, .int .i64 d] 95)) w.heap.size (.int .i64 0) (.string ⟨#[]⟩) (.int .i64 0) (.int .i64 0) _ _ _ _ c0 c1 c2 c3
    have BZ := box_below B5 (.int .i64 0) (.string ⟨#[]⟩) (.int .i64 0) (.int .i64 0)
    generalize (((((w4.alloc (.cells #[.int .i64 a, .string y2, .int .i64 c, .int .i64 d] 95)).setCell ⟨w.heap.size, 0, none⟩ (.int .i64 0)).setCell ⟨w.heap.size, 1, none⟩ (.string ⟨#[]⟩)).setCell ⟨w.heap.size, 2, none⟩ (.int .i64 0)).setCell ⟨w.heap.size, 3, none⟩ (.int .i64 0)) = Z at FC BZ ⊢
    obtain ⟨e0, e1, e2, e3⟩ := FC
    refine bodyPost_ret (v := .tuple #[.agg #[.int .i64 0, .string ⟨#[]⟩, .int .i64 0, .int .i64 0], .bool false]) ?_ rfl ?_
    · refine (results_cell_tmp Tryz.results181 _ _ _).trans ?_
      show (((loadVar 95 ⟨w.heap.size, 0, none⟩).run Tryz.prog Z).andThen fun v w₂ => Result.ok (Value.tuple #[v, Value.bool false]) w₂) = _
      rw [load_title Z _ _ _ _ _ e0 e1 e2 e3]
      rfl
    · exact ⟨by unfold rtV rtB; rw [HN.out]; rfl, BZ⟩
  rcases okc with _ | _
  · have HN := hd (readT_num HL.out (.inr (.inl (Nc.out (by trivial)))))
    obtain ⟨x0, ⟨d0, d1, d2, d3, c0, c1, c2, c3⟩, f0, f1, f2, f3⟩ := X5
    go_wp2_with fail
    have FC := title_cells (w4.alloc (.cells #[.int .i64 a, .string y2, .int .i64 c, .int .i64 d] 95)) w.heap.size (.int .i64 0) (.string ⟨#[]⟩) (.int .i64 0) (.int .i64 0) _ _ _ _ c0 c1 c2 c3
    have BZ := box_below B5 (.int .i64 0) (.string ⟨#[]⟩) (.int .i64 0) (.int .i64 0)
    generalize (((((w4.alloc (.cells #[.int .i64 a, .string y2, .int .i64 c, .int .i64 d] 95)).setCell ⟨w.heap.size, 0, none⟩ (.int .i64 0)).setCell ⟨w.heap.size, 1, none⟩ (.string ⟨#[]⟩)).setCell ⟨w.heap.size, 2, none⟩ (.int .i64 0)).setCell ⟨w.heap.size, 3, none⟩ (.int .i64 0)) = Z at FC BZ ⊢
    obtain ⟨e0, e1, e2, e3⟩ := FC
    refine bodyPost_ret (v := .tuple #[.agg #[.int .i64 0, .string ⟨#[]⟩, .int .i64 0, .int .i64 0], .bool false]) ?_ rfl ?_
    · refine (results_cell_tmp Tryz.results181 _ _ _).trans ?_
      show (((loadVar 95 ⟨w.heap.size, 0, none⟩).run Tryz.prog Z).andThen fun v w₂ => Result.ok (Value.tuple #[v, Value.bool false]) w₂) = _
      rw [load_title Z _ _ _ _ _ e0 e1 e2 e3]
      rfl
    · exact ⟨by unfold rtV rtB; rw [HN.out]; rfl, BZ⟩
  rcases okd with _ | _
  · have HN := hd (readT_num HL.out (.inr (.inr (Nd.out (by trivial)))))
    obtain ⟨x0, ⟨d0, d1, d2, d3, c0, c1, c2, c3⟩, f0, f1, f2, f3⟩ := X5
    go_wp2_with fail
    have FC := title_cells (w4.alloc (.cells #[.int .i64 a, .string y2, .int .i64 c, .int .i64 d] 95)) w.heap.size (.int .i64 0) (.string ⟨#[]⟩) (.int .i64 0) (.int .i64 0) _ _ _ _ c0 c1 c2 c3
    have BZ := box_below B5 (.int .i64 0) (.string ⟨#[]⟩) (.int .i64 0) (.int .i64 0)
    generalize (((((w4.alloc (.cells #[.int .i64 a, .string y2, .int .i64 c, .int .i64 d] 95)).setCell ⟨w.heap.size, 0, none⟩ (.int .i64 0)).setCell ⟨w.heap.size, 1, none⟩ (.string ⟨#[]⟩)).setCell ⟨w.heap.size, 2, none⟩ (.int .i64 0)).setCell ⟨w.heap.size, 3, none⟩ (.int .i64 0)) = Z at FC BZ ⊢
    obtain ⟨e0, e1, e2, e3⟩ := FC
    refine bodyPost_ret (v := .tuple #[.agg #[.int .i64 0, .string ⟨#[]⟩, .int .i64 0, .int .i64 0], .bool false]) ?_ rfl ?_
    · refine (results_cell_tmp Tryz.results181 _ _ _).trans ?_
      show (((loadVar 95 ⟨w.heap.size, 0, none⟩).run Tryz.prog Z).andThen fun v w₂ => Result.ok (Value.tuple #[v, Value.bool false]) w₂) = _
      rw [load_title Z _ _ _ _ _ e0 e1 e2 e3]
      rfl
    · exact ⟨by unfold rtV rtB; rw [HN.out]; rfl, BZ⟩
  go_wp2_with fail
  refine (oneT_spec _ w4.heap.size 0 a y2 c d t0 t1 t2 t3).mono ?_
  rintro e w6 ⟨rfl, hb6⟩
  have hx6 : w4.heap.size < (w4.alloc (.cells #[.int .i64 a, .string y2, .int .i64 c, .int .i64 d] 95)).heap.size := by omega
  have u0 := (hb6.cell (p := ⟨w4.heap.size, 0, none⟩) hx6).trans t0
  have u1 := (hb6.cell (p := ⟨w4.heap.size, 1, none⟩) hx6).trans t1
  have u2 := (hb6.cell (p := ⟨w4.heap.size, 2, none⟩) hx6).trans t2
  have u3 := (hb6.cell (p := ⟨w4.heap.size, 3, none⟩) hx6).trans t3
  have X6 := X5.below hb6
  have B6 := below_step B5 hb6
  have HR := hd (readT_some HL.out (Ya.out (by trivial)) (Yc.out (by trivial)) (Yd.out (by trivial)))
  obtain ⟨x0, ⟨d0, d1, d2, d3, c0, c1, c2, c3⟩, f0, f1, f2, f3⟩ := X6
  clear X5 hb6 t0 t1 t2 t3
  rcases et : okTitleB (a, y2, c, d) with _ | _
  · have HN := hd (show readT s = none by rw [HR.out, if_neg (fun e => by rw [et] at e; cases e.1)])
    clear et
    go_wp2_with fail
    have FC := title_cells w6 w.heap.size (.int .i64 0) (.string ⟨#[]⟩) (.int .i64 0) (.int .i64 0) _ _ _ _ c0 c1 c2 c3
    have BZ := box_below B6 (.int .i64 0) (.string ⟨#[]⟩) (.int .i64 0) (.int .i64 0)
    generalize ((((w6.setCell ⟨w.heap.size, 0, none⟩ (.int .i64 0)).setCell ⟨w.heap.size, 1, none⟩ (.string ⟨#[]⟩)).setCell ⟨w.heap.size, 2, none⟩ (.int .i64 0)).setCell ⟨w.heap.size, 3, none⟩ (.int .i64 0)) = Z at FC BZ ⊢
    obtain ⟨e0, e1, e2, e3⟩ := FC
    refine bodyPost_ret (v := .tuple #[.agg #[.int .i64 0, .string ⟨#[]⟩, .int .i64 0, .int .i64 0], .bool false]) ?_ rfl ?_
    · refine (results_cell_tmp Tryz.results181 _ _ _).trans ?_
      show (((loadVar 95 ⟨w.heap.size, 0, none⟩).run Tryz.prog Z).andThen fun v w₂ => Result.ok (Value.tuple #[v, Value.bool false]) w₂) = _
      rw [load_title Z _ _ _ _ _ e0 e1 e2 e3]
      rfl
    · exact ⟨by unfold rtV rtB; rw [HN.out]; rfl, BZ⟩
  have HN := hd (show readT s = some (a, y2, c, d) by rw [HR.out, if_pos ⟨et, HW0.out, HW3.out, HW5.out⟩])
  clear et
  go_wp2_with fail
  have FC := title_cells w6 w.heap.size (.int .i64 a) (.string y2) (.int .i64 c) (.int .i64 d) _ _ _ _ c0 c1 c2 c3
  have BZ := box_below B6 (.int .i64 a) (.string y2) (.int .i64 c) (.int .i64 d)
  generalize ((((w6.setCell ⟨w.heap.size, 0, none⟩ (.int .i64 a)).setCell ⟨w.heap.size, 1, none⟩ (.string y2)).setCell ⟨w.heap.size, 2, none⟩ (.int .i64 c)).setCell ⟨w.heap.size, 3, none⟩ (.int .i64 d)) = Z at FC BZ ⊢
  obtain ⟨e0, e1, e2, e3⟩ := FC
  refine bodyPost_ret (v := .tuple #[.agg #[.int .i64 a, .string y2, .int .i64 c, .int .i64 d], .bool true]) ?_ rfl ?_
  · refine (results_cell_tmp Tryz.results181 _ _ _).trans ?_
    show (((loadVar 95 ⟨w.heap.size, 0, none⟩).run Tryz.prog Z).andThen fun v w₂ => Result.ok (Value.tuple #[v, Value.bool true]) w₂) = _
    rw [load_title Z _ _ _ _ _ e0 e1 e2 e3]
    rfl
  · exact ⟨by unfold rtV rtB; rw [HN.out]; rfl, BZ⟩
end Go.Proofs.YtgcodjkjdfahdaaGreatDoor
