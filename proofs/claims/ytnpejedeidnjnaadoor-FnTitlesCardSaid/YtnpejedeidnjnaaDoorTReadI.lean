/- A title read from a text: the program's ReadTitle. No condition but that the library's table, its two errors and its search variable lie as they are laid. -/
import Derived.Test.YtnpejedeidnjnaaDoorTRead
import Derived.Laws.ResultCell
namespace Go.Proofs.YtnpejedeidnjnaaDoor
open Go Go.RowKit Go.ChangeShapes Go.WideShapes
set_option linter.unusedSimpArgs false
set_option linter.unusedVariables false
theorem free_in {w : World} {g : Nat} {cs : Array Value} {T : TypeId} (h : w.heap[g]? = some (.cells cs T (0, 0))) (j : Nat) : w.frozen? ⟨g, j, none⟩ = false := by
  simp [World.frozen?, h]
theorem title_new (w : World) (a b c d : Value) (T : TypeId) :
    (w.alloc (.cells #[a, b, c, d] T)).cell? ⟨w.heap.size, 0, none⟩ = some a ∧ (w.alloc (.cells #[a, b, c, d] T)).cell? ⟨w.heap.size, 1, none⟩ = some b ∧ (w.alloc (.cells #[a, b, c, d] T)).cell? ⟨w.heap.size, 2, none⟩ = some c ∧ (w.alloc (.cells #[a, b, c, d] T)).cell? ⟨w.heap.size, 3, none⟩ = some d ∧
    (w.alloc (.cells #[a, b, c, d] T)).frozen? ⟨w.heap.size, 0, none⟩ = false ∧ (w.alloc (.cells #[a, b, c, d] T)).frozen? ⟨w.heap.size, 1, none⟩ = false ∧ (w.alloc (.cells #[a, b, c, d] T)).frozen? ⟨w.heap.size, 2, none⟩ = false ∧ (w.alloc (.cells #[a, b, c, d] T)).frozen? ⟨w.heap.size, 3, none⟩ = false ∧
    (w.alloc (.cells #[a, b, c, d] T)).heap.size = w.heap.size + 1 ∧ Below w.heap.size w (w.alloc (.cells #[a, b, c, d] T)) := by
  have g0 : (w.alloc (.cells #[a, b, c, d] T)).heap[w.heap.size]? = some (.cells #[a, b, c, d] T (0, 0)) := heap_alloc_new w _
  exact ⟨cell_of_row _ _ 0 _ _ (0, 0) g0, cell_of_row _ _ 1 _ _ (0, 0) g0, cell_of_row _ _ 2 _ _ (0, 0) g0, cell_of_row _ _ 3 _ _ (0, 0) g0, free_in g0 0, free_in g0 1, free_in g0 2, free_in g0 3, by simp, (Below.refl _ _).alloc (Nat.le_refl _) _⟩
/-- a block that holds a title's four cells, free to be written -/
def Box (W : World) (h : Nat) : Prop := h < W.heap.size ∧ (∃ d0 d1 d2 d3, W.cell? ⟨h, 0, none⟩ = some d0 ∧ W.cell? ⟨h, 1, none⟩ = some d1 ∧ W.cell? ⟨h, 2, none⟩ = some d2 ∧ W.cell? ⟨h, 3, none⟩ = some d3) ∧ W.frozen? ⟨h, 0, none⟩ = false ∧ W.frozen? ⟨h, 1, none⟩ = false ∧ W.frozen? ⟨h, 2, none⟩ = false ∧ W.frozen? ⟨h, 3, none⟩ = false
theorem Box.below {W W' : World} {h : Nat} (x : Box W h) (hb : Below W.heap.size W W') : Box W' h := by
  obtain ⟨h0, ⟨d0, d1, d2, d3, c0, c1, c2, c3⟩, f0, f1, f2, f3⟩ := x
  exact ⟨Nat.lt_of_lt_of_le h0 hb.size, ⟨d0, d1, d2, d3, (hb.cell (p := ⟨h, 0, none⟩) h0).trans c0, (hb.cell (p := ⟨h, 1, none⟩) h0).trans c1, (hb.cell (p := ⟨h, 2, none⟩) h0).trans c2, (hb.cell (p := ⟨h, 3, none⟩) h0).trans c3⟩, (hb.frozen (p := ⟨h, 0, none⟩) h0).trans f0, (hb.frozen (p := ⟨h, 1, none⟩) h0).trans f1, (hb.frozen (p := ⟨h, 2, none⟩) h0).trans f2, (hb.frozen (p := ⟨h, 3, none⟩) h0).trans f3⟩
theorem box_new (w : World) (a b c d : Value) (T : TypeId) : Box (w.alloc (.cells #[a, b, c, d] T)) w.heap.size := by
  obtain ⟨c0, c1, c2, c3, f0, f1, f2, f3, hs, -⟩ := title_new w a b c d T
  exact ⟨by omega, ⟨_, _, _, _, c0, c1, c2, c3⟩, f0, f1, f2, f3⟩
theorem box_below {w W : World} {h : Nat} (hb : Below h w W) (a b c d : Value) : Below h w ((((W.setCell ⟨h, 0, none⟩ a).setCell ⟨h, 1, none⟩ b).setCell ⟨h, 2, none⟩ c).setCell ⟨h, 3, none⟩ d) :=
  (((hb.setCell (p := ⟨h, 0, none⟩) (Nat.le_refl _) _).setCell (p := ⟨h, 1, none⟩) (Nat.le_refl _) _).setCell (p := ⟨h, 2, none⟩) (Nat.le_refl _) _).setCell (p := ⟨h, 3, none⟩) (Nat.le_refl _) _
theorem num_form (l : List UInt8) : ∃ (n : Int) (ok : Bool), -1000000000000000000 < n ∧ n < 1000000000000000000 ∧ rdTuple l = .tuple #[.int .i64 n, .bool ok] ∧ (ok = true → numS l = some n) ∧ (ok = false → numS l = none) := by
  rcases h : numS l with _ | n
  · exact ⟨0, false, by omega, by omega, rd_none h, fun e => (by cases e), fun _ => rfl⟩
  · obtain ⟨-, -, h1, h2, -⟩ := numS_some h
    exact ⟨n, true, h1, h2, rd_some h, fun _ => rfl, fun e => (by cases e)⟩
set_option maxRecDepth 100000 in
set_option maxHeartbeats 8000000 in
theorem readT_impl (w : World) (s : ByteArray) (hs : s.size ≤ 1048576) (hsh : Shop w) :
    Calls Tryd.prog 8 #[.string s] w fun e w' => e = .returned (.tuple #[.agg #[.int .i64 (rtV s).1, .string (rtV s).2.1, .int .i64 (rtV s).2.2.1, .int .i64 (rtV s).2.2.2], .bool (rtB s)]) ∧ Below w.heap.size w w' := by
  have hb0 := (title_new w (.int .i64 0) (.string ⟨#[]⟩) (.int .i64 0) (.int .i64 0) 29).2.2.2.2.2.2.2.2.2
  have hz0 := (title_new w (.int .i64 0) (.string ⟨#[]⟩) (.int .i64 0) (.int .i64 0) 29).2.2.2.2.2.2.2.2.1
  have X0 := box_new w (.int .i64 0) (.string ⟨#[]⟩) (.int .i64 0) (.int .i64 0) 29
  have HSH := hd (hsh.below hb0)
  clear hsh
  go_enter Tryd.func8, Tryd.ntmps8
  go_wp2_with fail
  generalize w.alloc (.cells #[.int .i64 0, .string ⟨#[]⟩, .int .i64 0, .int .i64 0] 29) = W0 at hb0 hz0 X0 HSH ⊢
  refine (split_impl _ _ 32 hs HSH.out.2.2).mono ?_
  rintro e w1 ⟨v, rfl, hown, hb1⟩
  have B1 := below_step hb0 hb1
  have SH1 := hd (HSH.out.below hb1)
  have X1 := X0.below hb1
  by_cases hlen : (partsB 32 s).length = 7
  case neg =>
    have HN := hd (readT_len hlen)
    have hlen' : (((partsB 32 s).length : Nat) : Int) ≠ 7 := by omega
    have hle := partsB_len_le 32 s
    obtain ⟨A, cc, rfl⟩ := hown.isSlice
    obtain ⟨x0, ⟨d0, d1, d2, d3, c0, c1, c2, c3⟩, f0, f1, f2, f3⟩ := X1
    clear hlen hown X0
    go_wp2_with fail
    have FC := title_cells w1 w.heap.size (.int .i64 0) (.string ⟨#[]⟩) (.int .i64 0) (.int .i64 0) _ _ _ _ c0 c1 c2 c3
    have BZ := box_below B1 (.int .i64 0) (.string ⟨#[]⟩) (.int .i64 0) (.int .i64 0)
    generalize ((((w1.setCell ⟨w.heap.size, 0, none⟩ (.int .i64 0)).setCell ⟨w.heap.size, 1, none⟩ (.string ⟨#[]⟩)).setCell ⟨w.heap.size, 2, none⟩ (.int .i64 0)).setCell ⟨w.heap.size, 3, none⟩ (.int .i64 0)) = Z at FC BZ ⊢
    obtain ⟨e0, e1, e2, e3⟩ := FC
    refine bodyPost_ret (v := .tuple #[.agg #[.int .i64 0, .string ⟨#[]⟩, .int .i64 0, .int .i64 0], .bool false]) ?_ rfl ?_
    · refine (results_cell_tmp Tryd.results8 _ _ _).trans ?_
      show (((loadVar 29 ⟨w.heap.size, 0, none⟩).run Tryd.prog Z).andThen fun v w₂ => Result.ok (Value.tuple #[v, Value.bool false]) w₂) = _
      rw [load_title Z _ _ _ _ _ e0 e1 e2 e3]
      rfl
    · exact ⟨by unfold rtV rtB; rw [HN.out]; rfl, BZ⟩

  obtain ⟨y0, y1, y2, y3, y4, y5, y6, hL⟩ := seven hlen
  have hsz : ∀ x ∈ partsB 32 s, x.size ≤ 1048576 := fun x hx => Nat.le_trans (partsB_size 32 s x hx) hs
  obtain ⟨g, cap, rfl, hg, hcap, hcap2, CE1⟩ := own_cells hown (by omega)
  rw [hlen] at hcap ⊢
  rw [hL] at hsz CE1
  have HL := hd hL
  have z0 : y0.size ≤ 1048576 := hsz y0 (by simp)
  have z1 : y1.size ≤ 1048576 := hsz y1 (by simp)
  have z2 : y2.size ≤ 1048576 := hsz y2 (by simp)
  have z3 : y3.size ≤ 1048576 := hsz y3 (by simp)
  have z4 : y4.size ≤ 1048576 := hsz y4 (by simp)
  have z5 : y5.size ≤ 1048576 := hsz y5 (by simp)
  have z6 : y6.size ≤ 1048576 := hsz y6 (by simp)
  clear hsz hL hown hlen X0
  have p1 : w1.cell? ⟨g, 1, none⟩ = some (.string y1) := CE1.2 1 y1 rfl
  go_wp2_with fail
  refine (readDec_impl _ _ z1 SH1.out.1 SH1.out.2.1).mono ?_
  rintro e w2 ⟨rfl, hb2⟩
  obtain ⟨a, oka, la, ua, hra, ya, na⟩ := num_form y1.data.toList
  rw [hra]
  have Ya := hd ya
  have Na := hd na
  clear hra ya na
  have B2 := below_step B1 hb2
  have SH2 := hd (SH1.out.below hb2)
  have X2 := X1.below hb2
  have CE2 := CE1.below hb2
  have p4 : w2.cell? ⟨g, 4, none⟩ = some (.string y4) := CE2.2 4 y4 rfl
  go_wp2_with fail
  refine (readDec_impl _ _ z4 SH2.out.1 SH2.out.2.1).mono ?_
  rintro e w3 ⟨rfl, hb3⟩
  obtain ⟨c, okc, lc, uc, hrc, yc, nc⟩ := num_form y4.data.toList
  rw [hrc]
  have Yc := hd yc
  have Nc := hd nc
  clear hrc yc nc
  have B3 := below_step B2 hb3
  have SH3 := hd (SH2.out.below hb3)
  have X3 := X2.below hb3
  have CE3 := CE2.below hb3
  have p6 : w3.cell? ⟨g, 6, none⟩ = some (.string y6) := CE3.2 6 y6 rfl
  go_wp2_with fail
  refine (readDec_impl _ _ z6 SH3.out.1 SH3.out.2.1).mono ?_
  rintro e w4 ⟨rfl, hb4⟩
  obtain ⟨d, okd, ld, ud, hrd, yd, nd⟩ := num_form y6.data.toList
  rw [hrd]
  have Yd := hd yd
  have Nd := hd nd
  clear hrd yd nd
  have B4 := below_step B3 hb4
  have SH4 := hd (SH3.out.below hb4)
  have X4 := X3.below hb4
  have CE4 := CE3.below hb4
  have p2 : w4.cell? ⟨g, 2, none⟩ = some (.string y2) := CE4.2 2 y2 rfl
  have HX := title_new w4 (.int .i64 a) (.string y2) (.int .i64 c) (.int .i64 d) 29
  have X5 := X4.below HX.2.2.2.2.2.2.2.2.2
  have B5 := below_step B4 HX.2.2.2.2.2.2.2.2.2
  have SH5 := hd (SH4.out.below HX.2.2.2.2.2.2.2.2.2)
  obtain ⟨t0, t1, t2, t3, -, -, -, -, hz5, -⟩ := HX
  rcases oka with _ | _
  · have HN := hd (readT_num HL.out (.inl (Na.out (by trivial))))
    obtain ⟨x0, ⟨d0, d1, d2, d3, c0, c1, c2, c3⟩, f0, f1, f2, f3⟩ := X5
    go_wp2_with fail
    have FC := title_cells (w4.alloc (.cells #[.int .i64 a, .string y2, .int .i64 c, .int .i64 d] 29)) w.heap.size (.int .i64 0) (.string ⟨#[]⟩) (.int .i64 0) (.int .i64 0) _ _ _ _ c0 c1 c2 c3
    have BZ := box_below B5 (.int .i64 0) (.string ⟨#[]⟩) (.int .i64 0) (.int .i64 0)
    generalize (((((w4.alloc (.cells #[.int .i64 a, .string y2, .int .i64 c, .int .i64 d] 29)).setCell ⟨w.heap.size, 0, none⟩ (.int .i64 0)).setCell ⟨w.heap.size, 1, none⟩ (.string ⟨#[]⟩)).setCell ⟨w.heap.size, 2, none⟩ (.int .i64 0)).setCell ⟨w.heap.size, 3, none⟩ (.int .i64 0)) = Z at FC BZ ⊢
    obtain ⟨e0, e1, e2, e3⟩ := FC
    refine bodyPost_ret (v := .tuple #[.agg #[.int .i64 0, .string ⟨#[]⟩, .int .i64 0, .int .i64 0], .bool false]) ?_ rfl ?_
    · refine (results_cell_tmp Tryd.results8 _ _ _).trans ?_
      show (((loadVar 29 ⟨w.heap.size, 0, none⟩).run Tryd.prog Z).andThen fun v w₂ => Result.ok (Value.tuple #[v, Value.bool false]) w₂) = _
      rw [load_title Z _ _ _ _ _ e0 e1 e2 e3]
      rfl
    · exact ⟨by unfold rtV rtB; rw [HN.out]; rfl, BZ⟩
  rcases okc with _ | _
  · have HN := hd (readT_num HL.out (.inr (.inl (Nc.out (by trivial)))))
    obtain ⟨x0, ⟨d0, d1, d2, d3, c0, c1, c2, c3⟩, f0, f1, f2, f3⟩ := X5
    go_wp2_with fail
    have FC := title_cells (w4.alloc (.cells #[.int .i64 a, .string y2, .int .i64 c, .int .i64 d] 29)) w.heap.size (.int .i64 0) (.string ⟨#[]⟩) (.int .i64 0) (.int .i64 0) _ _ _ _ c0 c1 c2 c3
    have BZ := box_below B5 (.int .i64 0) (.string ⟨#[]⟩) (.int .i64 0) (.int .i64 0)
    generalize (((((w4.alloc (.cells #[.int .i64 a, .string y2, .int .i64 c, .int .i64 d] 29)).setCell ⟨w.heap.size, 0, none⟩ (.int .i64 0)).setCell ⟨w.heap.size, 1, none⟩ (.string ⟨#[]⟩)).setCell ⟨w.heap.size, 2, none⟩ (.int .i64 0)).setCell ⟨w.heap.size, 3, none⟩ (.int .i64 0)) = Z at FC BZ ⊢
    obtain ⟨e0, e1, e2, e3⟩ := FC
    refine bodyPost_ret (v := .tuple #[.agg #[.int .i64 0, .string ⟨#[]⟩, .int .i64 0, .int .i64 0], .bool false]) ?_ rfl ?_
    · refine (results_cell_tmp Tryd.results8 _ _ _).trans ?_
      show (((loadVar 29 ⟨w.heap.size, 0, none⟩).run Tryd.prog Z).andThen fun v w₂ => Result.ok (Value.tuple #[v, Value.bool false]) w₂) = _
      rw [load_title Z _ _ _ _ _ e0 e1 e2 e3]
      rfl
    · exact ⟨by unfold rtV rtB; rw [HN.out]; rfl, BZ⟩
  rcases okd with _ | _
  · have HN := hd (readT_num HL.out (.inr (.inr (Nd.out (by trivial)))))
    obtain ⟨x0, ⟨d0, d1, d2, d3, c0, c1, c2, c3⟩, f0, f1, f2, f3⟩ := X5
    go_wp2_with fail
    have FC := title_cells (w4.alloc (.cells #[.int .i64 a, .string y2, .int .i64 c, .int .i64 d] 29)) w.heap.size (.int .i64 0) (.string ⟨#[]⟩) (.int .i64 0) (.int .i64 0) _ _ _ _ c0 c1 c2 c3
    have BZ := box_below B5 (.int .i64 0) (.string ⟨#[]⟩) (.int .i64 0) (.int .i64 0)
    generalize (((((w4.alloc (.cells #[.int .i64 a, .string y2, .int .i64 c, .int .i64 d] 29)).setCell ⟨w.heap.size, 0, none⟩ (.int .i64 0)).setCell ⟨w.heap.size, 1, none⟩ (.string ⟨#[]⟩)).setCell ⟨w.heap.size, 2, none⟩ (.int .i64 0)).setCell ⟨w.heap.size, 3, none⟩ (.int .i64 0)) = Z at FC BZ ⊢
    obtain ⟨e0, e1, e2, e3⟩ := FC
    refine bodyPost_ret (v := .tuple #[.agg #[.int .i64 0, .string ⟨#[]⟩, .int .i64 0, .int .i64 0], .bool false]) ?_ rfl ?_
    · refine (results_cell_tmp Tryd.results8 _ _ _).trans ?_
      show (((loadVar 29 ⟨w.heap.size, 0, none⟩).run Tryd.prog Z).andThen fun v w₂ => Result.ok (Value.tuple #[v, Value.bool false]) w₂) = _
      rw [load_title Z _ _ _ _ _ e0 e1 e2 e3]
      rfl
    · exact ⟨by unfold rtV rtB; rw [HN.out]; rfl, BZ⟩
  go_wp2_with fail
  refine (ttext_impl _ a y2 c d SH5.out.1).mono ?_
  rintro e w6 ⟨rfl, hb6⟩
  have hx6 : w4.heap.size < (w4.alloc (.cells #[.int .i64 a, .string y2, .int .i64 c, .int .i64 d] 29)).heap.size := by omega
  have u0 := (hb6.cell (p := ⟨w4.heap.size, 0, none⟩) hx6).trans t0
  have u1 := (hb6.cell (p := ⟨w4.heap.size, 1, none⟩) hx6).trans t1
  have u2 := (hb6.cell (p := ⟨w4.heap.size, 2, none⟩) hx6).trans t2
  have u3 := (hb6.cell (p := ⟨w4.heap.size, 3, none⟩) hx6).trans t3
  have X6 := X5.below hb6
  have B6 := below_step B5 hb6
  have HI := hd (textR_iff HL.out (Ya.out (by trivial)) (Yc.out (by trivial)) (Yd.out (by trivial)))
  have HR := hd (readT_some HL.out (Ya.out (by trivial)) (Yc.out (by trivial)) (Yd.out (by trivial)))
  obtain ⟨x0, ⟨d0, d1, d2, d3, c0, c1, c2, c3⟩, f0, f1, f2, f3⟩ := X6
  clear X5 hb6 t0 t1 t2 t3
  by_cases et : textR a y2 c d = s
  case neg =>
    have HN := hd (show readT s = none by rw [HR.out, if_neg (fun e => et (HI.out.2 e))])
    have kk : ((textR a y2 c d).toList == s.toList) = false := beq_eq_false_iff_ne.2 (fun e => et (bytes_of_toList e))
    clear et
    go_wp2_with fail
    have FC := title_cells w6 w.heap.size (.int .i64 0) (.string ⟨#[]⟩) (.int .i64 0) (.int .i64 0) _ _ _ _ c0 c1 c2 c3
    have BZ := box_below B6 (.int .i64 0) (.string ⟨#[]⟩) (.int .i64 0) (.int .i64 0)
    generalize ((((w6.setCell ⟨w.heap.size, 0, none⟩ (.int .i64 0)).setCell ⟨w.heap.size, 1, none⟩ (.string ⟨#[]⟩)).setCell ⟨w.heap.size, 2, none⟩ (.int .i64 0)).setCell ⟨w.heap.size, 3, none⟩ (.int .i64 0)) = Z at FC BZ ⊢
    obtain ⟨e0, e1, e2, e3⟩ := FC
    refine bodyPost_ret (v := .tuple #[.agg #[.int .i64 0, .string ⟨#[]⟩, .int .i64 0, .int .i64 0], .bool false]) ?_ rfl ?_
    · refine (results_cell_tmp Tryd.results8 _ _ _).trans ?_
      show (((loadVar 29 ⟨w.heap.size, 0, none⟩).run Tryd.prog Z).andThen fun v w₂ => Result.ok (Value.tuple #[v, Value.bool false]) w₂) = _
      rw [load_title Z _ _ _ _ _ e0 e1 e2 e3]
      rfl
    · exact ⟨by unfold rtV rtB; rw [HN.out]; rfl, BZ⟩
  have HN := hd (show readT s = some (a, y2, c, d) by rw [HR.out, if_pos (HI.out.1 et)])
  have kk : ((textR a y2 c d).toList == s.toList) = true := by rw [et]; simp
  clear et
  go_wp2_with fail
  have FC := title_cells w6 w.heap.size (.int .i64 a) (.string y2) (.int .i64 c) (.int .i64 d) _ _ _ _ c0 c1 c2 c3
  have BZ := box_below B6 (.int .i64 a) (.string y2) (.int .i64 c) (.int .i64 d)
  generalize ((((w6.setCell ⟨w.heap.size, 0, none⟩ (.int .i64 a)).setCell ⟨w.heap.size, 1, none⟩ (.string y2)).setCell ⟨w.heap.size, 2, none⟩ (.int .i64 c)).setCell ⟨w.heap.size, 3, none⟩ (.int .i64 d)) = Z at FC BZ ⊢
  obtain ⟨e0, e1, e2, e3⟩ := FC
  refine bodyPost_ret (v := .tuple #[.agg #[.int .i64 a, .string y2, .int .i64 c, .int .i64 d], .bool true]) ?_ rfl ?_
  · refine (results_cell_tmp Tryd.results8 _ _ _).trans ?_
    show (((loadVar 29 ⟨w.heap.size, 0, none⟩).run Tryd.prog Z).andThen fun v w₂ => Result.ok (Value.tuple #[v, Value.bool true]) w₂) = _
    rw [load_title Z _ _ _ _ _ e0 e1 e2 e3]
    rfl
  · exact ⟨by unfold rtV rtB; rw [HN.out]; rfl, BZ⟩
end Go.Proofs.YtnpejedeidnjnaaDoor
