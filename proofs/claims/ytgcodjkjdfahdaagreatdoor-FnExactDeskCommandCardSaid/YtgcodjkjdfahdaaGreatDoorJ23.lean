/- Lemmas for the claim (the walks of its functions and their plain laws), joined. No condition. -/
import Derived.Test.YtgcodjkjdfahdaaGreatDoorJ19
import Derived.Laws.ResultCell
import Derived.Deep.RegionHeld3
namespace Go.Proofs.YtgcodjkjdfahdaaGreatDoor
open Go Go.RowKit Go.ChangeShapes Go.WideShapes
set_option linter.unusedSimpArgs false
set_option linter.unusedVariables false
theorem results_cell_tmp2 {fn : Func} {p u v : Tmp} {ty : TypeId} (h : fn.results = #[.cell p ty, .tmp u, .tmp v]) (tmps : Array Value) (P : Program) (w : World) :
    (results fn tmps).run P w =
      ((asAddr (tmps.getD p undef)).run P w).andThen fun a w₁ => ((loadVar ty a).run P w₁).andThen fun x w₂ => .ok (.tuple #[x, tmps.getD u undef, tmps.getD v undef]) w₂ := by
  simp only [results, h]
  simp [Sem.run_bind, Result.andThen]
def Box3 (W : World) (h : Nat) : Prop := h < W.heap.size ∧ (∃ d0 d1 d2, W.cell? ⟨h, 0, none⟩ = some d0 ∧ W.cell? ⟨h, 1, none⟩ = some d1 ∧ W.cell? ⟨h, 2, none⟩ = some d2) ∧ W.frozen? ⟨h, 0, none⟩ = false ∧ W.frozen? ⟨h, 1, none⟩ = false ∧ W.frozen? ⟨h, 2, none⟩ = false
theorem Box3.below {W W' : World} {h : Nat} (x : Box3 W h) (hb : Below W.heap.size W W') : Box3 W' h := by
  obtain ⟨h0, ⟨d0, d1, d2, c0, c1, c2⟩, f0, f1, f2⟩ := x
  exact ⟨Nat.lt_of_lt_of_le h0 hb.size, ⟨d0, d1, d2, (hb.cell (p := ⟨h, 0, none⟩) h0).trans c0, (hb.cell (p := ⟨h, 1, none⟩) h0).trans c1, (hb.cell (p := ⟨h, 2, none⟩) h0).trans c2⟩, (hb.frozen (p := ⟨h, 0, none⟩) h0).trans f0, (hb.frozen (p := ⟨h, 1, none⟩) h0).trans f1, (hb.frozen (p := ⟨h, 2, none⟩) h0).trans f2⟩
theorem new3 (w : World) (a b c : Value) (T : TypeId) :
    (w.alloc (.cells #[a, b, c] T)).cell? ⟨w.heap.size, 0, none⟩ = some a ∧ (w.alloc (.cells #[a, b, c] T)).cell? ⟨w.heap.size, 1, none⟩ = some b ∧ (w.alloc (.cells #[a, b, c] T)).cell? ⟨w.heap.size, 2, none⟩ = some c ∧
    Box3 (w.alloc (.cells #[a, b, c] T)) w.heap.size ∧ (w.alloc (.cells #[a, b, c] T)).heap.size = w.heap.size + 1 ∧ Below w.heap.size w (w.alloc (.cells #[a, b, c] T)) := by
  have g0 : (w.alloc (.cells #[a, b, c] T)).heap[w.heap.size]? = some (.cells #[a, b, c] T (0, 0)) := heap_alloc_new w _
  have hs : (w.alloc (.cells #[a, b, c] T)).heap.size = w.heap.size + 1 := by simp
  refine ⟨cell_of_row _ _ 0 _ _ (0, 0) g0, cell_of_row _ _ 1 _ _ (0, 0) g0, cell_of_row _ _ 2 _ _ (0, 0) g0, ⟨by omega, ⟨a, b, c, cell_of_row _ _ 0 _ _ (0, 0) g0, cell_of_row _ _ 1 _ _ (0, 0) g0, cell_of_row _ _ 2 _ _ (0, 0) g0⟩, free_in g0 0, free_in g0 1, free_in g0 2⟩, hs, (Below.refl _ _).alloc (Nat.le_refl _) _⟩
theorem box3_below {w W : World} {h B : Nat} (hb : Below B w W) (hB : B ≤ h) (a b c : Value) : Below B w (((W.setCell ⟨h, 0, none⟩ a).setCell ⟨h, 1, none⟩ b).setCell ⟨h, 2, none⟩ c) :=
  ((hb.setCell (p := ⟨h, 0, none⟩) hB _).setCell (p := ⟨h, 1, none⟩) hB _).setCell (p := ⟨h, 2, none⟩) hB _
theorem cells3 (N : World) (h : Nat) (a b c : Value) (d0 d1 d2 : Value)
    (c0 : N.cell? ⟨h, 0, none⟩ = some d0) (c1 : N.cell? ⟨h, 1, none⟩ = some d1) (c2 : N.cell? ⟨h, 2, none⟩ = some d2) :
    (((N.setCell ⟨h, 0, none⟩ a).setCell ⟨h, 1, none⟩ b).setCell ⟨h, 2, none⟩ c).cell? ⟨h, 0, none⟩ = some a ∧
    (((N.setCell ⟨h, 0, none⟩ a).setCell ⟨h, 1, none⟩ b).setCell ⟨h, 2, none⟩ c).cell? ⟨h, 1, none⟩ = some b ∧
    (((N.setCell ⟨h, 0, none⟩ a).setCell ⟨h, 1, none⟩ b).setCell ⟨h, 2, none⟩ c).cell? ⟨h, 2, none⟩ = some c := by
  refine ⟨?_, ?_, ?_⟩ <;> go_simp
theorem keep3 {N : World} {h k : Nat} (hne : h ≠ k) (hne2 : k ≠ h) (a b c : Value) {x y z : Value} (u : N.cell? ⟨k, 0, none⟩ = some x ∧ N.cell? ⟨k, 1, none⟩ = some y ∧ N.cell? ⟨k, 2, none⟩ = some z) :
    (((N.setCell ⟨h, 0, none⟩ a).setCell ⟨h, 1, none⟩ b).setCell ⟨h, 2, none⟩ c).cell? ⟨k, 0, none⟩ = some x ∧ (((N.setCell ⟨h, 0, none⟩ a).setCell ⟨h, 1, none⟩ b).setCell ⟨h, 2, none⟩ c).cell? ⟨k, 1, none⟩ = some y ∧ (((N.setCell ⟨h, 0, none⟩ a).setCell ⟨h, 1, none⟩ b).setCell ⟨h, 2, none⟩ c).cell? ⟨k, 2, none⟩ = some z := by
  obtain ⟨u0, u1, u2⟩ := u
  refine ⟨?_, ?_, ?_⟩ <;> go_simp
theorem load_entry (Z : World) (b : Nat) (x0 : Int) (x1 : ByteArray) (x2 : Int) (e0 : Z.cell? ⟨b, 0, none⟩ = some (.int .i64 x0)) (e1 : Z.cell? ⟨b, 1, none⟩ = some (.string x1)) (e2 : Z.cell? ⟨b, 2, none⟩ = some (.int .i64 x2)) :
    (loadVar 130 ⟨b, 0, none⟩).run Tryz.prog Z = .ok (.agg #[.int .i64 x0, .string x1, .int .i64 x2]) Z := by
  simp [loadVar, go_sem, e0, e1, e2]
set_option maxRecDepth 100000 in
set_option maxHeartbeats 8000000 in
theorem line_impl (w : World) (s : ByteArray) (hs : s.size ≤ 1048576) (hsh : Shop w) :
    Calls Tryz.prog 155 #[.string s] w fun e w' => e = .returned (.tuple #[.agg #[.int .i64 (rdLine s).1.1, .string (rdLine s).1.2.1, .int .i64 (rdLine s).1.2.2], .int .i64 (rdLine s).2.1, .bool (rdLine s).2.2]) ∧ Below w.heap.size w w' := by
  obtain ⟨-, -, -, X0, hz0, hb0⟩ := new3 w (.int .i64 0) (.string ⟨#[]⟩) (.int .i64 0) 130
  have HSH := hd (hsh.below hb0)
  clear hsh
  go_enter Tryz.func155, Tryz.ntmps155
  go_wp2_with fail
  generalize w.alloc (.cells #[.int .i64 0, .string ⟨#[]⟩, .int .i64 0] 130) = W0 at hb0 hz0 X0 HSH ⊢
  refine (split_impl _ _ 32 hs HSH.out.2.2).mono ?_
  rintro e w1 ⟨v, rfl, hown, hb1⟩
  have B1 := below_step hb0 hb1
  have SH1 := hd (HSH.out.below hb1)
  have X1 := X0.below hb1
  by_cases hlen : (partsB 32 s).length = 4
  case neg =>
    have HN := hd (rdLine_len hlen)
    have hlen' : (((partsB 32 s).length : Nat) : Int) ≠ 4 := by omega
    have hle := partsB_len_le 32 s
    obtain ⟨A, cc, rfl⟩ := hown.isSlice
    obtain ⟨x0, ⟨d0, d1, d2, c0, c1, c2⟩, f0, f1, f2⟩ := X1
    clear hlen hown X0
    go_wp2_with fail
    have FC := cells3 w1 w.heap.size (.int .i64 0) (.string ⟨#[]⟩) (.int .i64 0) _ _ _ c0 c1 c2
    have BZ := box3_below B1 (Nat.le_refl _) (.int .i64 0) (.string ⟨#[]⟩) (.int .i64 0)
    generalize (((w1.setCell ⟨w.heap.size, 0, none⟩ (.int .i64 0)).setCell ⟨w.heap.size, 1, none⟩ (.string ⟨#[]⟩)).setCell ⟨w.heap.size, 2, none⟩ (.int .i64 0)) = Z at FC BZ ⊢
    obtain ⟨e0, e1, e2⟩ := FC
    refine bodyPost_ret (v := .tuple #[.agg #[.int .i64 0, .string ⟨#[]⟩, .int .i64 0], .int .i64 0, .bool (false)]) ?_ rfl ?_
    · refine (results_cell_tmp2 Tryz.results155 _ _ _).trans ?_
      show (((loadVar 130 ⟨w.heap.size, 0, none⟩).run Tryz.prog Z).andThen fun v w₂ => Result.ok (Value.tuple #[v, Value.int .i64 0, Value.bool (false)]) w₂) = _
      rw [load_entry Z _ _ _ _ e0 e1 e2]
      rfl
    · exact ⟨by rw [HN.out]; rfl, BZ⟩
  obtain ⟨y0, y1, y2, y3, hL⟩ := four hlen
  have hsz : ∀ x ∈ partsB 32 s, x.size ≤ 1048576 := fun x hx => Nat.le_trans (partsB_size 32 s x hx) hs
  obtain ⟨g, cap, rfl, hg, hcap, hcap2, CE1⟩ := own_cells hown (by omega)
  rw [hlen] at hcap ⊢
  rw [hL] at hsz CE1
  have HL := hd (rdLine_four hL)
  have z0 : y0.size ≤ 1048576 := hsz y0 (by simp)
  have z1 : y1.size ≤ 1048576 := hsz y1 (by simp)
  have z2 : y2.size ≤ 1048576 := hsz y2 (by simp)
  have z3 : y3.size ≤ 1048576 := hsz y3 (by simp)
  clear hsz hL hown hlen X0
  have p0 : w1.cell? ⟨g, 0, none⟩ = some (.string y0) := CE1.2 0 y0 rfl
  go_wp2_with fail
  refine (readDec_impl _ _ z0 SH1.out.1 SH1.out.2.1).mono ?_
  rintro e w2 ⟨rfl, hb2⟩
  unfold rdTuple
  have bda := num_get y0.data.toList
  obtain ⟨a, gga⟩ : ∃ n, (numS y0.data.toList).getD 0 = n := ⟨_, rfl⟩
  obtain ⟨oka, hka⟩ : ∃ b, (numS y0.data.toList).isSome = b := ⟨_, rfl⟩
  rw [gga] at bda
  rw [gga, hka]
  obtain ⟨la, ua⟩ := bda
  have Va := hd gga
  have Ka := hd hka
  clear gga hka
  have B2 := below_step B1 hb2
  have SH2 := hd (SH1.out.below hb2)
  have X2 := X1.below hb2
  have CE2 := CE1.below hb2
  have p2 : w2.cell? ⟨g, 2, none⟩ = some (.string y2) := CE2.2 2 y2 rfl
  go_wp2_with fail
  refine (readDec_impl _ _ z2 SH2.out.1 SH2.out.2.1).mono ?_
  rintro e w3 ⟨rfl, hb3⟩
  unfold rdTuple
  have bdc := num_get y2.data.toList
  obtain ⟨c, ggc⟩ : ∃ n, (numS y2.data.toList).getD 0 = n := ⟨_, rfl⟩
  obtain ⟨okc, hkc⟩ : ∃ b, (numS y2.data.toList).isSome = b := ⟨_, rfl⟩
  rw [ggc] at bdc
  rw [ggc, hkc]
  obtain ⟨lc, uc⟩ := bdc
  have Vc := hd ggc
  have Kc := hd hkc
  clear ggc hkc
  have B3 := below_step B2 hb3
  have SH3 := hd (SH2.out.below hb3)
  have X3 := X2.below hb3
  have CE3 := CE2.below hb3
  have p3 : w3.cell? ⟨g, 3, none⟩ = some (.string y3) := CE3.2 3 y3 rfl
  go_wp2_with fail
  refine (readDec_impl _ _ z3 SH3.out.1 SH3.out.2.1).mono ?_
  rintro e w4 ⟨rfl, hb4⟩
  unfold rdTuple
  have bdd := num_get y3.data.toList
  obtain ⟨d, ggd⟩ : ∃ n, (numS y3.data.toList).getD 0 = n := ⟨_, rfl⟩
  obtain ⟨okd, hkd⟩ : ∃ b, (numS y3.data.toList).isSome = b := ⟨_, rfl⟩
  rw [ggd] at bdd
  rw [ggd, hkd]
  obtain ⟨ld, ud⟩ := bdd
  have Vd := hd ggd
  have Kd := hd hkd
  clear ggd hkd
  have B4 := below_step B3 hb4
  have SH4 := hd (SH3.out.below hb4)
  have X4 := X3.below hb4
  have CE4 := CE3.below hb4
  have p1 : w4.cell? ⟨g, 1, none⟩ = some (.string y1) := CE4.2 1 y1 rfl
  obtain ⟨t0, t1, t2, -, hz5, hb5⟩ := new3 w4 (.int .i64 a) (.string y1) (.int .i64 c) 130
  have X5 := X4.below hb5
  have B5 := below_step B4 hb5
  have HQ := hd (show rdLine s = ((a, y1, c), d, oka && (okc && (okd && okEntryB (a, y1, c)))) by rw [HL.out]; unfold rdLine4; rw [Va.out, Vc.out, Vd.out, Ka.out, Kc.out, Kd.out])
  clear Va Vc Vd Ka Kc Kd HL
  obtain ⟨x0, ⟨d0, d1, d2, c0, c1, c2⟩, f0, f1, f2⟩ := X5
  go_wp2_with fail
  generalize w4.alloc (.cells #[.int .i64 a, .string y1, .int .i64 c] 130) = W5 at t0 t1 t2 hz5 hb5 B5 x0 c0 c1 c2 f0 f1 f2 ⊢
  have hx5 : w4.heap.size < W5.heap.size := by omega
  have hxx := B4.size
  have hxy := hb1.size
  have hxz := hb2.size
  have hxw := hb3.size
  have hxv := hb4.size
  have hne : w.heap.size ≠ w4.heap.size := by omega
  have hne2 : w4.heap.size ≠ w.heap.size := by omega
  rcases oka with _ | _
  · go_region
    have FC : (((W5.setCell ⟨w.heap.size, 0, none⟩ (.int .i64 a)).setCell ⟨w.heap.size, 1, none⟩ (.string y1)).setCell ⟨w.heap.size, 2, none⟩ (.int .i64 c)).drew.cell? ⟨w.heap.size, 0, none⟩ = some (.int .i64 a) ∧ (((W5.setCell ⟨w.heap.size, 0, none⟩ (.int .i64 a)).setCell ⟨w.heap.size, 1, none⟩ (.string y1)).setCell ⟨w.heap.size, 2, none⟩ (.int .i64 c)).drew.cell? ⟨w.heap.size, 1, none⟩ = some (.string y1) ∧ (((W5.setCell ⟨w.heap.size, 0, none⟩ (.int .i64 a)).setCell ⟨w.heap.size, 1, none⟩ (.string y1)).setCell ⟨w.heap.size, 2, none⟩ (.int .i64 c)).drew.cell? ⟨w.heap.size, 2, none⟩ = some (.int .i64 c) := cells3 W5 w.heap.size (.int .i64 a) (.string y1) (.int .i64 c) _ _ _ c0 c1 c2
    have BZ := (box3_below B5 (Nat.le_refl _) (.int .i64 a) (.string y1) (.int .i64 c)).drew
    generalize (((W5.setCell ⟨w.heap.size, 0, none⟩ (.int .i64 a)).setCell ⟨w.heap.size, 1, none⟩ (.string y1)).setCell ⟨w.heap.size, 2, none⟩ (.int .i64 c)).drew = Z at FC BZ ⊢
    obtain ⟨e0, e1, e2⟩ := FC
    go_wp2_with fail
    refine bodyPost_ret (v := .tuple #[.agg #[.int .i64 a, .string y1, .int .i64 c], .int .i64 d, .bool (false)]) ?_ rfl ?_
    · refine (results_cell_tmp2 Tryz.results155 _ _ _).trans ?_
      show (((loadVar 130 ⟨w.heap.size, 0, none⟩).run Tryz.prog Z).andThen fun v w₂ => Result.ok (Value.tuple #[v, Value.int .i64 d, Value.bool (false)]) w₂) = _
      rw [load_entry Z _ _ _ _ e0 e1 e2]
      rfl
    · exact ⟨by rw [HQ.out]; first | rfl | (cases okc <;> rfl) | (cases okd <;> rfl) | (simp only [Bool.true_and, Bool.false_and, Bool.and_false]), BZ⟩
  rcases okc with _ | _
  · go_region
    have FC : (((W5.setCell ⟨w.heap.size, 0, none⟩ (.int .i64 a)).setCell ⟨w.heap.size, 1, none⟩ (.string y1)).setCell ⟨w.heap.size, 2, none⟩ (.int .i64 c)).drew.cell? ⟨w.heap.size, 0, none⟩ = some (.int .i64 a) ∧ (((W5.setCell ⟨w.heap.size, 0, none⟩ (.int .i64 a)).setCell ⟨w.heap.size, 1, none⟩ (.string y1)).setCell ⟨w.heap.size, 2, none⟩ (.int .i64 c)).drew.cell? ⟨w.heap.size, 1, none⟩ = some (.string y1) ∧ (((W5.setCell ⟨w.heap.size, 0, none⟩ (.int .i64 a)).setCell ⟨w.heap.size, 1, none⟩ (.string y1)).setCell ⟨w.heap.size, 2, none⟩ (.int .i64 c)).drew.cell? ⟨w.heap.size, 2, none⟩ = some (.int .i64 c) := cells3 W5 w.heap.size (.int .i64 a) (.string y1) (.int .i64 c) _ _ _ c0 c1 c2
    have BZ := (box3_below B5 (Nat.le_refl _) (.int .i64 a) (.string y1) (.int .i64 c)).drew
    generalize (((W5.setCell ⟨w.heap.size, 0, none⟩ (.int .i64 a)).setCell ⟨w.heap.size, 1, none⟩ (.string y1)).setCell ⟨w.heap.size, 2, none⟩ (.int .i64 c)).drew = Z at FC BZ ⊢
    obtain ⟨e0, e1, e2⟩ := FC
    go_wp2_with fail
    refine bodyPost_ret (v := .tuple #[.agg #[.int .i64 a, .string y1, .int .i64 c], .int .i64 d, .bool (false)]) ?_ rfl ?_
    · refine (results_cell_tmp2 Tryz.results155 _ _ _).trans ?_
      show (((loadVar 130 ⟨w.heap.size, 0, none⟩).run Tryz.prog Z).andThen fun v w₂ => Result.ok (Value.tuple #[v, Value.int .i64 d, Value.bool (false)]) w₂) = _
      rw [load_entry Z _ _ _ _ e0 e1 e2]
      rfl
    · exact ⟨by rw [HQ.out]; first | rfl | (cases okc <;> rfl) | (cases okd <;> rfl) | (simp only [Bool.true_and, Bool.false_and, Bool.and_false]), BZ⟩
  rcases okd with _ | _
  · go_region
    have FC : (((W5.setCell ⟨w.heap.size, 0, none⟩ (.int .i64 a)).setCell ⟨w.heap.size, 1, none⟩ (.string y1)).setCell ⟨w.heap.size, 2, none⟩ (.int .i64 c)).drew.cell? ⟨w.heap.size, 0, none⟩ = some (.int .i64 a) ∧ (((W5.setCell ⟨w.heap.size, 0, none⟩ (.int .i64 a)).setCell ⟨w.heap.size, 1, none⟩ (.string y1)).setCell ⟨w.heap.size, 2, none⟩ (.int .i64 c)).drew.cell? ⟨w.heap.size, 1, none⟩ = some (.string y1) ∧ (((W5.setCell ⟨w.heap.size, 0, none⟩ (.int .i64 a)).setCell ⟨w.heap.size, 1, none⟩ (.string y1)).setCell ⟨w.heap.size, 2, none⟩ (.int .i64 c)).drew.cell? ⟨w.heap.size, 2, none⟩ = some (.int .i64 c) := cells3 W5 w.heap.size (.int .i64 a) (.string y1) (.int .i64 c) _ _ _ c0 c1 c2
    have BZ := (box3_below B5 (Nat.le_refl _) (.int .i64 a) (.string y1) (.int .i64 c)).drew
    generalize (((W5.setCell ⟨w.heap.size, 0, none⟩ (.int .i64 a)).setCell ⟨w.heap.size, 1, none⟩ (.string y1)).setCell ⟨w.heap.size, 2, none⟩ (.int .i64 c)).drew = Z at FC BZ ⊢
    obtain ⟨e0, e1, e2⟩ := FC
    go_wp2_with fail
    refine bodyPost_ret (v := .tuple #[.agg #[.int .i64 a, .string y1, .int .i64 c], .int .i64 d, .bool (false)]) ?_ rfl ?_
    · refine (results_cell_tmp2 Tryz.results155 _ _ _).trans ?_
      show (((loadVar 130 ⟨w.heap.size, 0, none⟩).run Tryz.prog Z).andThen fun v w₂ => Result.ok (Value.tuple #[v, Value.int .i64 d, Value.bool (false)]) w₂) = _
      rw [load_entry Z _ _ _ _ e0 e1 e2]
      rfl
    · exact ⟨by rw [HQ.out]; first | rfl | (cases okc <;> rfl) | (cases okd <;> rfl) | (simp only [Bool.true_and, Bool.false_and, Bool.and_false]), BZ⟩
  have HS := hd (show ∀ ww, Below W5.heap.size W5 ww → ww.cell? ⟨w4.heap.size, 0, none⟩ = some (.int .i64 a) ∧ ww.cell? ⟨w4.heap.size, 1, none⟩ = some (.string y1) ∧ ww.cell? ⟨w4.heap.size, 2, none⟩ = some (.int .i64 c) from fun ww K => ⟨(K.cell (p := ⟨w4.heap.size, 0, none⟩) hx5).trans t0, (K.cell (p := ⟨w4.heap.size, 1, none⟩) hx5).trans t1, (K.cell (p := ⟨w4.heap.size, 2, none⟩) hx5).trans t2⟩)
  have HX := hd (show ∀ ww, Below W5.heap.size W5 ww → (ww.cell? ⟨w.heap.size, 0, none⟩ = some d0 ∧ ww.cell? ⟨w.heap.size, 1, none⟩ = some d1 ∧ ww.cell? ⟨w.heap.size, 2, none⟩ = some d2) ∧ ww.frozen? ⟨w.heap.size, 0, none⟩ = false ∧ ww.frozen? ⟨w.heap.size, 1, none⟩ = false ∧ ww.frozen? ⟨w.heap.size, 2, none⟩ = false from fun ww K => ⟨⟨(K.cell (p := ⟨w.heap.size, 0, none⟩) x0).trans c0, (K.cell (p := ⟨w.heap.size, 1, none⟩) x0).trans c1, (K.cell (p := ⟨w.heap.size, 2, none⟩) x0).trans c2⟩, (K.frozen (p := ⟨w.heap.size, 0, none⟩) x0).trans f0, (K.frozen (p := ⟨w.heap.size, 1, none⟩) x0).trans f1, (K.frozen (p := ⟨w.heap.size, 2, none⟩) x0).trans f2⟩)
  have K := Below.refl W5.heap.size W5
  clear t0 t1 t2 c0 c1 c2 f0 f1 f2
  go_region_held3 (fun ww => ww.cell? ⟨w4.heap.size, 0, none⟩ = some (.int .i64 a) ∧ ww.cell? ⟨w4.heap.size, 1, none⟩ = some (.string y1) ∧ ww.cell? ⟨w4.heap.size, 2, none⟩ = some (.int .i64 c)) (first | with_reducible exact HS.out _ K | with_reducible exact HS.out _ (Below.drew K) | exact keep3 hne hne2 _ _ _ (HS.out _ K))
    (first | (go_at_call 210; replace K := Below.drew K; with_reducible refine (entry_impl _ _ _ _).mono ?_; rintro e w6 ⟨rfl, hb6⟩; replace K := below_step K hb6; clear hb6; obtain ⟨⟨c0, c1, c2⟩, f0, f1, f2⟩ := HX.out _ K))
  obtain ⟨⟨c0, c1, c2⟩, -, -, -⟩ := HX.out _ K
  have B6 := B5.trans (K.mono (Nat.le_trans B1.size (by omega)))
  clear HX HS
  have FC : (((w6.setCell ⟨w.heap.size, 0, none⟩ (.int .i64 a)).setCell ⟨w.heap.size, 1, none⟩ (.string y1)).setCell ⟨w.heap.size, 2, none⟩ (.int .i64 c)).cell? ⟨w.heap.size, 0, none⟩ = some (.int .i64 a) ∧ (((w6.setCell ⟨w.heap.size, 0, none⟩ (.int .i64 a)).setCell ⟨w.heap.size, 1, none⟩ (.string y1)).setCell ⟨w.heap.size, 2, none⟩ (.int .i64 c)).cell? ⟨w.heap.size, 1, none⟩ = some (.string y1) ∧ (((w6.setCell ⟨w.heap.size, 0, none⟩ (.int .i64 a)).setCell ⟨w.heap.size, 1, none⟩ (.string y1)).setCell ⟨w.heap.size, 2, none⟩ (.int .i64 c)).cell? ⟨w.heap.size, 2, none⟩ = some (.int .i64 c) := cells3 w6 w.heap.size (.int .i64 a) (.string y1) (.int .i64 c) _ _ _ c0 c1 c2
  have BZ := (box3_below B6 (Nat.le_refl _) (.int .i64 a) (.string y1) (.int .i64 c))
  generalize (((w6.setCell ⟨w.heap.size, 0, none⟩ (.int .i64 a)).setCell ⟨w.heap.size, 1, none⟩ (.string y1)).setCell ⟨w.heap.size, 2, none⟩ (.int .i64 c)) = Z at FC BZ ⊢
  obtain ⟨e0, e1, e2⟩ := FC
  go_wp2_with fail
  refine bodyPost_ret (v := .tuple #[.agg #[.int .i64 a, .string y1, .int .i64 c], .int .i64 d, .bool (okEntryB (a, y1, c))]) ?_ rfl ?_
  · refine (results_cell_tmp2 Tryz.results155 _ _ _).trans ?_
    show (((loadVar 130 ⟨w.heap.size, 0, none⟩).run Tryz.prog Z).andThen fun v w₂ => Result.ok (Value.tuple #[v, Value.int .i64 d, Value.bool (okEntryB (a, y1, c))]) w₂) = _
    rw [load_entry Z _ _ _ _ e0 e1 e2]
    rfl
  · exact ⟨by rw [HQ.out]; rfl, BZ⟩
end Go.Proofs.YtgcodjkjdfahdaaGreatDoor
