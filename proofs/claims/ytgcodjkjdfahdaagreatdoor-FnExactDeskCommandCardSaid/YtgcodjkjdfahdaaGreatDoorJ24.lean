/- Lemmas for the claim (the walks of its functions and their plain laws), joined. No condition. -/
import Derived.Test.YtgcodjkjdfahdaaGreatDoorJ23
import Derived.RangeFuncBox
namespace Go.Proofs.YtgcodjkjdfahdaaGreatDoor
open Go Go.RowKit Go.ChangeShapes Go.WideShapes
set_option linter.unusedSimpArgs false
set_option linter.unusedVariables false
theorem results_cell_one {fn : Func} {p : Tmp} {ty : TypeId} (h : fn.results = #[.cell p ty]) (tmps : Array Value) (P : Program) (w : World) :
    (results fn tmps).run P w = ((asAddr (tmps.getD p undef)).run P w).andThen fun a w₁ => ((loadVar ty a).run P w₁) := by
  simp only [results, h]
  simp [Sem.run_bind, Result.andThen]
def Rd (W : World) (g : Nat) (v : Value) (st : Int) (n : Nat) : Prop := g < W.heap.size ∧ (W.cell? ⟨g, 0, none⟩ = some v ∧ W.cell? ⟨g, 1, none⟩ = some (.int .i64 st) ∧ W.cell? ⟨g, 2, none⟩ = some (.int .i64 (n : Int))) ∧ W.frozen? ⟨g, 0, none⟩ = false ∧ W.frozen? ⟨g, 1, none⟩ = false ∧ W.frozen? ⟨g, 2, none⟩ = false
theorem Rd.below {W W' : World} {C g n : Nat} {v : Value} {st : Int} (x : Rd W g v st n) (hC : g < C) (hb : Below C W W') : Rd W' g v st n := by
  obtain ⟨h0, ⟨c0, c1, c2⟩, f0, f1, f2⟩ := x
  exact ⟨Nat.lt_of_lt_of_le h0 hb.size, ⟨(hb.cell (p := ⟨g, 0, none⟩) hC).trans c0, (hb.cell (p := ⟨g, 1, none⟩) hC).trans c1, (hb.cell (p := ⟨g, 2, none⟩) hC).trans c2⟩, (hb.frozen (p := ⟨g, 0, none⟩) hC).trans f0, (hb.frozen (p := ⟨g, 1, none⟩) hC).trans f1, (hb.frozen (p := ⟨g, 2, none⟩) hC).trans f2⟩
theorem Box3.below' {W W' : World} {h C : Nat} (x : Box3 W h) (hC : h < C) (hb : Below C W W') : Box3 W' h := by
  obtain ⟨h0, ⟨d0, d1, d2, c0, c1, c2⟩, f0, f1, f2⟩ := x
  exact ⟨Nat.lt_of_lt_of_le h0 hb.size, ⟨d0, d1, d2, (hb.cell (p := ⟨h, 0, none⟩) hC).trans c0, (hb.cell (p := ⟨h, 1, none⟩) hC).trans c1, (hb.cell (p := ⟨h, 2, none⟩) hC).trans c2⟩, (hb.frozen (p := ⟨h, 0, none⟩) hC).trans f0, (hb.frozen (p := ⟨h, 1, none⟩) hC).trans f1, (hb.frozen (p := ⟨h, 2, none⟩) hC).trans f2⟩
theorem cut_at_line {s : ByteArray} (n : Nat) : (s.extract n s.size).data.toList = s.data.toList.drop n := by
  rw [Lib.extract_data]
  exact List.take_of_length_le (by rw [List.length_drop, size_list]; exact Nat.le_refl _)
theorem cut_line (s : ByteArray) (n : Nat) : ∃ line rest : ByteArray, (⟨(Lib.cut (s.extract n s.size).data.toList (⟨#[10]⟩ : ByteArray).data.toList).1.toArray⟩ : ByteArray) = line ∧ (⟨(Lib.cut (s.extract n s.size).data.toList (⟨#[10]⟩ : ByteArray).data.toList).2.1.toArray⟩ : ByteArray) = rest ∧ ((lineAt s n = none ∧ (Lib.cut (s.extract n s.size).data.toList (⟨#[10]⟩ : ByteArray).data.toList).2.2 = false) ∨ (lineAt s n = some line ∧ (Lib.cut (s.extract n s.size).data.toList (⟨#[10]⟩ : ByteArray).data.toList).2.2 = true)) := by
  refine ⟨_, _, rfl, rfl, ?_⟩
  rw [show (⟨#[10]⟩ : ByteArray).data.toList = [10] from rfl, cut_at_line]
  unfold lineAt
  rcases h : (Lib.cut (s.data.toList.drop n) [10]).2.2 with _ | _
  · exact .inl ⟨by simp, rfl⟩
  · exact .inr ⟨by simp, rfl⟩
theorem rd_set {N : World} {g n n' : Nat} {v v' : Value} {st st' : Int} (x : Rd N g v st n) : Rd (((N.setCell ⟨g, 0, none⟩ v').setCell ⟨g, 1, none⟩ (.int .i64 st')).setCell ⟨g, 2, none⟩ (.int .i64 (n' : Int))) g v' st' n' := by
  obtain ⟨h0, ⟨c0, c1, c2⟩, f0, f1, f2⟩ := x
  refine ⟨?_, cells3 N g v' (.int .i64 st') (.int .i64 (n' : Int)) _ _ _ c0 c1 c2, ?_, ?_, ?_⟩
  · exact Nat.lt_of_lt_of_le h0 (box3_below (Below.refl 0 N) (Nat.zero_le _) _ _ _).size
  all_goals go_simp
theorem dayOf_nil {l : List TEntry} (h : l.length = 0) : dayOf l = 0 := by unfold dayOf; rw [if_pos h]
theorem dayOf_last {l : List TEntry} {m : Nat} (h : l.length = m + 1) : dayOf l = (l[m]'(by omega)).1 := by
  unfold dayOf
  rw [if_neg (by omega)]
  have e : l.length - 1 = m := by omega
  rw [e]
  simp [show m < l.length by omega]
theorem rd_new (w : World) (v : Value) (T : TypeId) : Rd (w.alloc (.cells #[v, .int .i64 0, .int .i64 0] T)) w.heap.size v 0 0 := by
  obtain ⟨c0, c1, c2, ⟨h0, -, f0, f1, f2⟩, -, -⟩ := new3 w v (.int .i64 0) (.int .i64 0) T
  exact ⟨h0, ⟨c0, c1, c2⟩, f0, f1, f2⟩
theorem info_EntryI : (Tryz.prog.info? 130).map (fun i => (i.zero, i.size, i.bytes)) = some (some (.agg #[.int .i64 0, .string ByteArray.empty, .int .i64 0]), 3, 32) := by kernel_rfl
theorem load_reading (Z : World) (b : Nat) (v : Value) (x1 x2 : Int) (hv : ∃ A n c, v = .slice A n c) (e0 : Z.cell? ⟨b, 0, none⟩ = some v) (e1 : Z.cell? ⟨b, 1, none⟩ = some (.int .i64 x1)) (e2 : Z.cell? ⟨b, 2, none⟩ = some (.int .i64 x2)) :
    (loadVar 135 ⟨b, 0, none⟩).run Tryz.prog Z = .ok (.agg #[v, .int .i64 x1, .int .i64 x2]) Z := by
  obtain ⟨A, n, c, rfl⟩ := hv
  simp [loadVar, go_sem, e0, e1, e2]
theorem grownBy_set (W : World) (a : Addr) (v : Value) : W.grownBy (W.setCell a v) (some a.block) :=
  ⟨rfl, rfl, rfl, (KeepsWalks.setCell W _ v).size, fun k _ hk => Below.heap_setCell _ _ _ k (fun e => hk (by rw [e]))⟩
theorem own_box3 {w : World} {B E k h : Nat} {v : Value} {α : Type} {enc : α → List Value} {l : List α} (hO : Own w B E k v enc l) (hB : h < B) (a b c : Value) : Own (((w.setCell ⟨h, 0, none⟩ a).setCell ⟨h, 1, none⟩ b).setCell ⟨h, 2, none⟩ c) B E k v enc l := by
  have hw : w.grownBy (((w.setCell ⟨h, 0, none⟩ a).setCell ⟨h, 1, none⟩ b).setCell ⟨h, 2, none⟩ c) (some h) := by
    exact grownBy_trans (grownBy_trans (grownBy_set w ⟨h, 0, none⟩ a) (grownBy_set _ ⟨h, 1, none⟩ b)) (grownBy_set _ ⟨h, 2, none⟩ c)
  exact hO.grown hw (by
    rcases q : v.ownBlock with _ | g
    · exact .inl rfl
    · refine .inr ?_
      intro e
      have := (hO.lt g q).1
      injection e with e
      omega)
set_option maxRecDepth 100000 in
set_option maxHeartbeats 8000000 in
theorem readLog_impl (w : World) (s : ByteArray) (hs : s.size ≤ 1048576) (hsh : Shop w) :
    Calls Tryz.prog 87 #[.string s] w fun e w' => ∃ v, e = .returned (.agg #[v, .int .i64 (readL s).st, .int .i64 ((readL s).at_ : Int)]) ∧ Own w' w.heap.size 130 3 v eEntry (readL s).l ∧ Below w.heap.size w w' := by
  obtain ⟨i0, hi, hz0, hz1, hz2⟩ : ∃ i, Tryz.prog.info? 130 = some i ∧ i.zero = some (.agg #[.int .i64 0, .string ByteArray.empty, .int .i64 0]) ∧ i.size = 3 ∧ i.bytes = 32 := by
    have hh := info_EntryI
    rcases q : Tryz.prog.info? 130 with _ | i
    · simp [q] at hh
    · simp [q] at hh
      exact ⟨i, rfl, hh.1, hh.2.1, hh.2.2⟩
  obtain ⟨-, -, -, X0, hz5, hb0⟩ := new3 w (.slice none 0 0) (.int .i64 0) (.int .i64 0) 135
  have R0 := rd_new (w.alloc (.cells #[.slice none 0 0, .int .i64 0, .int .i64 0] 135)) (.slice none 0 0) 135
  obtain ⟨-, -, -, -, hz6, hb6⟩ := new3 (w.alloc (.cells #[.slice none 0 0, .int .i64 0, .int .i64 0] 135)) (.slice none 0 0) (.int .i64 0) (.int .i64 0) 135
  rw [hz5] at R0 hz6
  have X1 := X0.below hb6
  have B1 := below_step hb0 hb6
  have HSH := hd hsh
  clear hsh X0 hb0 hb6
  go_enter Tryz.func87, Tryz.ntmps87
  go_wp2_with fail
  generalize (w.alloc (.cells #[.slice none 0 0, .int .i64 0, .int .i64 0] 135)).alloc (.cells #[.slice none 0 0, .int .i64 0, .int .i64 0] 135) = W1 at R0 X1 B1 hz6 ⊢
  go_loopw [10] (fun _ wr => ∃ (T : LS) (v : Value), Hid (OnWay s T) ∧ (T.at_ ≤ s.size ∧ T.l.length ≤ T.at_ ∧ 0 ≤ T.st ∧ T.st ≤ 65518) ∧ Rd wr (w.heap.size + 1) v T.st T.at_ ∧ Box3 wr w.heap.size ∧ Own wr (w.heap.size + 2) 130 3 v eEntry T.l ∧ Below w.heap.size w wr ∧ w.heap.size + 2 ≤ wr.heap.size) (fun _ wr => s.size - (intOf ((wr.cell? ⟨w.heap.size + 1, 2, none⟩).getD undef)).toNat)
  case atStart => exact ⟨startL, .slice none 0 0, hd (onWay_start s), ⟨Nat.zero_le _, Nat.le_refl _, by decide, by decide⟩, R0, X1, Own.nil _ _ _ _ _, B1, by omega⟩
  case round =>
    obtain ⟨T, v, HOW, ⟨q1, q2, q3, q4⟩, R, X, O, B, hsz⟩ := hrel
    clear R0 X1 B1 hz6
    obtain ⟨A, cc, rfl⟩ := O.isSlice
    have SH := hd (HSH.out.below B)
    obtain ⟨m, hm⟩ := SH.out.2.2
    have HM := hd hm
    clear hm
    have HMZ := hd R.2.1.2.2
    obtain ⟨line, rest, c1, c2, c3⟩ := cut_line s T.at_
    have C1 := hd c1
    have C2 := hd c2
    clear c1 c2
    have hez : (s.extract T.at_ s.size).size ≤ 1048576 := by rw [ByteArray.size_extract]; omega
    obtain ⟨r0, ⟨c0, c1, c2⟩, f0, f1, f2⟩ := id R
    go_wp2_with fail
    refine (Tryz.strings_Cut _ _ _ _ (by omega) HM.out).mono ?_
    rintro e w2 ⟨rfl, n2, hw⟩
    have E2 : ∀ C, Below C wr w2 := fun C => by rw [hw]; exact below_drewN (Below.refl _ _) n2
    clear hw c0 c1 c2 f0 f1 f2 r0
    have R2 := R.below (show w.heap.size + 1 < w.heap.size + 2 by omega) (E2 _)
    have X2 := X.below' (Nat.lt_succ_self _) (E2 _)
    have O2 := O.below (E2 wr.heap.size) (Nat.le_refl _)
    have B2 := B.trans (E2 w.heap.size)
    have SH2 := hd (SH.out.below (E2 _))
    have hsz2 : w.heap.size + 2 ≤ w2.heap.size := Nat.le_trans hsz (E2 0).size
    rw [C1.out, C2.out]
    rcases c3 with ⟨hl, e3⟩ | ⟨hl, e3⟩
    · have HE := hd (onWay_end HOW.out (nextL_none hl))
      rw [e3]
      clear e3 hl
      obtain ⟨r0, ⟨c0, c1, c2⟩, f0, f1, f2⟩ := id R2
      obtain ⟨x0, ⟨d0, d1, d2, b0, b1, b2⟩, g0, g1, g2⟩ := X2
      go_wp2_with fail
      have FC := cells3 w2 w.heap.size (.slice A T.l.length cc) (.int .i64 T.st) (.int .i64 (T.at_ : Int)) _ _ _ b0 b1 b2
      have BZ := box3_below B2 (Nat.le_refl _) (.slice A T.l.length cc) (.int .i64 T.st) (.int .i64 (T.at_ : Int))
      have OZ := (own_box3 O2 (show w.heap.size < w.heap.size + 2 by omega) (.slice A T.l.length cc) (.int .i64 T.st) (.int .i64 (T.at_ : Int))).base (show w.heap.size ≤ w.heap.size + 2 by omega)
      generalize (((w2.setCell ⟨w.heap.size, 0, none⟩ (.slice A T.l.length cc)).setCell ⟨w.heap.size, 1, none⟩ (.int .i64 T.st)).setCell ⟨w.heap.size, 2, none⟩ (.int .i64 (T.at_ : Int))) = Z at FC BZ OZ ⊢
      obtain ⟨e0, e1, e2⟩ := FC
      refine bodyPost_ret (v := .agg #[.slice A T.l.length cc, .int .i64 T.st, .int .i64 (T.at_ : Int)]) ?_ rfl ?_
      · refine (results_cell_one Tryz.results87 _ _ _).trans ?_
        exact load_reading Z _ _ _ _ ⟨_, _, _, rfl⟩ e0 e1 e2
      · rw [HE.out]
        exact ⟨_, rfl, OZ, BZ⟩
    rw [e3]
    clear e3
    obtain ⟨rl, hd1, hd2⟩ := lineAt_some hl
    have hlz : line.size ≤ 1048576 := by omega
    have HD1 := hd hd1
    have HL := hd hl
    clear hd1 hl
    go_wp2_with fail
    refine (line_impl _ _ hlz SH2.out).mono ?_
    rintro e w3 ⟨rfl, hb3⟩
    have hbd := rdLine_bd line
    have HOK := hd (fun h => rdLine_ok (line := line) h)
    obtain ⟨⟨⟨a, b, c⟩, d, ok⟩, hq⟩ : ∃ x, rdLine line = x := ⟨_, rfl⟩
    rw [hq] at hbd HOK ⊢
    have HQ := hd hq
    clear hq
    dsimp only at hbd HOK
    obtain ⟨⟨a1, a2⟩, ⟨c1, c2⟩, d1, d2⟩ := hbd
    obtain ⟨t0, t1, t2, -, hz7, hb7⟩ := new3 w3 (.int .i64 a) (.string b) (.int .i64 c) 130
    have E4 := below_step hb3 hb7
    have hx4 : w3.heap.size < (w3.alloc (.cells #[.int .i64 a, .string b, .int .i64 c] 130)).heap.size := by omega
    have hw3 := hb3.size
    have R4 := R2.below (show w.heap.size + 1 < w2.heap.size by omega) E4
    have X4 := X2.below' (show w.heap.size < w2.heap.size by omega) E4
    have O4 := O2.below E4 (Nat.le_refl _)
    have B4 := B2.trans (E4.mono (by omega))
    have SH4 := hd (SH2.out.below E4)
    have hsz4 : w.heap.size + 2 ≤ (w3.alloc (.cells #[.int .i64 a, .string b, .int .i64 c] 130)).heap.size := by omega
    obtain ⟨r0, ⟨c0, cst, cn⟩, f0, f1, f2⟩ := id R4
    clear hb3 hb7 E2 R2 X2 O2 B2 SH2 R X O B SH HM
    go_wp2_with fail
    generalize w3.alloc (.cells #[.int .i64 a, .string b, .int .i64 c] 130) = W4 at t0 t1 t2 hz7 E4 hx4 R4 X4 O4 B4 SH4 hsz4 r0 c0 cst cn f0 f1 f2 ⊢
    rcases ok with _ | _
    · have HE := hd (onWay_end HOW.out (nextL_bad HL.out (by rw [HQ.out]; rfl)))
      go_quiet (fail)
      have R5 := R4.below (show w.heap.size + 1 < w.heap.size + 2 by omega) (below_of_drewN nq (w.heap.size + 2))
      have X5 := X4.below' (Nat.lt_succ_self _) (below_of_drewN nq (w.heap.size + 1))
      have O5 := O4.drewN nq
      have B5 := below_drewN B4 nq
      clear r0 c0 cst cn f0 f1 f2 t0 t1 t2 R4 X4 O4 B4
      generalize W4.drewN nq = w5 at R5 X5 O5 B5 ⊢
      obtain ⟨r0, ⟨c0, c1, c2⟩, f0, f1, f2⟩ := id R5
      obtain ⟨x0, ⟨d0, d1, d2, b0, b1, b2⟩, g0, g1, g2⟩ := X5
      go_wp2_with fail
      have FC := cells3 w5 w.heap.size (.slice A T.l.length cc) (.int .i64 T.st) (.int .i64 (T.at_ : Int)) _ _ _ b0 b1 b2
      have BZ := box3_below B5 (Nat.le_refl _) (.slice A T.l.length cc) (.int .i64 T.st) (.int .i64 (T.at_ : Int))
      have OZ := (own_box3 O5 (show w.heap.size < w.heap.size + 2 by omega) (.slice A T.l.length cc) (.int .i64 T.st) (.int .i64 (T.at_ : Int))).base (show w.heap.size ≤ w.heap.size + 2 by omega)
      generalize (((w5.setCell ⟨w.heap.size, 0, none⟩ (.slice A T.l.length cc)).setCell ⟨w.heap.size, 1, none⟩ (.int .i64 T.st)).setCell ⟨w.heap.size, 2, none⟩ (.int .i64 (T.at_ : Int))) = Z at FC BZ OZ ⊢
      obtain ⟨e0, e1, e2⟩ := FC
      refine bodyPost_ret (v := .agg #[.slice A T.l.length cc, .int .i64 T.st, .int .i64 (T.at_ : Int)]) ?_ rfl ?_
      · refine (results_cell_one Tryz.results87 _ _ _).trans ?_
        exact load_reading Z _ _ _ _ ⟨_, _, _, rfl⟩ e0 e1 e2
      · rw [HE.out]
        exact ⟨_, rfl, OZ, BZ⟩
    have hok : okEntryB (a, b, c) = true := HOK.out (by trivial)
    obtain ⟨σ, hσ⟩ : ∃ σ, stampN T.st (wordsS a b c) = σ := ⟨_, rfl⟩
    have HST := hd (show ∀ W, Tab W → Calls Tryz.prog 156 #[.int .i64 T.st, .agg #[.int .i64 a, .string b, .int .i64 c]] W fun e w' => e = .returned (.int .i64 σ) ∧ Below W.heap.size W w' from fun W ht => by rw [← hσ]; exact stampOf_impl W T.st ⟨q3, q4⟩ a b c hok ht)
    have HG := hd (show goodE T (rdLine line) = (decide (dayOf T.l ≤ a) && decide (σ = d)) by rw [HQ.out, ← hσ]; rfl)
    have hda := (okEntryB_bd hok).1
    have hsb := stampN_bd T.st (wordsS a b c)
    rw [hσ] at hsb
    obtain ⟨hsb1, hsb2⟩ := hsb
    have HTX := hd (show ∀ x : Ext W4, Tab (gro W4 x) from fun x => SH4.out.1.below (gro_below x))
    have gst := gro_cell cst
    have gn := gro_cell cn
    have gc0 := gro_cell c0
    have gt0 := gro_cell t0
    have gt1 := gro_cell t1
    have gt2 := gro_cell t2
    clear hσ HOK hok
    by_cases hm : T.l.length = 0
    · have HD : decide (dayOf T.l ≤ a) = true := by rw [dayOf_nil hm]; exact decide_eq_true hda.1
      have hz : decide ((0 : Int) < ((T.l.length : Nat) : Int)) = false := by simp [hm]
      rw [hm] at O4 c0 gc0 R4 hz ⊢
      by_cases hsd : σ = d
      case neg =>
        have HE := hd (onWay_end HOW.out (nextL_bad HL.out (by rw [HG.out, decide_eq_false hsd]; simp)))
        have kd : (σ != d) = true := by simpa using hsd
        clear hsd
        refine wp_region_calm (by kernel_rfl) (by kernel_rfl) ?_
        repeat (first | go_big_quiet_step ((first | (go_at_call 156; exact calm_of (HST.out _ (HTX.out _))))) | quiet_step ((first | (go_at_call 156; exact calm_of (HST.out _ (HTX.out _))))))
        refine wpQuiet_nil ?_
        rintro w5 ⟨x, rfl⟩
        have E5 := gro_below x
        generalize gro W4 x = w5 at E5 ⊢
        have R5 := R4.below (show w.heap.size + 1 < W4.heap.size by omega) E5
        have X5 := X4.below' (show w.heap.size < W4.heap.size by omega) E5
        have O5 := O4.below E5 (Nat.le_refl _)
        have B5 := B4.trans (E5.mono (by omega))
        have hsz5 : w.heap.size + 2 ≤ w5.heap.size := Nat.le_trans hsz4 E5.size
        have u0 := (E5.cell (p := ⟨w3.heap.size, 0, none⟩) hx4).trans t0
        have u1 := (E5.cell (p := ⟨w3.heap.size, 1, none⟩) hx4).trans t1
        have u2 := (E5.cell (p := ⟨w3.heap.size, 2, none⟩) hx4).trans t2
        clear r0 c0 cst cn f0 f1 f2 t0 t1 t2 gc0 gst gn gt0 gt1 gt2 R4 X4 O4 B4 E5
        obtain ⟨r0, ⟨c0, c1, c2⟩, f0, f1, f2⟩ := id R5
        obtain ⟨x0, ⟨d0, d1, d2, b0, b1, b2⟩, g0, g1, g2⟩ := X5
        go_wp2_with fail
        have FC := cells3 w5 w.heap.size (.slice A 0 cc) (.int .i64 T.st) (.int .i64 (T.at_ : Int)) _ _ _ b0 b1 b2
        have BZ := box3_below B5 (Nat.le_refl _) (.slice A 0 cc) (.int .i64 T.st) (.int .i64 (T.at_ : Int))
        have OZ := (own_box3 O5 (show w.heap.size < w.heap.size + 2 by omega) (.slice A 0 cc) (.int .i64 T.st) (.int .i64 (T.at_ : Int))).base (show w.heap.size ≤ w.heap.size + 2 by omega)
        generalize (((w5.setCell ⟨w.heap.size, 0, none⟩ (.slice A 0 cc)).setCell ⟨w.heap.size, 1, none⟩ (.int .i64 T.st)).setCell ⟨w.heap.size, 2, none⟩ (.int .i64 (T.at_ : Int))) = Z at FC BZ OZ ⊢
        obtain ⟨e0, e1, e2⟩ := FC
        refine bodyPost_ret (v := .agg #[.slice A 0 cc, .int .i64 T.st, .int .i64 (T.at_ : Int)]) ?_ rfl ?_
        · refine (results_cell_one Tryz.results87 _ _ _).trans ?_
          exact load_reading Z _ _ _ _ ⟨_, _, _, rfl⟩ e0 e1 e2
        · rw [HE.out]
          exact ⟨_, rfl, OZ, BZ⟩
      have HN := hd (nextL_good HL.out (by rw [HG.out, decide_eq_true hsd, HD]; rfl))
      have kd : (σ != d) = false := by simpa using hsd
      have hdb : 0 ≤ d ∧ d ≤ 65518 := by omega
      clear hsd
      refine wp_region_calm (by kernel_rfl) (by kernel_rfl) ?_
      repeat (first | go_big_quiet_step ((first | (go_at_call 156; exact calm_of (HST.out _ (HTX.out _))))) | quiet_step ((first | (go_at_call 156; exact calm_of (HST.out _ (HTX.out _))))))
      refine wpQuiet_nil ?_
      rintro w5 ⟨x, rfl⟩
      have E5 := gro_below x
      generalize gro W4 x = w5 at E5 ⊢
      have R5 := R4.below (show w.heap.size + 1 < W4.heap.size by omega) E5
      have X5 := X4.below' (show w.heap.size < W4.heap.size by omega) E5
      have O5 := O4.below E5 (Nat.le_refl _)
      have B5 := B4.trans (E5.mono (by omega))
      have hsz5 : w.heap.size + 2 ≤ w5.heap.size := Nat.le_trans hsz4 E5.size
      have u0 := (E5.cell (p := ⟨w3.heap.size, 0, none⟩) hx4).trans t0
      have u1 := (E5.cell (p := ⟨w3.heap.size, 1, none⟩) hx4).trans t1
      have u2 := (E5.cell (p := ⟨w3.heap.size, 2, none⟩) hx4).trans t2
      clear r0 c0 cst cn f0 f1 f2 t0 t1 t2 gc0 gst gn gt0 gt1 gt2 R4 X4 O4 B4 E5
      have E5 := R5
      obtain ⟨r0, ⟨c0, cst, cn⟩, f0, f1, f2⟩ := id R5
      go_wp2_with (at_builtin; refine wpList_push _ rfl _ _ 133 rfl i0 (.agg #[.int .i64 0, .string ByteArray.empty, .int .i64 0]) 32 Tryz.underlying133 hi hz0 hz1 hz2 rfl (by decide) _ _ ((a, b, c) : TEntry) rfl (O5.alloc _) w5.heap.size rfl #[.int .i64 a, .string b, .int .i64 c] 130 (heap_alloc_new _ _) rfl rfl (by intro u hu; simp [eEntry] at hu; rcases hu with rfl | rfl | rfl <;> rfl) (by unfold maxLen; omega) (by omega) (by simp; omega) ?_)
      intro v6 w6 O6 hg6
      have E6 := ((Below.refl (w.heap.size + 2) w5).alloc hsz5 (.cells #[.int .i64 a, .string b, .int .i64 c] 130)).grown hg6 (by simp; omega) (fun g hg => (O5.lt g hg).1)
      have R6 := R5.below (show w.heap.size + 1 < w.heap.size + 2 by omega) E6
      have X6 := X5.below' (show w.heap.size < w.heap.size + 2 by omega) E6
      have B6 := B5.trans (E6.mono (by omega))
      have hsz6 := Nat.le_trans hsz5 E6.size
      clear r0 c0 cst cn f0 f1 f2 u0 u1 u2 hg6 E5 R5 X5 O5 B5 E6
      obtain ⟨L6, hL6⟩ : ∃ L6, T.l ++ [((a, b, c) : TEntry)] = L6 := ⟨_, rfl⟩
      have HL6 := hd (show L6.length = T.l.length + 1 by rw [← hL6]; simp)
      rw [hL6] at O6
      have HE6 := hd hL6
      clear hL6
      obtain ⟨A6, cc6, rfl⟩ := O6.isSlice
      obtain ⟨r0, ⟨c0, cst, cn⟩, f0, f1, f2⟩ := id R6
      go_wp2_with fail
      have hzz : ((T.at_ : Int) + ((line.size : Int) + 1)) = ((T.at_ + line.size + 1 : Nat) : Int) := by omega
      rw [hzz]
      have R7 := rd_set (v' := .slice A6 L6.length cc6) (st' := d) (n' := T.at_ + line.size + 1) R6
      have O7 := own_box3 O6 (show w.heap.size + 1 < w.heap.size + 2 by omega) (.slice A6 L6.length cc6) (.int .i64 d) (.int .i64 ((T.at_ + line.size + 1 : Nat) : Int))
      have X7 := X6.below' (Nat.lt_succ_self _) (box3_below (Below.refl (w.heap.size + 1) w6) (Nat.le_refl _) (.slice A6 L6.length cc6) (.int .i64 d) (.int .i64 ((T.at_ + line.size + 1 : Nat) : Int)))
      have B7 := box3_below B6 (show w.heap.size ≤ w.heap.size + 1 by omega) (.slice A6 L6.length cc6) (.int .i64 d) (.int .i64 ((T.at_ + line.size + 1 : Nat) : Int))
      go_roundw
      case rel => exact ⟨⟨T.at_ + line.size + 1, d, L6⟩, .slice A6 L6.length cc6, hd (onWay_next HOW.out (by have h := HN.out; rw [HQ.out] at h; rw [← HE6.out]; exact h)), ⟨hd2, by have := HL6.out; show L6.length ≤ T.at_ + line.size + 1; omega, hdb.1, hdb.2⟩, R7, X7, O7, B7, Nat.le_trans hsz6 (box3_below (Below.refl 0 w6) (Nat.zero_le (w.heap.size + 1)) _ _ _).size⟩
      case measure =>
        rw [R7.2.1.2.2, HMZ.out]
        simp [intOf]
        omega
    · obtain ⟨m, hm1⟩ : ∃ m, T.l.length = m + 1 := ⟨T.l.length - 1, by omega⟩
      have hdl := dayOf_last hm1
      obtain ⟨bl, ol, hA, hbl, p0, -, -⟩ := (O4.sl eEntry_len).Entry_at (show T.l.length - 1 < T.l.length by omega)
      have hdl2 : (T.l[T.l.length - 1]'(by omega)).1 = dayOf T.l := by rw [hdl]; congr 1; simp [hm1]
      rw [hdl2] at p0
      subst hA
      have gp0 := gro_cell p0
      have hz : decide ((0 : Int) < ((T.l.length : Nat) : Int)) = true := by simp; omega
      clear hdl hdl2
      obtain ⟨δ, hδ⟩ : ∃ δ, dayOf T.l = δ := ⟨_, rfl⟩
      rw [hδ] at HG p0 gp0
      clear hδ hm1
      have hlt1 : T.l.length - 1 < T.l.length := by omega
      have hkp : 0 < T.l.length := by omega
      rcases hday : decide (a < δ) with _ | _
      · have HD : decide (δ ≤ a) = true := decide_eq_true (by have := of_decide_eq_false hday; omega)
        by_cases hsd : σ = d
        case neg =>
          have HE := hd (onWay_end HOW.out (nextL_bad HL.out (by rw [HG.out, decide_eq_false hsd]; simp)))
          have kd : (σ != d) = true := by simpa using hsd
          clear hsd
          refine wp_region_calm (by kernel_rfl) (by kernel_rfl) ?_
          repeat (first | go_big_quiet_step ((first | (go_at_call 156; exact calm_of (HST.out _ (HTX.out _))))) | quiet_step ((first | (go_at_call 156; exact calm_of (HST.out _ (HTX.out _))))))
          refine wpQuiet_nil ?_
          rintro w5 ⟨x, rfl⟩
          have E5 := gro_below x
          generalize gro W4 x = w5 at E5 ⊢
          have R5 := R4.below (show w.heap.size + 1 < W4.heap.size by omega) E5
          have X5 := X4.below' (show w.heap.size < W4.heap.size by omega) E5
          have O5 := O4.below E5 (Nat.le_refl _)
          have B5 := B4.trans (E5.mono (by omega))
          have hsz5 : w.heap.size + 2 ≤ w5.heap.size := Nat.le_trans hsz4 E5.size
          have u0 := (E5.cell (p := ⟨w3.heap.size, 0, none⟩) hx4).trans t0
          have u1 := (E5.cell (p := ⟨w3.heap.size, 1, none⟩) hx4).trans t1
          have u2 := (E5.cell (p := ⟨w3.heap.size, 2, none⟩) hx4).trans t2
          clear r0 c0 cst cn f0 f1 f2 t0 t1 t2 gc0 gst gn gt0 gt1 gt2 R4 X4 O4 B4 E5
          obtain ⟨r0, ⟨c0, c1, c2⟩, f0, f1, f2⟩ := id R5
          obtain ⟨x0, ⟨d0, d1, d2, b0, b1, b2⟩, g0, g1, g2⟩ := X5
          go_wp2_with fail
          have FC := cells3 w5 w.heap.size (.slice (some ⟨bl, ol, none⟩) T.l.length cc) (.int .i64 T.st) (.int .i64 (T.at_ : Int)) _ _ _ b0 b1 b2
          have BZ := box3_below B5 (Nat.le_refl _) (.slice (some ⟨bl, ol, none⟩) T.l.length cc) (.int .i64 T.st) (.int .i64 (T.at_ : Int))
          have OZ := (own_box3 O5 (show w.heap.size < w.heap.size + 2 by omega) (.slice (some ⟨bl, ol, none⟩) T.l.length cc) (.int .i64 T.st) (.int .i64 (T.at_ : Int))).base (show w.heap.size ≤ w.heap.size + 2 by omega)
          generalize (((w5.setCell ⟨w.heap.size, 0, none⟩ (.slice (some ⟨bl, ol, none⟩) T.l.length cc)).setCell ⟨w.heap.size, 1, none⟩ (.int .i64 T.st)).setCell ⟨w.heap.size, 2, none⟩ (.int .i64 (T.at_ : Int))) = Z at FC BZ OZ ⊢
          obtain ⟨e0, e1, e2⟩ := FC
          refine bodyPost_ret (v := .agg #[.slice (some ⟨bl, ol, none⟩) T.l.length cc, .int .i64 T.st, .int .i64 (T.at_ : Int)]) ?_ rfl ?_
          · refine (results_cell_one Tryz.results87 _ _ _).trans ?_
            exact load_reading Z _ _ _ _ ⟨_, _, _, rfl⟩ e0 e1 e2
          · rw [HE.out]
            exact ⟨_, rfl, OZ, BZ⟩
        have HN := hd (nextL_good HL.out (by rw [HG.out, decide_eq_true hsd, HD]; rfl))
        have kd : (σ != d) = false := by simpa using hsd
        have hdb : 0 ≤ d ∧ d ≤ 65518 := by omega
        clear hsd
        refine wp_region_calm (by kernel_rfl) (by kernel_rfl) ?_
        repeat (first | go_big_quiet_step ((first | (go_at_call 156; exact calm_of (HST.out _ (HTX.out _))))) | quiet_step ((first | (go_at_call 156; exact calm_of (HST.out _ (HTX.out _))))))
        refine wpQuiet_nil ?_
        rintro w5 ⟨x, rfl⟩
        have E5 := gro_below x
        generalize gro W4 x = w5 at E5 ⊢
        have R5 := R4.below (show w.heap.size + 1 < W4.heap.size by omega) E5
        have X5 := X4.below' (show w.heap.size < W4.heap.size by omega) E5
        have O5 := O4.below E5 (Nat.le_refl _)
        have B5 := B4.trans (E5.mono (by omega))
        have hsz5 : w.heap.size + 2 ≤ w5.heap.size := Nat.le_trans hsz4 E5.size
        have u0 := (E5.cell (p := ⟨w3.heap.size, 0, none⟩) hx4).trans t0
        have u1 := (E5.cell (p := ⟨w3.heap.size, 1, none⟩) hx4).trans t1
        have u2 := (E5.cell (p := ⟨w3.heap.size, 2, none⟩) hx4).trans t2
        clear r0 c0 cst cn f0 f1 f2 t0 t1 t2 gc0 gst gn gt0 gt1 gt2 R4 X4 O4 B4 E5
        have E5 := R5
        obtain ⟨r0, ⟨c0, cst, cn⟩, f0, f1, f2⟩ := id R5
        go_wp2_with (at_builtin; refine wpList_push _ rfl _ _ 133 rfl i0 (.agg #[.int .i64 0, .string ByteArray.empty, .int .i64 0]) 32 Tryz.underlying133 hi hz0 hz1 hz2 rfl (by decide) _ _ ((a, b, c) : TEntry) rfl (O5.alloc _) w5.heap.size rfl #[.int .i64 a, .string b, .int .i64 c] 130 (heap_alloc_new _ _) rfl rfl (by intro u hu; simp [eEntry] at hu; rcases hu with rfl | rfl | rfl <;> rfl) (by unfold maxLen; omega) (by omega) (by simp; omega) ?_)
        intro v6 w6 O6 hg6
        have E6 := ((Below.refl (w.heap.size + 2) w5).alloc hsz5 (.cells #[.int .i64 a, .string b, .int .i64 c] 130)).grown hg6 (by simp; omega) (fun g hg => (O5.lt g hg).1)
        have R6 := R5.below (show w.heap.size + 1 < w.heap.size + 2 by omega) E6
        have X6 := X5.below' (show w.heap.size < w.heap.size + 2 by omega) E6
        have B6 := B5.trans (E6.mono (by omega))
        have hsz6 := Nat.le_trans hsz5 E6.size
        clear r0 c0 cst cn f0 f1 f2 u0 u1 u2 hg6 E5 R5 X5 O5 B5 E6
        obtain ⟨L6, hL6⟩ : ∃ L6, T.l ++ [((a, b, c) : TEntry)] = L6 := ⟨_, rfl⟩
        have HL6 := hd (show L6.length = T.l.length + 1 by rw [← hL6]; simp)
        rw [hL6] at O6
        have HE6 := hd hL6
        clear hL6
        obtain ⟨A6, cc6, rfl⟩ := O6.isSlice
        obtain ⟨r0, ⟨c0, cst, cn⟩, f0, f1, f2⟩ := id R6
        go_wp2_with fail
        have hzz : ((T.at_ : Int) + ((line.size : Int) + 1)) = ((T.at_ + line.size + 1 : Nat) : Int) := by omega
        rw [hzz]
        have R7 := rd_set (v' := .slice A6 L6.length cc6) (st' := d) (n' := T.at_ + line.size + 1) R6
        have O7 := own_box3 O6 (show w.heap.size + 1 < w.heap.size + 2 by omega) (.slice A6 L6.length cc6) (.int .i64 d) (.int .i64 ((T.at_ + line.size + 1 : Nat) : Int))
        have X7 := X6.below' (Nat.lt_succ_self _) (box3_below (Below.refl (w.heap.size + 1) w6) (Nat.le_refl _) (.slice A6 L6.length cc6) (.int .i64 d) (.int .i64 ((T.at_ + line.size + 1 : Nat) : Int)))
        have B7 := box3_below B6 (show w.heap.size ≤ w.heap.size + 1 by omega) (.slice A6 L6.length cc6) (.int .i64 d) (.int .i64 ((T.at_ + line.size + 1 : Nat) : Int))
        go_roundw
        case rel => exact ⟨⟨T.at_ + line.size + 1, d, L6⟩, .slice A6 L6.length cc6, hd (onWay_next HOW.out (by have h := HN.out; rw [HQ.out] at h; rw [← HE6.out]; exact h)), ⟨hd2, by have := HL6.out; show L6.length ≤ T.at_ + line.size + 1; omega, hdb.1, hdb.2⟩, R7, X7, O7, B7, Nat.le_trans hsz6 (box3_below (Below.refl 0 w6) (Nat.zero_le (w.heap.size + 1)) _ _ _).size⟩
        case measure =>
          rw [R7.2.1.2.2, HMZ.out]
          simp [intOf]
          omega
      · have HE := hd (onWay_end HOW.out (nextL_bad HL.out (by rw [HG.out, decide_eq_false (show ¬ δ ≤ a by have := of_decide_eq_true hday; omega)]; rfl)))
        go_quiet (fail)
        have R5 := R4.below (show w.heap.size + 1 < w.heap.size + 2 by omega) (below_of_drewN nq (w.heap.size + 2))
        have X5 := X4.below' (Nat.lt_succ_self _) (below_of_drewN nq (w.heap.size + 1))
        have O5 := O4.drewN nq
        have B5 := below_drewN B4 nq
        clear r0 c0 cst cn f0 f1 f2 t0 t1 t2 R4 X4 O4 B4
        generalize W4.drewN nq = w5 at R5 X5 O5 B5 ⊢
        obtain ⟨r0, ⟨c0, c1, c2⟩, f0, f1, f2⟩ := id R5
        obtain ⟨x0, ⟨d0, d1, d2, b0, b1, b2⟩, g0, g1, g2⟩ := X5
        go_wp2_with fail
        have FC := cells3 w5 w.heap.size (.slice (some ⟨bl, ol, none⟩) T.l.length cc) (.int .i64 T.st) (.int .i64 (T.at_ : Int)) _ _ _ b0 b1 b2
        have BZ := box3_below B5 (Nat.le_refl _) (.slice (some ⟨bl, ol, none⟩) T.l.length cc) (.int .i64 T.st) (.int .i64 (T.at_ : Int))
        have OZ := (own_box3 O5 (show w.heap.size < w.heap.size + 2 by omega) (.slice (some ⟨bl, ol, none⟩) T.l.length cc) (.int .i64 T.st) (.int .i64 (T.at_ : Int))).base (show w.heap.size ≤ w.heap.size + 2 by omega)
        generalize (((w5.setCell ⟨w.heap.size, 0, none⟩ (.slice (some ⟨bl, ol, none⟩) T.l.length cc)).setCell ⟨w.heap.size, 1, none⟩ (.int .i64 T.st)).setCell ⟨w.heap.size, 2, none⟩ (.int .i64 (T.at_ : Int))) = Z at FC BZ OZ ⊢
        obtain ⟨e0, e1, e2⟩ := FC
        refine bodyPost_ret (v := .agg #[.slice (some ⟨bl, ol, none⟩) T.l.length cc, .int .i64 T.st, .int .i64 (T.at_ : Int)]) ?_ rfl ?_
        · refine (results_cell_one Tryz.results87 _ _ _).trans ?_
          exact load_reading Z _ _ _ _ ⟨_, _, _, rfl⟩ e0 e1 e2
        · rw [HE.out]
          exact ⟨_, rfl, OZ, BZ⟩
end Go.Proofs.YtgcodjkjdfahdaaGreatDoor
