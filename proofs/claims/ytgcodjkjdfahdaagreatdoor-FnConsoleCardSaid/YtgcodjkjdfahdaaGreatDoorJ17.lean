/- Texts of the claim, joined: each says at its head what it proves. No condition. -/
import Derived.Test.YtgcodjkjdfahdaaGreatDoorJ16
import Derived.RangeFuncBox
import Derived.Maps.AppendAt
import Derived.Deep.RegionLaw
/- A log read: the program's readLog. No condition but that the library's table, its two errors and its search variable lie as they are laid. -/
namespace Go.Proofs.YtgcodjkjdfahdaaGreatDoor
open Go Go.RowKit Go.ChangeShapes Go.WideShapes
set_option linter.unusedSimpArgs false
set_option linter.unusedVariables false
theorem results_cell_one {fn : Func} {p : Tmp} {ty : TypeId} (h : fn.results = #[.cell p ty]) (tmps : Array Value) (P : Program) (w : World) :
    (results fn tmps).run P w = ((asAddr (tmps.getD p undef)).run P w).andThen fun a w₁ => ((loadVar ty a).run P w₁) := by
  simp only [results, h]
  simp [Sem.run_bind, Result.andThen]
/-- a reading lies in a block, free to be written -/
def Rd (W : World) (g : Nat) (v : Value) (st : Int) (n : Nat) : Prop := g < W.heap.size ∧ (W.cell? ⟨g, 0, none⟩ = some v ∧ W.cell? ⟨g, 1, none⟩ = some (.int .i64 st) ∧ W.cell? ⟨g, 2, none⟩ = some (.int .i64 (n : Int))) ∧ W.frozen? ⟨g, 0, none⟩ = false ∧ W.frozen? ⟨g, 1, none⟩ = false ∧ W.frozen? ⟨g, 2, none⟩ = false
theorem Rd.below {W W' : World} {C g n : Nat} {v : Value} {st : Int} (x : Rd W g v st n) (hC : g < C) (hb : Below C W W') : Rd W' g v st n := by
  obtain ⟨h0, ⟨c0, c1, c2⟩, f0, f1, f2⟩ := x
  exact ⟨Nat.lt_of_lt_of_le h0 hb.size, ⟨(hb.cell (p := ⟨g, 0, none⟩) hC).trans c0, (hb.cell (p := ⟨g, 1, none⟩) hC).trans c1, (hb.cell (p := ⟨g, 2, none⟩) hC).trans c2⟩, (hb.frozen (p := ⟨g, 0, none⟩) hC).trans f0, (hb.frozen (p := ⟨g, 1, none⟩) hC).trans f1, (hb.frozen (p := ⟨g, 2, none⟩) hC).trans f2⟩
theorem Box3.below' {W W' : World} {h C : Nat} (x : Box3 W h) (hC : h < C) (hb : Below C W W') : Box3 W' h := by
  obtain ⟨h0, ⟨d0, d1, d2, c0, c1, c2⟩, f0, f1, f2⟩ := x
  exact ⟨Nat.lt_of_lt_of_le h0 hb.size, ⟨d0, d1, d2, (hb.cell (p := ⟨h, 0, none⟩) hC).trans c0, (hb.cell (p := ⟨h, 1, none⟩) hC).trans c1, (hb.cell (p := ⟨h, 2, none⟩) hC).trans c2⟩, (hb.frozen (p := ⟨h, 0, none⟩) hC).trans f0, (hb.frozen (p := ⟨h, 1, none⟩) hC).trans f1, (hb.frozen (p := ⟨h, 2, none⟩) hC).trans f2⟩
theorem cut_at_line {s : ByteArray} (n : Nat) : (s.extract n s.size).data.toList = s.data.toList.drop n := by
  rw [Lib.extract_data]
  exact List.take_of_length_le (by rw [List.length_drop, size_list]; exact Nat.le_refl _)
/-- what Cut gives at a place -/
theorem cut_line (s : ByteArray) (n : Nat) : ∃ line rest : ByteArray, (⟨(Lib.cut (s.extract n s.size).data.toList (⟨#[10]⟩ : ByteArray).data.toList).1.toArray⟩ : ByteArray) = line ∧ (⟨(Lib.cut (s.extract n s.size).data.toList (⟨#[10]⟩ : ByteArray).data.toList).2.1.toArray⟩ : ByteArray) = rest ∧ ((lineAt s n = none ∧ (Lib.cut (s.extract n s.size).data.toList (⟨#[10]⟩ : ByteArray).data.toList).2.2 = false) ∨ (lineAt s n = some line ∧ (Lib.cut (s.extract n s.size).data.toList (⟨#[10]⟩ : ByteArray).data.toList).2.2 = true)) := by
  refine ⟨_, _, rfl, rfl, ?_⟩
  rw [show (⟨#[10]⟩ : ByteArray).data.toList = [10] from rfl, cut_at_line]
  unfold lineAt
  rcases h : (Lib.cut (s.data.toList.drop n) [10]).2.2 with _ | _
  · exact .inl ⟨by simp, rfl⟩
  · exact .inr ⟨by simp, rfl⟩
theorem rd_set {N : World} {g n n' : Nat} {v v' : Value} {st st' : Int} (x : Rd N g v st n) : Rd (((N.setCell ⟨g, 0, none⟩ v').setCell ⟨g, 1, none⟩ (.int .i64 st')).setCell ⟨g, 2, none⟩ (.int .i64 (n' : Int))) g v' st' n' := by
  obtain ⟨h0, ⟨c0, c1, c2⟩, f0, f1, f2⟩ := x
  refine ⟨?_, cells3 N g v' (.int .i64 st') (.int .i64 (n' : Int)) _ _ _ c0 c1 c2, ?_, ?_, ?_⟩
  · exact Nat.lt_of_lt_of_le h0 (box3_below (Below.refl 0 N) (Nat.zero_le _) _ _ _).size
  all_goals go_simp
theorem dayOf_nil {l : List TEntry} (h : l.length = 0) : dayOf l = 0 := by unfold dayOf; rw [if_pos h]
theorem dayOf_last {l : List TEntry} {m : Nat} (h : l.length = m + 1) : dayOf l = (l[m]'(by omega)).1 := by
  unfold dayOf
  rw [if_neg (by omega)]
  have e : l.length - 1 = m := by omega
  rw [e]
  simp [show m < l.length by omega]
theorem rd_new (w : World) (v : Value) (T : TypeId) : Rd (w.alloc (.cells #[v, .int .i64 0, .int .i64 0] T)) w.heap.size v 0 0 := by
  obtain ⟨c0, c1, c2, ⟨h0, -, f0, f1, f2⟩, -, -⟩ := new3 w v (.int .i64 0) (.int .i64 0) T
  exact ⟨h0, ⟨c0, c1, c2⟩, f0, f1, f2⟩
theorem info_EntryI : (Tryz.prog.info? 130).map (fun i => (i.zero, i.size, i.bytes)) = some (some (.agg #[.int .i64 0, .string ByteArray.empty, .int .i64 0]), 3, 32) := by kernel_rfl
theorem load_reading (Z : World) (b : Nat) (v : Value) (x1 x2 : Int) (hv : ∃ A n c, v = .slice A n c) (e0 : Z.cell? ⟨b, 0, none⟩ = some v) (e1 : Z.cell? ⟨b, 1, none⟩ = some (.int .i64 x1)) (e2 : Z.cell? ⟨b, 2, none⟩ = some (.int .i64 x2)) :
    (loadVar 135 ⟨b, 0, none⟩).run Tryz.prog Z = .ok (.agg #[v, .int .i64 x1, .int .i64 x2]) Z := by
  obtain ⟨A, n, c, rfl⟩ := hv
  simp [loadVar, go_sem, e0, e1, e2]
theorem grownBy_set (W : World) (a : Addr) (v : Value) : W.grownBy (W.setCell a v) (some a.block) :=
  ⟨rfl, rfl, rfl, (KeepsWalks.setCell W _ v).size, fun k _ hk => Below.heap_setCell _ _ _ k (fun e => hk (by rw [e]))⟩
/-- cells of a block with three cells are written: the blocks but this one stay -/
theorem own_box3 {w : World} {B E k h : Nat} {v : Value} {α : Type} {enc : α → List Value} {l : List α} (hO : Own w B E k v enc l) (hB : h < B) (a b c : Value) : Own (((w.setCell ⟨h, 0, none⟩ a).setCell ⟨h, 1, none⟩ b).setCell ⟨h, 2, none⟩ c) B E k v enc l := by
  have hw : w.grownBy (((w.setCell ⟨h, 0, none⟩ a).setCell ⟨h, 1, none⟩ b).setCell ⟨h, 2, none⟩ c) (some h) := by
    exact grownBy_trans (grownBy_trans (grownBy_set w ⟨h, 0, none⟩ a) (grownBy_set _ ⟨h, 1, none⟩ b)) (grownBy_set _ ⟨h, 2, none⟩ c)
  exact hO.grown hw (by
    rcases q : v.ownBlock with _ | g
    · exact .inl rfl
    · refine .inr ?_
      intro e
      have := (hO.lt g q).1
      injection e with e
      omega)
set_option maxRecDepth 100000 in
set_option maxHeartbeats 8000000 in
theorem readLog_impl (w : World) (s : ByteArray) (hs : s.size ≤ 1048576) (hsh : Shop w) :
    Calls Tryz.prog 87 #[.string s] w fun e w' => ∃ v, e = .returned (.agg #[v, .int .i64 (readL s).st, .int .i64 ((readL s).at_ : Int)]) ∧ Own w' w.heap.size 130 3 v eEntry (readL s).l ∧ Below w.heap.size w w' := by
  obtain ⟨i0, hi, hz0, hz1, hz2⟩ : ∃ i, Tryz.prog.info? 130 = some i ∧ i.zero = some (.agg #[.int .i64 0, .string ByteArray.empty, .int .i64 0]) ∧ i.size = 3 ∧ i.bytes = 32 := by
    have hh := info_EntryI
    rcases q : Tryz.prog.info? 130 with _ | i
    · simp [q] at hh
    · simp [q] at hh
      exact ⟨i, rfl, hh.1, hh.2.1, hh.2.2⟩
  obtain ⟨-, -, -, X0, hz5, hb0⟩ := new3 w (.slice none 0 0) (.int .i64 0) (.int .i64 0) 135
  have R0 := rd_new (w.alloc (.cells #[.slice none 0 0, .int .i64 0, .int .i64 0] 135)) (.slice none 0 0) 135
  obtain ⟨-, -, -, -, hz6, hb6⟩ := new3 (w.alloc (.cells #[.slice none 0 0, .int .i64 0, .int .i64 0] 135)) (.slice none 0 0) (.int .i64 0) (.int .i64 0) 135
  rw [hz5] at R0 hz6
  have X1 := X0.below hb6
  have B1 := below_step hb0 hb6
  have HSH := hd hsh
  clear hsh X0 hb0 hb6
  go_enter Tryz.func87, Tryz.ntmps87
  go_wp2_with fail
  generalize (w.alloc (.cells #[.slice none 0 0, .int .i64 0, .int .i64 0] 135)).alloc (.cells #[.slice none 0 0, .int .i64 0, .int .i64 0] 135) = W1 at R0 X1 B1 hz6 ⊢
  go_loopw [10] (fun _ wr => ∃ (T : LS) (v : Value), Hid (OnWay s T) ∧ (T.at_ ≤ s.size ∧ T.l.length ≤ T.at_ ∧ 0 ≤ T.st ∧ T.st ≤ 65518) ∧ Rd wr (w.heap.size + 1) v T.st T.at_ ∧ Box3 wr w.heap.size ∧ Own wr (w.heap.size + 2) 130 3 v eEntry T.l ∧ Below w.heap.size w wr ∧ w.heap.size + 2 ≤ wr.heap.size) (fun _ wr => s.size - (intOf ((wr.cell? ⟨w.heap.size + 1, 2, none⟩).getD undef)).toNat)
  case atStart => exact ⟨startL, .slice none 0 0, hd (onWay_start s), ⟨Nat.zero_le _, Nat.le_refl _, by decide, by decide⟩, R0, X1, Own.nil _ _ _ _ _, B1, by omega⟩
  case round =>
    obtain ⟨T, v, HOW, ⟨q1, q2, q3, q4⟩, R, X, O, B, hsz⟩ := hrel
    clear R0 X1 B1 hz6
    obtain ⟨A, cc, rfl⟩ := O.isSlice
    have SH := hd (HSH.out.below B)
    obtain ⟨m, hm⟩ := SH.out.2.2
    have HM := hd hm
    clear hm
    have HMZ := hd R.2.1.2.2
    obtain ⟨line, rest, c1, c2, c3⟩ := cut_line s T.at_
    have C1 := hd c1
    have C2 := hd c2
    clear c1 c2
    have hez : (s.extract T.at_ s.size).size ≤ 1048576 := by rw [ByteArray.size_extract]; omega
    obtain ⟨r0, ⟨c0, c1, c2⟩, f0, f1, f2⟩ := id R
    go_wp2_with fail
    refine (Tryz.strings_Cut _ _ _ _ (by omega) HM.out).mono ?_
    rintro e w2 ⟨rfl, n2, hw⟩
    have E2 : ∀ C, Below C wr w2 := fun C => by rw [hw]; exact below_drewN (Below.refl _ _) n2
    clear hw c0 c1 c2 f0 f1 f2 r0
    have R2 := R.below (show w.heap.size + 1 < w.heap.size + 2 by omega) (E2 _)
    have X2 := X.below' (Nat.lt_succ_self _) (E2 _)
    have O2 := O.below (E2 wr.heap.size) (Nat.le_refl _)
    have B2 := B.trans (E2 w.heap.size)
    have SH2 := hd (SH.out.below (E2 _))
    have hsz2 : w.heap.size + 2 ≤ w2.heap.size := Nat.le_trans hsz (E2 0).size
    rw [C1.out, C2.out]
    rcases c3 with ⟨hl, e3⟩ | ⟨hl, e3⟩
    · have HE := hd (onWay_end HOW.out (nextL_none hl))
      rw [e3]
      clear e3 hl
      obtain ⟨r0, ⟨c0, c1, c2⟩, f0, f1, f2⟩ := id R2
      obtain ⟨x0, ⟨d0, d1, d2, b0, b1, b2⟩, g0, g1, g2⟩ := X2
      go_wp2_with fail
      have FC := cells3 w2 w.heap.size (.slice A T.l.length cc) (.int .i64 T.st) (.int .i64 (T.at_ : Int)) _ _ _ b0 b1 b2
      have BZ := box3_below B2 (Nat.le_refl _) (.slice A T.l.length cc) (.int .i64 T.st) (.int .i64 (T.at_ : Int))
      have OZ := (own_box3 O2 (show w.heap.size < w.heap.size + 2 by omega) (.slice A T.l.length cc) (.int .i64 T.st) (.int .i64 (T.at_ : Int))).base (show w.heap.size ≤ w.heap.size + 2 by omega)
      generalize (((w2.setCell ⟨w.heap.size, 0, none⟩ (.slice A T.l.length cc)).setCell ⟨w.heap.size, 1, none⟩ (.int .i64 T.st)).setCell ⟨w.heap.size, 2, none⟩ (.int .i64 (T.at_ : Int))) = Z at FC BZ OZ ⊢
      obtain ⟨e0, e1, e2⟩ := FC
      refine bodyPost_ret (v := .agg #[.slice A T.l.length cc, .int .i64 T.st, .int .i64 (T.at_ : Int)]) ?_ rfl ?_
      · refine (results_cell_one Tryz.results87 _ _ _).trans ?_
        exact load_reading Z _ _ _ _ ⟨_, _, _, rfl⟩ e0 e1 e2
      · rw [HE.out]
        exact ⟨_, rfl, OZ, BZ⟩
    rw [e3]
    clear e3
    obtain ⟨rl, hd1, hd2⟩ := lineAt_some hl
    have hlz : line.size ≤ 1048576 := by omega
    have HD1 := hd hd1
    have HL := hd hl
    clear hd1 hl
    go_wp2_with fail
    refine (line_impl _ _ hlz SH2.out).mono ?_
    rintro e w3 ⟨rfl, hb3⟩
    have hbd := rdLine_bd line
    have HOK := hd (fun h => rdLine_ok (line := line) h)
    obtain ⟨⟨⟨a, b, c⟩, d, ok⟩, hq⟩ : ∃ x, rdLine line = x := ⟨_, rfl⟩
    rw [hq] at hbd HOK ⊢
    have HQ := hd hq
    clear hq
    dsimp only at hbd HOK
    obtain ⟨⟨a1, a2⟩, ⟨c1, c2⟩, d1, d2⟩ := hbd
    obtain ⟨t0, t1, t2, -, hz7, hb7⟩ := new3 w3 (.int .i64 a) (.string b) (.int .i64 c) 130
    have E4 := below_step hb3 hb7
    have hx4 : w3.heap.size < (w3.alloc (.cells #[.int .i64 a, .string b, .int .i64 c] 130)).heap.size := by omega
    have hw3 := hb3.size
    have R4 := R2.below (show w.heap.size + 1 < w2.heap.size by omega) E4
    have X4 := X2.below' (show w.heap.size < w2.heap.size by omega) E4
    have O4 := O2.below E4 (Nat.le_refl _)
    have B4 := B2.trans (E4.mono (by omega))
    have SH4 := hd (SH2.out.below E4)
    have hsz4 : w.heap.size + 2 ≤ (w3.alloc (.cells #[.int .i64 a, .string b, .int .i64 c] 130)).heap.size := by omega
    obtain ⟨r0, ⟨c0, cst, cn⟩, f0, f1, f2⟩ := id R4
    clear hb3 hb7 E2 R2 X2 O2 B2 SH2 R X O B SH HM
    go_wp2_with fail
    generalize w3.alloc (.cells #[.int .i64 a, .string b, .int .i64 c] 130) = W4 at t0 t1 t2 hz7 E4 hx4 R4 X4 O4 B4 SH4 hsz4 r0 c0 cst cn f0 f1 f2 ⊢
    rcases ok with _ | _
    · have HE := hd (onWay_end HOW.out (nextL_bad HL.out (by rw [HQ.out]; rfl)))
      go_quiet (fail)
      have R5 := R4.below (show w.heap.size + 1 < w.heap.size + 2 by omega) (below_of_drewN nq (w.heap.size + 2))
      have X5 := X4.below' (Nat.lt_succ_self _) (below_of_drewN nq (w.heap.size + 1))
      have O5 := O4.drewN nq
      have B5 := below_drewN B4 nq
      clear r0 c0 cst cn f0 f1 f2 t0 t1 t2 R4 X4 O4 B4
      generalize W4.drewN nq = w5 at R5 X5 O5 B5 ⊢
      obtain ⟨r0, ⟨c0, c1, c2⟩, f0, f1, f2⟩ := id R5
      obtain ⟨x0, ⟨d0, d1, d2, b0, b1, b2⟩, g0, g1, g2⟩ := X5
      go_wp2_with fail
      have FC := cells3 w5 w.heap.size (.slice A T.l.length cc) (.int .i64 T.st) (.int .i64 (T.at_ : Int)) _ _ _ b0 b1 b2
      have BZ := box3_below B5 (Nat.le_refl _) (.slice A T.l.length cc) (.int .i64 T.st) (.int .i64 (T.at_ : Int))
      have OZ := (own_box3 O5 (show w.heap.size < w.heap.size + 2 by omega) (.slice A T.l.length cc) (.int .i64 T.st) (.int .i64 (T.at_ : Int))).base (show w.heap.size ≤ w.heap.size + 2 by omega)
      generalize (((w5.setCell ⟨w.heap.size, 0, none⟩ (.slice A T.l.length cc)).setCell ⟨w.heap.size, 1, none⟩ (.int .i64 T.st)).setCell ⟨w.heap.size, 2, none⟩ (.int .i64 (T.at_ : Int))) = Z at FC BZ OZ ⊢
      obtain ⟨e0, e1, e2⟩ := FC
      refine bodyPost_ret (v := .agg #[.slice A T.l.length cc, .int .i64 T.st, .int .i64 (T.at_ : Int)]) ?_ rfl ?_
      · refine (results_cell_one Tryz.results87 _ _ _).trans ?_
        exact load_reading Z _ _ _ _ ⟨_, _, _, rfl⟩ e0 e1 e2
      · rw [HE.out]
        exact ⟨_, rfl, OZ, BZ⟩
    have hok : okEntryB (a, b, c) = true := HOK.out (by trivial)
    obtain ⟨σ, hσ⟩ : ∃ σ, stampN T.st (wordsS a b c) = σ := ⟨_, rfl⟩
    have HST := hd (show ∀ W, Tab W → Calls Tryz.prog 156 #[.int .i64 T.st, .agg #[.int .i64 a, .string b, .int .i64 c]] W fun e w' => e = .returned (.int .i64 σ) ∧ Below W.heap.size W w' from fun W ht => by rw [← hσ]; exact stampOf_impl W T.st ⟨q3, q4⟩ a b c hok ht)
    have HG := hd (show goodE T (rdLine line) = (decide (dayOf T.l ≤ a) && decide (σ = d)) by rw [HQ.out, ← hσ]; rfl)
    have hda := (okEntryB_bd hok).1
    have hsb := stampN_bd T.st (wordsS a b c)
    rw [hσ] at hsb
    obtain ⟨hsb1, hsb2⟩ := hsb
    have HTX := hd (show ∀ x : Ext W4, Tab (gro W4 x) from fun x => SH4.out.1.below (gro_below x))
    have gst := gro_cell cst
    have gn := gro_cell cn
    have gc0 := gro_cell c0
    have gt0 := gro_cell t0
    have gt1 := gro_cell t1
    have gt2 := gro_cell t2
    clear hσ HOK hok
    by_cases hm : T.l.length = 0
    · have HD : decide (dayOf T.l ≤ a) = true := by rw [dayOf_nil hm]; exact decide_eq_true hda.1
      have hz : decide ((0 : Int) < ((T.l.length : Nat) : Int)) = false := by simp [hm]
      rw [hm] at O4 c0 gc0 R4 hz ⊢
      by_cases hsd : σ = d
      case neg =>
        have HE := hd (onWay_end HOW.out (nextL_bad HL.out (by rw [HG.out, decide_eq_false hsd]; simp)))
        have kd : (σ != d) = true := by simpa using hsd
        clear hsd
        refine wp_region_calm (by kernel_rfl) (by kernel_rfl) ?_
        repeat (first | go_big_quiet_step ((first | (go_at_call 156; exact calm_of (HST.out _ (HTX.out _))))) | quiet_step ((first | (go_at_call 156; exact calm_of (HST.out _ (HTX.out _))))))
        refine wpQuiet_nil ?_
        rintro w5 ⟨x, rfl⟩
        have E5 := gro_below x
        generalize gro W4 x = w5 at E5 ⊢
        have R5 := R4.below (show w.heap.size + 1 < W4.heap.size by omega) E5
        have X5 := X4.below' (show w.heap.size < W4.heap.size by omega) E5
        have O5 := O4.below E5 (Nat.le_refl _)
        have B5 := B4.trans (E5.mono (by omega))
        have hsz5 : w.heap.size + 2 ≤ w5.heap.size := Nat.le_trans hsz4 E5.size
        have u0 := (E5.cell (p := ⟨w3.heap.size, 0, none⟩) hx4).trans t0
        have u1 := (E5.cell (p := ⟨w3.heap.size, 1, none⟩) hx4).trans t1
        have u2 := (E5.cell (p := ⟨w3.heap.size, 2, none⟩) hx4).trans t2
        clear r0 c0 cst cn f0 f1 f2 t0 t1 t2 gc0 gst gn gt0 gt1 gt2 R4 X4 O4 B4 E5
        obtain ⟨r0, ⟨c0, c1, c2⟩, f0, f1, f2⟩ := id R5
        obtain ⟨x0, ⟨d0, d1, d2, b0, b1, b2⟩, g0, g1, g2⟩ := X5
        go_wp2_with fail
        have FC := cells3 w5 w.heap.size (.slice A 0 cc) (.int .i64 T.st) (.int .i64 (T.at_ : Int)) _ _ _ b0 b1 b2
        have BZ := box3_below B5 (Nat.le_refl _) (.slice A 0 cc) (.int .i64 T.st) (.int .i64 (T.at_ : Int))
        have OZ := (own_box3 O5 (show w.heap.size < w.heap.size + 2 by omega) (.slice A 0 cc) (.int .i64 T.st) (.int .i64 (T.at_ : Int))).base (show w.heap.size ≤ w.heap.size + 2 by omega)
        generalize (((w5.setCell ⟨w.heap.size, 0, none⟩ (.slice A 0 cc)).setCell ⟨w.heap.size, 1, none⟩ (.int .i64 T.st)).setCell ⟨w.heap.size, 2, none⟩ (.int .i64 (T.at_ : Int))) = Z at FC BZ OZ ⊢
        obtain ⟨e0, e1, e2⟩ := FC
        refine bodyPost_ret (v := .agg #[.slice A 0 cc, .int .i64 T.st, .int .i64 (T.at_ : Int)]) ?_ rfl ?_
        · refine (results_cell_one Tryz.results87 _ _ _).trans ?_
          exact load_reading Z _ _ _ _ ⟨_, _, _, rfl⟩ e0 e1 e2
        · rw [HE.out]
          exact ⟨_, rfl, OZ, BZ⟩
      have HN := hd (nextL_good HL.out (by rw [HG.out, decide_eq_true hsd, HD]; rfl))
      have kd : (σ != d) = false := by simpa using hsd
      have hdb : 0 ≤ d ∧ d ≤ 65518 := by omega
      clear hsd
      refine wp_region_calm (by kernel_rfl) (by kernel_rfl) ?_
      repeat (first | go_big_quiet_step ((first | (go_at_call 156; exact calm_of (HST.out _ (HTX.out _))))) | quiet_step ((first | (go_at_call 156; exact calm_of (HST.out _ (HTX.out _))))))
      refine wpQuiet_nil ?_
      rintro w5 ⟨x, rfl⟩
      have E5 := gro_below x
      generalize gro W4 x = w5 at E5 ⊢
      have R5 := R4.below (show w.heap.size + 1 < W4.heap.size by omega) E5
      have X5 := X4.below' (show w.heap.size < W4.heap.size by omega) E5
      have O5 := O4.below E5 (Nat.le_refl _)
      have B5 := B4.trans (E5.mono (by omega))
      have hsz5 : w.heap.size + 2 ≤ w5.heap.size := Nat.le_trans hsz4 E5.size
      have u0 := (E5.cell (p := ⟨w3.heap.size, 0, none⟩) hx4).trans t0
      have u1 := (E5.cell (p := ⟨w3.heap.size, 1, none⟩) hx4).trans t1
      have u2 := (E5.cell (p := ⟨w3.heap.size, 2, none⟩) hx4).trans t2
      clear r0 c0 cst cn f0 f1 f2 t0 t1 t2 gc0 gst gn gt0 gt1 gt2 R4 X4 O4 B4 E5
      have E5 := R5
      obtain ⟨r0, ⟨c0, cst, cn⟩, f0, f1, f2⟩ := id R5
      go_wp2_with (at_builtin; refine wpList_push _ rfl _ _ 133 rfl i0 (.agg #[.int .i64 0, .string ByteArray.empty, .int .i64 0]) 32 Tryz.underlying133 hi hz0 hz1 hz2 rfl (by decide) _ _ ((a, b, c) : TEntry) rfl (O5.alloc _) w5.heap.size rfl #[.int .i64 a, .string b, .int .i64 c] 130 (heap_alloc_new _ _) rfl rfl (by intro u hu; simp [eEntry] at hu; rcases hu with rfl | rfl | rfl <;> rfl) (by unfold maxLen; omega) (by omega) (by simp; omega) ?_)
      intro v6 w6 O6 hg6
      have E6 := ((Below.refl (w.heap.size + 2) w5).alloc hsz5 (.cells #[.int .i64 a, .string b, .int .i64 c] 130)).grown hg6 (by simp; omega) (fun g hg => (O5.lt g hg).1)
      have R6 := R5.below (show w.heap.size + 1 < w.heap.size + 2 by omega) E6
      have X6 := X5.below' (show w.heap.size < w.heap.size + 2 by omega) E6
      have B6 := B5.trans (E6.mono (by omega))
      have hsz6 := Nat.le_trans hsz5 E6.size
      clear r0 c0 cst cn f0 f1 f2 u0 u1 u2 hg6 E5 R5 X5 O5 B5 E6
      obtain ⟨L6, hL6⟩ : ∃ L6, T.l ++ [((a, b, c) : TEntry)] = L6 := ⟨_, rfl⟩
      have HL6 := hd (show L6.length = T.l.length + 1 by rw [← hL6]; simp)
      rw [hL6] at O6
      have HE6 := hd hL6
      clear hL6
      obtain ⟨A6, cc6, rfl⟩ := O6.isSlice
      obtain ⟨r0, ⟨c0, cst, cn⟩, f0, f1, f2⟩ := id R6
      go_wp2_with fail
      have hzz : ((T.at_ : Int) + ((line.size : Int) + 1)) = ((T.at_ + line.size + 1 : Nat) : Int) := by omega
      rw [hzz]
      have R7 := rd_set (v' := .slice A6 L6.length cc6) (st' := d) (n' := T.at_ + line.size + 1) R6
      have O7 := own_box3 O6 (show w.heap.size + 1 < w.heap.size + 2 by omega) (.slice A6 L6.length cc6) (.int .i64 d) (.int .i64 ((T.at_ + line.size + 1 : Nat) : Int))
      have X7 := X6.below' (Nat.lt_succ_self _) (box3_below (Below.refl (w.heap.size + 1) w6) (Nat.le_refl _) (.slice A6 L6.length cc6) (.int .i64 d) (.int .i64 ((T.at_ + line.size + 1 : Nat) : Int)))
      have B7 := box3_below B6 (show w.heap.size ≤ w.heap.size + 1 by omega) (.slice A6 L6.length cc6) (.int .i64 d) (.int .i64 ((T.at_ + line.size + 1 : Nat) : Int))
      go_roundw
      case rel => exact ⟨⟨T.at_ + line.size + 1, d, L6⟩, .slice A6 L6.length cc6, hd (onWay_next HOW.out (by have h := HN.out; rw [HQ.out] at h; rw [← HE6.out]; exact h)), ⟨hd2, by have := HL6.out; show L6.length ≤ T.at_ + line.size + 1; omega, hdb.1, hdb.2⟩, R7, X7, O7, B7, Nat.le_trans hsz6 (box3_below (Below.refl 0 w6) (Nat.zero_le (w.heap.size + 1)) _ _ _).size⟩
      case measure =>
        rw [R7.2.1.2.2, HMZ.out]
        simp [intOf]
        omega
    · obtain ⟨m, hm1⟩ : ∃ m, T.l.length = m + 1 := ⟨T.l.length - 1, by omega⟩
      have hdl := dayOf_last hm1
      obtain ⟨bl, ol, hA, hbl, p0, -, -⟩ := (O4.sl eEntry_len).Entry_at (show T.l.length - 1 < T.l.length by omega)
      have hdl2 : (T.l[T.l.length - 1]'(by omega)).1 = dayOf T.l := by rw [hdl]; congr 1; simp [hm1]
      rw [hdl2] at p0
      subst hA
      have gp0 := gro_cell p0
      have hz : decide ((0 : Int) < ((T.l.length : Nat) : Int)) = true := by simp; omega
      clear hdl hdl2
      obtain ⟨δ, hδ⟩ : ∃ δ, dayOf T.l = δ := ⟨_, rfl⟩
      rw [hδ] at HG p0 gp0
      clear hδ hm1
      have hlt1 : T.l.length - 1 < T.l.length := by omega
      have hkp : 0 < T.l.length := by omega
      rcases hday : decide (a < δ) with _ | _
      · have HD : decide (δ ≤ a) = true := decide_eq_true (by have := of_decide_eq_false hday; omega)
        by_cases hsd : σ = d
        case neg =>
          have HE := hd (onWay_end HOW.out (nextL_bad HL.out (by rw [HG.out, decide_eq_false hsd]; simp)))
          have kd : (σ != d) = true := by simpa using hsd
          clear hsd
          refine wp_region_calm (by kernel_rfl) (by kernel_rfl) ?_
          repeat (first | go_big_quiet_step ((first | (go_at_call 156; exact calm_of (HST.out _ (HTX.out _))))) | quiet_step ((first | (go_at_call 156; exact calm_of (HST.out _ (HTX.out _))))))
          refine wpQuiet_nil ?_
          rintro w5 ⟨x, rfl⟩
          have E5 := gro_below x
          generalize gro W4 x = w5 at E5 ⊢
          have R5 := R4.below (show w.heap.size + 1 < W4.heap.size by omega) E5
          have X5 := X4.below' (show w.heap.size < W4.heap.size by omega) E5
          have O5 := O4.below E5 (Nat.le_refl _)
          have B5 := B4.trans (E5.mono (by omega))
          have hsz5 : w.heap.size + 2 ≤ w5.heap.size := Nat.le_trans hsz4 E5.size
          have u0 := (E5.cell (p := ⟨w3.heap.size, 0, none⟩) hx4).trans t0
          have u1 := (E5.cell (p := ⟨w3.heap.size, 1, none⟩) hx4).trans t1
          have u2 := (E5.cell (p := ⟨w3.heap.size, 2, none⟩) hx4).trans t2
          clear r0 c0 cst cn f0 f1 f2 t0 t1 t2 gc0 gst gn gt0 gt1 gt2 R4 X4 O4 B4 E5
          obtain ⟨r0, ⟨c0, c1, c2⟩, f0, f1, f2⟩ := id R5
          obtain ⟨x0, ⟨d0, d1, d2, b0, b1, b2⟩, g0, g1, g2⟩ := X5
          go_wp2_with fail
          have FC := cells3 w5 w.heap.size (.slice (some ⟨bl, ol, none⟩) T.l.length cc) (.int .i64 T.st) (.int .i64 (T.at_ : Int)) _ _ _ b0 b1 b2
          have BZ := box3_below B5 (Nat.le_refl _) (.slice (some ⟨bl, ol, none⟩) T.l.length cc) (.int .i64 T.st) (.int .i64 (T.at_ : Int))
          have OZ := (own_box3 O5 (show w.heap.size < w.heap.size + 2 by omega) (.slice (some ⟨bl, ol, none⟩) T.l.length cc) (.int .i64 T.st) (.int .i64 (T.at_ : Int))).base (show w.heap.size ≤ w.heap.size + 2 by omega)
          generalize (((w5.setCell ⟨w.heap.size, 0, none⟩ (.slice (some ⟨bl, ol, none⟩) T.l.length cc)).setCell ⟨w.heap.size, 1, none⟩ (.int .i64 T.st)).setCell ⟨w.heap.size, 2, none⟩ (.int .i64 (T.at_ : Int))) = Z at FC BZ OZ ⊢
          obtain ⟨e0, e1, e2⟩ := FC
          refine bodyPost_ret (v := .agg #[.slice (some ⟨bl, ol, none⟩) T.l.length cc, .int .i64 T.st, .int .i64 (T.at_ : Int)]) ?_ rfl ?_
          · refine (results_cell_one Tryz.results87 _ _ _).trans ?_
            exact load_reading Z _ _ _ _ ⟨_, _, _, rfl⟩ e0 e1 e2
          · rw [HE.out]
            exact ⟨_, rfl, OZ, BZ⟩
        have HN := hd (nextL_good HL.out (by rw [HG.out, decide_eq_true hsd, HD]; rfl))
        have kd : (σ != d) = false := by simpa using hsd
        have hdb : 0 ≤ d ∧ d ≤ 65518 := by omega
        clear hsd
        refine wp_region_calm (by kernel_rfl) (by kernel_rfl) ?_
        repeat (first | go_big_quiet_step ((first | (go_at_call 156; exact calm_of (HST.out _ (HTX.out _))))) | quiet_step ((first | (go_at_call 156; exact calm_of (HST.out _ (HTX.out _))))))
        refine wpQuiet_nil ?_
        rintro w5 ⟨x, rfl⟩
        have E5 := gro_below x
        generalize gro W4 x = w5 at E5 ⊢
        have R5 := R4.below (show w.heap.size + 1 < W4.heap.size by omega) E5
        have X5 := X4.below' (show w.heap.size < W4.heap.size by omega) E5
        have O5 := O4.below E5 (Nat.le_refl _)
        have B5 := B4.trans (E5.mono (by omega))
        have hsz5 : w.heap.size + 2 ≤ w5.heap.size := Nat.le_trans hsz4 E5.size
        have u0 := (E5.cell (p := ⟨w3.heap.size, 0, none⟩) hx4).trans t0
        have u1 := (E5.cell (p := ⟨w3.heap.size, 1, none⟩) hx4).trans t1
        have u2 := (E5.cell (p := ⟨w3.heap.size, 2, none⟩) hx4).trans t2
        clear r0 c0 cst cn f0 f1 f2 t0 t1 t2 gc0 gst gn gt0 gt1 gt2 R4 X4 O4 B4 E5
        have E5 := R5
        obtain ⟨r0, ⟨c0, cst, cn⟩, f0, f1, f2⟩ := id R5
        go_wp2_with (at_builtin; refine wpList_push _ rfl _ _ 133 rfl i0 (.agg #[.int .i64 0, .string ByteArray.empty, .int .i64 0]) 32 Tryz.underlying133 hi hz0 hz1 hz2 rfl (by decide) _ _ ((a, b, c) : TEntry) rfl (O5.alloc _) w5.heap.size rfl #[.int .i64 a, .string b, .int .i64 c] 130 (heap_alloc_new _ _) rfl rfl (by intro u hu; simp [eEntry] at hu; rcases hu with rfl | rfl | rfl <;> rfl) (by unfold maxLen; omega) (by omega) (by simp; omega) ?_)
        intro v6 w6 O6 hg6
        have E6 := ((Below.refl (w.heap.size + 2) w5).alloc hsz5 (.cells #[.int .i64 a, .string b, .int .i64 c] 130)).grown hg6 (by simp; omega) (fun g hg => (O5.lt g hg).1)
        have R6 := R5.below (show w.heap.size + 1 < w.heap.size + 2 by omega) E6
        have X6 := X5.below' (show w.heap.size < w.heap.size + 2 by omega) E6
        have B6 := B5.trans (E6.mono (by omega))
        have hsz6 := Nat.le_trans hsz5 E6.size
        clear r0 c0 cst cn f0 f1 f2 u0 u1 u2 hg6 E5 R5 X5 O5 B5 E6
        obtain ⟨L6, hL6⟩ : ∃ L6, T.l ++ [((a, b, c) : TEntry)] = L6 := ⟨_, rfl⟩
        have HL6 := hd (show L6.length = T.l.length + 1 by rw [← hL6]; simp)
        rw [hL6] at O6
        have HE6 := hd hL6
        clear hL6
        obtain ⟨A6, cc6, rfl⟩ := O6.isSlice
        obtain ⟨r0, ⟨c0, cst, cn⟩, f0, f1, f2⟩ := id R6
        go_wp2_with fail
        have hzz : ((T.at_ : Int) + ((line.size : Int) + 1)) = ((T.at_ + line.size + 1 : Nat) : Int) := by omega
        rw [hzz]
        have R7 := rd_set (v' := .slice A6 L6.length cc6) (st' := d) (n' := T.at_ + line.size + 1) R6
        have O7 := own_box3 O6 (show w.heap.size + 1 < w.heap.size + 2 by omega) (.slice A6 L6.length cc6) (.int .i64 d) (.int .i64 ((T.at_ + line.size + 1 : Nat) : Int))
        have X7 := X6.below' (Nat.lt_succ_self _) (box3_below (Below.refl (w.heap.size + 1) w6) (Nat.le_refl _) (.slice A6 L6.length cc6) (.int .i64 d) (.int .i64 ((T.at_ + line.size + 1 : Nat) : Int)))
        have B7 := box3_below B6 (show w.heap.size ≤ w.heap.size + 1 by omega) (.slice A6 L6.length cc6) (.int .i64 d) (.int .i64 ((T.at_ + line.size + 1 : Nat) : Int))
        go_roundw
        case rel => exact ⟨⟨T.at_ + line.size + 1, d, L6⟩, .slice A6 L6.length cc6, hd (onWay_next HOW.out (by have h := HN.out; rw [HQ.out] at h; rw [← HE6.out]; exact h)), ⟨hd2, by have := HL6.out; show L6.length ≤ T.at_ + line.size + 1; omega, hdb.1, hdb.2⟩, R7, X7, O7, B7, Nat.le_trans hsz6 (box3_below (Below.refl 0 w6) (Nat.zero_le (w.heap.size + 1)) _ _ _).size⟩
        case measure =>
          rw [R7.2.1.2.2, HMZ.out]
          simp [intOf]
          omega
      · have HE := hd (onWay_end HOW.out (nextL_bad HL.out (by rw [HG.out, decide_eq_false (show ¬ δ ≤ a by have := of_decide_eq_true hday; omega)]; rfl)))
        go_quiet (fail)
        have R5 := R4.below (show w.heap.size + 1 < w.heap.size + 2 by omega) (below_of_drewN nq (w.heap.size + 2))
        have X5 := X4.below' (Nat.lt_succ_self _) (below_of_drewN nq (w.heap.size + 1))
        have O5 := O4.drewN nq
        have B5 := below_drewN B4 nq
        clear r0 c0 cst cn f0 f1 f2 t0 t1 t2 R4 X4 O4 B4
        generalize W4.drewN nq = w5 at R5 X5 O5 B5 ⊢
        obtain ⟨r0, ⟨c0, c1, c2⟩, f0, f1, f2⟩ := id R5
        obtain ⟨x0, ⟨d0, d1, d2, b0, b1, b2⟩, g0, g1, g2⟩ := X5
        go_wp2_with fail
        have FC := cells3 w5 w.heap.size (.slice (some ⟨bl, ol, none⟩) T.l.length cc) (.int .i64 T.st) (.int .i64 (T.at_ : Int)) _ _ _ b0 b1 b2
        have BZ := box3_below B5 (Nat.le_refl _) (.slice (some ⟨bl, ol, none⟩) T.l.length cc) (.int .i64 T.st) (.int .i64 (T.at_ : Int))
        have OZ := (own_box3 O5 (show w.heap.size < w.heap.size + 2 by omega) (.slice (some ⟨bl, ol, none⟩) T.l.length cc) (.int .i64 T.st) (.int .i64 (T.at_ : Int))).base (show w.heap.size ≤ w.heap.size + 2 by omega)
        generalize (((w5.setCell ⟨w.heap.size, 0, none⟩ (.slice (some ⟨bl, ol, none⟩) T.l.length cc)).setCell ⟨w.heap.size, 1, none⟩ (.int .i64 T.st)).setCell ⟨w.heap.size, 2, none⟩ (.int .i64 (T.at_ : Int))) = Z at FC BZ OZ ⊢
        obtain ⟨e0, e1, e2⟩ := FC
        refine bodyPost_ret (v := .agg #[.slice (some ⟨bl, ol, none⟩) T.l.length cc, .int .i64 T.st, .int .i64 (T.at_ : Int)]) ?_ rfl ?_
        · refine (results_cell_one Tryz.results87 _ _ _).trans ?_
          exact load_reading Z _ _ _ _ ⟨_, _, _, rfl⟩ e0 e1 e2
        · rw [HE.out]
          exact ⟨_, rfl, OZ, BZ⟩

end Go.Proofs.YtgcodjkjdfahdaaGreatDoor

/- A log read: the reference's methods day and line. No condition. -/
namespace Go.Proofs.YtgcodjkjdfahdaaGreatDoor
open Go Go.RowKit Go.ChangeShapes Go.WideShapes
set_option linter.unusedSimpArgs false
set_option linter.unusedVariables false
/-- a reader lies in a block, free to be written -/
def Rs (W : World) (g : Nat) (s : ByteArray) (v : Value) (st : Int) (n : Nat) : Prop := g < W.heap.size ∧ (W.cell? ⟨g, 0, none⟩ = some (.string s) ∧ W.cell? ⟨g, 1, none⟩ = some (.int .i64 (n : Int)) ∧ W.cell? ⟨g, 2, none⟩ = some (.int .i64 st) ∧ W.cell? ⟨g, 3, none⟩ = some v) ∧ W.frozen? ⟨g, 1, none⟩ = false ∧ W.frozen? ⟨g, 2, none⟩ = false ∧ W.frozen? ⟨g, 3, none⟩ = false
theorem Rs.below {W W' : World} {C g n : Nat} {s : ByteArray} {v : Value} {st : Int} (x : Rs W g s v st n) (hC : g < C) (hb : Below C W W') : Rs W' g s v st n := by
  obtain ⟨h0, ⟨c0, c1, c2, c3⟩, f1, f2, f3⟩ := x
  exact ⟨Nat.lt_of_lt_of_le h0 hb.size, ⟨(hb.cell (p := ⟨g, 0, none⟩) hC).trans c0, (hb.cell (p := ⟨g, 1, none⟩) hC).trans c1, (hb.cell (p := ⟨g, 2, none⟩) hC).trans c2, (hb.cell (p := ⟨g, 3, none⟩) hC).trans c3⟩, (hb.frozen (p := ⟨g, 1, none⟩) hC).trans f1, (hb.frozen (p := ⟨g, 2, none⟩) hC).trans f2, (hb.frozen (p := ⟨g, 3, none⟩) hC).trans f3⟩
theorem rs_set {N : World} {g n n' : Nat} {s : ByteArray} {v v' : Value} {st st' : Int} (x : Rs N g s v st n) : Rs (((N.setCell ⟨g, 3, none⟩ v').setCell ⟨g, 2, none⟩ (.int .i64 st')).setCell ⟨g, 1, none⟩ (.int .i64 (n' : Int))) g s v' st' n' := by
  obtain ⟨h0, ⟨c0, c1, c2, c3⟩, f1, f2, f3⟩ := x
  refine ⟨?_, ⟨?_, ?_, ?_, ?_⟩, ?_, ?_, ?_⟩
  · exact Nat.lt_of_lt_of_le h0 ((((Below.refl 0 N).setCell (p := ⟨g, 3, none⟩) (Nat.zero_le _) _).setCell (p := ⟨g, 2, none⟩) (Nat.zero_le _) _).setCell (p := ⟨g, 1, none⟩) (Nat.zero_le _) _).size
  all_goals go_simp
theorem rs_below {w W : World} {g B : Nat} (hb : Below B w W) (hB : B ≤ g) (a b c : Value) : Below B w (((W.setCell ⟨g, 3, none⟩ a).setCell ⟨g, 2, none⟩ b).setCell ⟨g, 1, none⟩ c) :=
  ((hb.setCell (p := ⟨g, 3, none⟩) hB _).setCell (p := ⟨g, 2, none⟩) hB _).setCell (p := ⟨g, 1, none⟩) hB _
theorem own_rs {w : World} {B E k g : Nat} {v : Value} {α : Type} {enc : α → List Value} {l : List α} (hO : Own w B E k v enc l) (hne : v.ownBlock = none ∨ v.ownBlock ≠ some g) (a b c : Value) : Own (((w.setCell ⟨g, 3, none⟩ a).setCell ⟨g, 2, none⟩ b).setCell ⟨g, 1, none⟩ c) B E k v enc l :=
  hO.grown (grownBy_trans (grownBy_trans (grownBy_set w ⟨g, 3, none⟩ a) (grownBy_set _ ⟨g, 2, none⟩ b)) (grownBy_set _ ⟨g, 1, none⟩ c)) hne
theorem rs_grown {W W' : World} {g n : Nat} {s : ByteArray} {v : Value} {st : Int} {row : Option Nat} (x : Rs W g s v st n) (hg : W.grownBy W' row) (hne : row = none ∨ row ≠ some g) : Rs W' g s v st n := by
  obtain ⟨h0, ⟨c0, c1, c2, c3⟩, f1, f2, f3⟩ := x
  have hb : W'.heap[g]? = W.heap[g]? := hg.block g h0 (by
    intro e
    rcases hne with h | h
    · rw [h] at e; cases e
    · exact h e.symm)
  exact ⟨Nat.lt_of_lt_of_le h0 hg.size, ⟨(World.cell?_of_block (w := W) (a := ⟨g, 0, none⟩) hb).trans c0, (World.cell?_of_block (w := W) (a := ⟨g, 1, none⟩) hb).trans c1, (World.cell?_of_block (w := W) (a := ⟨g, 2, none⟩) hb).trans c2, (World.cell?_of_block (w := W) (a := ⟨g, 3, none⟩) hb).trans c3⟩, (World.frozen?_of_block (w := W) (a := ⟨g, 1, none⟩) hb).trans f1, (World.frozen?_of_block (w := W) (a := ⟨g, 2, none⟩) hb).trans f2, (World.frozen?_of_block (w := W) (a := ⟨g, 3, none⟩) hb).trans f3⟩
/-- append of one element to a slice of the call's own: which block it lies in behind -/
theorem step_push {P : Program} {α : Type} {enc : α → List Value} {k : Nat} (w : World) {ops : Array Oper} {o : Oper} {a : Act} {K : Act → World → Prop} {Q : Exit → Act → World → Prop} {X : Prop} (hgd : o.guard = none) (s x : Operand) (t : TypeId)
    (ho : o.op = .call { callee := .builtin .append, args := #[s, x], argTypes := #[t, t] })
    {B E : Nat} (i : TypeInfo) (z : Value) (bytes : Nat) (ht : P.underlying t = some (.slice E)) (hi : P.info? E = some i) (hz : i.zero = some z)
    (hsize : i.size = k) (hby : i.bytes = bytes) (hzs : z.cells.size = k) (hsz : 0 < k)
    (v : Value) (l : List α) (y : α) (hs : a.eval s = v) (hown : Own w B E k v enc l)
    (g : Nat) (hx : a.eval x = .slice (some ⟨g, 0, none⟩) 1 1) (cs : Array Value) (E' : TypeId) (hg : w.heap[g]? = some (.cells cs E' (0, 0))) (hcs : cs.toList = enc y) (hlen : (enc y).length = k) (h1 : ∀ u ∈ enc y, u.oneCell' = true)
    (h63 : l.length + 1 ≤ maxLen) (hbytes : (l.length + 1) * bytes ≤ 140737488355328) (hbase : B ≤ w.heap.size)
    (h : ∀ v' w', Own w' B E k v' enc (l ++ [y]) → w.grownBy w' v.ownBlock → (v'.ownBlock = v.ownBlock ∨ v'.ownBlock = some w.heap.size) → K (a.put o.dst v') w') :
    if Region.wanted o (yielded ops a.tmps) = true then Oper.wp P o a w K Q else X := by
  have hw : Region.wanted o (yielded ops a.tmps) = true := by simp [Region.wanted, hgd]
  rw [if_pos hw]
  obtain ⟨v', w', hr, h2, h3, -, h4⟩ := run_append_own_at (P := P) (w := w) B t o.type E i z k bytes ht hi hz hsize hby hzs hsz v l.length (l.flatMap enc) hown ⟨g, 0, none⟩ 1 1 (enc y) (by simpa using hlen) (fun j u hu => by
    have hadd : (⟨g, 0, none⟩ : Addr).add j = ⟨g, j, none⟩ := by unfold Addr.add; split <;> simp_all
    rw [hadd, cell_of_row w g j cs E' (0, 0) hg, ← hu, ← hcs]
    simp) h1 h63 hbytes hbase
  unfold Oper.wp execOp
  simp only [ho, resolve, invoke, builtin, Sem.run_bind, Sem.run_pure, Result.andThen_ok, List.map_toArray, List.map_cons, List.map_nil, hs, hx, hr]
  exact h v' w' (by unfold Own; simpa using h2) h3 h4
theorem split32_spec (w : World) (s : ByteArray) (hs : s.size ≤ 1048576) :
    Calls Tryz.prog 38 #[.string s, .int .u8 32] w fun e w' => ∃ v, e = .returned v ∧ Own w' w.heap.size 9 1 v eS (partsB 32 s) ∧ Below w.heap.size w w' := split_spec w s 32 hs
set_option maxRecDepth 100000 in
theorem day_log (w : World) (g : Nat) (v : Value) (l : List TEntry) (c3 : w.cell? ⟨g, 3, none⟩ = some v) (h : Sl w 3 v eEntry l) :
    Calls Tryz.prog 224 #[.pointer (some ⟨g, 0, none⟩)] w fun e w' => e = .returned (.int .i64 (dayOf l)) ∧ ∃ n, w' = w.drewN n := by
  have hl := h.len
  obtain ⟨A, cc, rfl⟩ := h.isSlice
  by_cases hm : l.length = 0
  · have HD := hd (dayOf_nil hm)
    have kz : ((l.length : Int) == 0) = true := by rw [hm]; rfl
    clear hm
    go_enter Tryz.func224, Tryz.ntmps224
    go_wp2_with fail
    go_ret
    exact ⟨by rw [HD.out]; rfl, 0, rfl⟩
  · obtain ⟨m, hm1⟩ : ∃ m, l.length = m + 1 := ⟨l.length - 1, by omega⟩
    have hdl := dayOf_last hm1
    obtain ⟨bl, ol, hA, hbl, p0, -, -⟩ := h.Entry_at (show l.length - 1 < l.length by omega)
    have hdl2 : (l[l.length - 1]'(by omega)).1 = dayOf l := by rw [hdl]; congr 1; simp [hm1]
    rw [hdl2] at p0
    subst hA
    have hlt1 : l.length - 1 < l.length := by omega
    have hkp : 0 < l.length := by omega
    clear hdl hdl2 hm1
    generalize dayOf l = δ at p0 ⊢
    go_enter Tryz.func224, Tryz.ntmps224
    go_wp2_with fail
    go_quiet (fail)
    go_wp2_with fail
    go_ret
    exact ⟨rfl, nq, rfl⟩
def LineGives (w : World) (s : ByteArray) (B g : Nat) (T : LS) (e : Ending) (w' : World) : Prop :=
  ∃ T' v', (nextL s T = some T' ∧ e = .returned (.bool true) ∨ (nextL s T = none ∧ T' = T) ∧ e = .returned (.bool false)) ∧ Rs w' g s v' T'.st T'.at_ ∧ Own w' B 130 3 v' eEntry T'.l ∧ (v'.ownBlock = none ∨ v'.ownBlock ≠ some g) ∧ Below B w w'
set_option maxRecDepth 100000 in
set_option maxHeartbeats 16000000 in
theorem line_log (w : World) (s : ByteArray) (hs : s.size ≤ 1048576) (B g : Nat) (T : LS) (v : Value) (HOW : Hid (OnWay s T)) (q1 : T.at_ ≤ s.size) (q2 : T.l.length ≤ T.at_) (q3 : 0 ≤ T.st) (q4 : T.st ≤ 65518) (R : Rs w g s v T.st T.at_) (O : Own w B 130 3 v eEntry T.l) (hne : v.ownBlock = none ∨ v.ownBlock ≠ some g) (hB : B ≤ g) :
    Calls Tryz.prog 212 #[.pointer (some ⟨g, 0, none⟩)] w (LineGives w s B g T) := by
  obtain ⟨i0, hi, hz0, hz1, hz2⟩ : ∃ i, Tryz.prog.info? 130 = some i ∧ i.zero = some (.agg #[.int .i64 0, .string ByteArray.empty, .int .i64 0]) ∧ i.size = 3 ∧ i.bytes = 32 := by
    have hh := info_EntryI
    rcases q : Tryz.prog.info? 130 with _ | i
    · simp [q] at hh
    · simp [q] at hh
      exact ⟨i, rfl, hh.1, hh.2.1, hh.2.2⟩
  obtain ⟨A, cc, rfl⟩ := O.isSlice
  have HNONE := hd (show ∀ w', nextL s T = none → Below w.heap.size w w' → LineGives w s B g T (.returned (.bool false)) w' from fun w' hn hb => ⟨T, _, .inr ⟨⟨hn, rfl⟩, rfl⟩, R.below R.1 hb, O.below hb (Nat.le_refl _), hne, hb.mono (Nat.le_trans hB (Nat.le_of_lt R.1))⟩)
  obtain ⟨r0, ⟨c0, c1, c2, c3⟩, f1, f2, f3⟩ := id R
  have HC := hd (fun (i : Nat) (hi : i < s.size) => (show (((s[i]'hi).toNat : Int) != 10) = !decide (s[i]'hi = 10) by
    rw [Bool.eq_iff_iff]
    simp only [bne_iff_ne, Bool.not_eq_true', decide_eq_false_iff_not, ne_eq]
    constructor
    · intro e h; exact e (by rw [h]; rfl)
    · intro e h; exact e (UInt8.toNat_inj.1 (show (s[i]'hi).toNat = 10 by omega))))
  go_enter Tryz.func212, Tryz.ntmps212
  go_wp2_with fail
  go_loop [3] (fun ev => ∃ k : Nat, ev = .int .i64 (k : Int) ∧ T.at_ ≤ k ∧ k ≤ s.size ∧ Hid (∀ i (hi : i < s.size), T.at_ ≤ i → i < k → ¬ s[i]'hi = 10)) (fun ev => s.size - (intOf ev).toNat)
  case atStart => exact ⟨T.at_, rfl, Nat.le_refl _, q1, hd (fun i _ h1 h2 => by omega)⟩
  case round =>
    obtain ⟨k, rfl, k1, k2, HK⟩ := hrel
    by_cases hlt : k < s.size
    case neg =>
      obtain rfl : k = s.size := by omega
      have HL := hd (lineAt_end (s := s) (at_ := T.at_) (fun i hi h1 => HK.out i hi h1 hi))
      clear HC HK
      go_wp2_with fail
      go_ret
      exact HNONE.out _ (nextL_none HL.out) (Below.refl _ _)
    rcases q : decide (s[k]'hlt = 10) with _ | _
    · have q2' : (((s[k]'hlt).toNat : Int) != 10) = true := by rw [HC.out, q]; rfl
      have HK2 := hd (show ∀ i (hi : i < s.size), T.at_ ≤ i → i < k + 1 → ¬ s[i]'hi = 10 from fun i hi h1 h2 => by
        by_cases e : i = k
        · subst e; exact of_decide_eq_false q
        · exact HK.out i hi h1 (by omega))
      clear q HC HK
      go_wp2_with fail
      go_round
      case rel => exact ⟨k + 1, by go_num, by omega, by omega, HK2⟩
      case measure => simp [intOf]; omega
    have q2' : (((s[k]'hlt).toNat : Int) != 10) = false := by rw [HC.out, q]; rfl
    have HL := hd (lineAt_hit k1 hlt HK.out (of_decide_eq_true q))
    clear q HC HK
    go_wp2_with fail
    obtain ⟨line, hline⟩ : ∃ line, s.extract T.at_ k = line := ⟨_, rfl⟩
    have hz1k : line.size + T.at_ = k := by rw [← hline, ByteArray.size_extract]; omega
    have hlz : line.size ≤ 1048576 := by omega
    have HL2 := hd (show lineAt s T.at_ = some line by rw [← hline]; exact HL.out)
    have HX := hd hline
    have HEX := hd (extract_line HL2.out)
    clear HL hline
    have HS := hd (show ∀ ww, Below w.heap.size w ww → ww.cell? ⟨g, 0, none⟩ = some (.string s) ∧ ww.cell? ⟨g, 1, none⟩ = some (.int .i64 (T.at_ : Int)) from fun ww K => ⟨(K.cell (p := ⟨g, 0, none⟩) r0).trans c0, (K.cell (p := ⟨g, 1, none⟩) r0).trans c1⟩)
    have K := Below.refl w.heap.size w
    clear c2 c3 f1 f2 f3
    have c0' := hd c0
    have c1' := hd c1
    clear c0 c1
    go_region_held3 (fun ww => ww.cell? ⟨g, 0, none⟩ = some (.string s) ∧ ww.cell? ⟨g, 1, none⟩ = some (.int .i64 (T.at_ : Int))) (first | with_reducible exact HS.out _ K | with_reducible exact HS.out _ (Below.drew K))
      (first | (go_at_call 38; replace K := Below.drew K; rw [HX.out]; with_reducible refine (split32_spec _ _ hlz).mono ?_; rintro e w2 ⟨v2, rfl, O2, hb2⟩; replace K := below_step K hb2; clear hb2))
    by_cases hlen : (partsB 32 line).length = 4
    case neg =>
      have HN := hd (nextL_bad HL2.out (bad_len (T := T) hlen))
      have hlen' : (((partsB 32 line).length : Nat) : Int) ≠ 4 := by omega
      have hle := partsB_len_le 32 line
      obtain ⟨A2, cc2, rfl⟩ := O2.isSlice
      clear hlen O2 c0' c1'
      go_wp2_with fail
      go_ret
      exact HNONE.out _ HN.out K
    obtain ⟨y0, y1, y2, y3, hL⟩ := four hlen
    have hsz : ∀ x ∈ partsB 32 line, x.size ≤ 1048576 := fun x hx => Nat.le_trans (partsB_size 32 line x hx) hlz
    obtain ⟨gw, cap, rfl, hg, hcap, hcap2, CE2⟩ := own_cells O2 (by omega)
    rw [hlen] at hcap ⊢
    rw [hL] at hsz CE2
    have HP := hd hL
    have z0 : y0.size ≤ 1048576 := hsz y0 (by simp)
    have z1 : y1.size ≤ 1048576 := hsz y1 (by simp)
    have z2 : y2.size ≤ 1048576 := hsz y2 (by simp)
    clear hsz hL O2 hlen c0' c1'
    have p0 : w2.cell? ⟨gw, 0, none⟩ = some (.string y0) := CE2.2 0 y0 rfl
    go_wp2_with fail
    refine (number_spec _ _ z0).mono ?_
    rintro e w3 ⟨rfl, hb3⟩
    obtain ⟨a, oka, la, ua, hra, ya, na⟩ := num_form y0.data.toList
    rw [hra]
    have Ya := hd ya
    have Na := hd na
    clear hra ya na
    replace K := below_step K hb3
    have CE3 := CE2.below hb3
    have p2 : w3.cell? ⟨gw, 2, none⟩ = some (.string y2) := CE3.2 2 y2 rfl
    go_wp2_with fail
    refine (number_spec _ _ z2).mono ?_
    rintro e w4 ⟨rfl, hb4⟩
    obtain ⟨c, okc, lc, uc, hrc, yc, nc⟩ := num_form y2.data.toList
    rw [hrc]
    have Yc := hd yc
    have Nc := hd nc
    clear hrc yc nc
    replace K := below_step K hb4
    have CE4 := CE3.below hb4
    have p1 : w4.cell? ⟨gw, 1, none⟩ = some (.string y1) := CE4.2 1 y1 rfl
    obtain ⟨t0, t1, t2, -, hz5, hb5⟩ := new3 w4 (.int .i64 a) (.string y1) (.int .i64 c) 130
    replace K := below_step K hb5
    have hx5 : w4.heap.size < (w4.alloc (.cells #[.int .i64 a, .string y1, .int .i64 c] 130)).heap.size := by omega
    clear p0 p2 CE2 CE3 hb3 hb4 HS
    go_wp2_with fail
    generalize w4.alloc (.cells #[.int .i64 a, .string y1, .int .i64 c] 130) = w5 at t0 t1 t2 hz5 hb5 K hx5 ⊢
    rcases oka with _ | _
    · have HN := hd (nextL_bad HL2.out (bad_num (T := T) HP.out (.inl (Na.out (by trivial)))))
      go_quiet (fail)
      go_wp2_with fail
      go_ret
      exact HNONE.out _ HN.out (below_drewN K nq)
    rcases okc with _ | _
    · have HN := hd (nextL_bad HL2.out (bad_num (T := T) HP.out (.inr (Nc.out (by trivial)))))
      go_quiet (fail)
      go_wp2_with fail
      go_ret
      exact HNONE.out _ HN.out (below_drewN K nq)
    have VA := hd (Ya.out (by trivial))
    have VC := hd (Yc.out (by trivial))
    have HTW := hd (show ∀ W, Below w5.heap.size w5 W → W.cell? ⟨w4.heap.size, 0, none⟩ = some (.int .i64 a) ∧ W.cell? ⟨w4.heap.size, 1, none⟩ = some (.string y1) ∧ W.cell? ⟨w4.heap.size, 2, none⟩ = some (.int .i64 c) from fun W k => ⟨(k.cell (p := ⟨w4.heap.size, 0, none⟩) hx5).trans t0, (k.cell (p := ⟨w4.heap.size, 1, none⟩) hx5).trans t1, (k.cell (p := ⟨w4.heap.size, 2, none⟩) hx5).trans t2⟩)
    have HRW := hd (show ∀ W, Below w5.heap.size w5 W → Rs W g s (.slice A T.l.length cc) T.st T.at_ ∧ Own W B 130 3 (.slice A T.l.length cc) eEntry T.l ∧ Below w.heap.size w W from fun W k => ⟨(R.below R.1 K).below (Nat.lt_of_lt_of_le R.1 K.size) k, (O.below K (Nat.le_refl _)).below k (Nat.le_refl _), below_step K k⟩)
    have K5 := Below.refl w5.heap.size w5
    have gt0 := gro_cell t0
    obtain ⟨r0', ⟨c0, c1, c2, c3⟩, f1, f2, f3⟩ := (HRW.out _ K5).1
    clear t1 t2 Ya Yc Na Nc
    rcases he : okEntryB (a, y1, c) with _ | _
    · have HN := hd (nextL_bad HL2.out (bad_entry (T := T) HP.out VA.out VC.out he))
      have HOKE := hd (show ∀ x : Ext w5, Calls Tryz.prog 223 #[.pointer (some ⟨w4.heap.size, 0, none⟩)] (gro w5 x) fun e w' => e = .returned (.bool false) ∧ ∃ y, w' = gro w5 y from fun x => calm_of_same (by rw [← he]; exact okE_spec (gro w5 x) w4.heap.size 0 a y1 c (HTW.out _ (gro_below x)).1 (HTW.out _ (gro_below x)).2.1 (HTW.out _ (gro_below x)).2.2))
      clear he
      refine wp_region_calm (by kernel_rfl) (by kernel_rfl) ?_
      repeat (first | go_big_quiet_step ((first | (go_at_call 223; exact HOKE.out _))) | quiet_step ((first | (go_at_call 223; exact HOKE.out _))))
      refine wpQuiet_nil ?_
      rintro w6 ⟨x, rfl⟩
      have hgx := gro_below x
      generalize gro w5 x = w6 at hgx ⊢
      go_wp2_with fail
      go_ret
      exact HNONE.out _ HN.out (below_step K hgx)
    have HE := hd he
    have HOKE := hd (show ∀ x : Ext w5, Calls Tryz.prog 223 #[.pointer (some ⟨w4.heap.size, 0, none⟩)] (gro w5 x) fun e w' => e = .returned (.bool true) ∧ ∃ y, w' = gro w5 y from fun x => calm_of_same (by rw [← he]; exact okE_spec (gro w5 x) w4.heap.size 0 a y1 c (HTW.out _ (gro_below x)).1 (HTW.out _ (gro_below x)).2.1 (HTW.out _ (gro_below x)).2.2))
    clear he
    obtain ⟨δ, hδ⟩ : ∃ δ, dayOf T.l = δ := ⟨_, rfl⟩
    have HDAY := hd (show ∀ x : Ext w5, Calls Tryz.prog 224 #[.pointer (some ⟨g, 0, none⟩)] (gro w5 x) fun e w' => e = .returned (.int .i64 δ) ∧ ∃ y, w' = gro w5 y from fun x => calm_of_drew (by rw [← hδ]; exact day_log (gro w5 x) g _ T.l (HRW.out _ (gro_below x)).1.2.1.2.2.2 ((HRW.out _ (gro_below x)).2.1.sl eEntry_len)))
    have HDL := hd hδ
    clear hδ
    rcases hday : decide (a < δ) with _ | _
    case true =>
      have HN := hd (nextL_bad HL2.out (bad_day (T := T) HP.out VA.out VC.out (by rw [HDL.out]; have := of_decide_eq_true hday; omega)))
      refine wp_region_calm (by kernel_rfl) (by kernel_rfl) ?_
      repeat (first | go_big_quiet_step ((first | (go_at_call 223; exact HOKE.out _) | (go_at_call 224; exact HDAY.out _))) | quiet_step ((first | (go_at_call 223; exact HOKE.out _) | (go_at_call 224; exact HDAY.out _))))
      refine wpQuiet_nil ?_
      rintro w6 ⟨x, rfl⟩
      have hgx := gro_below x
      generalize gro w5 x = w6 at hgx ⊢
      go_wp2_with fail
      go_ret
      exact HNONE.out _ HN.out (below_step K hgx)
    have HDD := hd (show dayOf T.l ≤ a by rw [HDL.out]; have := of_decide_eq_false hday; omega)
    refine wp_region_calm (by kernel_rfl) (by kernel_rfl) ?_
    repeat (first | go_big_quiet_step ((first | (go_at_call 223; exact HOKE.out _) | (go_at_call 224; exact HDAY.out _))) | quiet_step ((first | (go_at_call 223; exact HOKE.out _) | (go_at_call 224; exact HDAY.out _))))
    refine wpQuiet_nil ?_
    rintro w6 ⟨x, rfl⟩
    have hgx := gro_below x
    generalize gro w5 x = w6 at hgx ⊢
    clear hday HOKE HDAY gt0 c0 c1 c2 c3 f1 f2 f3 t0
    replace K5 := below_step K5 hgx
    clear hgx
    go_wp2_with fail
    have HT6 := hd (show ∀ x : Ext w6, (gro w6 x).cell? ⟨w4.heap.size, 0, none⟩ = some (.int .i64 a) ∧ (gro w6 x).cell? ⟨w4.heap.size, 1, none⟩ = some (.string y1) ∧ (gro w6 x).cell? ⟨w4.heap.size, 2, none⟩ = some (.int .i64 c) from fun x => HTW.out _ (below_step K5 (gro_below x)))
    obtain ⟨σ, hσ⟩ : ∃ σ, stampN T.st (wordsS a y1 c) = σ := ⟨_, rfl⟩
    have HSB := hd (show 0 ≤ σ ∧ σ ≤ 65518 by rw [← hσ]; exact stampN_bd _ _)
    have HSTP := hd (show ∀ x : Ext w6, Calls Tryz.prog 226 #[.int .i64 T.st, .string (wordsS a y1 c)] (gro w6 x) fun e w' => e = .returned (.int .i64 σ) ∧ ∃ y, w' = gro w6 y from fun x => calm_of_same (by rw [← hσ]; exact l27Stamp_spec (gro w6 x) T.st ⟨q3, q4⟩ (wordsS a y1 c) (Nat.le_trans (words_size HE.out) (by omega))))
    have HSG := hd hσ
    clear hσ
    obtain ⟨r0', ⟨c0, c1, c2, c3⟩, f1, f2, f3⟩ := (HRW.out _ K5).1
    have gst := gro_cell c2
    refine wp_region_calm (by kernel_rfl) (by kernel_rfl) ?_
    repeat (first | go_big_quiet_step ((first | (go_at_call 175; exact calm_of (words_spec _ w4.heap.size 0 a y1 c (HT6.out _).1 (HT6.out _).2.1 (HT6.out _).2.2 HE.out)) | (go_at_call 226; exact HSTP.out _))) | quiet_step ((first | (go_at_call 175; exact calm_of (words_spec _ w4.heap.size 0 a y1 c (HT6.out _).1 (HT6.out _).2.1 (HT6.out _).2.2 HE.out)) | (go_at_call 226; exact HSTP.out _))))
    refine wpQuiet_nil ?_
    rintro w7 ⟨x, rfl⟩
    have hgx := gro_below x
    generalize gro w6 x = w7 at hgx ⊢
    clear c0 c1 c2 c3 f1 f2 f3 gst HT6 HSTP
    replace K5 := below_step K5 hgx
    clear hgx
    go_wp2_with fail
    have HT7 := hd (show ∀ x : Ext w7, (gro w7 x).cell? ⟨w4.heap.size, 0, none⟩ = some (.int .i64 a) ∧ (gro w7 x).cell? ⟨w4.heap.size, 1, none⟩ = some (.string y1) ∧ (gro w7 x).cell? ⟨w4.heap.size, 2, none⟩ = some (.int .i64 c) from fun x => HTW.out _ (below_step K5 (gro_below x)))
    obtain ⟨r0', ⟨c0, c1, c2, c3⟩, f1, f2, f3⟩ := (HRW.out _ K5).1
    have gs := gro_cell c0
    have gat := gro_cell c1
    have HGI := hd (show goodE T (rdLine line) = true ↔ (lineS σ (a, y1, c)).data.toList = (s.extract T.at_ (k + 1)).data.toList by
      rw [goodE_iff HP.out VA.out VC.out HE.out HDD.out, ← HSG.out]
      have he2 := HEX.out
      rw [show T.at_ + line.size + 1 = k + 1 by omega] at he2
      rw [he2]
      rfl)
    by_cases hgd : goodE T (rdLine line) = true
    case neg =>
      have HN := hd (nextL_bad HL2.out (by simpa using hgd))
      have kl : ((lineS σ (a, y1, c)).toList == (s.extract T.at_ (k + 1)).toList) = false := beq_eq_false_iff_ne.2 (fun e => hgd (HGI.out.2 (by rw [← Lib.toList_data, ← Lib.toList_data]; exact e)))
      clear hgd
      refine wp_region_calm (by kernel_rfl) (by kernel_rfl) ?_
      repeat (first | go_big_quiet_step ((first | (go_at_call 225; exact calm_of (line_spec _ σ HSB.out w4.heap.size 0 (a, y1, c) (HT7.out _).1 (HT7.out _).2.1 (HT7.out _).2.2 HE.out)))) | quiet_step ((first | (go_at_call 225; exact calm_of (line_spec _ σ HSB.out w4.heap.size 0 (a, y1, c) (HT7.out _).1 (HT7.out _).2.1 (HT7.out _).2.2 HE.out)))))
      refine wpQuiet_nil ?_
      rintro w8 ⟨x, rfl⟩
      have hgx := gro_below x
      generalize gro w7 x = w8 at hgx ⊢
      go_wp2_with fail
      go_ret
      exact HNONE.out _ HN.out (below_step K (below_step K5 hgx))
    have HN := hd (nextL_good HL2.out hgd)
    have HGE := hd (good_entry HP.out VA.out VC.out hgd)
    have kl : ((lineS σ (a, y1, c)).toList == (s.extract T.at_ (k + 1)).toList) = true := beq_iff_eq.2 (by rw [Lib.toList_data, Lib.toList_data]; exact HGI.out.1 hgd)
    clear hgd HGI
    refine wp_region_calm (by kernel_rfl) (by kernel_rfl) ?_
    repeat (first | go_big_quiet_step ((first | (go_at_call 225; exact calm_of (line_spec _ σ HSB.out w4.heap.size 0 (a, y1, c) (HT7.out _).1 (HT7.out _).2.1 (HT7.out _).2.2 HE.out)))) | quiet_step ((first | (go_at_call 225; exact calm_of (line_spec _ σ HSB.out w4.heap.size 0 (a, y1, c) (HT7.out _).1 (HT7.out _).2.1 (HT7.out _).2.2 HE.out)))))
    refine wpQuiet_nil ?_
    rintro w8 ⟨x, rfl⟩
    have hgx := gro_below x
    generalize gro w7 x = w8 at hgx ⊢
    clear c0 c1 c2 c3 f1 f2 f3 gs gat HT7
    replace K5 := below_step K5 hgx
    clear hgx kl
    go_wp2_with fail
    obtain ⟨R8, O8, B8⟩ := HRW.out _ K5
    obtain ⟨t0, t1, t2⟩ := HTW.out _ K5
    obtain ⟨r0', ⟨c0, c1, c2, c3⟩, f1, f2, f3⟩ := id R8
    clear HRW HTW HNONE HX HEX HP VA VC HDD HDL
    have HR8 := hd R8
    have HO8 := hd O8
    have HB8 := hd B8
    have hg8 : g < w8.heap.size := r0'
    have hBw : B ≤ w8.heap.size := by omega
    clear R8 O8 B8
    go_region_law (first | (refine step_push (w8.drew.alloc (.cells #[.int .i64 a, .string y1, .int .i64 c] 130)) rfl (.tmp 115) (.tmp 117) 133 rfl i0 (.agg #[.int .i64 0, .string ByteArray.empty, .int .i64 0]) 32 Tryz.underlying133 hi hz0 hz1 hz2 rfl (by decide) _ _ ((a, y1, c) : TEntry) rfl (HO8.out.drew.alloc _) w8.drew.heap.size rfl #[.int .i64 a, .string y1, .int .i64 c] 130 (heap_alloc_new _ _) rfl rfl (by intro u hu; simp [eEntry] at hu; rcases hu with rfl | rfl | rfl <;> rfl) (by unfold maxLen; omega) (by omega) (by simp; omega) ?_; intro v9 w9 O9 hg9 ho9; have R9 := rs_grown (HR8.out.below (C := w8.heap.size) hg8 (((Below.refl w8.heap.size w8).drew).alloc (Nat.le_refl _) (.cells #[.int .i64 a, .string y1, .int .i64 c] 130))) hg9 hne; obtain ⟨A9, cc9, rfl⟩ := O9.isSlice; obtain ⟨s0, ⟨e0, e1, e2, e3⟩, h1, h2, h3⟩ := id R9))
    all_goals
      have e9 : (T.l ++ [((a, y1, c) : TEntry)]).length = T.l.length + 1 := by simp
      rw [e9] at O9 ho9
      have hne9 : (Value.slice A9 (T.l.length + 1) cc9).ownBlock = none ∨ (Value.slice A9 (T.l.length + 1) cc9).ownBlock ≠ some g := by
        rcases ho9 with h | h
        · rw [h]; exact hne
        · refine .inr ?_
          rw [h]
          intro e
          injection e with e
          simp at e
          omega
      have B9 : Below B w w9 := ((((HB8.out.mono (Nat.le_trans hB (Nat.le_of_lt r0))).drew).alloc hBw _).grown hg9 (by simp; omega) (fun b hb => (HO8.out.lt b hb).1))
      have HO9 := hd O9
      have HB9 := hd B9
      have HR9 := hd R9
      have HNE := hd hne9
      clear O9 B9 R9 hne9 ho9 hg9 HO8 HB8 HR8 t0 t1 t2
      go_wp2_with fail
      go_ret
      have hkk : ((k : Int) + 1) = ((T.at_ + line.size + 1 : Nat) : Int) := by omega
      refine ⟨⟨T.at_ + line.size + 1, σ, T.l ++ [(a, y1, c)]⟩, .slice A9 (T.l.length + 1) cc9, .inl ⟨?_, rfl⟩, ?_, ?_, HNE.out, ?_⟩
      · rw [HN.out, HGE.out.1, HGE.out.2, ← HSG.out]
        rfl
      · rw [hkk]
        exact rs_set HR9.out
      · exact own_rs HO9.out HNE.out _ _ _
      · exact rs_below HB9.out hB _ _ _
end Go.Proofs.YtgcodjkjdfahdaaGreatDoor
