/- Shorter roads: the reference's function. No condition but that the slices read. -/
import Derived.Test.YtlgcehdklpbknaaShortI
import Derived.Test.YtlgcehdklpbknaaMin
import Derived.StillTactics
namespace Go.Proofs.Ytlgcehdklpbknaa
open Go Go.RowKit Go.ChangeShapes Go.WideShapes
set_option linter.unusedSimpArgs false
set_option linter.unusedVariables false
theorem Rec.drewW {W : World} {B E : Nat} {T : TypeId} {cs : List Value} (h : Rec W B E T cs) : Rec W.drew B E T cs := h
set_option maxRecDepth 100000 in
set_option maxHeartbeats 8000000 in
theorem short_spec_no (w : World) (v1 v2 : Value) (H : List Int) (L : List TRow) (h1 : Sl w 1 v1 eI H) (h2 : SlR w v2 L) (R : List (List Int)) (hR : rowsOf L = R) (hH : H.length ≤ 1048576) (hok : ¬ (H.length ≤ 6 ∧ validR H R H.length = true)) :
    Calls Try.prog 13 #[.agg #[v1, v2]] w (GivesRoadsI w (shortR H R)) := by
  have m1 := h1.len
  have m2 := h2.len
  obtain ⟨A1, c1, rfl⟩ := h1.slice
  obtain ⟨A2, c2, rfl⟩ := h2.1.slice
  have K0 := ((Below.refl w.heap.size w).alloc (Nat.le_refl _) (.cells #[.slice A1 H.length c1, .slice A2 L.length c2] 28)).alloc (show w.heap.size ≤ (w.alloc (.cells #[.slice A1 H.length c1, .slice A2 L.length c2] 28)).heap.size by simp) (.cells #[.slice none 0 0, .slice none 0 0] 28)
  have RB := (rec_new w w.heap.size 28 [.slice A1 H.length c1, .slice A2 L.length c2] (Nat.le_refl _)).alloc (.cells #[.slice none 0 0, .slice none 0 0] 28)
  have RS := rec_new (w.alloc (.cells #[.slice A1 H.length c1, .slice A2 L.length c2] 28)) w.heap.size 28 [.slice none 0 0, .slice none 0 0] (by simp)
  have hz1 : (w.alloc (.cells #[.slice A1 H.length c1, .slice A2 L.length c2] 28)).heap.size = w.heap.size + 1 := by simp
  rw [hz1] at RS
  have HVAL := hd (fun W (hb : Below w.heap.size w W) (q0 : W.cell? ⟨w.heap.size, 0, none⟩ = some (.slice A1 H.length c1)) (q1 : W.cell? ⟨w.heap.size, 1, none⟩ = some (.slice A2 L.length c2)) => roads_spec W w.heap.size _ _ q0 q1 H L (h1.below hb) (h2.below hb) H.length (by omega))
  have b0 := RB.cell 0 _ rfl
  go_enter Try.func13, Try.ntmps13
  go_wp2_with fail
  generalize (w.alloc (.cells #[.slice A1 H.length c1, .slice A2 L.length c2] 28)).alloc (.cells #[.slice none 0 0, .slice none 0 0] 28) = W0 at K0 RB RS b0 ⊢
  refine (HVAL.out _ K0 b0 (RB.cell 1 _ rfl)).mono ?_
  rintro e w1 ⟨rfl, hw1⟩
  obtain rfl : w1 = W0 := hw1
  rw [hR]
  clear HVAL
  have HS := hd (show shortR H R = (([], []), 1) by unfold shortR; rw [if_neg hok])
  have fin := fun (Z : World) (hb : Below w.heap.size w Z) => (show GivesRoadsI w (shortR H R) (.returned (.tuple #[.agg #[.slice none 0 0, .slice none 0 0], .int .i64 1])) Z by
    rw [HS.out]; exact ⟨_, _, [], rfl, rfl, ⟨Own.nil _ _ _ _ _, OwnR.nil _ _, fun b hb => by simp [apart, blocksR, Value.ownBlock] at hb ⊢⟩, hb⟩)
  replace fin := hd fin
  have e0 : (decide (H.length ≤ 6) && validR H R H.length) = false := by
    rw [Bool.eq_false_iff]
    intro h
    rw [Bool.and_eq_true, decide_eq_true_eq] at h
    exact hok h
  rw [e0]
  clear hok e0
  have f0 := RS.free 0
  have f1 := RS.free 1
  have g0 := RS.cell 0 _ rfl
  have g1 := RS.cell 1 _ rfl
  have RZ := (RS.set 0 (.slice none 0 0)).set 1 (.slice none 0 0)
  have KZ := (K0.setCell (p := ⟨w.heap.size + 1, 0, none⟩) (Nat.le_succ _) (.slice none 0 0)).setCell (p := ⟨w.heap.size + 1, 1, none⟩) (Nat.le_succ _) (.slice none 0 0)
  go_wp2_with fail
  generalize (w1.setCell ⟨w.heap.size + 1, 0, none⟩ (.slice none 0 0)).setCell ⟨w.heap.size + 1, 1, none⟩ (.slice none 0 0) = Z at RZ KZ ⊢
  refine bodyPost_ret (v := .tuple #[.agg #[.slice none 0 0, .slice none 0 0], .int .i64 1]) ?_ rfl ?_
  · refine (results_cell_tmp Try.results13 _ _ _).trans ?_
    show (((loadVar 28 ⟨w.heap.size + 1, 0, none⟩).run Try.prog Z).andThen fun v w₂ => Result.ok (Value.tuple #[v, Value.int .i64 1]) w₂) = _
    rw [load_rds Z _ _ _ ⟨_, _, _, rfl⟩ ⟨_, _, _, rfl⟩ (RZ.cell 0 _ rfl) (RZ.cell 1 _ rfl)]
    rfl
  exact fin.out _ KZ
set_option maxRecDepth 100000 in
set_option maxHeartbeats 8000000 in
theorem short_spec (w : World) (v1 v2 : Value) (H : List Int) (L : List TRow) (h1 : Sl w 1 v1 eI H) (h2 : SlR w v2 L) (R : List (List Int)) (hR : rowsOf L = R) (hH : H.length ≤ 1048576) :
    Calls Try.prog 13 #[.agg #[v1, v2]] w (GivesRoadsI w (shortR H R)) := by
  by_cases hok : H.length ≤ 6 ∧ validR H R H.length = true
  case neg => exact short_spec_no w _ _ H L h1 h2 R hR hH hok
  have m1 := h1.len
  have m2 := h2.len
  obtain ⟨A1, c1, rfl⟩ := h1.slice
  obtain ⟨A2, c2, rfl⟩ := h2.1.slice
  have K0 := ((Below.refl w.heap.size w).alloc (Nat.le_refl _) (.cells #[.slice A1 H.length c1, .slice A2 L.length c2] 28)).alloc (show w.heap.size ≤ (w.alloc (.cells #[.slice A1 H.length c1, .slice A2 L.length c2] 28)).heap.size by simp) (.cells #[.slice none 0 0, .slice none 0 0] 28)
  have RB := (rec_new w w.heap.size 28 [.slice A1 H.length c1, .slice A2 L.length c2] (Nat.le_refl _)).alloc (.cells #[.slice none 0 0, .slice none 0 0] 28)
  have RS := rec_new (w.alloc (.cells #[.slice A1 H.length c1, .slice A2 L.length c2] 28)) w.heap.size 28 [.slice none 0 0, .slice none 0 0] (by simp)
  have hz1 : (w.alloc (.cells #[.slice A1 H.length c1, .slice A2 L.length c2] 28)).heap.size = w.heap.size + 1 := by simp
  rw [hz1] at RS
  have HVAL := hd (fun W (hb : Below w.heap.size w W) (q0 : W.cell? ⟨w.heap.size, 0, none⟩ = some (.slice A1 H.length c1)) (q1 : W.cell? ⟨w.heap.size, 1, none⟩ = some (.slice A2 L.length c2)) => roads_spec W w.heap.size _ _ q0 q1 H L (h1.below hb) (h2.below hb) H.length (by omega))
  have b0 := RB.cell 0 _ rfl
  go_enter Try.func13, Try.ntmps13
  go_wp2_with fail
  generalize (w.alloc (.cells #[.slice A1 H.length c1, .slice A2 L.length c2] 28)).alloc (.cells #[.slice none 0 0, .slice none 0 0] 28) = W0 at K0 RB RS b0 ⊢
  refine (HVAL.out _ K0 b0 (RB.cell 1 _ rfl)).mono ?_
  rintro e w1 ⟨rfl, hw1⟩
  obtain rfl : w1 = W0 := hw1
  rw [hR]
  clear HVAL
  obtain ⟨h6, hv⟩ := hok
  have HS := hd (show shortR H R = ((vec H.length (fh (hfn H) (dfn R) H.length), mat H.length (fw (dfn R) H.length)), 0) by unfold shortR; rw [if_pos ⟨h6, hv⟩])
  obtain ⟨HRD, hb1, hb2, -, hb4, hb5⟩ := valid_rd hv
  rw [decide_eq_true h6, hv]
  go_wp2_with fail
  refine (own_ints w1 _ H (h1.below K0) hH).mono ?_
  rintro e w2 ⟨u1, rfl, O1, B2⟩
  obtain ⟨Au, cu, rfl⟩ := O1.slice
  have hw1 : w.heap.size + 1 < w1.heap.size := RS.lt.2
  have K2 := below_step K0 B2
  have hw2 : w1.heap.size ≤ w2.heap.size := B2.size
  have hO1 := fun b hb => O1.lt b hb
  have KA := K2.alloc K2.size (.cells #[] 25)
  have RO := rec_new (w2.alloc (.cells #[] 25)) w.heap.size 28 [.slice Au H.length cu, .slice (some ⟨w2.heap.size, 0, none⟩) 0 0] KA.size
  have hz2 : (w2.alloc (.cells #[] 25)).heap.size = w2.heap.size + 1 := by simp
  have S0 : Bld w (w2.heap.size + 1) w2.heap.size (.slice Au H.length cu) H L 0 (.slice (some ⟨w2.heap.size, 0, none⟩) 0 0) [] ((w2.alloc (.cells #[] 25)).alloc (.cells #[.slice Au H.length cu, .slice (some ⟨w2.heap.size, 0, none⟩) 0 0] 28)) :=
    ⟨KA.alloc KA.size _, ((RS.below B2).alloc _).alloc _, hz2 ▸ RO, by omega, by omega, by simp; omega, ((O1.base (by omega)).alloc _).alloc _, fun b hb => by have := (hO1 b hb).2; omega, OwnR.none_of _ _ ((Own.made0 w2 w2.heap.size 25 1 eV (Nat.le_refl _)).alloc _), fun b hb => by rcases List.mem_cons.1 hb with h | h; exact (fun e => by rw [h] at e; have e2 : some w2.heap.size = some (w2.heap.size + 1) := e; injection e2 with e2; omega); simp at h, rfl⟩
  have hle : ∀ b, (Value.slice Au H.length cu).ownBlock = some b → w.heap.size + 1 < b := fun b hb => by have := (hO1 b hb).1; omega
  replace RB := ((RB.below B2).alloc (.cells #[] 25)).alloc (.cells #[.slice Au H.length cu, .slice (some ⟨w2.heap.size, 0, none⟩) 0 0] 28)
  clear RO RS K0 K2 KA O1 hO1 B2 b0 hz2
  replace S0 := hd S0
  replace hle := hd hle
  go_wp2_with fail
  generalize hW2 : (w2.alloc (.cells #[] 25)).alloc (.cells #[.slice Au H.length cu, .slice (some ⟨w2.heap.size, 0, none⟩) 0 0] 28) = W2 at S0 RB ⊢
  clear hW2
  generalize w2.heap.size = G0 at S0 ⊢
  clear hw2 hw1
  obtain ⟨iR, hiR, hzR0, hzR1, hzR2⟩ := info_parts info_row
  have hLn : L.length = H.length := by have := congrArg List.length hR; rw [rowsOf_len] at this; omega
  replace hLn := hd hLn
  have hRB : w.heap.size < W2.heap.size := RB.lt.2
  go_loopw [6] (fun iv wr => ∃ (k : Nat) (u2 : Value) (M : List TRow), k ≤ L.length ∧ iv = .int .i64 k ∧ Hid (Bld w (G0 + 1) G0 (.slice Au H.length cu) H L k u2 M wr) ∧ Hid (Rec wr w.heap.size w.heap.size 28 [.slice A1 H.length c1, .slice A2 L.length c2])) (fun iv _ => L.length - (intOf iv).toNat)
  case atStart => exact ⟨0, _, _, Nat.zero_le _, rfl, S0, hd RB⟩
  case round =>
    obtain ⟨k, u2, M, hk, rfl, S, BX⟩ := hrel
    clear S0 RB
    by_cases hlt : k < L.length
    · have hltH : k < H.length := by have := hLn.out; omega
      obtain ⟨b, o, rfl, hbl, hc, hrow⟩ := (h2.below S.out.bel).row_at hlt
      have hst := hd (fun W1 W2 u2' vx (o : Obj) => S.out.drew.step (W1 := W1) (W2 := W2) (u2' := u2') (vx := vx) (o := o) hlt)
      have hlen : L[k].2.length ≤ 6 := by
        have := hb5 L[k].2 (by rw [← hR]; exact List.mem_map.2 ⟨_, List.getElem_mem hlt, rfl⟩)
        omega
      have hrd := hd S.out.read
      generalize L[k] = x at hc hrow hst hlen
      obtain ⟨xv, xl⟩ := x
      dsimp only at hc hrow hlen
      obtain ⟨Ax, cx, rfl⟩ := hrow.slice
      have hrowD := hrow.drew
      obtain ⟨A2', c2', rfl⟩ := S.out.rows.1.slice
      have hGl := S.out.out.lt.2
      have r1 := S.out.out.cell 1 _ rfl
      have bx1 := BX.out.cell 1 _ rfl
      have SR0 := S.out.rows.1
      have HCA := hd (fun W1 W2 (o : Obj) hb hg => S.out.drew.cell_after (W1 := W1) (W2 := W2) (o := o) hb hg)
      have HBX := hd (fun W1 W2 (o : Obj) (u2' : Value) (hb : Below wr.drew.heap.size wr.drew W1) (hg : (W1.alloc o).grownBy W2 (Value.slice A2' M.length c2').ownBlock) => (((BX.out.drewW.below hb).alloc o).keep hg (fun e => by have := (S.out.rows.1.lt _ e.symm).1; have := S.out.hB; omega)).other (E' := G0 + 1) 1 u2' (by have := S.out.hG; omega))
      have hML : M.length ≤ 6 := by have := congrArg List.length hrd.out; rw [rowsOf_len, rowsOf_len, List.length_take] at this; have := congrArg List.length hR; rw [rowsOf_len] at this; omega
      go_upto_region 8 with fail
      go_region_law (first | (go_simp; go_at_call 66; refine (own_ints wr.drew _ xl hrowD (by omega)).mono ?_; rintro e w3 ⟨v3, rfl, O3, B3⟩; obtain ⟨A3, c3, rfl⟩ := O3.slice; have x1 := (B3.cell (p := ⟨G0 + 1, 1, none⟩) hGl).trans r1; have x1a := (((Below.refl w3.heap.size w3).alloc (Nat.le_refl _) (.cells #[.slice A3 xl.length c3] 25)).cell (p := ⟨G0 + 1, 1, none⟩) (Nat.lt_of_lt_of_le hGl B3.size)).trans x1) | (refine step_push_at (w3.alloc (.cells #[.slice A3 xl.length c3] 25)) rfl (.tmp 30) (.tmp 37) 26 rfl iR (.slice none 0 0) 24 Try.underlying26 hiR hzR0 hzR1 hzR2 rfl (by decide) _ M ((.slice A3 xl.length c3, xl) : TRow) rfl ((SR0.drew.below B3 (Nat.le_refl _)).alloc _) w3.heap.size rfl #[.slice A3 xl.length c3] 25 (heap_alloc_new _ _) rfl rfl (by intro u hu; simp [eV] at hu; subst hu; rfl) (by unfold maxLen; omega) (by omega) (by have h5 : wr.heap.size ≤ w3.heap.size := B3.size; have h6 := S.out.hBW; simp; omega) ?_; intro v4 w4 O4 hg4 ho4; obtain ⟨x2, f2⟩ := HCA.out _ _ _ B3 hg4; obtain ⟨A4, c4, rfl⟩ := O4.slice))
      all_goals
        as_aux_lemma =>
        have HN := hst.out w3 w4 _ _ _ B3 O3 hg4 O4 ho4
        have HX := hd (HBX.out w3 w4 _ (.slice A4 (M ++ [((.slice A3 xl.length c3, xl) : TRow)]).length c4) B3 hg4)
        rw [List.length_append, List.length_singleton] at HN HX
        replace HN := hd HN
        clear S hst HCA SR0 O4 hg4 ho4 O3 B3 x1 x1a x2 f2 r1 hrow hrowD hc HBX BX bx1
        go_wp2_with fail
        go_roundw
        case rel => exact ⟨k + 1, _, _, by omega, by go_num, HN, HX⟩
        case measure => simp [intOf]; omega
    · obtain rfl : k = L.length := by omega
      obtain ⟨A2', c2', rfl⟩ := S.out.rows.1.slice
      have hML : M.length = H.length := by have := congrArg List.length S.out.read; rw [rowsOf_len, rowsOf_len, List.length_take] at this; have := hLn.out; omega
      have SS := hd (S.out.sr hle.out rfl hR hb4 hb5)
      rw [hML] at SS
      have HHM := hd (fun (W : World) (hb : Below w.heap.size w W) (k : Nat) (hk : k < H.length) => (show ∃ b o, A1 = some ⟨b, o, none⟩ ∧ W.cell? ⟨b, o + k, none⟩ = some (.int .i64 (hfn H k)) by
        obtain ⟨b, o, e1, -, e2⟩ := (h1.below hb).int_at hk
        refine ⟨b, o, e1, ?_⟩
        rw [e2]
        unfold hfn
        simp [List.getD, hk]))
      have hLH : ¬ L.length < H.length := by have := hLn.out; omega
      replace HS := hd (HS.out.trans (by rw [vec_ext fun i _ => fh_sh HRD H.length i]))
      clear S hML hle h1 h2 hLn
      generalize hfn H = Hf at HS HRD hb1 SS HHM
      generalize dfn R = Df at HS HRD hb2 SS
      generalize H.length = n at *
      replace HRD := hd HRD
      replace hb1 := hd hb1
      replace hb2 := hd hb2
      as_aux_lemma =>
      go_wp2_with fail
      go_loopw [7] (fun tv wx => ∃ t : Nat, t ≤ n ∧ tv = .int .i64 t ∧ Hid (SR w n (G0 + 1) G0 (.slice Au n cu) (.slice A2' n c2') Hf (fw Df t) wx) ∧ Hid (Rec wx w.heap.size w.heap.size 28 [.slice A1 n c1, .slice A2 L.length c2])) (fun tv _ => n - (intOf tv).toNat)
      case atStart => exact ⟨0, Nat.zero_le _, rfl, SS, BX⟩
      case round =>
        obtain ⟨t, htn, rfl, S, BY⟩ := hrel
        clear SS BX
        by_cases ht : t < n
        · as_aux_lemma =>
          go_wp2_with fail
          go_loopw [8] (fun jv wx => ∃ i : Nat, i ≤ n ∧ jv = .int .i64 i ∧ Hid (SR w n (G0 + 1) G0 (.slice Au n cu) (.slice A2' n c2') Hf (dcur Df t i 0) wx) ∧ Hid (Rec wx w.heap.size w.heap.size 28 [.slice A1 n c1, .slice A2 L.length c2])) (fun jv _ => n - (intOf jv).toNat)
          case atStart => exact ⟨0, Nat.zero_le _, rfl, hd (S.out.ext rfl (dcur_start n t).symm), BY⟩
          case round =>
            obtain ⟨i, hin, rfl, S2, BZ⟩ := hrel
            clear S BY
            by_cases hi : i < n
            · as_aux_lemma =>
              go_wp2_with fail
              go_loopw [9] (fun kv wx => ∃ k : Nat, k ≤ n ∧ kv = .int .i64 k ∧ Hid (SR w n (G0 + 1) G0 (.slice Au n cu) (.slice A2' n c2') Hf (dcur Df t i k) wx) ∧ Hid (Rec wx w.heap.size w.heap.size 28 [.slice A1 n c1, .slice A2 L.length c2])) (fun kv _ => n - (intOf kv).toNat)
              case atStart => exact ⟨0, Nat.zero_le _, rfl, S2, BZ⟩
              case round =>
                obtain ⟨k, hkn, rfl, S4, BW⟩ := hrel
                clear S2 BZ
                by_cases hk : k < n
                · as_aux_lemma =>
                  obtain ⟨gd, gi, ci, gt, ct, rfl, r1, r2, r3, r4, r5, r6, r8, r7⟩ := S4.out.three hi hk ht
                  have o1 := S4.out.out.cell 1 _ rfl
                  rw [dcur_self] at r3
                  rw [dcur_left HRD.out.d0 HRD.out.dd] at r4
                  rw [dcur_top HRD.out.d0 HRD.out.dd] at r5
                  obtain ⟨y1, y2⟩ := fw_bd HRD.out hb2.out t i k
                  obtain ⟨y3, y4⟩ := fw_bd HRD.out hb2.out t i t
                  obtain ⟨y5, y6⟩ := fw_bd HRD.out hb2.out t t k
                  have HE := hd (show min (fw Df t i k) (fw Df t i t + fw Df t t k) = fw Df (t + 1) i k from rfl)
                  have S5 := (r7 (min (fw Df t i k) (fw Df t i t + fw Df t t k))).drew
                  have B5 := hd ((BW.out.other (E' := gi) k (.int .i64 (min (fw Df t i k) (fw Df t i t + fw Df t t k))) (by omega)).drewW)
                  rw [HE.out, dcur_next, ← HE.out] at S5
                  replace S5 := hd S5
                  clear r7 HE S4 BW
                  generalize fw Df t i k = a1 at r3 y1 y2 S5 B5
                  generalize fw Df t i t = a2 at r4 y3 y4 S5 B5
                  generalize fw Df t t k = a3 at r5 y5 y6 S5 B5
                  go_upto_region 18 with fail
                  have hwr : IntKind.i64.wrap (a2 + a3) = a2 + a3 := IntWalk.i64_in _ (by omega)
                  refine wp_region_still_tail 33 (by kernel_rfl) (by kernel_rfl) ?_
                  simp only [List.take_succ_cons, List.take_zero, List.drop_succ_cons, List.drop_zero]
                  repeat still_step
                  still_call (min_spec a1 (a2 + a3) _)
                  repeat still_step
                  refine wpStill_nil ?_
                  clear hwr
                  as_aux_lemma =>
                  go_wp2_with fail
                  go_roundw
                  case rel => exact ⟨k + 1, by omega, by go_num, S5, B5⟩
                  case measure => simp [intOf]; omega
                · as_aux_lemma =>
                  obtain rfl : k = n := by omega
                  have S5 := hd (S4.out.ext rfl (dcur_row k t i))
                  clear S4
                  go_wp2_with fail
                  go_roundw
                  case rel => exact ⟨i + 1, by omega, by go_num, S5, BW⟩
                  case measure => simp [intOf]; omega
            · as_aux_lemma =>
              obtain rfl : i = n := by omega
              have S3 := hd (S2.out.ext rfl (dcur_end i t))
              clear S2
              go_wp2_with fail
              go_roundw
              case rel => exact ⟨t + 1, by omega, by go_num, S3, BZ⟩
              case measure => simp [intOf]; omega
        · as_aux_lemma =>
          obtain rfl : t = n := by omega
          go_wp2_with fail
          go_loopw [10] (fun jv wx => ∃ i : Nat, i ≤ t ∧ jv = .int .i64 i ∧ Hid (SR w t (G0 + 1) G0 (.slice Au t cu) (.slice A2' t c2') (scur Hf (fw Df t) t i 0) (fw Df t) wx) ∧ Hid (Rec wx w.heap.size w.heap.size 28 [.slice A1 t c1, .slice A2 L.length c2])) (fun jv _ => t - (intOf jv).toNat)
          case atStart => exact ⟨0, Nat.zero_le _, rfl, hd (S.out.ext (scur_start (fw Df t) t).symm rfl), BY⟩
          case round =>
            obtain ⟨i, hin, rfl, S2, BZ⟩ := hrel
            clear S BY
            by_cases hi : i < t
            · as_aux_lemma =>
              go_wp2_with fail
              go_loopw [11] (fun kv wx => ∃ k : Nat, k ≤ t ∧ kv = .int .i64 k ∧ Hid (SR w t (G0 + 1) G0 (.slice Au t cu) (.slice A2' t c2') (scur Hf (fw Df t) t i k) (fw Df t) wx) ∧ Hid (Rec wx w.heap.size w.heap.size 28 [.slice A1 t c1, .slice A2 L.length c2])) (fun kv _ => t - (intOf kv).toNat)
              case atStart => exact ⟨0, Nat.zero_le _, rfl, S2, BZ⟩
              case round =>
                obtain ⟨k, hkn, rfl, S4, BW⟩ := hrel
                clear S2 BZ
                by_cases hk : k < t
                · as_aux_lemma =>
                  obtain ⟨bh, oh, rfl, z1⟩ := HHM.out _ S4.out.bel k hk
                  obtain ⟨gd, gt, ct, rfl, q1, q2⟩ := S4.out.one hk hi
                  obtain ⟨gh, rfl, p1, -, p3, p5, p4⟩ := S4.out.home1 hi hk
                  have o0 := S4.out.out.cell 0 _ rfl
                  have o1 := S4.out.out.cell 1 _ rfl
                  have x0 := BW.out.cell 0 _ rfl
                  rw [scur_self] at p1
                  obtain ⟨y1, y2⟩ := sh_bd HRD.out.h0 hb1.out (fw Df t) (fun i k => (fw_bd HRD.out hb2.out t i k).1) k i
                  have y3 := HRD.out.h0 k
                  have y4 := hb1.out k
                  obtain ⟨y5, y6⟩ := fw_bd HRD.out hb2.out t k i
                  have HE := hd (show min (sh Hf (fw Df t) k i) (Hf k + fw Df t k i) = sh Hf (fw Df t) (k + 1) i from rfl)
                  have S5 := (p4 (min (sh Hf (fw Df t) k i) (Hf k + fw Df t k i))).drew
                  have B5 := hd ((BW.out.other (E' := gh) i (.int .i64 (min (sh Hf (fw Df t) k i) (Hf k + fw Df t k i))) (by omega)).drewW)
                  rw [HE.out, scur_next, ← HE.out] at S5
                  replace S5 := hd S5
                  clear p4 HE S4 BW
                  generalize sh Hf (fw Df t) k i = a1 at p1 y1 y2 S5 B5
                  generalize Hf k = a2 at z1 y3 y4 S5 B5
                  generalize fw Df t k i = a3 at q2 y5 y6 S5 B5
                  go_upto_region 25 with fail
                  have hwr : IntKind.i64.wrap (a2 + a3) = a2 + a3 := IntWalk.i64_in _ (by omega)
                  refine wp_region_still_tail 24 (by kernel_rfl) (by kernel_rfl) ?_
                  simp only [List.take_succ_cons, List.take_zero, List.drop_succ_cons, List.drop_zero]
                  repeat still_step
                  still_call (min_spec a1 (a2 + a3) _)
                  repeat still_step
                  refine wpStill_nil ?_
                  clear hwr
                  as_aux_lemma =>
                  go_wp2_with fail
                  go_roundw
                  case rel => exact ⟨k + 1, by omega, by go_num, S5, B5⟩
                  case measure => simp [intOf]; omega
                · as_aux_lemma =>
                  obtain rfl : k = t := by omega
                  have S5 := hd (S4.out.ext (scur_row (fw Df k) k i) rfl)
                  clear S4
                  go_wp2_with fail
                  go_roundw
                  case rel => exact ⟨i + 1, by omega, by go_num, S5, BW⟩
                  case measure => simp [intOf]; omega
            · as_aux_lemma =>
              obtain rfl : i = t := by omega
              have S3 := S2.out.ext (scur_end (fw Df i) i) rfl
              obtain ⟨M2, hM2, ZO, BZ2⟩ := S3.fin (.slice Au i cu) (.slice A2' i c2')
              have o0 := S3.out.cell 0 _ rfl
              have o1 := S3.out.cell 1 _ rfl
              have e0 := S3.res.cell 0 _ rfl
              have e1 := S3.res.cell 1 _ rfl
              have f0 := S3.res.free 0
              have f1 := S3.res.free 1
              have ZR := (S3.res.set 0 (.slice Au i cu)).set 1 (.slice A2' i c2')
              have HM2 := hd hM2
              clear S2 S3 hM2 BZ
              go_wp2_with fail
              generalize (wr.setCell ⟨w.heap.size + 1, 0, none⟩ (.slice Au i cu)).setCell ⟨w.heap.size + 1, 1, none⟩ (.slice A2' i c2') = Z at ZO BZ2 ZR ⊢
              refine bodyPost_ret (v := .tuple #[.agg #[.slice Au i cu, .slice A2' i c2'], .int .i64 0]) ?_ rfl ?_
              · refine (results_cell_tmp Try.results13 _ _ _).trans ?_
                show (((loadVar 28 ⟨w.heap.size + 1, 0, none⟩).run Try.prog Z).andThen fun v w₂ => Result.ok (Value.tuple #[v, Value.int .i64 0]) w₂) = _
                rw [load_rds Z _ _ _ ⟨_, _, _, rfl⟩ ⟨_, _, _, rfl⟩ (ZR.cell 0 _ rfl) (ZR.cell 1 _ rfl)]
                rfl
              rw [HS.out]
              exact ⟨_, _, M2, rfl, HM2.out, ZO, BZ2⟩
theorem short_len (H : List Int) (R : List (List Int)) : (shortR H R).1.1.length ≤ 6 := by
  unfold shortR
  split
  · rename_i h
    show (vec _ _).length ≤ 6
    rw [vec_len]
    exact h.1
  · decide
theorem sumLen_mat {M : List TRow} {n : Nat} {f : Nat → Nat → Int} (h : rowsOf M = mat n f) : sumLen M = n * n := by
  have h1 : ∀ (l : List (List Int)), (∀ r ∈ l, r.length = n) → (l.map List.length).sum = l.length * n := by
    intro l
    induction l with
    | nil => simp
    | cons r l ih =>
      intro hr
      rw [List.map_cons, List.sum_cons, hr r (List.mem_cons_self ..), ih fun x hx => hr x (List.mem_cons_of_mem _ hx), List.length_cons, Nat.add_mul]
      omega
  have h2 : sumLen M = ((rowsOf M).map List.length).sum := by
    unfold sumLen rowsOf
    rw [List.map_map]
    rfl
  rw [h2, h, h1 _ (fun r hr => by
    unfold mat at hr
    obtain ⟨i, -, rfl⟩ := List.mem_map.1 hr
    exact vec_len _ _), mat_len]
theorem short_sum {H : List Int} {R : List (List Int)} {M : List TRow} (h : rowsOf M = (shortR H R).1.2) : sumLen M ≤ 1048576 := by
  unfold shortR at h
  split at h
  · rename_i h1
    rw [sumLen_mat h]
    exact Nat.le_trans (Nat.mul_le_mul h1.1 h1.1) (by decide)
  · have : M = [] := List.eq_nil_of_length_eq_zero (by rw [← rowsOf_len, h]; rfl)
    rw [this]
    decide
end Go.Proofs.Ytlgcehdklpbknaa
