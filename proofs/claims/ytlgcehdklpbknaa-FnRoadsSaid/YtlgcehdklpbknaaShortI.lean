/- Shorter roads: the program's function. No condition but that the slices read. -/
import Derived.Test.YtlgcehdklpbknaaShortM
import Derived.Laws.ResultCell
import Derived.Deep.Cut
import Derived.StillTailTactics
namespace Go.Proofs.Ytlgcehdklpbknaa
open Go Go.RowKit Go.ChangeShapes Go.WideShapes
set_option linter.unusedSimpArgs false
set_option linter.unusedVariables false
/-- the call returns roads of its own and a code -/
def GivesRoadsI (w : World) (r : (List Int × List (List Int)) × Int) (e : Ending) (w' : World) : Prop :=
  ∃ v1 v2 M, e = .returned (.tuple #[.agg #[v1, v2], .int .i64 r.2]) ∧ rowsOf M = r.1.2 ∧ OwnRd w' w.heap.size v1 v2 r.1.1 M ∧ Below w.heap.size w w'
theorem load_rds (Z : World) (b : Nat) (x0 x1 : Value) (h0 : ∃ A n c, x0 = .slice A n c) (h1 : ∃ A n c, x1 = .slice A n c) (e0 : Z.cell? ⟨b, 0, none⟩ = some x0) (e1 : Z.cell? ⟨b, 1, none⟩ = some x1) :
    (loadVar 28 ⟨b, 0, none⟩).run Try.prog Z = .ok (.agg #[x0, x1]) Z := by
  obtain ⟨A, n, c, rfl⟩ := h0
  obtain ⟨A', n', c', rfl⟩ := h1
  simp [loadVar, go_sem, e0, e1]
theorem OwnRd.other {W : World} {B E : Nat} {u1 u2 : Value} {l : List Int} {M : List TRow} (h : OwnRd W B u1 u2 l M) (hne : ∀ a ∈ blocksRd u1 u2 M, a ≠ some E) (j : Nat) (x : Value) : OwnRd (W.setCell ⟨E, j, none⟩ x) B u1 u2 l M :=
  ⟨h.1.grown (grow_set W ⟨E, j, none⟩ x) (.inr (hne _ (List.mem_cons_self ..))), h.2.1.touched (TouchL.of_grown (grow_set W ⟨E, j, none⟩ x)) fun a ha b hb => by rw [List.mem_singleton.1 hb]; exact .inr (hne a (List.mem_cons_of_mem _ ha)), h.2.2⟩
/-- the roads handed out: what the answer's two cells hold -/
theorem SR.fin {w W : World} {n G Br : Nat} {u1 u2 : Value} {h : Nat → Int} {f : Nat → Nat → Int} (S : SR w n G Br u1 u2 h f W) (x0 x1 : Value) : ∃ M, rowsOf M = mat n f ∧ OwnRd ((W.setCell ⟨w.heap.size + 1, 0, none⟩ x0).setCell ⟨w.heap.size + 1, 1, none⟩ x1) w.heap.size u1 u2 (vec n h) M ∧ Below w.heap.size w ((W.setCell ⟨w.heap.size + 1, 0, none⟩ x0).setCell ⟨w.heap.size + 1, 1, none⟩ x1) := by
  obtain ⟨M, hM, hr, hne⟩ := S.rows
  have hO : OwnRd W w.heap.size u1 u2 (vec n h) M := by
    refine ⟨S.home, hM.base (by have := S.hB; omega), fun b hb => ?_⟩
    rcases q : u1.ownBlock with _ | c
    · exact .inl rfl
    · refine .inr fun e => ?_
      have h1 := (S.hlt c q).1
      have h2 := (hM.lt b hb c e.symm).1
      omega
  have hn : ∀ a ∈ blocksRd u1 u2 M, a ≠ some (w.heap.size + 1) := fun a ha e => by
    rcases List.mem_cons.1 ha with ha | ha
    · have := S.hle _ (ha.symm.trans e)
      omega
    · have h2 := (hM.lt a ha _ e).1
      have := S.hB
      omega
  exact ⟨M, hr, (hO.other hn 0 x0).other hn 1 x1, (S.bel.setCell (p := ⟨w.heap.size + 1, 0, none⟩) (Nat.le_succ _) x0).setCell (p := ⟨w.heap.size + 1, 1, none⟩) (Nat.le_succ _) x1⟩
set_option maxRecDepth 100000 in
set_option maxHeartbeats 8000000 in
theorem short_impl_no (w : World) (v1 v2 : Value) (H : List Int) (L : List TRow) (h1 : Sl w 1 v1 eI H) (h2 : SlR w v2 L) (R : List (List Int)) (hR : rowsOf L = R) (hH : H.length ≤ 1048576) (hno : ¬ (H.length ≤ 6 ∧ validR H R H.length = true)) :
    Calls Try.prog 12 #[.agg #[v1, v2]] w (GivesRoadsI w (shortR H R)) := by
  have m1 := h1.len
  have m2 := h2.len
  obtain ⟨A1, c1, rfl⟩ := h1.slice
  obtain ⟨A2, c2, rfl⟩ := h2.1.slice
  have K0 := ((Below.refl w.heap.size w).alloc (Nat.le_refl _) (.cells #[.slice A1 H.length c1, .slice A2 L.length c2] 28)).alloc (show w.heap.size ≤ (w.alloc (.cells #[.slice A1 H.length c1, .slice A2 L.length c2] 28)).heap.size by simp) (.cells #[.slice none 0 0, .slice none 0 0] 28)
  have RB := (rec_new w w.heap.size 28 [.slice A1 H.length c1, .slice A2 L.length c2] (Nat.le_refl _)).alloc (.cells #[.slice none 0 0, .slice none 0 0] 28)
  have RS := rec_new (w.alloc (.cells #[.slice A1 H.length c1, .slice A2 L.length c2] 28)) w.heap.size 28 [.slice none 0 0, .slice none 0 0] (by simp)
  have hz1 : (w.alloc (.cells #[.slice A1 H.length c1, .slice A2 L.length c2] 28)).heap.size = w.heap.size + 1 := by simp
  rw [hz1] at RS
  have HVAL := hd (fun W (hb : Below w.heap.size w W) => valid_impl W _ _ H L (h1.below hb) (h2.below hb) H.length (by omega))
  have HS := hd (show shortR H R = (([], []), 1) by unfold shortR; rw [if_neg hno])
  have fin := fun (Z : World) (hb : Below w.heap.size w Z) => (show GivesRoadsI w (shortR H R) (.returned (.tuple #[.agg #[.slice none 0 0, .slice none 0 0], .int .i64 1])) Z by
    rw [HS.out]; exact ⟨_, _, [], rfl, rfl, ⟨Own.nil _ _ _ _ _, OwnR.nil _ _, fun b hb => by simp [apart, blocksR, Value.ownBlock] at hb ⊢⟩, hb⟩)
  replace fin := hd fin
  by_cases h6 : H.length ≤ 6
  case neg =>
    have h6' : 6 < H.length := by omega
    have b0 := RB.cell 0 _ rfl
    clear hno
    go_enter Try.func12, Try.ntmps12
    have FC := (RS.cell 0 _ rfl : _ = some (Value.slice none 0 0))
    have FD := (RS.cell 1 _ rfl : _ = some (Value.slice none 0 0))
    go_wp2_with fail
    generalize (w.alloc (.cells #[.slice A1 H.length c1, .slice A2 L.length c2] 28)).alloc (.cells #[.slice none 0 0, .slice none 0 0] 28) = Z at K0 FC FD ⊢
    refine bodyPost_ret (v := .tuple #[.agg #[.slice none 0 0, .slice none 0 0], .int .i64 1]) ?_ rfl ?_
    · refine (results_cell_tmp Try.results12 _ _ _).trans ?_
      show (((loadVar 28 ⟨w.heap.size + 1, 0, none⟩).run Try.prog Z).andThen fun v w₂ => Result.ok (Value.tuple #[v, Value.int .i64 1]) w₂) = _
      rw [load_rds Z _ _ _ ⟨_, _, _, rfl⟩ ⟨_, _, _, rfl⟩ FC FD]
      rfl
    exact fin.out _ K0
  have hv : validR H R H.length = false := by
    rw [Bool.eq_false_iff]; exact fun h => hno ⟨h6, h⟩
  have b0 := RB.cell 0 _ rfl
  clear hno
  go_enter Try.func12, Try.ntmps12
  go_wp2_with fail
  generalize (w.alloc (.cells #[.slice A1 H.length c1, .slice A2 L.length c2] 28)).alloc (.cells #[.slice none 0 0, .slice none 0 0] 28) = W0 at K0 RB RS ⊢
  refine (HVAL.out _ K0).mono ?_
  rintro e w1 ⟨rfl, B1⟩
  rw [hR, hv]
  have K1 := below_step K0 B1
  replace RS := RS.below B1
  clear K0 HVAL hv b0 B1
  have f0 := RS.free 0
  have f1 := RS.free 1
  have g0 := RS.cell 0 _ rfl
  have g1 := RS.cell 1 _ rfl
  have RZ := (RS.set 0 (.slice none 0 0)).set 1 (.slice none 0 0)
  have KZ := (K1.setCell (p := ⟨w.heap.size + 1, 0, none⟩) (Nat.le_succ _) (.slice none 0 0)).setCell (p := ⟨w.heap.size + 1, 1, none⟩) (Nat.le_succ _) (.slice none 0 0)
  go_wp2_with fail
  generalize (w1.setCell ⟨w.heap.size + 1, 0, none⟩ (.slice none 0 0)).setCell ⟨w.heap.size + 1, 1, none⟩ (.slice none 0 0) = Z at RZ KZ ⊢
  refine bodyPost_ret (v := .tuple #[.agg #[.slice none 0 0, .slice none 0 0], .int .i64 1]) ?_ rfl ?_
  · refine (results_cell_tmp Try.results12 _ _ _).trans ?_
    show (((loadVar 28 ⟨w.heap.size + 1, 0, none⟩).run Try.prog Z).andThen fun v w₂ => Result.ok (Value.tuple #[v, Value.int .i64 1]) w₂) = _
    rw [load_rds Z _ _ _ ⟨_, _, _, rfl⟩ ⟨_, _, _, rfl⟩ (RZ.cell 0 _ rfl) (RZ.cell 1 _ rfl)]
    rfl
  exact fin.out _ KZ
set_option maxRecDepth 100000 in
set_option maxHeartbeats 8000000 in
theorem short_impl (w : World) (v1 v2 : Value) (H : List Int) (L : List TRow) (h1 : Sl w 1 v1 eI H) (h2 : SlR w v2 L) (R : List (List Int)) (hR : rowsOf L = R) (hH : H.length ≤ 1048576) :
    Calls Try.prog 12 #[.agg #[v1, v2]] w (GivesRoadsI w (shortR H R)) := by
  have m1 := h1.len
  have m2 := h2.len
  obtain ⟨A1, c1, rfl⟩ := h1.slice
  obtain ⟨A2, c2, rfl⟩ := h2.1.slice
  have K0 := ((Below.refl w.heap.size w).alloc (Nat.le_refl _) (.cells #[.slice A1 H.length c1, .slice A2 L.length c2] 28)).alloc (show w.heap.size ≤ (w.alloc (.cells #[.slice A1 H.length c1, .slice A2 L.length c2] 28)).heap.size by simp) (.cells #[.slice none 0 0, .slice none 0 0] 28)
  have RB := (rec_new w w.heap.size 28 [.slice A1 H.length c1, .slice A2 L.length c2] (Nat.le_refl _)).alloc (.cells #[.slice none 0 0, .slice none 0 0] 28)
  have RS := rec_new (w.alloc (.cells #[.slice A1 H.length c1, .slice A2 L.length c2] 28)) w.heap.size 28 [.slice none 0 0, .slice none 0 0] (by simp)
  have hz1 : (w.alloc (.cells #[.slice A1 H.length c1, .slice A2 L.length c2] 28)).heap.size = w.heap.size + 1 := by simp
  rw [hz1] at RS
  have HVAL := hd (fun W (hb : Below w.heap.size w W) => valid_impl W _ _ H L (h1.below hb) (h2.below hb) H.length (by omega))
  by_cases hok : H.length ≤ 6 ∧ validR H R H.length = true
  case neg => exact short_impl_no w _ _ H L h1 h2 R hR hH hok
  obtain ⟨h6, hv⟩ := hok
  have HS := hd (show shortR H R = ((vec H.length (fh (hfn H) (dfn R) H.length), mat H.length (fw (dfn R) H.length)), 0) by unfold shortR; rw [if_pos ⟨h6, hv⟩])
  obtain ⟨HRD, hb1, hb2, -, hb4, hb5⟩ := valid_rd hv
  have b0 := RB.cell 0 _ rfl
  go_enter Try.func12, Try.ntmps12
  go_wp2_with fail
  generalize (w.alloc (.cells #[.slice A1 H.length c1, .slice A2 L.length c2] 28)).alloc (.cells #[.slice none 0 0, .slice none 0 0] 28) = W0 at K0 RB RS ⊢
  refine (HVAL.out _ K0).mono ?_
  rintro e w1 ⟨rfl, B1⟩
  rw [hR, hv]
  have K1 := below_step K0 B1
  have hw1 : w.heap.size + 1 < w1.heap.size := by have := (RS.below B1).lt; omega
  replace RB := RB.below B1
  replace RS := RS.below B1
  clear K0 HVAL hv b0 B1
  have b0 := RB.cell 0 _ rfl
  go_wp2_with fail
  refine (clone_ints w1 _ H (h1.below K1) hH).mono ?_
  rintro e w2 ⟨u1, rfl, O1, B2⟩
  obtain ⟨Au, cu, rfl⟩ := O1.slice
  have K2 := below_step K1 B2
  have hw2 : w1.heap.size ≤ w2.heap.size := B2.size
  have hO1 := fun b hb => O1.lt b hb
  have RO := rec_new w2 w.heap.size 28 [.slice Au H.length cu, .slice none 0 0] K2.size
  have S0 : Bld w w2.heap.size (w2.heap.size + 1) (.slice Au H.length cu) H L 0 (.slice none 0 0) [] (w2.alloc (.cells #[.slice Au H.length cu, .slice none 0 0] 28)) :=
    ⟨K2.alloc K2.size _, (RS.below B2).alloc _, RO, by omega, by omega, by simp, (O1.base (by omega)).alloc _, fun b hb => by have := (hO1 b hb).2; omega, OwnR.nil _ _, fun b hb => by rcases List.mem_cons.1 hb with h | h; exact (fun e => by rw [h] at e; cases e); simp at h, rfl⟩
  have hle : ∀ b, (Value.slice Au H.length cu).ownBlock = some b → w.heap.size + 1 < b := fun b hb => by have := (hO1 b hb).1; omega
  replace RB := (RB.below B2).alloc (.cells #[.slice Au H.length cu, .slice none 0 0] 28)
  have b1 := RB.cell 1 _ rfl
  clear RO RS K1 K2 O1 hO1 B2 b0
  replace S0 := hd S0
  replace hle := hd hle
  go_wp2_with fail
  generalize hW2 : w2.alloc (.cells #[.slice Au H.length cu, .slice none 0 0] 28) = W2 at S0 RB b1 ⊢
  clear hW2 b1 RB
  generalize w2.heap.size = G at S0 ⊢
  clear hw2
  obtain ⟨iR, hiR, hzR0, hzR1, hzR2⟩ := info_parts info_row
  go_loopw [30] (fun iv wr => ∃ (k : Nat) (u2 : Value) (M : List TRow), k ≤ L.length ∧ iv = .int .i64 k ∧ Hid (Bld w G (G + 1) (.slice Au H.length cu) H L k u2 M wr)) (fun iv _ => L.length - (intOf iv).toNat)
  case atStart => exact ⟨0, _, _, Nat.zero_le _, rfl, S0⟩
  case round =>
    obtain ⟨k, u2, M, hk, rfl, S⟩ := hrel
    clear S0
    by_cases hlt : k < L.length
    · obtain ⟨b, o, rfl, hbl, hc, hrow⟩ := (h2.below S.out.bel).row_at hlt
      have hst := hd (fun W1 W2 u2' vx (o : Obj) => S.out.drew.step (W1 := W1) (W2 := W2) (u2' := u2') (vx := vx) (o := o) hlt)
      have hlen : L[k].2.length ≤ 6 := by
        have := hb5 L[k].2 (by rw [← hR]; exact List.mem_map.2 ⟨_, List.getElem_mem hlt, rfl⟩)
        omega
      have hrd := hd S.out.read
      generalize L[k] = x at hc hrow hst hlen
      obtain ⟨xv, xl⟩ := x
      dsimp only at hc hrow hlen
      obtain ⟨Ax, cx, rfl⟩ := hrow.slice
      have hrowD := hrow.drew
      obtain ⟨A2', c2', rfl⟩ := S.out.rows.1.slice
      have hGl := S.out.out.lt.2
      have r1 := S.out.out.cell 1 _ rfl
      have SR0 := S.out.rows.1
      have HCA := hd (fun W1 W2 (o : Obj) hb hg => S.out.drew.cell_after (W1 := W1) (W2 := W2) (o := o) hb hg)
      have hML : M.length ≤ 6 := by have := congrArg List.length hrd.out; rw [rowsOf_len, rowsOf_len, List.length_take] at this; have := congrArg List.length hR; rw [rowsOf_len] at this; omega
      go_upto_region 8 with fail
      go_region_law (first | (go_simp; go_at_call 64; refine (clone_ints wr.drew _ xl hrowD (by omega)).mono ?_; rintro e w3 ⟨v3, rfl, O3, B3⟩; obtain ⟨A3, c3, rfl⟩ := O3.slice; have x1 := (B3.cell (p := ⟨G, 1, none⟩) hGl).trans r1; have x1a := (((Below.refl w3.heap.size w3).alloc (Nat.le_refl _) (.cells #[.slice A3 xl.length c3] 25)).cell (p := ⟨G, 1, none⟩) (Nat.lt_of_lt_of_le hGl B3.size)).trans x1) | (refine step_push_at (w3.alloc (.cells #[.slice A3 xl.length c3] 25)) rfl (.tmp 35) (.tmp 38) 26 rfl iR (.slice none 0 0) 24 Try.underlying26 hiR hzR0 hzR1 hzR2 rfl (by decide) _ M ((.slice A3 xl.length c3, xl) : TRow) rfl ((SR0.drew.below B3 (Nat.le_refl _)).alloc _) w3.heap.size rfl #[.slice A3 xl.length c3] 25 (heap_alloc_new _ _) rfl rfl (by intro u hu; simp [eV] at hu; subst hu; rfl) (by unfold maxLen; omega) (by omega) (by have : wr.heap.size ≤ w3.heap.size := B3.size; simp; omega) ?_; intro v4 w4 O4 hg4 ho4; obtain ⟨x2, f2⟩ := HCA.out _ _ _ B3 hg4; obtain ⟨A4, c4, rfl⟩ := O4.slice))
      all_goals
        have HN := hst.out w3 w4 _ _ _ B3 O3 hg4 O4 ho4
        rw [List.length_append, List.length_singleton] at HN
        replace HN := hd HN
        clear S hst HCA SR0 O4 hg4 ho4 O3 B3 x1 x1a x2 f2 r1 hrow hrowD hc
        go_wp2_with fail
        go_roundw
        case rel => exact ⟨k + 1, _, _, by omega, by go_num, HN⟩
        case measure => simp [intOf]; omega
    · obtain rfl : k = L.length := by omega
      have hLn : L.length = H.length := by have := congrArg List.length hR; rw [rowsOf_len] at this; omega
      obtain ⟨A2', c2', rfl⟩ := S.out.rows.1.slice
      have hML : M.length = H.length := by have := congrArg List.length S.out.read; rw [rowsOf_len, rowsOf_len, List.length_take] at this; omega
      have SS := hd (S.out.sr hle.out rfl hR hb4 hb5)
      rw [hML] at SS
      clear S hML hLn hle
      generalize hfn H = Hf at HS HRD hb1 SS
      generalize dfn R = Df at HS HRD hb2 SS
      generalize H.length = n at *
      replace HRD := hd HRD
      replace hb1 := hd hb1
      replace hb2 := hd hb2
      go_wp2_with fail
      go_loopw [43] (fun tv wx => ∃ t : Nat, t ≤ n ∧ tv = .int .i64 t ∧ Hid (SR w n G (G + 1) (.slice Au n cu) (.slice A2' n c2') (fh Hf Df t) (fw Df t) wx)) (fun tv _ => n - (intOf tv).toNat)
      case atStart => exact ⟨0, Nat.zero_le _, rfl, SS⟩
      case round =>
        obtain ⟨t, htn, rfl, S⟩ := hrel
        clear SS
        by_cases ht : t < n
        · go_wp2_with fail
          go_loopw [47] (fun jv wx => ∃ i : Nat, i ≤ n ∧ jv = .int .i64 i ∧ Hid (SR w n G (G + 1) (.slice Au n cu) (.slice A2' n c2') (hcur Hf Df t i) (dcur Df t i 0) wx)) (fun jv _ => n - (intOf jv).toNat)
          case atStart => exact ⟨0, Nat.zero_le _, rfl, hd (S.out.ext (hcur_start n t).symm (dcur_start n t).symm)⟩
          case round =>
            obtain ⟨i, hin, rfl, S2⟩ := hrel
            clear S
            by_cases hi : i < n
            · obtain ⟨gh, rfl, p1, p2, p3, -, p4⟩ := S2.out.home1 hi ht
              obtain ⟨gd, gt, ct, rfl, q1, q2⟩ := S2.out.one ht hi
              have o0 := S2.out.out.cell 0 _ rfl
              have o1 := S2.out.out.cell 1 _ rfl
              rw [hcur_self] at p1
              rw [hcur_top HRD.out] at p2
              rw [dcur_top HRD.out.d0 HRD.out.dd] at q2
              obtain ⟨y1, y2⟩ := fh_bd HRD.out hb1.out t i
              obtain ⟨y3, y4⟩ := fh_bd HRD.out hb1.out t t
              obtain ⟨y5, y6⟩ := fw_bd HRD.out hb2.out t t i
              have HE := hd (show min (fh Hf Df t i) (fh Hf Df t t + fw Df t t i) = fh Hf Df (t + 1) i from rfl)
              have P4 := hd p4
              clear p4
              generalize fh Hf Df t i = a1 at p1 y1 y2 HE
              generalize fh Hf Df t t = a2 at p2 y3 y4 HE
              generalize fw Df t t i = a3 at q2 y5 y6 HE
              go_upto_region 16 with fail
              go_region
              as_aux_lemma =>
              have e : (if a2 + a3 < a1 then a2 + a3 else a1) = fh Hf Df (t + 1) i := by rw [← HE.out]; split <;> omega
              rw [e]
              have S3 := (P4.out (fh Hf Df (t + 1) i)).drew
              rw [hcur_next] at S3
              replace S3 := hd S3
              clear P4 HE e p1 p2 p3 q1 q2 o0 o1 y1 y2 y3 y4 y5 y6 S2
              generalize (wr.setCell ⟨gh, i, none⟩ (.int .i64 (fh Hf Df (t + 1) i))).drew = W3 at S3 ⊢
              go_wp2_with fail
              go_loopw [75] (fun kv wx => ∃ k : Nat, k ≤ n ∧ kv = .int .i64 k ∧ Hid (SR w n G (G + 1) (.slice (some ⟨gh, 0, none⟩) n cu) (.slice (some ⟨gd, 0, none⟩) n c2') (hcur Hf Df t (i + 1)) (dcur Df t i k) wx)) (fun kv _ => n - (intOf kv).toNat)
              case atStart => exact ⟨0, Nat.zero_le _, rfl, S3⟩
              case round =>
                obtain ⟨k, hkn, rfl, S4⟩ := hrel
                clear S3
                by_cases hk : k < n
                · obtain ⟨gd', gi, ci, gt', ct', hgd, r1, r2, r3, r4, r5, r6, -, r7⟩ := S4.out.three hi hk ht
                  injection hgd with hgd
                  injection hgd with hgd _ _
                  subst hgd
                  have o1 := S4.out.out.cell 1 _ rfl
                  rw [dcur_self] at r3
                  rw [dcur_left HRD.out.d0 HRD.out.dd] at r4
                  rw [dcur_top HRD.out.d0 HRD.out.dd] at r5
                  obtain ⟨y1, y2⟩ := fw_bd HRD.out hb2.out t i k
                  obtain ⟨y3, y4⟩ := fw_bd HRD.out hb2.out t i t
                  obtain ⟨y5, y6⟩ := fw_bd HRD.out hb2.out t t k
                  have HE := hd (show min (fw Df t i k) (fw Df t i t + fw Df t t k) = fw Df (t + 1) i k from rfl)
                  have R7 := hd r7
                  clear r7
                  generalize fw Df t i k = a1 at r3 y1 y2 HE
                  generalize fw Df t i t = a2 at r4 y3 y4 HE
                  generalize fw Df t t k = a3 at r5 y5 y6 HE
                  as_aux_lemma =>
                  go_upto_region 20 with fail
                  by_cases hm : a2 + a3 < a1
                  · have e : a2 + a3 = fw Df (t + 1) i k := by rw [← HE.out]; omega
                    have S5 := (R7.out (fw Df (t + 1) i k)).drew
                    rw [dcur_next, ← e] at S5
                    replace S5 := hd S5
                    clear R7 HE e S4
                    go_still_tail 33, (by kernel_rfl)
                    as_aux_lemma =>
                    go_wp2_with fail
                    go_roundw
                    case rel => exact ⟨k + 1, by omega, by go_num, S5⟩
                    case measure => simp [intOf]; omega
                  · have e : a1 = fw Df (t + 1) i k := by rw [← HE.out]; omega
                    have S5 := (R7.out (fw Df (t + 1) i k)).drew
                    rw [dcur_next, ← e] at S5
                    replace S5 := hd S5
                    clear R7 HE e S4
                    go_still_tail 33, (by kernel_rfl)
                    as_aux_lemma =>
                    go_wp2_with fail
                    go_roundw
                    case rel => exact ⟨k + 1, by omega, by go_num, S5⟩
                    case measure => simp [intOf]; omega
                · as_aux_lemma =>
                  obtain rfl : k = n := by omega
                  have S5 := hd (S4.out.ext rfl (dcur_row k t i))
                  clear S4
                  go_wp2_with fail
                  go_roundw
                  case rel => exact ⟨i + 1, by omega, by go_num, S5⟩
                  case measure => simp [intOf]; omega
            · as_aux_lemma =>
              obtain rfl : i = n := by omega
              have S3 := hd (S2.out.ext (hcur_end i t) (dcur_end i t))
              clear S2
              go_wp2_with fail
              go_roundw
              case rel => exact ⟨t + 1, by omega, by go_num, S3⟩
              case measure => simp [intOf]; omega
        · as_aux_lemma =>
          obtain rfl : t = n := by omega
          obtain ⟨M2, hM2, ZO, BZ⟩ := S.out.fin (.slice Au t cu) (.slice A2' t c2')
          have o0 := S.out.out.cell 0 _ rfl
          have o1 := S.out.out.cell 1 _ rfl
          have e0 := S.out.res.cell 0 _ rfl
          have e1 := S.out.res.cell 1 _ rfl
          have f0 := S.out.res.free 0
          have f1 := S.out.res.free 1
          have ZR := (S.out.res.set 0 (.slice Au t cu)).set 1 (.slice A2' t c2')
          have HM2 := hd hM2
          clear S hM2
          go_wp2_with fail
          generalize (wr.setCell ⟨w.heap.size + 1, 0, none⟩ (.slice Au t cu)).setCell ⟨w.heap.size + 1, 1, none⟩ (.slice A2' t c2') = Z at ZO BZ ZR ⊢
          refine bodyPost_ret (v := .tuple #[.agg #[.slice Au t cu, .slice A2' t c2'], .int .i64 0]) ?_ rfl ?_
          · refine (results_cell_tmp Try.results12 _ _ _).trans ?_
            show (((loadVar 28 ⟨w.heap.size + 1, 0, none⟩).run Try.prog Z).andThen fun v w₂ => Result.ok (Value.tuple #[v, Value.int .i64 0]) w₂) = _
            rw [load_rds Z _ _ _ ⟨_, _, _, rfl⟩ ⟨_, _, _, rfl⟩ (ZR.cell 0 _ rfl) (ZR.cell 1 _ rfl)]
            rfl
          rw [HS.out]
          exact ⟨_, _, M2, rfl, HM2.out, ZO, BZ⟩
end Go.Proofs.Ytlgcehdklpbknaa
