/- All tours: the reference's walk through them. No condition but that the slices read. -/
import Derived.Test.YtmflfealodgdeaaLongI
namespace Go.Proofs.Ytmflfealodgdeaa
open Go Go.RowKit Go.ChangeShapes Go.WideShapes
set_option linter.unusedSimpArgs false
set_option linter.unusedVariables false

set_option maxHeartbeats 1000000 in
theorem own_ints (w : World) (v : Value) (l : List Int) (h : Sl w 1 v eI l) (hl : l.length ≤ 1048576) :
    Calls Try.prog 61 #[v] w (GivesOwn w 2 1 eI l) := by
  obtain ⟨-, A, c, rfl, -, -, hA⟩ := id h
  obtain ⟨i0, hi, hz0, hz1, hz2⟩ := info_parts info_i64
  clear hA
  go_enter Try.func61, Try.ntmps61
  go_wp2_with (at_builtin; refine wpList_append_sl _ rfl _ _ 23 rfl i0 (.int .i64 0) 8 Try.underlying23 hi hz0 hz1 hz2 rfl (by decide) eI_len (by intro y u hu; simp [eI] at hu; subst hu; rfl) _ [] rfl (Own.made0 w w.heap.size 2 1 eI (Nat.le_refl _)) _ l rfl (h.alloc _) (by unfold maxLen; simp; omega) (by simp; omega) (by simp) ?_)
  intro v' w1 hown hgr
  have hbel := ((Below.refl w.heap.size w).alloc (Nat.le_refl _) (.cells #[] 2)).grown hgr (by simp) (by intro g hg; simp [Value.ownBlock] at hg; omega)
  go_wp2_with fail
  go_ret
  exact ⟨_, rfl, by simpa using hown, hbel⟩

theorem below_set {B g o : Nat} {a w : World} {u : Value} (h : Below B a w) (hg : B ≤ g) : Below B a (w.setCell ⟨g, o, none⟩ u) := h.setCell (p := ⟨g, o, none⟩) hg u
theorem touch_at (w : World) (g o : Nat) (u : Value) (bs : List (Option Nat)) (h : some g ∈ bs) : TouchL w (w.setCell ⟨g, o, none⟩ u) bs :=
  ⟨rfl, rfl, rfl, by simp, fun k _ hn => heap_setCell_other _ _ _ _ (fun e => hn _ h (by rw [e]))⟩
/-- the reference's state: list, roads, the best tour, its income, the greatest number of halls -/
def StS (gw gr B : Nat) (v : Value) (w : World) (s : (List Int × Int) × Int) : Prop :=
  ∃ vb, Own w B 2 1 vb eI s.1.1 ∧ apart vb.ownBlock (some gw) ∧ w.heap[gw]? = some (.cells #[v, .pointer (some ⟨gr, 0, none⟩), vb, .int .i64 s.1.2, .int .i64 s.2] 77 (0, 0))
theorem StS.kept {gw gr B : Nat} {v : Value} {w w' : World} {s : (List Int × Int) × Int} (h : StS gw gr B v w s) (hb : Below w.heap.size w w') : StS gw gr B v w' s := by
  obtain ⟨vb, h1, h2, h3⟩ := h
  exact ⟨vb, h1.below hb (Nat.le_refl _), h2, (hb.block gw (lt_of_block h3)).trans h3⟩
set_option maxRecDepth 100000 in
set_option maxHeartbeats 4000000 in
theorem walk_any (B N0 gw gr : Nat) (w0 : World) (v : Value) (l : List THall) (h : Sl w0 3 v eHall l) (v1 v2 : Value) (H : List Int) (L : List TRow) (h1 : Sl w0 1 v1 eI H) (h2 : SlR w0 v2 L) (ok : HallsOk l H (rowsOf L))
    (r0 : w0.cell? ⟨gr, 0, none⟩ = some v1) (r1 : w0.cell? ⟨gr, 1, none⟩ = some v2) (hB : w0.heap.size ≤ B) (hgw : B ≤ gw ∧ gw < N0)
    (n : Nat) : ∀ (T : List Int) (w : World) (vt : Value) (s : (List Int × Int) × Int) (t : TS), l.length ≤ T.length + n → tourOk l.length T = true → lateT l H (rowsOf L) T = false → t = runT l H (rowsOf L) startT T → Below w0.heap.size w0 w → N0 ≤ w.heap.size → B ≤ w.heap.size → StS gw gr B v w s → Own w B 2 1 vt eI T → apart vt.ownBlock (some gw) →
    Calls Try.prog 87 #[.pointer (some ⟨gw, 0, none⟩), vt, .agg (eTS t)] w (GivesV w [some gw] (StS gw gr B v) (visit (stepS l H (rowsOf L)) l H (rowsOf L) n s T)) := by
  have m0 := h.len
  obtain ⟨A, c, rfl⟩ := h.slice
  obtain ⟨A1, c1, rfl⟩ := h1.slice
  obtain ⟨A2, c2, rfl⟩ := h2.1.slice
  have z6 := ok.six
  have HOK := hd ok
  obtain ⟨hgw1, hgw2⟩ := hgw
  have hgr : gr < w0.heap.size := World.block_lt_of_cell? w0 _ r0
  have HR0 := hd r0
  have HR1 := hd r1
  clear ok r0 r1
  induction n using Nat.strongRecOn with
  | _ n ih =>
  intro T w vt s t hn hT hlate ht hb hN hBw hs hvt hap
  have HIH := hd ih
  have HTO := hd hT
  have HL := hd hlate
  have HAP := hd hap
  have HT := hd ht
  have hT6 := tourOk_len hT
  have HV := hd (visit_on (stepS l H (rowsOf L)) s hlate hT hn)
  have HINC := hd (show (runT l H (rowsOf L) startT T).2.2.1 = t.2.2.1 by rw [ht])
  have HBD := hd (show BdT l T.length t by rw [ht]; have := run_bd HOK.out hT T.length (Nat.le_refl _); rwa [List.take_length] at this)
  clear ih hap hT hlate ht
  obtain ⟨At, ct, rfl⟩ := hvt.slice
  obtain ⟨vb, OB, ab, hrow⟩ := id hs
  obtain ⟨Ab, cb, rfl⟩ := OB.slice
  have hgwlt := lt_of_block hrow
  have hbW := (Below.refl w.heap.size w).alloc (Nat.le_refl _) (.cells (eTS t) 83)
  have e0 := new_cell w (eTS t) 83 0 (.int .i64 t.1) rfl
  have e1 := new_cell w (eTS t) 83 1 (.int .i64 t.2.1) rfl
  have e2 := new_cell w (eTS t) 83 2 (.int .i64 t.2.2.1) rfl
  have e3 := new_cell w (eTS t) 83 3 (.int .i64 t.2.2.2.1) rfl
  have e4 := new_cell w (eTS t) 83 4 (.bool t.2.2.2.2) rfl
  have hgs : w.heap.size < (w.alloc (.cells (eTS t) 83)).heap.size := by simp
  have hrW := (hbW.block gw hgwlt).trans hrow
  have hsW := hs.kept hbW
  have hvtW := hvt.alloc (.cells (eTS t) 83)
  have hbW0 := below_step hb hbW
  have hzW : w.heap.size ≤ (w.alloc (.cells (eTS t) 83)).heap.size := by simp
  unfold eTS at hbW e0 e1 e2 e3 e4 hgs hrW hsW hvtW hbW0 hzW ⊢
  go_enter Try.func87, Try.ntmps87
  go_wp2_with fail
  generalize (w.alloc (.cells #[.int .i64 t.1, .int .i64 t.2.1, .int .i64 t.2.2.1, .int .i64 t.2.2.2.1, .bool t.2.2.2.2] 83)) = W at hbW e0 e1 e2 e3 e4 hgs hrW hsW hvtW hbW0 hzW ⊢
  have m2 : W.cell? ⟨gw, 2, none⟩ = some (.slice Ab s.1.1.length cb) := cell_of_row W gw 2 _ _ (0, 0) hrW
  have m3 : W.cell? ⟨gw, 3, none⟩ = some (.int .i64 s.1.2) := cell_of_row W gw 3 _ _ (0, 0) hrW
  have m4 : W.cell? ⟨gw, 4, none⟩ = some (.int .i64 s.2) := cell_of_row W gw 4 _ _ (0, 0) hrW
  have k2 := free_at hrW 2
  have k3 := free_at hrW 3
  have k4 := free_at hrW 4
  have HRW := hd hrW
  clear hrow hs hvt hb hrW
  have HAP1 := hd (show ∀ b ∈ [some gw], apart (Value.slice At T.length ct).ownBlock b from by intro b hb; simp only [List.mem_singleton] at hb; subst hb; exact HAP.out)
  have HN := hd (show ∀ x ∈ [some gw], x ≠ some w.heap.size from fun x hx e => by simp only [List.mem_singleton] at hx; subst hx; have := Option.some.inj e; omega)
  by_cases q : s.1.2 < t.2.2.1
  case' pos =>
    have HQ := hd q
    go_quiet (fail)
    go_wp2_with fail
    refine (max_spec _ _ _).mono ?_
    rintro e w2 ⟨rfl, hw⟩
    have hw := hw.symm
    subst hw
    go_wp2_with fail
    obtain ⟨w2, hw2⟩ : ∃ w2, w2 = (((W.drewN nq).setCell ⟨gw, 2, none⟩ (.slice At T.length ct)).setCell ⟨gw, 3, none⟩ (.int .i64 t.2.2.1)).setCell ⟨gw, 4, none⟩ (.int .i64 (max s.2 (T.length : Int))) := ⟨_, rfl⟩
    have ht2 : TouchL W w2 [some gw] := by rw [hw2]; exact touch_step (touch_below _ (below_of_drewN _ _)) (touch_step (touch_at _ _ _ _ _ (by simp)) (touch_step (touch_at _ _ _ _ _ (by simp)) (touch_at _ _ _ _ _ (by simp))))
    have hs2 : StS gw gr B (.slice A l.length c) w2 (stepS l H (rowsOf L) s T) := by
      have e : stepS l H (rowsOf L) s T = ((T, t.2.2.1), max s.2 (T.length : Int)) := by unfold stepS stepB stepL; rw [HINC.out, if_pos HQ.out]
      rw [e]
      refine ⟨_, hvtW.touched ht2 HAP1.out, HAP.out, ?_⟩
      rw [hw2]
      have a := heap_setCell_same _ gw 4 _ _ (.int .i64 (max s.2 (T.length : Int))) (heap_setCell_same _ gw 3 _ _ (.int .i64 t.2.2.1) (heap_setCell_same (W.drewN nq) gw 2 _ _ (.slice At T.length ct) HRW.out))
      simpa using a
    rw [← hw2]
    clear hw2 HQ
  case' neg =>
    have HQ := hd q
    have q' : t.2.2.1 ≤ s.1.2 := by omega
    clear q
    go_quiet (fail)
    go_wp2_with fail
    refine (max_spec _ _ _).mono ?_
    rintro e w2 ⟨rfl, hw⟩
    have hw := hw.symm
    subst hw
    go_wp2_with fail
    obtain ⟨w2, hw2⟩ : ∃ w2, w2 = (W.drewN nq).setCell ⟨gw, 4, none⟩ (.int .i64 (max s.2 (T.length : Int))) := ⟨_, rfl⟩
    have ht2 : TouchL W w2 [some gw] := by rw [hw2]; exact touch_step (touch_below _ (below_of_drewN _ _)) (touch_at _ _ _ _ _ (by simp))
    have hs2 : StS gw gr B (.slice A l.length c) w2 (stepS l H (rowsOf L) s T) := by
      have e : stepS l H (rowsOf L) s T = (s.1, max s.2 (T.length : Int)) := by unfold stepS stepB stepL; rw [HINC.out, if_neg (by omega)]
      rw [e]
      obtain ⟨vb', OB', ab', hr'⟩ := hsW
      have hvb : vb' = .slice Ab s.1.1.length cb := by
        have := hr'.symm.trans HRW.out
        simp at this
        exact this
      refine ⟨vb', OB'.touched ht2 (by intro b hb; simp only [List.mem_singleton] at hb; subst hb; exact ab'), ab', ?_⟩
      rw [hw2]
      have a := heap_setCell_same (W.drewN nq) gw 4 _ _ (.int .i64 (max s.2 (T.length : Int))) hr'
      simpa using a
    rw [← hw2]
    clear hw2 HQ q'
  all_goals
    have f0 := (touch_cell ht2 (o := 0) hgs HN.out).trans e0
    have f1 := (touch_cell ht2 (o := 1) hgs HN.out).trans e1
    have f2 := (touch_cell ht2 (o := 2) hgs HN.out).trans e2
    have f3 := (touch_cell ht2 (o := 3) hgs HN.out).trans e3
    have f4 := (touch_cell ht2 (o := 4) hgs HN.out).trans e4
    have hg2 := Nat.lt_of_lt_of_le hgs ht2.size
    have hvt2 := hvtW.touched ht2 HAP1.out
    have BT := hd (show ∀ w' : World, TouchL w2 w' [some gw] → Below w0.heap.size w0 w' from fun w' ht' => hbW0.trans (below_touched (touch_step ht2 ht') hbW0.size (fun b hb g hg => by simp only [List.mem_singleton] at hb; subst hb; cases hg; omega)))
    have HW2 := hd (touch_step (touch_below [some gw] hbW) ht2)
    have hz2 := ht2.size
    clear e0 e1 e2 e3 e4 m2 m3 m4 k2 k3 k4 hgs hbW hbW0 hsW hvtW ht2 HRW OB ab
    obtain ⟨i0, hi, hz0, hz1', hz2'⟩ := info_parts info_i64
    go_loopw [6] (fun i wr => ∃ k : Nat, k ≤ l.length ∧ i = .int .i64 k ∧ StS gw gr B (.slice A l.length c) wr (kidsF (visit (stepS l H (rowsOf L)) l H (rowsOf L) (n - 1)) T k (stepS l H (rowsOf L) s T)) ∧ TouchL w2 wr [some gw]) (fun i _ => l.length - (intOf i).toNat)
    case atStart => exact ⟨0, Nat.zero_le _, rfl, hs2, TouchL.refl _ _⟩
    case round =>
      obtain ⟨k, hk, rfl, hsr, htr⟩ := hrel
      clear hs2
      have hl0 : wr.cell? ⟨gw, 0, none⟩ = some (.slice A l.length c) := by
        obtain ⟨vb2, -, -, hr2⟩ := hsr
        exact cell_of_row wr gw 0 _ _ (0, 0) hr2
      have hl1 : wr.cell? ⟨gw, 1, none⟩ = some (.pointer (some ⟨gr, 0, none⟩)) := by
        obtain ⟨vb2, -, -, hr2⟩ := hsr
        exact cell_of_row wr gw 1 _ _ (0, 0) hr2
      have hgwr : gw < wr.heap.size := World.block_lt_of_cell? wr _ hl0
      by_cases hlt : k < l.length
      · have d0 := (touch_cell htr (o := 0) hg2 HN.out).trans f0
        have d1 := (touch_cell htr (o := 1) hg2 HN.out).trans f1
        have d2 := (touch_cell htr (o := 2) hg2 HN.out).trans f2
        have d3 := (touch_cell htr (o := 3) hg2 HN.out).trans f3
        have d4 := (touch_cell htr (o := 4) hg2 HN.out).trans f4
        have hgr2 := Nat.lt_of_lt_of_le hg2 htr.size
        have hzr := htr.size
        have ovr := hvt2.touched htr HAP1.out
        have stw := ovr.sl eI_len
        rcases r1 : hasI T (k : Int) with _ | _
        · have HR1' := hd (kids_on (visit (stepS l H (rowsOf L)) l H (rowsOf L) (n - 1)) T k (stepS l H (rowsOf L) s T) r1)
          have HT1 := hd (tourOk_snoc HTO.out hlt r1)
          have HF := hd (more_fuel HTO.out hn hlt r1)
          obtain ⟨t2, hnx⟩ : ∃ t2, t2 = nextT l H (rowsOf L) t k := ⟨_, rfl⟩
          have HN2 := hd hnx
          have HTN := hd (show t2 = runT l H (rowsOf L) startT (T ++ [(k : Int)]) by rw [hnx, runT_snoc, ← HT.out])
          have HLT := hd (show lateT l H (rowsOf L) (T ++ [(k : Int)]) = t2.2.2.2.2 by rw [late_snoc, hnx, HT.out])
          clear hnx
          have B0 : Below wr.heap.size wr wr.drew := below_drewN (Below.refl _ _) 1
          have BR := below_drewN (BT.out _ htr) 1
          have p0 : wr.drew.cell? ⟨gr, 0, none⟩ = some (.slice A1 H.length c1) := (BR.cell (p := ⟨gr, 0, none⟩) hgr).trans HR0.out
          have p1 : wr.drew.cell? ⟨gr, 1, none⟩ = some (.slice A2 L.length c2) := (BR.cell (p := ⟨gr, 1, none⟩) hgr).trans HR1.out
          have HP0 := hd p0
          have HP1 := hd p1
          have HS := hd (show ∀ w' : World, Below wr.heap.size wr w' → w'.cell? ⟨gw, 0, none⟩ = some (.slice A l.length c) ∧ w'.cell? ⟨gw, 1, none⟩ = some (.pointer (some ⟨gr, 0, none⟩)) ∧ w'.cell? ⟨w.heap.size, 0, none⟩ = some (.int .i64 t.1) ∧ w'.cell? ⟨w.heap.size, 1, none⟩ = some (.int .i64 t.2.1) ∧ w'.cell? ⟨w.heap.size, 2, none⟩ = some (.int .i64 t.2.2.1) ∧ w'.cell? ⟨w.heap.size, 3, none⟩ = some (.int .i64 t.2.2.2.1) ∧ w'.cell? ⟨w.heap.size, 4, none⟩ = some (.bool t.2.2.2.2) from fun w' hb' => ⟨(hb'.cell (p := ⟨gw, 0, none⟩) hgwr).trans hl0, (hb'.cell (p := ⟨gw, 1, none⟩) hgwr).trans hl1, (hb'.cell (p := ⟨w.heap.size, 0, none⟩) hgr2).trans d0, (hb'.cell (p := ⟨w.heap.size, 1, none⟩) hgr2).trans d1, (hb'.cell (p := ⟨w.heap.size, 2, none⟩) hgr2).trans d2, (hb'.cell (p := ⟨w.heap.size, 3, none⟩) hgr2).trans d3, (hb'.cell (p := ⟨w.heap.size, 4, none⟩) hgr2).trans d4⟩)
          have BRa := below_drewN ((BT.out _ htr).alloc (BT.out _ htr).size (.cells #[.int .i64 0, .int .i64 0, .int .i64 0, .int .i64 0, .bool false] 83)) 1
          have p0a : ((wr.alloc (.cells #[.int .i64 0, .int .i64 0, .int .i64 0, .int .i64 0, .bool false] 83)).drewN 1).cell? ⟨gr, 0, none⟩ = some (.slice A1 H.length c1) := (BRa.cell (p := ⟨gr, 0, none⟩) hgr).trans HR0.out
          have p1a : ((wr.alloc (.cells #[.int .i64 0, .int .i64 0, .int .i64 0, .int .i64 0, .bool false] 83)).drewN 1).cell? ⟨gr, 1, none⟩ = some (.slice A2 L.length c2) := (BRa.cell (p := ⟨gr, 1, none⟩) hgr).trans HR1.out
          have HP0a := hd p0a
          have HP1a := hd p1a
          have HC1 := hd (show Calls Try.prog 75 #[.slice A l.length c, .pointer (some ⟨gr, 0, none⟩), .agg #[.int .i64 t.1, .int .i64 t.2.1, .int .i64 t.2.2.1, .int .i64 t.2.2.2.1, .bool t.2.2.2.2], .int .i64 (k : Int)] wr.drew (GivesNext wr.drew (nextT l H (rowsOf L) t k) (showT l H (rowsOf L) t k)) from next_spec _ _ _ (h.below BR) gr _ _ HP0.out HP1.out _ _ (h1.below BR) (h2.below BR) HOK.out t T.length (by omega) HBD.out k hlt)
          have HC2 := hd (show Calls Try.prog 75 #[.slice A l.length c, .pointer (some ⟨gr, 0, none⟩), .agg #[.int .i64 t.1, .int .i64 t.2.1, .int .i64 t.2.2.1, .int .i64 t.2.2.2.1, .bool t.2.2.2.2], .int .i64 (k : Int)] (wr.alloc (.cells #[.int .i64 0, .int .i64 0, .int .i64 0, .int .i64 0, .bool false] 83)).drew (GivesNext (wr.alloc (.cells #[.int .i64 0, .int .i64 0, .int .i64 0, .int .i64 0, .bool false] 83)).drew (nextT l H (rowsOf L) t k) (showT l H (rowsOf L) t k)) from next_spec _ _ _ (h.below BRa) gr _ _ HP0a.out HP1a.out _ _ (h1.below BRa) (h2.below BRa) HOK.out t T.length (by omega) HBD.out k hlt)
          clear p0 p1 p0a p1a
          go_wp2_with fail
          refine (has_spec _ _ _ stw _).mono ?_
          rintro e w5 ⟨rfl, hw⟩
          have hw := hw.symm
          subst hw
          rw [r1]
          clear r1
          go_wp2_with fail
          go_region_held3 (fun ww => ww.cell? ⟨gw, 0, none⟩ = some (.slice A l.length c) ∧ ww.cell? ⟨gw, 1, none⟩ = some (.pointer (some ⟨gr, 0, none⟩)) ∧ ww.cell? ⟨w.heap.size, 0, none⟩ = some (.int .i64 t.1) ∧ ww.cell? ⟨w.heap.size, 1, none⟩ = some (.int .i64 t.2.1) ∧ ww.cell? ⟨w.heap.size, 2, none⟩ = some (.int .i64 t.2.2.1) ∧ ww.cell? ⟨w.heap.size, 3, none⟩ = some (.int .i64 t.2.2.2.1) ∧ ww.cell? ⟨w.heap.size, 4, none⟩ = some (.bool t.2.2.2.2)) ((refine HS.out _ ?_; first | exact B6.alloc B6.size _ | exact B6 | exact B0.alloc B0.size _ | exact B0 | (repeat (refine below_set ?_ (Nat.le_refl _))); exact B6))
            (first | (go_at_call 75; first | ((with_reducible refine HC1.out.mono ?_); rintro e w6 ⟨rfl, hb6⟩; have B6 : Below wr.heap.size wr w6 := below_step B0 hb6; rw [← HN2.out]; unfold eTS) | ((with_reducible refine HC2.out.mono ?_); rintro e w6 ⟨rfl, hb6⟩; have B6 : Below wr.heap.size wr w6 := below_step (B0.alloc B0.size (.cells #[.int .i64 0, .int .i64 0, .int .i64 0, .int .i64 0, .bool false] 83)) hb6; have RZ := (hb6.block wr.heap.size (by simp)).trans (heap_alloc_new wr (.cells #[.int .i64 0, .int .i64 0, .int .i64 0, .int .i64 0, .bool false] 83)); have HRZ := hd RZ; have z0 := cell_of_row w6 wr.heap.size 0 _ _ (0, 0) RZ; have z1 := cell_of_row w6 wr.heap.size 1 _ _ (0, 0) RZ; have z2 := cell_of_row w6 wr.heap.size 2 _ _ (0, 0) RZ; have z3 := cell_of_row w6 wr.heap.size 3 _ _ (0, 0) RZ; have z4 := cell_of_row w6 wr.heap.size 4 _ _ (0, 0) RZ; have y0 := free_at RZ 0; have y1 := free_at RZ 1; have y2 := free_at RZ 2; have y3 := free_at RZ 3; have y4 := free_at RZ 4; clear RZ; rw [← HN2.out]; unfold eTS)))
          all_goals
            first
            | (have _hz := HRZ
               obtain ⟨w7, hw7⟩ : ∃ w7, w7 = ((((w6.setCell ⟨wr.heap.size, 0, none⟩ (.int .i64 t2.1)).setCell ⟨wr.heap.size, 1, none⟩ (.int .i64 t2.2.1)).setCell ⟨wr.heap.size, 2, none⟩ (.int .i64 t2.2.2.1)).setCell ⟨wr.heap.size, 3, none⟩ (.int .i64 t2.2.2.2.1)).setCell ⟨wr.heap.size, 4, none⟩ (.bool t2.2.2.2.2) := ⟨_, rfl⟩
               obtain ⟨G, hG⟩ : ∃ G, G = wr.heap.size := ⟨_, rfl⟩
               have R7 : w7.heap[G]? = some (.cells #[.int .i64 t2.1, .int .i64 t2.2.1, .int .i64 t2.2.2.1, .int .i64 t2.2.2.2.1, .bool t2.2.2.2.2] 83 (0, 0)) := by
                 rw [hw7, hG]
                 have a := (heap_setCell_same _ wr.heap.size 4 _ _ (.bool t2.2.2.2.2) (heap_setCell_same _ wr.heap.size 3 _ _ (.int .i64 t2.2.2.2.1) (heap_setCell_same _ wr.heap.size 2 _ _ (.int .i64 t2.2.2.1) (heap_setCell_same _ wr.heap.size 1 _ _ (.int .i64 t2.2.1) (heap_setCell_same _ wr.heap.size 0 _ _ (.int .i64 t2.1) HRZ.out)))))
                 simpa using a
               have B7 : Below wr.heap.size wr w7 := by
                 rw [hw7]
                 repeat (refine below_set ?_ (Nat.le_refl _))
                 exact B6
               have hGw : wr.heap.size ≤ G := by rw [hG]; exact Nat.le_refl _
               rw [← hw7, ← hG]
               clear hw7 hG HRZ _hz z0 z1 z2 z3 z4 y0 y1 y2 y3 y4)
            | (obtain ⟨w7, hw7⟩ : ∃ w7, w7 = w6.alloc (.cells #[.int .i64 t2.1, .int .i64 t2.2.1, .int .i64 t2.2.2.1, .int .i64 t2.2.2.2.1, .bool t2.2.2.2.2] 83) := ⟨_, rfl⟩
               obtain ⟨G, hG⟩ : ∃ G, G = w6.heap.size := ⟨_, rfl⟩
               have R7 : w7.heap[G]? = some (.cells #[.int .i64 t2.1, .int .i64 t2.2.1, .int .i64 t2.2.2.1, .int .i64 t2.2.2.2.1, .bool t2.2.2.2.2] 83 (0, 0)) := by rw [hw7, hG]; exact heap_alloc_new _ _
               have B7 : Below wr.heap.size wr w7 := by rw [hw7]; exact B6.alloc B6.size _
               have hGw : wr.heap.size ≤ G := by rw [hG]; exact B6.size
               rw [← hw7, ← hG]
               clear hw7 hG)
            have x0 : w7.cell? ⟨G, 0, none⟩ = some (.int .i64 t2.1) := cell_of_row w7 G 0 _ _ (0, 0) R7
            have x1 : w7.cell? ⟨G, 1, none⟩ = some (.int .i64 t2.2.1) := cell_of_row w7 G 1 _ _ (0, 0) R7
            have x2 : w7.cell? ⟨G, 2, none⟩ = some (.int .i64 t2.2.2.1) := cell_of_row w7 G 2 _ _ (0, 0) R7
            have x3 : w7.cell? ⟨G, 3, none⟩ = some (.int .i64 t2.2.2.2.1) := cell_of_row w7 G 3 _ _ (0, 0) R7
            have x4 : w7.cell? ⟨G, 4, none⟩ = some (.bool t2.2.2.2.2) := cell_of_row w7 G 4 _ _ (0, 0) R7
            have hg7 := lt_of_block R7
            clear R7
            have htr7 := touch_step htr (touch_below [some gw] B7)
            have hs7 := hsr.kept B7
            have hz7 := B7.size
            have HGG := hd (show ∀ x ∈ [some gw], x ≠ some G from fun x hx e => by simp only [List.mem_singleton] at hx; subst hx; have := Option.some.inj e; omega)
            have hT7 := ovr.below B7 (Nat.le_refl _)
            have hT1 := (hT7.sl eI_len).drew
            clear hb6 B6 B7 B0 hsr htr ovr stw d0 d1 d2 d3 d4 hl0 hl1 hgr2 BR BRa
            rcases hlt2 : t2.2.2.2.2 with _ | _
            · have HLN := hd (HLT.out.trans hlt2)
              rw [hlt2] at x4
              clear hlt2
              have B0 : Below w7.heap.size w7 w7.drew := below_drewN (Below.refl _ _) 1
              have HS7 := hd (show ∀ w' : World, TouchL w7 w' [some gw] → w'.cell? ⟨G, 0, none⟩ = some (.int .i64 t2.1) ∧ w'.cell? ⟨G, 1, none⟩ = some (.int .i64 t2.2.1) ∧ w'.cell? ⟨G, 2, none⟩ = some (.int .i64 t2.2.2.1) ∧ w'.cell? ⟨G, 3, none⟩ = some (.int .i64 t2.2.2.2.1) ∧ w'.cell? ⟨G, 4, none⟩ = some (.bool false) from fun w' hb' => ⟨(touch_cell hb' hg7 HGG.out).trans x0, (touch_cell hb' hg7 HGG.out).trans x1, (touch_cell hb' hg7 HGG.out).trans x2, (touch_cell hb' hg7 HGG.out).trans x3, (touch_cell hb' hg7 HGG.out).trans x4⟩)
              have HNE := hd (show ∀ (v6 : Value) (w8 : World), (∀ g, v6.ownBlock = some g → w7.heap.size ≤ g ∧ g < w8.heap.size) → apart v6.ownBlock (some gw) from fun v6 w8 hl => by
                cases hv : v6.ownBlock with
                | none => exact .inl rfl
                | some g =>
                  refine .inr fun e => ?_
                  have h1 := (hl g hv).1
                  have h2 := Option.some.inj e
                  omega)
              have HLB := hd (show t2.2.2.2.2 = false from HLT.out.symm.trans HLN.out)
              go_wp2_with fail
              go_region_held3 (fun ww => ww.cell? ⟨G, 0, none⟩ = some (.int .i64 t2.1) ∧ ww.cell? ⟨G, 1, none⟩ = some (.int .i64 t2.2.1) ∧ ww.cell? ⟨G, 2, none⟩ = some (.int .i64 t2.2.2.1) ∧ ww.cell? ⟨G, 3, none⟩ = some (.int .i64 t2.2.2.2.1) ∧ ww.cell? ⟨G, 4, none⟩ = some (.bool false)) (exact HS7.out _ (by first | exact T9 | exact touch_below _ B6 | exact touch_below _ B5 | exact touch_below _ (B5.alloc B5.size _) | exact touch_below _ (B0.alloc B0.size _) | exact touch_below _ B0))
                (first | (go_at_call 61; refine (own_ints _ _ _ (by first | exact hT1 | exact hT1.alloc _) (by omega)).mono ?_; rintro e w5 ⟨v5, rfl, O5, hb5⟩; have B5 : Below w7.heap.size w7 w5 := below_step (by first | exact B0 | exact B0.alloc B0.size _) hb5; replace O5 := O5.base (show w7.heap.size ≤ _ from by first | exact B0.size | exact (B0.alloc B0.size _).size)) | (refine step_append_sl _ rfl (.tmp 66) (.tmp 68) 23 rfl i0 (.int .i64 0) 8 Try.underlying23 hi hz0 hz1' hz2' rfl (by decide) eI_len (by intro y u hu; simp [eI] at hu; subst hu; rfl) v5 T rfl (by first | exact O5 | exact O5.alloc _) _ [(k : Int)] rfl (by first | exact (sl_one (k := 1) (enc := eI) _ w7.drew.heap.size _ _ (heap_alloc_new _ _) (k : Int) rfl).below hb5 | exact sl_one _ w5.heap.size _ _ (heap_alloc_new _ _) _ rfl) (by unfold maxLen; simp; omega) (by simp; omega) (by first | exact B5.size | exact (B5.alloc B5.size _).size) ?_; intro v6 w8 O6 hg6; have B6 : Below w7.heap.size w7 w8 := (by first | exact B5.grown hg6 B5.size (fun g hg => (O5.lt g hg).1) | exact (B5.alloc B5.size _).grown hg6 (B5.alloc B5.size _).size (fun g hg => (O5.lt g hg).1)); have W6 := BT.out _ (touch_step htr7 (touch_below _ B6))) | (rw [show (Value.agg #[.int .i64 t2.1, .int .i64 t2.2.1, .int .i64 t2.2.2.1, .int .i64 t2.2.2.2.1, .bool false]) = .agg (eTS t2) from by unfold eTS; rw [HLB.out]]; go_at_call 87; refine (HIH.out (n - 1) HF.out.1 (T ++ [(k : Int)]) _ _ (kidsF (visit (stepS l H (rowsOf L)) l H (rowsOf L) (n - 1)) T k (stepS l H (rowsOf L) s T)) t2 HF.out.2 HT1.out HLN.out HTN.out W6 (by have := B6.size; omega) (by have := B6.size; omega) (hs7.kept B6) (O6.base (by omega)) (HNE.out _ _ O6.lt)).mono ?_; rintro e w9 ⟨rfl, hs9, ht9⟩; have T9 := touch_step (touch_below [some gw] B6) ht9))
              all_goals
                have TT := touch_step htr7 T9
                clear hb5 O5 B5 O6 hg6 B6 W6 T9 B0 hT1 hT7 x0 x1 x2 x3 x4 hs7 ht9 htr7
                rw [← HR1'.out] at hs9
                go_wp2_with fail
                go_roundw
                case rel => exact ⟨k + 1, by omega, by go_num, hs9, TT⟩
                case measure => simp [intOf]; omega
            · have HLN := hd (HLT.out.trans hlt2)
              rw [hlt2] at x4
              clear hlt2
              have HSK := hd (show kidsF (visit (stepS l H (rowsOf L)) l H (rowsOf L) (n - 1)) T (k + 1) (stepS l H (rowsOf L) s T) = kidsF (visit (stepS l H (rowsOf L)) l H (rowsOf L) (n - 1)) T k (stepS l H (rowsOf L) s T) by rw [HR1'.out, visit_late _ _ _ _ _ _ _ HLN.out])
              rw [← HSK.out] at hs7
              go_wp2_with fail
              go_roundw
              case rel => exact ⟨k + 1, by omega, by go_num, hs7, htr7⟩
              case measure => simp [intOf]; omega
        · have HR1' := hd (kids_has (visit (stepS l H (rowsOf L)) l H (rowsOf L) (n - 1)) T k (stepS l H (rowsOf L) s T) r1)
          clear d0 d1 d2 d3 d4
          go_wp2_with fail
          refine (has_spec _ _ _ stw _).mono ?_
          rintro e w5 ⟨rfl, hw⟩
          have hw := hw.symm
          subst hw
          rw [r1]
          clear r1
          rw [← HR1'.out] at hsr
          go_wp2_with fail
          go_roundw
          case rel => exact ⟨k + 1, by omega, by go_num, hsr, htr⟩
          case measure => simp [intOf]; omega
      · have hkl : k = l.length := by omega
        subst hkl
        go_wp2_with fail
        go_end0
        exact ⟨rfl, by rw [HV.out]; exact hsr, touch_step HW2.out htr⟩
end Go.Proofs.Ytmflfealodgdeaa
