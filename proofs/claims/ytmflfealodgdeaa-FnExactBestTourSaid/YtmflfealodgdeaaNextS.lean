/- NextHalls: the reference's function. No condition but that the slices read. -/
import Derived.Test.YtmflfealodgdeaaNextP
import Derived.Test.YtmflfealodgdeaaTourT
namespace Go.Proofs.Ytmflfealodgdeaa
open Go Go.RowKit Go.ChangeShapes Go.WideShapes
set_option linter.unusedSimpArgs false
set_option linter.unusedVariables false

set_option maxRecDepth 100000 in
set_option maxHeartbeats 4000000 in
theorem nh_spec (w : World) (v : Value) (l : List THall) (h : Sl w 3 v eHall l) (v1 v2 : Value) (H : List Int) (L : List TRow) (h1 : Sl w 1 v1 eI H) (h2 : SlR w v2 L) (R : List (List Int)) (hR : rowsOf L = R) (vt : Value) (T : List Int) (ht : Sl w 1 vt eI T) (hTl : T.length ≤ 1048576) :
    Calls Try.prog 40 #[v, .agg #[v1, v2], vt] w (GivesOwnI w 2 1 eI (nextR l H R T)) := by
  have m0 := h.len
  subst hR
  obtain ⟨A, c, rfl⟩ := h.slice
  obtain ⟨A1, c1, rfl⟩ := h1.slice
  obtain ⟨A2, c2, rfl⟩ := h2.1.slice
  have hb := (Below.refl w.heap.size w).alloc (Nat.le_refl _) (.cells #[.slice A1 H.length c1, .slice A2 L.length c2] 32)
  have b0 := new_cell w #[.slice A1 H.length c1, .slice A2 L.length c2] 32 0 _ rfl
  have b1 := new_cell w #[.slice A1 H.length c1, .slice A2 L.length c2] 32 1 _ rfl
  have hgs : w.heap.size < (w.alloc (.cells #[.slice A1 H.length c1, .slice A2 L.length c2] 32)).heap.size := by simp
  go_enter Try.func40, Try.ntmps40
  go_wp2_with fail
  generalize (w.alloc (.cells #[.slice A1 H.length c1, .slice A2 L.length c2] 32)) = W at hb b0 b1 hgs ⊢
  refine (code_specT W _ _ (h.below hb) w.heap.size _ _ b0 b1 _ _ (h1.below hb) (h2.below hb) _ _ (ht.below hb) hTl).mono ?_
  rintro e w3 ⟨t, vd, rfl, ht0, OD, hb3⟩
  unfold eTS
  clear OD
  have hb4 := below_step hb hb3
  have hbN := hb4.alloc hb4.size (.cells #[.int .i64 t.1, .int .i64 t.2.1, .int .i64 t.2.2.1, .int .i64 t.2.2.2.1, .bool t.2.2.2.2] 83)
  have hgN : w.heap.size < (w3.alloc (.cells #[.int .i64 t.1, .int .i64 t.2.1, .int .i64 t.2.2.1, .int .i64 t.2.2.2.1, .bool t.2.2.2.2] 83)).heap.size := by have := hb3.size; simp; omega
  have hN3 : w3.heap.size < (w3.alloc (.cells #[.int .i64 t.1, .int .i64 t.2.1, .int .i64 t.2.2.1, .int .i64 t.2.2.2.1, .bool t.2.2.2.2] 83)).heap.size := by simp
  have hbq : Below w3.heap.size w3 (w3.alloc (.cells #[.int .i64 t.1, .int .i64 t.2.1, .int .i64 t.2.2.1, .int .i64 t.2.2.2.1, .bool t.2.2.2.2] 83)) := (Below.refl _ _).alloc (Nat.le_refl _) _
  have g0 := (hbq.cell (p := ⟨w.heap.size, 0, none⟩) (Nat.lt_of_lt_of_le hgs hb3.size)).trans ((hb3.cell hgs).trans b0)
  have g1 := (hbq.cell (p := ⟨w.heap.size, 1, none⟩) (Nat.lt_of_lt_of_le hgs hb3.size)).trans ((hb3.cell hgs).trans b1)
  have gt : (w3.alloc (.cells #[.int .i64 t.1, .int .i64 t.2.1, .int .i64 t.2.2.1, .int .i64 t.2.2.2.1, .bool t.2.2.2.2] 83)).heap[w3.heap.size]? = some (.cells (eTS t) 83 (0, 0)) := heap_alloc_new w3 _
  clear hbq hb3 hb4 b0 b1 hgs hb
  by_cases q : tcode l H (rowsOf L) T = 0
  case neg =>
    have HE := hd q
    have hne : (tcode l H (rowsOf L) T != 0) = true := by simpa using q
    clear q ht0
    go_wp2_with fail
    go_ret2
    exact ⟨.slice none 0 0, by unfold nextR; rw [if_neg HE.out]; rfl, by unfold nextR; rw [if_neg HE.out]; exact Own.nil _ _ _ _ _, hbN⟩
  case pos =>
    have HQ := hd q
    obtain ⟨k1, k2, -⟩ := tcode_zero q
    have HOK := hd (hallsOk_of k1)
    have HTO := hd k2
    have z6 := (hallsOk_of k1).six
    have HRT := hd (ht0 q)
    have HBD := hd (show BdT l T.length t by rw [HRT.out]; have := run_bd HOK.out k2 T.length (Nat.le_refl _); rwa [List.take_length] at this)
    rw [q]
    clear q ht0 k1 k2
    obtain ⟨i0, hi, hz0, hz1, hz2⟩ := info_parts info_i64
    go_wp2_with fail
    rw [show w3.heap.size + 1 = (w3.alloc (.cells #[.int .i64 t.1, .int .i64 t.2.1, .int .i64 t.2.2.1, .int .i64 t.2.2.2.1, .bool t.2.2.2.2] 83)).heap.size from by simp]
    generalize (w3.alloc (.cells #[.int .i64 t.1, .int .i64 t.2.1, .int .i64 t.2.2.1, .int .i64 t.2.2.2.1, .bool t.2.2.2.2] 83)) = N at hbN hgN hN3 g0 g1 gt ⊢
    generalize w3.heap.size = G at hN3 gt ⊢
    have OD := Own.made0 N N.heap.size 2 1 eI (Nat.le_refl _)
    have hbA := (Below.refl N.heap.size N).alloc (Nat.le_refl _) (.cells #[] 2)
    go_loopw [11, 12] (fun dv i wr => ∃ k : Nat, k ≤ l.length ∧ i = .int .i64 k ∧ Own wr N.heap.size 2 1 dv eI (nextTo l H (rowsOf L) T k) ∧ Below N.heap.size N wr) (fun _ i _ => l.length - (intOf i).toNat)
    case atStart => exact ⟨0, Nat.zero_le _, rfl, OD, hbA⟩
    case round =>
      obtain ⟨k, hk, rfl, hD, hbel⟩ := hrel
      clear OD hbA
      have hbw := hbN.trans (hbel.mono hbN.size)
      by_cases hlt : k < l.length
      · have c0 : wr.cell? ⟨w.heap.size, 0, none⟩ = some (.slice A1 H.length c1) := (hbel.cell hgN).trans g0
        have c1' : wr.cell? ⟨w.heap.size, 1, none⟩ = some (.slice A2 L.length c2) := (hbel.cell hgN).trans g1
        have t0 : wr.cell? ⟨G, 0, none⟩ = some (.int .i64 t.1) := (hbel.cell hN3).trans (cell_of_row N G 0 _ _ (0, 0) gt)
        have t1 : wr.cell? ⟨G, 1, none⟩ = some (.int .i64 t.2.1) := (hbel.cell hN3).trans (cell_of_row N G 1 _ _ (0, 0) gt)
        have t2 : wr.cell? ⟨G, 2, none⟩ = some (.int .i64 t.2.2.1) := (hbel.cell hN3).trans (cell_of_row N G 2 _ _ (0, 0) gt)
        have t3 : wr.cell? ⟨G, 3, none⟩ = some (.int .i64 t.2.2.2.1) := (hbel.cell hN3).trans (cell_of_row N G 3 _ _ (0, 0) gt)
        have t4 : wr.cell? ⟨G, 4, none⟩ = some (.bool t.2.2.2.2) := (hbel.cell hN3).trans (cell_of_row N G 4 _ _ (0, 0) gt)
        have stw := ht.below hbw
        rcases r1 : hasI T (k : Int) with _ | _
        · have HR1 := hd r1
          go_wp2_with fail
          refine (has_spec _ _ _ stw _).mono ?_
          rintro e w5 ⟨rfl, hw⟩
          have hw := hw.symm
          subst hw
          rw [r1]
          clear r1
          go_wp2_with fail
          refine (next_spec _ _ _ (h.below hbw) w.heap.size _ _ c0 c1' _ _ (h1.below hbw) (h2.below hbw) HOK.out t T.length (by omega) HBD.out k hlt).mono ?_
          rintro e w6 ⟨rfl, hb6⟩
          unfold eTS
          have hD6 := (Own.below hD hb6 (Nat.le_refl _)).alloc (.cells #[.int .i64 (nextT l H (rowsOf L) t k).1, .int .i64 (nextT l H (rowsOf L) t k).2.1, .int .i64 (nextT l H (rowsOf L) t k).2.2.1, .int .i64 (nextT l H (rowsOf L) t k).2.2.2.1, .bool (nextT l H (rowsOf L) t k).2.2.2.2] 83)
          have hb7 := (hbel.trans (hb6.mono hbel.size)).alloc (Nat.le_trans hbel.size hb6.size) (.cells #[.int .i64 (nextT l H (rowsOf L) t k).1, .int .i64 (nextT l H (rowsOf L) t k).2.1, .int .i64 (nextT l H (rowsOf L) t k).2.2.1, .int .i64 (nextT l H (rowsOf L) t k).2.2.2.1, .bool (nextT l H (rowsOf L) t k).2.2.2.2] 83)
          have x4 := new_cell w6 _ 83 4 _ (show (#[.int .i64 (nextT l H (rowsOf L) t k).1, .int .i64 (nextT l H (rowsOf L) t k).2.1, .int .i64 (nextT l H (rowsOf L) t k).2.2.1, .int .i64 (nextT l H (rowsOf L) t k).2.2.2.1, .bool (nextT l H (rowsOf L) t k).2.2.2.2] : Array Value)[4]? = some (.bool (nextT l H (rowsOf L) t k).2.2.2.2) from rfl)
          have HLEN := hd (nextTo_len l H (rowsOf L) T k)
          clear c0 c1' t0 t1 t2 t3 t4 hD hb6
          generalize hb : (nextT l H (rowsOf L) t k).2.2.2.2 = b at x4 hD6 hb7 ⊢
          have HB := hd hb
          clear hb
          have HS : Hid (nextTo l H (rowsOf L) T (k + 1) = nextTo l H (rowsOf L) T k ++ if (!b) = true then [(k : Int)] else []) := hd (by rw [nextTo, nextOk, HR1.out, ← HRT.out, HB.out]; simp)
          generalize nextTo l H (rowsOf L) T k = D at hD6 HS HLEN
          have hDl := HLEN.out
          cases b
          · go_wp2_with (at_builtin; refine wpList_push _ rfl _ _ 23 rfl i0 (.int .i64 0) 8 Try.underlying23 hi hz0 hz1 hz2 rfl (by decide) _ _ (k : Int) rfl (hD6.alloc _) (w6.heap.size + 1) rfl #[.int .i64 k] 2 (by have e := heap_alloc_new (w6.alloc (.cells #[.int .i64 (nextT l H (rowsOf L) t k).1, .int .i64 (nextT l H (rowsOf L) t k).2.1, .int .i64 (nextT l H (rowsOf L) t k).2.2.1, .int .i64 (nextT l H (rowsOf L) t k).2.2.2.1, .bool false] 83)) (.cells #[.int .i64 (k : Int)] 2); simpa using e) rfl rfl (by intro u hu; simp [eI] at hu; subst hu; rfl) (by unfold maxLen; omega) (by omega) (by have := hb7.size; simp at this ⊢; omega) ?_)
            intro vd w8 hD8 hg8
            have hb8 := (hb7.alloc hb7.size (.cells #[.int .i64 (k : Int)] 2)).grown hg8 (by have := hb7.size; simp at this; simp; omega) (fun g hg => (hD6.lt g hg).1)
            clear hD6 hb7 hg8
            go_wp2_with fail
            go_roundw
            case rel => exact ⟨k + 1, by omega, by go_num, by rw [HS.out]; exact hD8, hb8⟩
            case measure => simp [intOf]; omega
          · go_wp2_with fail
            go_roundw
            case rel => exact ⟨k + 1, by omega, by go_num, by rw [HS.out]; simpa using hD6, hb7⟩
            case measure => simp [intOf]; omega
        · have HR1 := hd r1
          clear c0 c1' t0 t1 t2 t3 t4
          go_wp2_with fail
          refine (has_spec _ _ _ stw _).mono ?_
          rintro e w5 ⟨rfl, hw⟩
          have hw := hw.symm
          subst hw
          rw [r1]
          clear r1
          go_wp2_with fail
          go_roundw
          case rel => exact ⟨k + 1, by omega, by go_num, by simp only [nextTo, nextOk, HR1.out]; simpa using hD, hbel⟩
          case measure => simp [intOf]; omega
      · have hkl : k = l.length := by omega
        subst hkl
        go_wp2_with fail
        go_ret2
        exact ⟨_, by unfold nextR; rw [if_pos HQ.out]; rfl, by unfold nextR; rw [if_pos HQ.out]; exact Own.base hD hbN.size, hbN.trans (hbel.mono hbN.size)⟩

end Go.Proofs.Ytmflfealodgdeaa
