/- The laws' own look at a tour: shows as early as they can be, within their days. No condition but that the slices read. -/
import Derived.Test.YtidmpjlkdghmeaaTourP
import Derived.Test.YtidmpjlkdghmeaaTDraw2
namespace Go.Proofs.Ytidmpjlkdghmeaa
open Go Go.RowKit Go.ChangeShapes Go.WideShapes
set_option linter.unusedSimpArgs false
set_option linter.unusedVariables false
set_option maxHeartbeats 1000000 in
theorem a2has (w : World) (v : Value) (l : List Int) (h : Sl w 1 v eI l) (x : Int) :
    Calls Try.prog 27 #[v, .int .i64 x] w fun e w' => e = .returned (.bool (hasI l x)) ∧ w' = w := by
  have m1 := h.len
  obtain ⟨-, A, c, rfl, -, -, -⟩ := id h
  go_enter Try.func27, Try.ntmps27
  go_wp2_with fail
  go_loop [5] (fun i => ∃ k : Nat, k ≤ l.length ∧ i = .int .i64 k ∧ Hid (hasI (l.take k) x = false)) (fun i => l.length - (intOf i).toNat)
  case atStart => exact ⟨0, Nat.zero_le _, rfl, hd rfl⟩
  case round =>
    obtain ⟨k, hk, rfl, HT⟩ := hrel
    by_cases hlt : k < l.length
    · obtain ⟨b, o, rfl, hb, hc⟩ := h.int_at hlt
      have HS := hd (has_snoc l x k hlt)
      have HH := hd (fun q => has_hit (x := x) hlt q)
      generalize l[k] = y at hc HS HH
      rcases hp : (x == y) with _ | _
      · have hp' : (y == x) = false := by rw [← hp]; exact Bool.eq_iff_iff.2 (by simp; exact eq_comm)
        have HT' := hd (HS.out.trans (show _ = false by simp [HT.out, hp]))
        clear hp
        go_wp2_with fail
        go_round
        case rel => exact ⟨k + 1, by omega, by go_num, HT'⟩
        case measure => simp [intOf]; omega
      · have hp' : (y == x) = true := by rw [← hp]; exact Bool.eq_iff_iff.2 (by simp; exact eq_comm)
        have HE := hd (HH.out hp)
        clear hp
        go_wp2_with fail
        go_ret
        exact ⟨by rw [HE.out]; rfl, rfl⟩
    · have HE := hd (show hasI l x = false by have := HT.out; rwa [List.take_of_length_le (by omega)] at this)
      go_wp2_with fail
      go_ret
      exact ⟨by rw [HE.out]; rfl, rfl⟩
set_option maxRecDepth 100000 in
set_option maxHeartbeats 8000000 in
theorem a2tour_yes (w : World) (v : Value) (l : List THall) (h : Sl w 3 v eHall l) (v1 v2 : Value) (H : List Int) (L : List TRow) (h1 : Sl w 1 v1 eI H) (h2 : SlR w v2 L) (vt : Value) (T : List Int) (ht : Sl w 1 vt eI T) (vd : Value) (D : List Int) (hD : Sl w 1 vd eI D) (ok : HallsOk l H (rowsOf L)) (hT : tourOk l.length T = true) (hL : lateT l H (rowsOf L) T = false) (hDe : D = showsT l H (rowsOf L) startT T) :
    Calls Try.prog 17 #[v, .agg #[v1, v2], vt, vd] w fun e w' => e = .returned (.bool true) ∧ Below w.heap.size w w' := by
  have m0 := h.len
  have m1 := ht.len
  have hDl : D.length = T.length := by rw [hDe, showsT_len]
  obtain ⟨A, c, rfl⟩ := h.slice
  obtain ⟨A1, c1, rfl⟩ := h1.slice
  obtain ⟨A2, c2, rfl⟩ := h2.1.slice
  obtain ⟨At, ct, rfl⟩ := ht.slice
  obtain ⟨Ad, cd, rfl⟩ := hD.slice
  obtain ⟨hcap, hcap2⟩ := ht.cap
  have hb := (Below.refl w.heap.size w).alloc (Nat.le_refl _) (.cells #[.slice A1 H.length c1, .slice A2 L.length c2] 28)
  have s0 := h.below hb
  have s1 := h1.below hb
  have s2 := h2.below hb
  have st := ht.below hb
  have sd := hD.below hb
  have p0 := new_cell w #[.slice A1 H.length c1, .slice A2 L.length c2] 28 0 _ rfl
  have p1 := new_cell w #[.slice A1 H.length c1, .slice A2 L.length c2] 28 1 _ rfl
  have HOK := hd ok
  have z6 := ok.six
  have zH : l.length ≤ H.length := by have := ok.homes; omega
  have zL : l.length ≤ L.length := by have := ok.rows; rw [rowsOf_len] at this; omega
  have HRW := hd (fun j (hj : j < L.length) => (show L[j].2.length = l.length from by have := ok.row j (by have := ok.rows; rw [rowsOf_len] at this; omega); rwa [rowsOf_getD L j hj] at this))
  have HDAY := hd (fun i (hi : i < T.length) => tour_day ok hT hL hi (by rw [showsT_len]; exact hi))
  have HDE := hd hDe
  clear h h1 h2 ht hD ok hT hL hDe
  go_enter Try.func17, Try.ntmps17
  go_wp2_with fail
  generalize w.alloc (.cells #[.slice A1 H.length c1, .slice A2 L.length c2] 28) = w0 at hb s0 s1 s2 st sd p0 p1 ⊢
  go_loopw [9] (fun iv wr => ∃ (k : Nat), k ≤ T.length ∧ iv = .int .i64 k ∧ Below w0.heap.size w0 wr) (fun iv _ => T.length - (intOf iv).toNat)
  case atStart => exact ⟨0, Nat.zero_le _, rfl, Below.refl _ _⟩
  case round =>
    obtain ⟨k, hk, rfl, hbel⟩ := hrel
    have HB := hd (below_step hb hbel)
    have HS := hd hbel
    by_cases hlt : k < T.length
    case neg =>
      go_wp2_with fail
      go_ret
      exact ⟨rfl, HB.out⟩
    obtain ⟨j, hj, hjl, hh, hmax, hlast, h0, hm⟩ := HDAY.out k hlt
    obtain ⟨bt, ot, rfl, -, ct0⟩ := (st.below hbel).int_at hlt
    rw [hj] at ct0 hh hmax hlast h0 hm
    have hjH : j < H.length := by omega
    have hkD : k < D.length := by omega
    have hgz : w.heap.size < w0.heap.size := World.block_lt_of_cell? w0 ⟨w.heap.size, 0, none⟩ p0
    have q0 := (hbel.cell (p := ⟨w.heap.size, 0, none⟩) hgz).trans p0
    have q1 := (hbel.cell (p := ⟨w.heap.size, 1, none⟩) hgz).trans p1
    obtain ⟨bh, oh, rfl, -, ch⟩ := (s1.below hbel).int_at hjH
    obtain ⟨bl, ol, rfl, -, r0, r1, r2⟩ := (s0.below hbel).Hall_at hjl
    obtain ⟨bd, od, rfl, -, cd0⟩ := (sd.below hbel).int_at hkD
    have hDs : ∀ i (hi : i < D.length), D[i] = (showsT l H (rowsOf L) startT T)[i]'(by rw [showsT_len]; omega) := fun i hi => by simp only [HDE.out]
    have HLA : hallAt l (j : Int) = l[j] := by rw [hallAt_nat]; simp [hjl]
    rw [← hDs k hkD, HLA] at hmax
    rw [← hDs k hkD, HLA] at hlast
    obtain ⟨⟨a1, a2, a3⟩, -, -⟩ := HOK.out.hall j hjl
    rw [show l.getD j (0, 0, 0) = l[j] from by simp [hjl]] at a1 a2 a3
    have HSK := hd (fun x => ((st.below hbel).taken k hk).gro x)
    have HHAS := hd (fun x => (show Calls Try.prog 27 _ (gro wr x) fun e w' => e = .returned (.bool false) ∧ w' = gro wr x from hh ▸ a2has (gro wr x) _ _ (HSK.out x) (j : Int)))
    have hkc : k ≤ ct := by omega
    have hlj : decide ((j : Int) < 0) = false := by simp
    have hlj2 : decide ((l.length : Int) ≤ (j : Int)) = false := by simp; omega
    have hlj3 : decide (l.length ≤ j) = false := by simp; omega
    have hjj : (j : Int) < (l.length : Int) := by omega
    generalize hTH : thereT H (rowsOf L) (runT l H (rowsOf L) startT (List.take k T)) (j : Int) = th at hmax h0 hm
    rcases Nat.eq_zero_or_pos k with hk0 | hkp
    · have hth := h0 hk0
      rw [show H.getD j 0 = H[j] from by simp [hjH]] at hth
      subst hth
      have hz : decide ((0 : Int) < (k : Int)) = false := by simp [hk0]
      have hz' : decide (0 < k) = false := by simp [hk0]
      have hk1 : (k : Int) ≤ 0 := by omega
      have e9 := hd (show (if H[j] < l[j].1 then l[j].1 else H[j]) = D[k] by split <;> omega)
      have e8 : decide (l[j].2.1 < D[k]) = false := by simp; omega
      clear hTH hm h0 hDs hj HLA hmax
      generalize H[j] = hh0 at ch e9
      generalize l[j] = x at r0 r1 r2 a1 a2 a3 e9 e8 hlast
      obtain ⟨fa, fl, fi⟩ := x
      dsimp only at r0 r1 r2 a1 a2 a3 e9 e8 hlast
      generalize D[k] = d at cd0 e9 e8 hlast
      clear s0 s1 s2 st sd p0 p1 hk0 HS hDl
      have g_ct0 := gro_cell ct0
      have g_cd0 := gro_cell cd0
      have g_ch := gro_cell ch
      have g_q0 := gro_cell q0
      have g_q1 := gro_cell q1
      have g_r0 := gro_cell r0
      have g_r1 := gro_cell r1
      go_wp2_with fail
      refine wp_region_calm (by kernel_rfl) (by kernel_rfl) ?_
      repeat (first | go_big_quiet_step ((first | (go_at_call 27; exact calm_of_same (HHAS.out _)))) | quiet_step ((first | (go_at_call 27; exact calm_of_same (HHAS.out _)))))
      refine wpQuiet_nil ?_
      rintro wq1 ⟨xw, hw⟩
      replace g_ct0 := g_ct0 xw
      rw [← hw] at g_ct0
      replace ct0 := g_ct0
      clear g_ct0
      replace g_cd0 := g_cd0 xw
      rw [← hw] at g_cd0
      replace cd0 := g_cd0
      clear g_cd0
      replace g_ch := g_ch xw
      rw [← hw] at g_ch
      replace ch := g_ch
      clear g_ch
      replace g_q0 := g_q0 xw
      rw [← hw] at g_q0
      replace q0 := g_q0
      clear g_q0
      replace g_q1 := g_q1 xw
      rw [← hw] at g_q1
      replace q1 := g_q1
      clear g_q1
      replace g_r0 := g_r0 xw
      rw [← hw] at g_r0
      replace r0 := g_r0
      clear g_r0
      replace g_r1 := g_r1 xw
      rw [← hw] at g_r1
      replace r1 := g_r1
      clear g_r1
      have hb_n := below_step hbel (gro_below xw)
      rw [← hw] at hb_n
      replace hbel := hb_n
      clear hb_n hw
      have g_ct0 := gro_cell ct0
      have g_cd0 := gro_cell cd0
      have g_ch := gro_cell ch
      have g_q0 := gro_cell q0
      have g_q1 := gro_cell q1
      have g_r0 := gro_cell r0
      have g_r1 := gro_cell r1
      go_wp2_with fail
      refine wp_region_calm (by kernel_rfl) (by kernel_rfl) ?_
      repeat (first | go_big_quiet_step (fail) | quiet_step (fail))
      refine wpQuiet_nil ?_
      rintro wq2 ⟨xw, hw⟩
      replace g_ct0 := g_ct0 xw
      rw [← hw] at g_ct0
      replace ct0 := g_ct0
      clear g_ct0
      replace g_cd0 := g_cd0 xw
      rw [← hw] at g_cd0
      replace cd0 := g_cd0
      clear g_cd0
      replace g_ch := g_ch xw
      rw [← hw] at g_ch
      replace ch := g_ch
      clear g_ch
      replace g_q0 := g_q0 xw
      rw [← hw] at g_q0
      replace q0 := g_q0
      clear g_q0
      replace g_q1 := g_q1 xw
      rw [← hw] at g_q1
      replace q1 := g_q1
      clear g_q1
      replace g_r0 := g_r0 xw
      rw [← hw] at g_r0
      replace r0 := g_r0
      clear g_r0
      replace g_r1 := g_r1 xw
      rw [← hw] at g_r1
      replace r1 := g_r1
      clear g_r1
      have hb_n := below_step hbel (gro_below xw)
      rw [← hw] at hb_n
      replace hbel := hb_n
      clear hb_n hw
      replace e9 := e9.out
      have g_ct0 := gro_cell ct0
      have g_cd0 := gro_cell cd0
      have g_ch := gro_cell ch
      have g_q0 := gro_cell q0
      have g_q1 := gro_cell q1
      have g_r0 := gro_cell r0
      have g_r1 := gro_cell r1
      go_wp2_with fail
      refine wp_region_calm (by kernel_rfl) (by kernel_rfl) ?_
      repeat (first | go_big_quiet_step (fail) | quiet_step (fail))
      refine wpQuiet_nil ?_
      rintro wq3 ⟨xw, hw⟩
      replace g_ct0 := g_ct0 xw
      rw [← hw] at g_ct0
      replace ct0 := g_ct0
      clear g_ct0
      replace g_cd0 := g_cd0 xw
      rw [← hw] at g_cd0
      replace cd0 := g_cd0
      clear g_cd0
      replace g_ch := g_ch xw
      rw [← hw] at g_ch
      replace ch := g_ch
      clear g_ch
      replace g_q0 := g_q0 xw
      rw [← hw] at g_q0
      replace q0 := g_q0
      clear g_q0
      replace g_q1 := g_q1 xw
      rw [← hw] at g_q1
      replace q1 := g_q1
      clear g_q1
      replace g_r0 := g_r0 xw
      rw [← hw] at g_r0
      replace r0 := g_r0
      clear g_r0
      replace g_r1 := g_r1 xw
      rw [← hw] at g_r1
      replace r1 := g_r1
      clear g_r1
      have hb_n := below_step hbel (gro_below xw)
      rw [← hw] at hb_n
      replace hbel := hb_n
      clear hb_n hw
      clear e9
      go_wp2_with fail
      go_roundw
      case rel => exact ⟨k + 1, by omega, by go_num, hbel⟩
      case measure => simp [intOf]; omega
    · obtain ⟨m, rfl⟩ : ∃ m, k = m + 1 := ⟨k - 1, by omega⟩
      have hmT : m < T.length := by omega
      have hmD : m < D.length := by omega
      obtain ⟨i, hi', hil, hth⟩ := hm m hmT (by rw [showsT_len]; exact hmT) rfl
      have hiL : i < L.length := by omega
      have hjr : j < L[i].2.length := by rw [HRW.out i hiL]; exact hjl
      rw [← hDs m hmD, rowsOf_getD L i hiL, show L[i].2.getD j 0 = L[i].2[j] from by simp [hjr]] at hth
      subst hth
      obtain ⟨bt1, ot1, hA1, -, ct1⟩ := (st.below hbel).int_at hmT
      injection hA1 with hA1
      injection hA1 with e1 e2 _
      subst e1 e2
      rw [hi'] at ct1
      obtain ⟨bd1, od1, hA1, -, cd1⟩ := (sd.below hbel).int_at hmD
      injection hA1 with hA1
      injection hA1 with e1 e2 _
      subst e1 e2
      obtain ⟨br, orr, rfl, -, cr, srow⟩ := (s2.below hbel).row_at hiL
      have mrow := srow.len
      have HRL := hd (show l.length ≤ L[i].2.length from Nat.le_of_eq (HRW.out i hiL).symm)
      have hd30 := HOK.out.day i j hil hjl
      rw [rowsOf_getD L i hiL, show L[i].2.getD j 0 = L[i].2[j] from by simp [hjr]] at hd30
      obtain ⟨jm, hjm, hjml, -, hmaxm, hlastm, -, -⟩ := HDAY.out m hmT
      rw [hjm, ← hDs m hmD] at hmaxm
      rw [hjm, ← hDs m hmD] at hlastm
      obtain ⟨⟨b1, b2, b3⟩, -, -⟩ := HOK.out.hall jm hjml
      rw [show l.getD jm (0, 0, 0) = hallAt l (jm : Int) from by rw [hallAt_nat]] at b1 b2 b3
      have hs4 : 0 ≤ D[m] ∧ D[m] ≤ 365 := by omega
      clear hmaxm hlastm b1 b2 b3 hjm hjml HDAY
      have hz : decide ((0 : Int) < ((m + 1 : Nat) : Int)) = true := decide_eq_true (by omega)
      have hmi : ((m : Int) + 1 - 1) = (m : Int) := by omega
      have e9 := hd (show (if D[m] + 1 + L[i].2[j] < l[j].1 then l[j].1 else D[m] + 1 + L[i].2[j]) = D[m + 1] by split <;> omega)
      have e8 : decide (l[j].2.1 < D[m + 1]) = false := by simp; omega
      clear hTH h0 hDs hj HLA hmax hi' HRW
      generalize L[i] = X at cr srow hjr HRL mrow hd30 e9
      obtain ⟨rv, rl⟩ := X
      dsimp only at cr srow hjr HRL mrow hd30 e9
      obtain ⟨Ar, cr', rfl⟩ := srow.slice
      obtain ⟨bq, oq, rfl, -, cq⟩ := srow.int_at hjr
      generalize rl[j] = rd at cq hd30 e9
      obtain ⟨hd0, hd1⟩ := hd30
      obtain ⟨hs5, hs6⟩ := hs4
      generalize H[j] = hh0 at ch
      generalize l[j] = x at r0 r1 r2 a1 a2 a3 e9 e8 hlast
      obtain ⟨fa, fl, fi⟩ := x
      dsimp only at r0 r1 r2 a1 a2 a3 e9 e8 hlast
      generalize D[m + 1] = d at cd0 e9 e8 hlast
      generalize D[m] = dm at cd1 e9 hs5 hs6
      clear s0 s1 s2 st sd p0 p1 srow HS hDl
      have g_ct0 := gro_cell ct0
      have g_cd0 := gro_cell cd0
      have g_ch := gro_cell ch
      have g_q0 := gro_cell q0
      have g_q1 := gro_cell q1
      have g_r0 := gro_cell r0
      have g_r1 := gro_cell r1
      have g_ct1 := gro_cell ct1
      have g_cd1 := gro_cell cd1
      have g_cr := gro_cell cr
      have g_cq := gro_cell cq
      go_wp2_with fail
      refine wp_region_calm (by kernel_rfl) (by kernel_rfl) ?_
      repeat (first | go_big_quiet_step ((first | (go_at_call 27; exact calm_of_same (HHAS.out _)))) | quiet_step ((first | (go_at_call 27; exact calm_of_same (HHAS.out _)))))
      refine wpQuiet_nil ?_
      rintro wq4 ⟨xw, hw⟩
      replace g_ct0 := g_ct0 xw
      rw [← hw] at g_ct0
      replace ct0 := g_ct0
      clear g_ct0
      replace g_cd0 := g_cd0 xw
      rw [← hw] at g_cd0
      replace cd0 := g_cd0
      clear g_cd0
      replace g_ch := g_ch xw
      rw [← hw] at g_ch
      replace ch := g_ch
      clear g_ch
      replace g_q0 := g_q0 xw
      rw [← hw] at g_q0
      replace q0 := g_q0
      clear g_q0
      replace g_q1 := g_q1 xw
      rw [← hw] at g_q1
      replace q1 := g_q1
      clear g_q1
      replace g_r0 := g_r0 xw
      rw [← hw] at g_r0
      replace r0 := g_r0
      clear g_r0
      replace g_r1 := g_r1 xw
      rw [← hw] at g_r1
      replace r1 := g_r1
      clear g_r1
      replace g_ct1 := g_ct1 xw
      rw [← hw] at g_ct1
      replace ct1 := g_ct1
      clear g_ct1
      replace g_cd1 := g_cd1 xw
      rw [← hw] at g_cd1
      replace cd1 := g_cd1
      clear g_cd1
      replace g_cr := g_cr xw
      rw [← hw] at g_cr
      replace cr := g_cr
      clear g_cr
      replace g_cq := g_cq xw
      rw [← hw] at g_cq
      replace cq := g_cq
      clear g_cq
      have hb_n := below_step hbel (gro_below xw)
      rw [← hw] at hb_n
      replace hbel := hb_n
      clear hb_n hw
      have g_ct0 := gro_cell ct0
      have g_cd0 := gro_cell cd0
      have g_ch := gro_cell ch
      have g_q0 := gro_cell q0
      have g_q1 := gro_cell q1
      have g_r0 := gro_cell r0
      have g_r1 := gro_cell r1
      have g_ct1 := gro_cell ct1
      have g_cd1 := gro_cell cd1
      have g_cr := gro_cell cr
      have g_cq := gro_cell cq
      go_wp2_with fail
      refine wp_region_calm (by kernel_rfl) (by kernel_rfl) ?_
      repeat (first | go_big_quiet_step (fail) | quiet_step (fail))
      refine wpQuiet_nil ?_
      rintro wq5 ⟨xw, hw⟩
      replace g_ct0 := g_ct0 xw
      rw [← hw] at g_ct0
      replace ct0 := g_ct0
      clear g_ct0
      replace g_cd0 := g_cd0 xw
      rw [← hw] at g_cd0
      replace cd0 := g_cd0
      clear g_cd0
      replace g_ch := g_ch xw
      rw [← hw] at g_ch
      replace ch := g_ch
      clear g_ch
      replace g_q0 := g_q0 xw
      rw [← hw] at g_q0
      replace q0 := g_q0
      clear g_q0
      replace g_q1 := g_q1 xw
      rw [← hw] at g_q1
      replace q1 := g_q1
      clear g_q1
      replace g_r0 := g_r0 xw
      rw [← hw] at g_r0
      replace r0 := g_r0
      clear g_r0
      replace g_r1 := g_r1 xw
      rw [← hw] at g_r1
      replace r1 := g_r1
      clear g_r1
      replace g_ct1 := g_ct1 xw
      rw [← hw] at g_ct1
      replace ct1 := g_ct1
      clear g_ct1
      replace g_cd1 := g_cd1 xw
      rw [← hw] at g_cd1
      replace cd1 := g_cd1
      clear g_cd1
      replace g_cr := g_cr xw
      rw [← hw] at g_cr
      replace cr := g_cr
      clear g_cr
      replace g_cq := g_cq xw
      rw [← hw] at g_cq
      replace cq := g_cq
      clear g_cq
      have hb_n := below_step hbel (gro_below xw)
      rw [← hw] at hb_n
      replace hbel := hb_n
      clear hb_n hw
      have g_ct0 := gro_cell ct0
      have g_cd0 := gro_cell cd0
      have g_ch := gro_cell ch
      have g_q0 := gro_cell q0
      have g_q1 := gro_cell q1
      have g_r0 := gro_cell r0
      have g_r1 := gro_cell r1
      have g_ct1 := gro_cell ct1
      have g_cd1 := gro_cell cd1
      have g_cr := gro_cell cr
      have g_cq := gro_cell cq
      go_wp2_with fail
      refine wp_region_calm (by kernel_rfl) (by kernel_rfl) ?_
      repeat (first | go_big_quiet_step (fail) | quiet_step (fail))
      refine wpQuiet_nil ?_
      rintro wq6 ⟨xw, hw⟩
      replace g_ct0 := g_ct0 xw
      rw [← hw] at g_ct0
      replace ct0 := g_ct0
      clear g_ct0
      replace g_cd0 := g_cd0 xw
      rw [← hw] at g_cd0
      replace cd0 := g_cd0
      clear g_cd0
      replace g_ch := g_ch xw
      rw [← hw] at g_ch
      replace ch := g_ch
      clear g_ch
      replace g_q0 := g_q0 xw
      rw [← hw] at g_q0
      replace q0 := g_q0
      clear g_q0
      replace g_q1 := g_q1 xw
      rw [← hw] at g_q1
      replace q1 := g_q1
      clear g_q1
      replace g_r0 := g_r0 xw
      rw [← hw] at g_r0
      replace r0 := g_r0
      clear g_r0
      replace g_r1 := g_r1 xw
      rw [← hw] at g_r1
      replace r1 := g_r1
      clear g_r1
      replace g_ct1 := g_ct1 xw
      rw [← hw] at g_ct1
      replace ct1 := g_ct1
      clear g_ct1
      replace g_cd1 := g_cd1 xw
      rw [← hw] at g_cd1
      replace cd1 := g_cd1
      clear g_cd1
      replace g_cr := g_cr xw
      rw [← hw] at g_cr
      replace cr := g_cr
      clear g_cr
      replace g_cq := g_cq xw
      rw [← hw] at g_cq
      replace cq := g_cq
      clear g_cq
      have hb_n := below_step hbel (gro_below xw)
      rw [← hw] at hb_n
      replace hbel := hb_n
      clear hb_n hw
      replace e9 := e9.out
      have g_ct0 := gro_cell ct0
      have g_cd0 := gro_cell cd0
      have g_ch := gro_cell ch
      have g_q0 := gro_cell q0
      have g_q1 := gro_cell q1
      have g_r0 := gro_cell r0
      have g_r1 := gro_cell r1
      have g_ct1 := gro_cell ct1
      have g_cd1 := gro_cell cd1
      have g_cr := gro_cell cr
      have g_cq := gro_cell cq
      go_wp2_with fail
      refine wp_region_calm (by kernel_rfl) (by kernel_rfl) ?_
      repeat (first | go_big_quiet_step (fail) | quiet_step (fail))
      refine wpQuiet_nil ?_
      rintro wq7 ⟨xw, hw⟩
      replace g_ct0 := g_ct0 xw
      rw [← hw] at g_ct0
      replace ct0 := g_ct0
      clear g_ct0
      replace g_cd0 := g_cd0 xw
      rw [← hw] at g_cd0
      replace cd0 := g_cd0
      clear g_cd0
      replace g_ch := g_ch xw
      rw [← hw] at g_ch
      replace ch := g_ch
      clear g_ch
      replace g_q0 := g_q0 xw
      rw [← hw] at g_q0
      replace q0 := g_q0
      clear g_q0
      replace g_q1 := g_q1 xw
      rw [← hw] at g_q1
      replace q1 := g_q1
      clear g_q1
      replace g_r0 := g_r0 xw
      rw [← hw] at g_r0
      replace r0 := g_r0
      clear g_r0
      replace g_r1 := g_r1 xw
      rw [← hw] at g_r1
      replace r1 := g_r1
      clear g_r1
      replace g_ct1 := g_ct1 xw
      rw [← hw] at g_ct1
      replace ct1 := g_ct1
      clear g_ct1
      replace g_cd1 := g_cd1 xw
      rw [← hw] at g_cd1
      replace cd1 := g_cd1
      clear g_cd1
      replace g_cr := g_cr xw
      rw [← hw] at g_cr
      replace cr := g_cr
      clear g_cr
      replace g_cq := g_cq xw
      rw [← hw] at g_cq
      replace cq := g_cq
      clear g_cq
      have hb_n := below_step hbel (gro_below xw)
      rw [← hw] at hb_n
      replace hbel := hb_n
      clear hb_n hw
      clear e9
      go_wp2_with fail
      go_roundw
      case rel => exact ⟨m + 1 + 1, by omega, by go_num, hbel⟩
      case measure => simp [intOf]; omega
end Go.Proofs.Ytidmpjlkdghmeaa
