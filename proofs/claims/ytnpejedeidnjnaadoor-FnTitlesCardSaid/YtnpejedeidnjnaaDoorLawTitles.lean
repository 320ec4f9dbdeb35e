/- FnTitles: titles are added in their places and read back from their texts, broken glasses are mended, and the free number is the least one. No condition. -/
import Derived.Test.YtnpejedeidnjnaaDoorTtDraw
import Derived.Test.YtnpejedeidnjnaaDoorA2H
import Derived.Test.YtnpejedeidnjnaaDoorTReadI
import Derived.Test.YtnpejedeidnjnaaDoorMoney
import Derived.Test.YtnpejedeidnjnaaDoorCards
import Derived.Test.YtnpejedeidnjnaaDoorTie
import Derived.LaidMore
import Derived.Lay
import Derived.LaidHandle
import Derived.Stop.LaidErr
import Derived.Stop.Joined
import Derived.SevenTiedAt
namespace Go.Proofs.YtnpejedeidnjnaaDoor
open Go Go.RowKit Go.ChangeShapes Go.WideShapes
set_option linter.unusedSimpArgs false
set_option linter.unusedVariables false
theorem titleS_size {a : Int} {b : ByteArray} {c d : Int} (h : okTitleB (a, b, c, d) = true) : (titleS a b c d).size ≤ 200 := by
  have h0 := isName_len (okTitleB_bd h).2.1
  have hb := okTitleB_bd h
  have h1 := decS_size (n := a) (by have := hb.1; dsimp only at this; omega)
  have h2 := decS_size (n := c) (by have := hb.2.2.1; dsimp only at this; omega)
  have h3 := decS_size (n := d) (by have := hb.2.2.1; have := hb.2.2.2; dsimp only at *; omega)
  dsimp only at h0
  unfold titleS
  simp only [ByteArray.size_append]
  have e1 : (⟨#[110, 111, 32]⟩ : ByteArray).size = 3 := rfl
  have e2 : (⟨#[32]⟩ : ByteArray).size = 1 := rfl
  have e3 : (⟨#[32, 103, 108, 97, 115, 115, 101, 115, 32]⟩ : ByteArray).size = 9 := rfl
  have e4 : (⟨#[32, 98, 114, 111, 107, 101, 110, 32]⟩ : ByteArray).size = 8 := rfl
  omega
theorem readT_text {a : Int} {b : ByteArray} {c d : Int} (h : okTitleB (a, b, c, d) = true) : rtV (textR a b c d) = (a, b, c, d) ∧ rtB (textR a b c d) = true := by
  have hb := okTitleB_bd h
  have hn : ∀ n : Int, 0 ≤ n → n ≤ 10000 → numS (decS n).data.toList = some n := fun n h0 h1 => by
    rw [decS_list]
    obtain ⟨u, rfl⟩ : ∃ u : Nat, n = (u : Int) := ⟨n.toNat, by omega⟩
    exact numS_nat (by omega)
  have e : textR a b c d = titleS a b c d := by unfold textR; rw [if_pos h]
  have hr : readT (textR a b c d) = some (a, b, c, d) := by
    obtain ⟨⟨b1, b2⟩, b3, ⟨b4, b5⟩, b6, b7⟩ := hb
    dsimp only at b1 b2 b4 b5 b6 b7
    rw [e, readT_some (titleS_parts h) (hn a (by omega) (by omega)) (hn c (by omega) (by omega)) (hn d (by omega) (by omega)), if_pos ⟨h, rfl, rfl, rfl⟩]
  unfold rtV rtB
  rw [hr]
  exact ⟨rfl, rfl⟩
set_option maxRecDepth 100000 in
set_option maxHeartbeats 32000000 in
theorem law_FnTitles (w : World) (v : Value) (l0 : List Int) (h0 : Sl w 1 v eB l0) (hr : ∀ x ∈ l0, 0 ≤ x ∧ x ≤ 255) (u : Value) (m0 : List Int) (g0 : Sl w 1 u eB m0) (gr : ∀ x ∈ m0, 0 ≤ x ∧ x ≤ 255) (hsh : Shop w) :
    Calls Tryd.prog 3 #[v, u] w fun e w' => e = .returned (.bool true) ∧ Below w.heap.size w w' := by
  have hS := h0.bytes hr
  have hM := g0.bytes gr
  generalize toU l0 = l at hS
  generalize toU m0 = m at hM
  clear h0 hr g0 gr
  have B := Below.refl w.heap.size w
  have HSH := hd hsh
  clear hsh
  by_cases hl : l.length ≤ 3000 ∧ m.length ≤ 3000
  case neg =>
    go_enter Tryd.func3, Tryd.ntmps3
    go_wp2_with fail
    refine (a2long_yes _ _ _ _ _ hS hM hl).mono ?_
    rintro e w1 ⟨rfl, rfl⟩
    go_wp2_with fail
    go_ret
    exact ⟨rfl, Below.refl _ _⟩
  obtain ⟨hl, hm⟩ := hl
  have hl1 : l.length ≤ 1048576 := by omega
  go_enter Tryd.func3, Tryd.ntmps3
  go_wp2_with fail
  refine (a2long_no _ _ _ _ _ hS hM hl hm).mono ?_
  rintro e w1 ⟨rfl, hw⟩
  obtain rfl : w = w1 := hw.symm
  go_wp2_with fail
  refine (draw_a2titles _ _ _ hS hl1).mono ?_
  rintro e w1 ⟨u1, L, rfl, O1, hok, hL6, B1⟩
  have S1 := O1.sl eTitle_len
  clear O1
  obtain ⟨A1, c1, rfl⟩ := S1.isSlice
  have B0 := B1
  replace HSH := hd (HSH.out.below B1)
  replace B := B1
  clear B1 B0
  have HOK := hd hok
  clear hok
  have O2 := (Own.made0 w1 w1.heap.size 29 4 eTitle (Nat.le_refl _)).sl eTitle_len
  replace S1 := S1.alloc (.cells #[] 29)
  replace HSH := hd (HSH.out.below ((Below.refl _ _).alloc (Nat.le_refl _) (.cells #[] 29)))
  replace B := B.alloc B.size (.cells #[] 29)
  go_wp2_with fail
  generalize w1.alloc (.cells #[] 29) = W at S1 O2 HSH B ⊢
  have HD0 := hd (show L.drop L.length = [] by simp)
  replace O2 := hd O2
  as_aux_lemma =>
  go_loopw [6, 7] (fun dv iv wr => ∃ k : Nat, k ≤ L.length ∧ iv = .int .i64 ((k : Int) - 1) ∧ Hid (Sl wr 4 dv eTitle (L.drop k)) ∧ Hid (Below W.heap.size W wr)) (fun _ iv _ => (intOf iv + 1).toNat)
  case atStart => exact ⟨L.length, Nat.le_refl _, rfl, hd (by rw [HD0.out]; exact O2.out), hd (Below.refl _ _)⟩
  case round =>
    obtain ⟨k, hk, rfl, SD, BW⟩ := hrel
    clear O2 HD0
    rcases k with _ | j
    case succ =>
      as_aux_lemma =>
      have hj : j < L.length := hk
      have ej : (((j + 1 : Nat) : Int) - 1) = (j : Int) := by omega
      rw [ej]
      have hok := HOK.out
      have HA := hd (add_back hok hj)
      have HA2 := hd (add_self hok hj)
      have HF := hd (find_self hok hj)
      have HX := okTitles_at hok j hj
      have HV := hd (okTitles_drop hok j)
      have hdl : (L.drop j).length = (L.drop (j + 1)).length + 1 := by simp; omega
      have hdz : (L.drop (j + 1)).length ≤ 20 := by simp; omega
      generalize L.drop (j + 1) = D0 at SD HA hdl hdz
      generalize hD1 : L.drop j = D1 at HA HV hdl
      replace hdl := hd hdl
      replace hD1 := hd hD1
      clear hok ej
      have B := hd (below_step B BW.out)
      have SH := HSH.out.below BW.out
      have BB := BW.out
      have S2 := S1.below BW.out
      have SD2 := SD.out
      clear SD BW
      obtain ⟨AD, cD, rfl⟩ := SD2.isSlice
      obtain ⟨bb, o, rfl, -, p0, p1, p2, p3⟩ := S2.Title_at hj
      generalize L[j] = x at p0 p1 p2 p3 HA HA2 HF HX
      obtain ⟨a, b, c, d⟩ := x
      dsimp only at p0 p1 p2 p3 HF
      have HT := hd (readT_text HX)
      have HSZ := titleS_size HX
      have HTX := hd (show textR a b c d = titleS a b c d by unfold textR; rw [if_pos HX])
      replace HX := hd HX
      go_wp2_with fail
      refine (addT_impl _ _ _ SD2 _ _ _ _).mono ?_
      rintro e w2 ⟨v2, rfl, O2, B2⟩
      rw [HA.out] at O2 ⊢
      replace BB := below_step BB B2
      replace S2 := S2.below B2
      replace SH := SH.below B2
      have SN := O2.sl eTitle_len
      obtain ⟨AN, cN, rfl⟩ := SN.isSlice
      have p0' := (B2.cell (World.block_lt_of_cell? _ _ p0)).trans p0
      have p1' := (B2.cell (World.block_lt_of_cell? _ _ p1)).trans p1
      have p2' := (B2.cell (World.block_lt_of_cell? _ _ p2)).trans p2
      have p3' := (B2.cell (World.block_lt_of_cell? _ _ p3)).trans p3
      clear p0 p1 p2 p3 O2 HA SD2 B2
      go_wp2_with fail
      refine (addT_impl _ _ _ S2 _ _ _ _).mono ?_
      rintro e w3 ⟨v3, rfl, O3, B3⟩
      rw [HA2.out] at O3 ⊢
      obtain ⟨A3, c3, rfl⟩ := (O3.sl eTitle_len).isSlice
      replace BB := below_step BB B3
      replace S2 := S2.below B3
      replace SN := SN.below B3
      replace SH := SH.below B3
      have p0 := (B3.cell (World.block_lt_of_cell? _ _ p0')).trans p0'
      have p1 := (B3.cell (World.block_lt_of_cell? _ _ p1')).trans p1'
      have p2 := (B3.cell (World.block_lt_of_cell? _ _ p2')).trans p2'
      have p3 := (B3.cell (World.block_lt_of_cell? _ _ p3')).trans p3'
      clear p0' p1' p2' p3' O3 HA2 B3
      go_wp2_with fail
      refine (find_impl _ _ _ S2 _).mono ?_
      rintro e w4 ⟨rfl, B4⟩
      rw [HF.out]
      replace BB := below_step BB B4
      replace S2 := S2.below B4
      replace SN := SN.below B4
      replace SH := SH.below B4
      have p0' := (B4.cell (World.block_lt_of_cell? _ _ p0)).trans p0
      have p1' := (B4.cell (World.block_lt_of_cell? _ _ p1)).trans p1
      have p2' := (B4.cell (World.block_lt_of_cell? _ _ p2)).trans p2
      have p3' := (B4.cell (World.block_lt_of_cell? _ _ p3)).trans p3
      clear p0 p1 p2 p3 HF B4
      go_wp2_with fail
      refine (ttext_impl _ _ _ _ _ SH.1).mono ?_
      rintro e w5 ⟨rfl, B5⟩
      replace BB := below_step BB B5
      replace S2 := S2.below B5
      replace SN := SN.below B5
      replace SH := SH.below B5
      have p0 := (B5.cell (World.block_lt_of_cell? _ _ p0')).trans p0'
      have p1 := (B5.cell (World.block_lt_of_cell? _ _ p1')).trans p1'
      have p2 := (B5.cell (World.block_lt_of_cell? _ _ p2')).trans p2'
      have p3 := (B5.cell (World.block_lt_of_cell? _ _ p3')).trans p3'
      clear p0' p1' p2' p3' B5
      have htz : (textR a b c d).size ≤ 1048576 := by rw [HTX.out]; omega
      go_wp2_with fail
      refine (readT_impl _ _ htz SH).mono ?_
      rintro e w6 ⟨rfl, B6⟩
      rw [HT.out.1, HT.out.2]
      dsimp only
      replace BB := below_step BB B6
      replace S2 := S2.below B6
      replace SN := SN.below B6
      have p0' := (B6.cell (World.block_lt_of_cell? _ _ p0)).trans p0
      have p1' := (B6.cell (World.block_lt_of_cell? _ _ p1)).trans p1
      have p2' := (B6.cell (World.block_lt_of_cell? _ _ p2)).trans p2
      have p3' := (B6.cell (World.block_lt_of_cell? _ _ p3)).trans p3
      clear p0 p1 p2 p3 B6 SH HT htz HTX HSZ
      have q0 := new_cell w6 #[.int .i64 a, .string b, .int .i64 c, .int .i64 d] 29 0 _ rfl
      have q1 := new_cell w6 #[.int .i64 a, .string b, .int .i64 c, .int .i64 d] 29 1 _ rfl
      have q2 := new_cell w6 #[.int .i64 a, .string b, .int .i64 c, .int .i64 d] 29 2 _ rfl
      have q3 := new_cell w6 #[.int .i64 a, .string b, .int .i64 c, .int .i64 d] 29 3 _ rfl
      have EB := (Below.refl w6.heap.size w6).alloc (Nat.le_refl _) (.cells #[.int .i64 a, .string b, .int .i64 c, .int .i64 d] 29)
      replace BB := below_step BB EB
      replace S2 := S2.below EB
      replace SN := SN.below EB
      have p0 := (EB.cell (World.block_lt_of_cell? _ _ p0')).trans p0'
      have p1 := (EB.cell (World.block_lt_of_cell? _ _ p1')).trans p1'
      have p2 := (EB.cell (World.block_lt_of_cell? _ _ p2')).trans p2'
      have p3 := (EB.cell (World.block_lt_of_cell? _ _ p3')).trans p3'
      clear p0' p1' p2' p3' EB
      go_upto_region 12 with fail
      generalize w6.alloc (.cells #[.int .i64 a, .string b, .int .i64 c, .int .i64 d] 29) = W7 at q0 q1 q2 q3 BB S2 SN p0 p1 p2 p3 ⊢
      generalize w6.heap.size = gb at q0 q1 q2 q3 ⊢
      have e1 : (((D1.length : Nat) : Int) != ((D0.length : Nat) : Int) + 1) = false := by rw [hdl.out]; simp
      have ej : ((j : Int) != (j : Int)) = false := by simp
      have g0 := gro_cell p0
      have g1 := gro_cell p1
      have g2 := gro_cell p2
      have g3 := gro_cell p3
      have k0 := gro_cell q0
      have k1 := gro_cell q1
      have k2 := gro_cell q2
      have k3 := gro_cell q3
      have HVC := hd (fun x : Ext W7 => (show Calls Tryd.prog 10 #[.slice AN D1.length cN] (gro W7 x) fun e w'' => e = .returned (.bool true) ∧ ∃ y, w'' = gro W7 y from HV.out ▸ calm_of (titles_spec (gro W7 x) _ D1 (SN.below x.below))))
      clear hdl
      refine wp_region_calm (by kernel_rfl) (by kernel_rfl) ?_
      repeat (first | go_big_quiet_step ((go_at_call 10; exact HVC.out _)) | quiet_step ((go_at_call 10; exact HVC.out _)))
      refine wpQuiet_nil ?_
      rintro w8 ⟨xw, rfl⟩
      have BN := hd (below_step BB (gro_below xw))
      have SN2 : Hid (Sl (gro W7 xw) 4 (.slice AN D1.length cN) eTitle (L.drop j)) := hd (by rw [hD1.out]; exact SN.below (gro_below xw))
      clear g0 g1 g2 g3 k0 k1 k2 k3 HVC q0 q1 q2 q3 p0 p1 p2 p3 BB S2 SN e1 ej
      generalize gro W7 xw = W8 at BN SN2 ⊢
      as_aux_lemma =>
      go_wp2_with fail
      go_roundw
      case rel => exact ⟨j, by omega, rfl, SN2, BN⟩
      case measure => first | (simp [intOf]; done) | (simp [intOf]; omega)
    case zero =>
      as_aux_lemma =>
      have ej : (((0 : Nat) : Int) - 1) = -1 := by omega
      rw [ej]
      clear ej
      have hok := HOK.out
      obtain ⟨q, hq1, hq2, hq3, hq4⟩ := free_is hok
      replace hq2 := hd hq2
      replace hq3 := hd hq3
      replace hq4 := hd hq4
      have S2 := S1.below BW.out
      have SD2 := SD.out
      simp only [List.drop_zero] at SD2
      obtain ⟨AD, cD, rfl⟩ := SD2.isSlice
      have BB := BW.out
      clear SD BW
      go_wp2_with fail
      refine (free_impl _ _ _ S2 hok).mono ?_
      rintro e w2 ⟨rfl, B2⟩
      rw [hq2.out]
      replace S2 := S2.below B2
      replace SD2 := SD2.below B2
      replace BB := below_step BB B2
      clear B2 hok
      have hmx := hd (show max 1 ((q : Int) + 1) = (q : Int) + 1 by omega)
      go_wp2_with fail
      refine (find_impl _ _ _ S2 _).mono ?_
      rintro e w3 ⟨rfl, B3⟩
      first | rw [hmx.out, hq3.out] | rw [hq3.out]
      replace S2 := S2.below B3
      replace SD2 := SD2.below B3
      replace BB := below_step BB B3
      clear B3 hmx
      go_wp2_with fail
      refine (sameTitles_spec _ _ _ _ _ SD2 S2).mono ?_
      rintro e w4 ⟨rfl, B4⟩
      rw [decide_eq_true rfl]
      replace S2 := S2.below B4
      replace BB := below_step BB B4
      clear B4 SD2
      have f1 : decide ((q : Int) + 1 < 1) = false := by simp; omega
      have f2 : decide ((L.length : Int) + 1 < (q : Int) + 1) = false := by simp; omega
      have f3 : decide (L.length < q) = false := by simp; omega
      go_wp2_with fail
      clear f1 f2 f3
      as_aux_lemma =>
      go_loopw [20] (fun iv wr => ∃ j : Nat, j ≤ q ∧ iv = .int .i64 ((j : Int) + 1) ∧ Hid (Below w4.heap.size w4 wr)) (fun iv _ => q + 1 - (intOf iv).toNat)
      case atStart => exact ⟨0, Nat.zero_le _, rfl, hd (Below.refl _ _)⟩
      case round =>
        obtain ⟨j, hj, rfl, BW⟩ := hrel
        by_cases hjq : j < q
        · as_aux_lemma =>
          have hc := hd (hq4.out ((j : Int) + 1) (by omega) (by omega))
          go_wp2_with fail
          refine (find_spec _ _ _ (S2.below BW.out) _).mono ?_
          rintro e w5 ⟨rfl, B5⟩
          rw [hc.out]
          have BN := hd (below_step BW.out B5)
          clear hc B5 BW
          generalize (findR L ((j : Int) + 1)).1 = z
          go_wp2_with fail
          go_roundw
          case rel => exact ⟨j + 1, by omega, by first | go_num | (congr 1; omega), BN⟩
          case measure => simp [intOf]; omega
        · by_cases hz : L.length = 0
          · as_aux_lemma =>
            have e1 : ((L.length : Int) == 0) = true := by simp [hz]
            have BN := hd (B.trans ((below_step BB BW.out).mono B.size))
            clear hz
            go_wp2_with fail
            go_ret
            exact ⟨rfl, BN.out⟩
          · as_aux_lemma =>
            have e1 : ((L.length : Int) == 0) = false := by simpa using hz
            have BN := B.trans ((below_step BB BW.out).mono B.size)
            have hMW := hM.below BN
            have S3 := S2.below BW.out
            have hL1 : (1 : Int) ≤ (L.length : Int) := by omega
            have hL0 : 0 < L.length := by omega
            clear hz
            go_wp2_with fail
            refine (a2at _ _ _ hMW 0 (L.length : Int) hL1 (by omega) (by omega)).mono ?_
            rintro e w6 ⟨x, ⟨x1, x2⟩, rfl, hw⟩
            have hw := hw.symm
            subst hw
            obtain ⟨k, rfl⟩ : ∃ k : Nat, x = (k : Int) := ⟨x.toNat, by omega⟩
            have hkL : k < L.length := by omega
            have hok := HOK.out
            obtain ⟨bb, o, rfl, -, p0, p1, p2, p3⟩ := S3.Title_at hkL
            by_cases hbg : L[k].2.2.2 = L[k].2.2.1
            · as_aux_lemma =>
              have HB := hd (break_state hok hkL hbg)
              generalize L[k] = x at p0 p1 p2 p3 HB hbg
              obtain ⟨a, b, c, d⟩ := x
              dsimp only at p0 p1 p2 p3 HB hbg
              subst hbg
              have r0 := new_cell wr #[.int .i64 a, .string b, .int .i64 d, .int .i64 d] 29 0 _ rfl
              have r1 := new_cell wr #[.int .i64 a, .string b, .int .i64 d, .int .i64 d] 29 1 _ rfl
              have r2 := new_cell wr #[.int .i64 a, .string b, .int .i64 d, .int .i64 d] 29 2 _ rfl
              have r3 := new_cell wr #[.int .i64 a, .string b, .int .i64 d, .int .i64 d] 29 3 _ rfl
              have EB := (Below.refl wr.heap.size wr).alloc (Nat.le_refl _) (.cells #[.int .i64 a, .string b, .int .i64 d, .int .i64 d] 29)
              replace BN := below_step BN EB
              replace S3 := S3.below EB
              clear EB
              go_upto_region 28 with fail
              clear p0 p1 p2 p3
              generalize wr.alloc (.cells #[.int .i64 a, .string b, .int .i64 d, .int .i64 d] 29) = W9 at r0 r1 r2 r3 BN S3 ⊢
              generalize wr.heap.size = gx at r0 r1 r2 r3 ⊢
              go_wp2_with fail
              refine (break_impl _ _ _ S3 _).mono ?_
              rintro e w7 ⟨v7, rfl, O7, B7⟩
              rw [HB.out] at O7 ⊢
              obtain ⟨A7, c7, rfl⟩ := (O7.sl eTitle_len).isSlice
              have r2' := (B7.cell (World.block_lt_of_cell? _ _ r2)).trans r2
              have r3' := (B7.cell (World.block_lt_of_cell? _ _ r3)).trans r3
              have BZ := hd (below_step BN B7)
              clear r0 r1 r2 r3 O7 B7 HB S3 BN
              have e5 : (d == d) = true := by simp
              go_wp2_with fail
              go_ret
              exact ⟨rfl, BZ.out⟩
            · as_aux_lemma =>
              obtain ⟨HB1, HB2, HB3, HB4, HB5⟩ := break_mend hok hkL hbg
              replace HB1 := hd HB1
              replace HB2 := hd HB2
              replace HB3 := hd HB3
              replace HB4 := hd HB4
              replace HB5 := hd HB5
              generalize L[k] = x at p0 p1 p2 p3 HB1 HB2 HB3 HB4 HB5 hbg
              obtain ⟨a, b, c, d⟩ := x
              dsimp only at p0 p1 p2 p3 HB1 HB2 HB3 HB4 HB5 hbg
              have e6 : (d == c) = false := by simpa using hbg
              have HXB := hd (okTitleB_bd (okTitles_at HB4.out k (by simpa using hkL)))
              have hl2 : (L.set k (broken (a, b, c, d) (d + 1))).length = L.length := by simp
              have hl3 : ((L.set k (broken (a, b, c, d) (d + 1))).set k (broken (a, b, c, d) 0)).length = L.length := by simp
              have hdb : -1000000 ≤ d ∧ d ≤ 1000000 := by
                have h1 := okTitleB_bd (okTitles_at HB2.out k (by simpa using hkL))
                simp [broken] at h1
                omega
              obtain ⟨hd1, hd2⟩ := hdb
              replace hl2 := hd hl2
              replace hl3 := hd hl3
              have r0 := new_cell wr #[.int .i64 a, .string b, .int .i64 c, .int .i64 d] 29 0 _ rfl
              have r1 := new_cell wr #[.int .i64 a, .string b, .int .i64 c, .int .i64 d] 29 1 _ rfl
              have r2 := new_cell wr #[.int .i64 a, .string b, .int .i64 c, .int .i64 d] 29 2 _ rfl
              have r3 := new_cell wr #[.int .i64 a, .string b, .int .i64 c, .int .i64 d] 29 3 _ rfl
              have EB := (Below.refl wr.heap.size wr).alloc (Nat.le_refl _) (.cells #[.int .i64 a, .string b, .int .i64 c, .int .i64 d] 29)
              replace BN := below_step BN EB
              replace S3 := S3.below EB
              clear EB
              go_upto_region 28 with fail
              clear p0 p1 p2 p3
              generalize wr.alloc (.cells #[.int .i64 a, .string b, .int .i64 c, .int .i64 d] 29) = W9 at r0 r1 r2 r3 BN S3 ⊢
              generalize wr.heap.size = gx at r0 r1 r2 r3 ⊢
              clear hbg
              go_wp2_with fail
              refine (break_impl _ _ _ S3 _).mono ?_
              rintro e w7 ⟨v7, rfl, O7, B7⟩
              rw [HB1.out] at O7 ⊢
              have S7 := O7.sl eTitle_len
              generalize L.set k (broken (a, b, c, d) (d + 1)) = L7 at HB2 HB3 HB4 HB5 hl2 hl3 S7 O7 ⊢
              generalize L7.set k (broken (a, b, c, d) 0) = L8 at HB3 HB4 HB5 hl3
              obtain ⟨A7, c7, rfl⟩ := S7.isSlice
              have r0' := (B7.cell (World.block_lt_of_cell? _ _ r0)).trans r0
              have r2' := (B7.cell (World.block_lt_of_cell? _ _ r2)).trans r2
              have r3' := (B7.cell (World.block_lt_of_cell? _ _ r3)).trans r3
              replace BN := below_step BN B7
              clear r0 r1 r2 r3 O7 B7 HB1 S3
              go_wp2_with fail
              refine (mend_impl _ _ _ S7 _).mono ?_
              rintro e w8 ⟨v8, rfl, O8, B8⟩
              rw [HB3.out] at O8 ⊢
              have S8 := O8.sl eTitle_len
              obtain ⟨A8, c8, rfl⟩ := S8.isSlice
              have r0 := (B8.cell (World.block_lt_of_cell? _ _ r0')).trans r0'
              have r3 := (B8.cell (World.block_lt_of_cell? _ _ r3')).trans r3'
              replace BN := below_step BN B8
              replace S7 := S7.below B8
              clear r0' r2' r3' O8 B8 HB3
              go_wp2_with fail
              refine (whole_impl _ _ _ S8 HB4.out).mono ?_
              rintro e w9 ⟨v9, rfl, O9, B9⟩
              dsimp only at O9
              have S9 := O9.sl eI_len
              obtain ⟨A9, c9, rfl⟩ := S9.isSlice
              have r0' := (B9.cell (World.block_lt_of_cell? _ _ r0)).trans r0
              have r3' := (B9.cell (World.block_lt_of_cell? _ _ r3)).trans r3
              replace BN := below_step BN B9
              replace S7 := S7.below B9
              clear r0 r3 O9 B9 S8
              go_wp2_with fail
              refine (titles_spec _ _ _ S7).mono ?_
              rintro e w10 ⟨rfl, B10⟩
              rw [HB2.out]
              have r0 := (B10.cell (World.block_lt_of_cell? _ _ r0')).trans r0'
              have r3 := (B10.cell (World.block_lt_of_cell? _ _ r3')).trans r3'
              replace BN := below_step BN B10
              replace S9 := S9.below B10
              clear r0' r3' B10 S7
              have e7 : ((L8.length : Int) == (L.length : Int)) = true := by rw [hl3.out]; simp
              have e8 : (d + 1 == d + 1) = true := by simp
              go_wp2_with fail
              refine (a2in _ _ _ S9 _).mono ?_
              rintro e w11 ⟨rfl, hw⟩
              have hw := hw.symm
              subst hw
              rw [show isIn (wholeT L8) a = true from HB5.out]
              go_wp2_with fail
              go_ret
              exact ⟨rfl, BN⟩


def FnTitles_laid : List (String × DataW Unit) := [("math/bits.deBruijn32tab", Rows.laid_math_bits_deBruijn32tab), ("math/bits.deBruijn64tab", Rows.laid_math_bits_deBruijn64tab), ("internal/strconv.uint64pow10", Rows.laid_internal_strconv_uint64pow10), ("unicode/utf8.acceptRanges", Rows.laid_unicode_utf8_acceptRanges), ("strconv.ErrRange", Rows.laid_strconv_ErrRange), ("strconv.ErrSyntax", Rows.laid_strconv_ErrSyntax), ("unicode/utf8.first", Rows.laid_unicode_utf8_first)]
set_option maxRecDepth 100000 in
theorem FnTitles_tab {W : World} (h0 : laidMetH Tryd.prog FnTitles_laid W) : Tab W := by
  rw [MakeChecks.laidMetH_plain _ _ _ (by kernel_rfl)] at h0
  have h : laidMet Tryd.prog FnTitles_laid W := h0
  exact Lib.tabIs_of_head (g := 3) (t := 115) (e := 63) (n := 20) (by kernel_rfl) (by kernel_rfl) Tryd.underlying115 Tryd.underlying63 (by kernel_rfl) (by kernel_rfl) (laidMet.tail (laidMet.tail h))
set_option maxRecDepth 100000 in
theorem FnTitles_errs {W : World} (h0 : laidMetH Tryd.prog FnTitles_laid W) : Errs W := by
  rw [MakeChecks.laidMetH_plain _ _ _ (by kernel_rfl)] at h0
  have h : laidMet Tryd.prog FnTitles_laid W := h0
  exact ⟨syntax_of_laid (laidMet.tail (laidMet.tail (laidMet.tail (laidMet.tail (laidMet.tail h))))), range_of_laid (laidMet.tail (laidMet.tail (laidMet.tail (laidMet.tail h))))⟩
set_option maxRecDepth 100000 in
theorem FnTitles_lifted (os : Os) (started : os.Started) (H : Type) (enc : TypeId × Value → H) :
    ReturnsInHanded {} Tryd.checked os 3 .any (fun w args => (Rows.fnTitlesSpec.pre enc Tryd.prog Tryd.f3 [] false w args ∧ laidMetH Tryd.prog FnTitles_laid w) ∧ sizedMet enc Tryd.prog Tryd.f3 (OpenSpec.ofChange Rows.fnTitlesSpec) false w args)
      (Rows.fnTitlesSpec.post enc Tryd.prog Tryd.f3 false true false false) := by
  refine handed_shop (C := Tryd.checked) (X := fun w _ => laidMetH Tryd.prog FnTitles_laid w) (fun _ _ _ hh h => h.of_heap hh) own_knob started (by kernel_rfl) Tryd.func3
    (ChangeSpec.witness_shaped (enc := enc) (C := Tryd.checked) (os := os) (X := fun w _ => laidMetH Tryd.prog FnTitles_laid w) false (World.laidAll Tryd.prog os FnTitles_laid) #[.slice none 0 0, .slice none 0 0] 8 (World.laidAll_os _ _ _) (World.shaped_of_ZipB (by kernel_rfl) (by kernel_rfl)) (by kernel_rfl) (by kernel_rfl) (by kernel_rfl)
      (by rw [MakeChecks.laidMetH_plain _ _ _ (by kernel_rfl)]; exact laidMet_laidAll _ (by kernel_rfl) (by kernel_rfl))) ?_
  intro W base args ds gs before hval0 hW hL hsh
  have hval : ∀ (j : Nat) t v, Tryd.f3.params[j]? = some t → args[j]? = some v → Value.okWide Tryd.prog W .any base t v := hval0
  have hW' := hW
  obtain ⟨p, q, hA0, hV, rfl, hfz, hnd⟩ := hW
  have hA : DataW.TrodAll enc Tryd.prog W 0 (fun _ => true) true Tryd.f3.params.toList args.toList ds p := hA0
  rw [Tryd.params3] at hA hval
  obtain ⟨v0, vs0, d0, ds0, p0, q0, hargs, rfl, rfl, h0, r0⟩ := trodAll_cons hA
  obtain ⟨v1, vs1, d1, ds1, p1, q1, rfl, rfl, rfl, h1, r1⟩ := trodAll_cons r0
  obtain ⟨rfl, rfl, rfl⟩ := trodAll_nil r1
  obtain rfl : args = #[v0, v1] := by cases args; simp_all
  obtain ⟨rfl, rfl⟩ := trodVars_none hV
  have k0 := h0
  have lt0 : ∀ x ∈ p0, x.block < W.heap.size := by obtain ⟨m, hm⟩ := k0; exact DataW.trod_lt m _ _ _ hm
  have k1 := h1
  have lt1 : ∀ x ∈ p1, x.block < W.heap.size := by obtain ⟨m, hm⟩ := k1; exact DataW.trod_lt m _ _ _ hm
  obtain ⟨l0, sl0, wf0⟩ := sl_of_bytes Tryd.underlying22 Tryd.underlying5 (by kernel_rfl) (hval 0 22 v0 rfl rfl) h0
  obtain ⟨l1, sl1, wf1⟩ := sl_of_bytes Tryd.underlying22 Tryd.underlying5 (by kernel_rfl) (hval 1 22 v1 rfl rfl) h1
  refine (law_FnTitles W v0 l0 sl0 wf0 v1 l1 sl1 wf1 ⟨FnTitles_tab hL, FnTitles_errs hL, maxL_of_shape hsh⟩).mono fun e W' ⟨he, bel⟩ => ?_
  subst he
  exact ⟨_, rfl, _, _, _, [], _, [], hW', trodAll_mk1 (shut_bool Tryd.underlying4 _), (trodAll_cons_mk (Below.trod laid_out (by kernel_rfl) (of_decide_eq_true (by kernel_rfl)) k0 bel lt0) (trodAll_cons_mk (Below.trod laid_out (by kernel_rfl) (of_decide_eq_true (by kernel_rfl)) k1 bel lt1) trodAll_mk0)), rfl, bel.frame _, fun h => by cases h⟩

theorem FnTitles_closed : joinedFacts Tryd.pinned.checked.prog 3 Tryd.f3 Rows.fnTitlesSpec Rows.fnTitlesRow = true := by kernel_rfl

theorem FnTitles_named : Tryd.pinned.checked.prog.funcNamed Rows.fnTitlesRow.func = some 3 := by kernel_rfl

theorem FnTitles_row : Rows.FnTitlesSaid :=
  OpenClaim.holds_of_wide 3 Tryd.f3 rfl rfl rfl rfl rfl rfl rfl ⟨rfl, rfl, rfl, rfl, rfl⟩ rfl rfl rfl rfl rfl FnTitles_named Tryd.func3 FnTitles_closed
    (of_decide_eq_true (by kernel_rfl)) (by unfold Func.isWrapper; first | (rw [if_pos (by decide +kernel)]; kernel_rfl) | (rw [if_neg (by decide +kernel)]; exact ⟨rfl, rfl⟩))
    (fun os started H enc _ => FnTitles_lifted os started H enc)


theorem FnTitles_holds : Rows.FnTitlesCardSaid :=
  Claim7.holds_tied_plain_at .later [] [.data, .data, .data, .data, .sentinel, .sentinel, .pinned] true Rows.fnTitlesCard.stood.harness true
    FnTitles_row (fun _ h => by cases h) (by kernel_rfl) (fun _ h => by cases h) fnTitles_row_tie rfl ⟨rfl, rfl⟩ (by kernel_rfl) rfl
    (fun f fn hf hfn => by
      obtain rfl : f = 3 := (Option.some.inj (FnTitles_named.symm.trans hf)).symm
      obtain rfl : fn = Tryd.f3 := (Option.some.inj (Tryd.func3.symm.trans hfn)).symm
      exact ⟨by kernel_rfl, fun j t ht => by
        rw [Tryd.params3] at ht
        have hm : t ∈ [22, 22] := by simpa using Array.mem_of_getElem? ht
        have hall : ([22, 22].all fun u => !Tryd.prog.wantsStandIn u) = true := by kernel_rfl
        exact (show Tryd.prog.wantsStandIn t = false by simpa using List.all_eq_true.1 hall t hm)⟩)
    (by kernel_rfl)
#print axioms FnTitles_holds

end Go.Proofs.YtnpejedeidnjnaaDoor
