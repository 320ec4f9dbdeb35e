/- Texts of the claim, joined: each says at its head what it proves. No condition. -/
import Derived.Test.YtgcodjkjdfahdaaGreatDoorJ47
import Derived.Test.YtgcodjkjdfahdaaGreatDoorJ40
import Derived.Test.YtgcodjkjdfahdaaGreatDoorJ38
import Derived.Deep.RegionLaw
/- The lines of a text for the console: the program's RunDesk. No condition but that the tables lie as they are laid. -/
namespace Go.Proofs.YtgcodjkjdfahdaaGreatDoor
open Go Go.RowKit Go.ChangeShapes Go.WideShapes
set_option linter.unusedSimpArgs false
set_option linter.unusedVariables false
theorem list_false {x : ByteArray} (h : x ≠ ⟨#[]⟩) : x.toList.isEmpty = false := by
  rw [ByteArray.toList_eq]
  rcases hl : x.data.toList with _ | ⟨a, r⟩
  · exact absurd (toList_empty hl) h
  · rfl
theorem list_true {x : ByteArray} (h : x = ⟨#[]⟩) : x.toList.isEmpty = true := by rw [h, ByteArray.toList_eq]; rfl
theorem catTo_size {M : List ByteArray} {m : Nat} (h : ∀ x ∈ M, x.size ≤ m) (j : Nat) : (catTo M j).size ≤ (m + 1) * j := by
  refine Nat.le_trans (catL_size (m := m) fun x hx => h x (List.mem_of_mem_take hx)) (Nat.mul_le_mul (Nat.le_refl _) ?_)
  rw [List.length_take]
  omega
theorem rinv_start (w : World) (B : Nat) (hB : B ≤ w.heap.size) : RInv B (w.heap.size + 1) (d0K, []) (.slice (some ⟨w.heap.size, 0, none⟩) 0 0) ((w.alloc (.cells #[] 9)).alloc (.cells #[.string ⟨#[97, 98, 99, 100]⟩, .slice none 0 0, .slice none 0 0, .string ⟨#[]⟩] 29)) := by
  have hz : (w.alloc (.cells #[] 9)).heap.size = w.heap.size + 1 := by simp
  have D := desk_new (w.alloc (.cells #[] 9)) ⟨#[97, 98, 99, 100]⟩ (.slice none 0 0) (.slice none 0 0) ⟨#[]⟩ 29
  have F := heap_alloc_new (w.alloc (.cells #[] 9)) (.cells #[.string ⟨#[97, 98, 99, 100]⟩, .slice none 0 0, .slice none 0 0, .string ⟨#[]⟩] 29)
  rw [hz] at D F
  refine ⟨_, _, D, fun i => free2 F i, by omega, Own.nil _ _ _ _ _, Own.nil _ _ _ _ _, (Own.made0 w B 9 1 eS hB).alloc _, by simp [Value.ownBlock], by simp [Value.ownBlock], ?_, .inl rfl, .inl rfl⟩
  intro k e
  have e2 : w.heap.size = k := by simpa [Value.ownBlock] using e
  omega
theorem nd_impl (w : World) : Calls Tryz.prog 8 #[] w fun e w' => e = .returned (.agg #[.string ⟨#[97, 98, 99, 100]⟩, .slice none 0 0, .slice none 0 0, .string ⟨#[]⟩]) ∧ Below w.heap.size w w' := by
  have hb := (Below.refl w.heap.size w).alloc (Nat.le_refl _) (.cells #[.string ⟨#[97, 98, 99, 100]⟩, .slice none 0 0, .slice none 0 0, .string ⟨#[]⟩] 29)
  go_enter Tryz.func8, Tryz.ntmps8
  go_wp2_with fail
  exact bodyPost_ret (v := .agg #[.string ⟨#[97, 98, 99, 100]⟩, .slice none 0 0, .slice none 0 0, .string ⟨#[]⟩]) (by simp [results, Tryz.results8, go_sem]) rfl ⟨rfl, hb⟩
set_option maxRecDepth 100000 in
set_option maxHeartbeats 8000000 in
theorem run_impl (w : World) (text : ByteArray) (hz : text.size ≤ 1048576) (hsh : Shop w) (hnm : Names w) :
    Calls Tryz.prog 12 #[.string text] w fun e w' => e = .returned (.string (runR text)) ∧ Below w.heap.size w w' := by
  obtain ⟨i0, hi, hz0, hz1, hz2⟩ := info_parts info_str
  have HRR := hd (show runR text = catL (outL (trimL (partsB 10 text))) from rfl)
  have HSPL := hd (split_impl w text 10 hz hsh.2.2)
  obtain ⟨L0, hL0⟩ : ∃ L0, partsB 10 text = L0 := ⟨_, rfl⟩
  have hl0 := partsB_len_le 10 text
  have hwz := partsB_size 10 text
  have hp0 := partsB_pos 10 text
  rw [hL0] at hl0 hwz hp0
  replace HRR := hd (show runR text = catL (outL (trimL L0)) by rw [HRR.out, hL0])
  replace HSPL := hd (hL0 ▸ HSPL.out)
  have HSH := hd (fun W (hb : Below w.heap.size w W) => (⟨hsh.below hb, hnm.below hb⟩ : Shop W ∧ Names W))
  clear hL0 hsh hnm
  go_enter Tryz.func12, Tryz.ntmps12
  go_wp2_with fail
  refine HSPL.out.mono ?_
  rintro e w1 ⟨v0, rfl, O0, B1⟩
  have S0 := O0.sl eS_len
  clear O0 HSPL
  obtain ⟨b, o, c, rfl, hb, hc, hcell⟩ := S0.strs hp0
  have hlast := hcell (L0.length - 1) (L0[L0.length - 1]'(by omega)) (List.getElem?_eq_getElem (by omega))
  have HTR := hd (show trimL L0 = if (L0[L0.length - 1]'(by omega)) = ⟨#[]⟩ then L0.take (L0.length - 1) else L0 by
    unfold trimL
    rw [List.getD_eq_getElem?_getD, List.getElem?_eq_getElem (show L0.length - 1 < L0.length by omega)]
    rfl)
  generalize L0[L0.length - 1]'(by omega) = x at hlast HTR
  have HSB := hd (fun (n : Nat) (L : List ByteArray) (h : (n = L0.length ∧ L = L0) ∨ (n = L0.length - 1 ∧ L = L0.take (L0.length - 1))) => (by
    rcases h with ⟨rfl, rfl⟩ | ⟨rfl, rfl⟩
    · exact S0
    · exact S0.takenT (L0.length - 1) (by omega) : Sl w1 1 (.slice (some ⟨b, o, none⟩) n c) eS L))
  have HLN := hd (show (trimL L0).length ≤ L0.length ∧ ∀ x ∈ trimL L0, x.size ≤ 1048576 from by
    have hz2 : ∀ x ∈ L0, x.size ≤ 1048576 := fun x hx => Nat.le_trans (hwz x hx) hz
    unfold trimL
    split
    · exact ⟨by rw [List.length_take]; omega, fun x hx => hz2 x (List.mem_of_mem_take hx)⟩
    · exact ⟨Nat.le_refl _, hz2⟩)
  have hn3 : L0.length - 1 < L0.length := by omega
  have hn4 : ((L0.length : Nat) : Int) - 1 = ((L0.length - 1 : Nat) : Int) := by omega
  obtain ⟨m, hm⟩ : ∃ m, L0.length = m + 1 := ⟨L0.length - 1, by omega⟩
  have hm1 : L0.length - 1 = m := by omega
  have hml : m ≤ 1048576 := by omega
  rw [hm1] at hlast HTR HSB
  rw [hm] at hc HSB ⊢
  clear hn3 hn4 hwz hp0 hl0 hcell S0
  have hmi : ((m + 1 : Nat) : Int) - 1 = (m : Int) := by omega
  obtain ⟨n, L, hnL, hnl, hcase⟩ : ∃ (n : Nat) (L : List ByteArray), Hid (Sl w1 1 (.slice (some ⟨b, o, none⟩) n c) eS L ∧ L.length = n ∧ trimL L0 = L) ∧ n ≤ 1048577 ∧ ((x = ⟨#[]⟩ ∧ n = m) ∨ (x ≠ ⟨#[]⟩ ∧ n = m + 1)) := by
    by_cases hx : x = ⟨#[]⟩
    · refine ⟨m, L0.take m, hd ⟨HSB.out m _ (.inr ⟨rfl, rfl⟩), by rw [List.length_take]; omega, by rw [HTR.out, if_pos hx]⟩, by omega, .inl ⟨hx, rfl⟩⟩
    · exact ⟨m + 1, L0, hd ⟨HSB.out (m + 1) _ (.inl ⟨rfl, rfl⟩), hm, by rw [HTR.out, if_neg hx]⟩, by omega, .inr ⟨hx, rfl⟩⟩
  replace HRR := hd (show runR text = catL (outL L) by rw [HRR.out, hnL.out.2.2])
  replace HLN := hd (show ∀ y ∈ L, y.size ≤ 1048576 from fun y hy => HLN.out.2 y (by rw [hnL.out.2.2]; exact hy))
  have SL := hd hnL.out.1
  have HLL := hd hnL.out.2.1
  clear hnL HSB HTR hm hm1
  rcases hcase with ⟨hx, hnm⟩ | ⟨hx, hnm⟩
  · have hx1 := list_true hx
    subst hnm
    clear hx
    go_wp2_with fail
    refine (nd_impl w1).mono ?_
    rintro e w2 ⟨rfl, B2⟩
    have RI := hd (rinv_start w2 w1.heap.size B2.size)
    have BW := hd ((B2.alloc B2.size (.cells #[] 9)).alloc (B2.alloc B2.size (.cells #[] 9)).size (.cells #[.string ⟨#[97, 98, 99, 100]⟩, .slice none 0 0, .slice none 0 0, .string ⟨#[]⟩] 29))
    clear B2 hlast hx1
    go_wp2_with fail
    generalize (w2.alloc (.cells #[] 9)).alloc (.cells #[.string ⟨#[97, 98, 99, 100]⟩, .slice none 0 0, .slice none 0 0, .string ⟨#[]⟩] 29) = W0 at RI BW ⊢
    obtain ⟨gd, hgd⟩ : ∃ gd, w2.heap.size + 1 = gd := ⟨_, rfl⟩
    rw [hgd] at RI ⊢
    clear hgd
    go_loopw [6, 32] (fun ov iv wr => ∃ k : Nat, k ≤ n ∧ k ≤ 60 ∧ iv = .int .i64 k ∧ Hid (RInv w1.heap.size gd (runTo L k) ov wr) ∧ Hid (Below w1.heap.size w1 wr)) (fun _ iv _ => n - (intOf iv).toNat)
    case atStart => exact ⟨0, Nat.zero_le _, Nat.zero_le _, rfl, RI, BW⟩
    case round =>
      obtain ⟨k, hk, hk60, rfl, HR, HB⟩ := hrel
      clear RI BW
      by_cases hlt : k < n
      · have hLk : k < L.length := by rw [HLL.out]; exact hlt
        have hlti : ((k : Int) < (n : Int)) := by omega
        obtain ⟨b', o', hA, -, hcx⟩ := (SL.out.below HB.out).str_at hLk
        injection hA with hA
        injection hA with ee1 ee2 _
        subst ee1
        subst ee2
        have hxz := HLN.out _ (List.getElem_mem hLk)
        have HST := hd (runTo_succ L k hLk)
        have HOK := hd (runTo_ok L k (by omega))
        obtain ⟨hsl, hsm⟩ := runTo_small L k (by omega)
        have hsl2 : (runTo L k).2.length ≤ 240060 := Nat.le_trans hsl (Nat.mul_le_mul (Nat.le_refl 4001) hk60)
        have HSM := hd hsm
        clear hsl hsm
        generalize L[k] = x at hcx hxz HST
        have HBw := hd (below_step B1 HB.out)
        by_cases h60 : k = 60
        · subst h60
          have hgt : 60 < L.length := hLk
          have HMO := hd (show outL L = (runTo L 60).2 ++ [fullS] by unfold outL; rw [if_neg (by omega)])
          obtain ⟨v1, v2, D, F, hBg, O1, O2, O3, n1, n2, n3, a1, a2⟩ := HR.out
          clear D F O1 O2 n1 n2 n3 a1 a2 HST HOK
          generalize (runTo L 60).2 = lo at HMO O3 hsl2 HSM
          have hbl : w1.heap.size ≤ wr.heap.size := HB.out.size
          go_wp2_with (at_builtin; refine wpList_push_at _ rfl _ _ 24 rfl i0 (.string ByteArray.empty) 16 Tryz.underlying24 hi hz0 hz1 hz2 rfl (by decide) _ lo fullS rfl (O3.alloc _) wr.heap.size rfl #[.string fullS] 9 (heap_alloc_new _ _) rfl rfl (by intro u hu; simp [eS] at hu; subst hu; rfl) (by unfold maxLen; omega) (by omega) (by simp; omega) ?_)
          intro ov' WM OM hgM hatM
          have HBM := hd ((HBw.out.alloc HBw.out.size (.cells #[.string fullS] 9)).grown hgM (Nat.le_trans HBw.out.size (by simp)) (fun q hq => Nat.le_trans B1.size (O3.lt q hq).1))
          have HMZ := hd (show ∀ y ∈ lo ++ [fullS], y.size ≤ 30000 from fun y hy => by
            rcases List.mem_append.1 hy with hy | hy
            · exact HSM.out y hy
            · rw [List.mem_singleton.1 hy]; decide)
          have hMl : (lo ++ [fullS]).length ≤ 240061 := by rw [List.length_append, List.length_singleton]; omega
          generalize lo ++ [fullS] = M at OM HMO HMZ hMl
          clear hgM hatM O3 HB HBw HR HSM HSH HLL hcx
          have SM := OM.sl eS_len
          obtain ⟨AM, cM, rfl⟩ := OM.isSlice
          have HRM := hd (show runR text = catL M by rw [HRR.out, HMO.out])
          clear HMO OM HLN SL HRR
          go_wp2_with fail
          go_loopw [12, 61] (fun av iv wr => ∃ j : Nat, j ≤ M.length ∧ iv = .int .i64 j ∧ av = .string (catTo M j) ∧ wr = WM) (fun _ iv _ => M.length - (intOf iv).toNat)
          case atStart => exact ⟨0, Nat.zero_le _, rfl, rfl, rfl⟩
          case round =>
            obtain ⟨j, hj, rfl, rfl, rfl⟩ := hrel
            by_cases hlj : j < M.length
            · obtain ⟨bM, oM, hAM, -, hcM⟩ := SM.str_at hlj
              subst hAM
              have HC := hd (catTo_succ M j hlj)
              have sz1 := catTo_size HMZ.out j
              have sz2 := HMZ.out _ (List.getElem_mem hlj)
              have sz3 : 30001 * j ≤ 30001 * 240061 := Nat.mul_le_mul (Nat.le_refl _) (by omega)
              generalize M[j] = y at hcM HC sz2
              generalize catTo M j = s at sz1 HC ⊢
              have sz4 : y.size + 1 ≤ 9223372036854775807 := by omega
              have sz5 : s.size + (y.size + 1) ≤ 9223372036854775807 := by omega
              go_wp2_with fail
              go_roundw
              case rel => exact ⟨j + 1, by omega, by go_num, by rw [HC.out]; rfl, by first | rfl | trivial⟩
              case measure => simp [intOf]; omega
            · obtain rfl : j = M.length := by omega
              have HE := hd (show catTo M M.length = runR text by rw [catTo_all, HRM.out])
              go_wp2_with fail
              go_ret
              exact ⟨by show Ending.returned (.string (catTo M M.length)) = _; rw [HE.out], HBM.out⟩
        · have HSHr := hd (HSH.out wr HBw.out)
          obtain ⟨v1, v2, D, F, hBg, O1, O2, O3, n1, n2, n3, a1, a2⟩ := id HR.out
          have hbd := okD_bd HOK.out
          have HCM := hd (cmd_impl wr (runTo L k).1 v1 v2 x (O1.sl eCue_len) (O2.sl eTitle_len) (Nat.le_trans hbd.1 (by decide)) (Nat.le_trans hbd.2.2.2 (by decide)) hxz HSHr.out.1 HSHr.out.2)
          have HCC := cmd_code HOK.out x
          have HSS := hd (show runTo L (k + 1) = if (cmdR (runTo L k).1 x).2.2 = 0 then ((cmdR (runTo L k).1 x).1, (runTo L k).2 ++ (cmdR (runTo L k).1 x).2.1) else ((runTo L k).1, (runTo L k).2 ++ [qS]) from HST.out)
          have hsm2 := (cmd_small (runTo L k).1 x).1
          generalize runTo L k = T at HR HCM HCC HSS hsl2 hsm2 HSM D O1 O2 O3
          obtain ⟨d, lo⟩ := T
          dsimp only at D O1 O2 O3 hsl2 HSM HCM HCC HSS hsm2
          generalize cmdR d x = rr at HCM HCC HSS hsm2
          obtain ⟨d', lo2, cc⟩ := rr
          dsimp only at HCC HSS hsm2
          have hkn : ¬ ((k : Int) = 60) := by omega
          have O3b := O3
          have D2 := D
          have F2 := F
          have n3b := n3
          obtain ⟨A1, c1, rfl⟩ := O1.isSlice
          obtain ⟨A2, c2, rfl⟩ := O2.isSlice
          obtain ⟨-, e0, e1, e2, e3⟩ := D
          clear O1 O2 n1 n2 a1 a2 F HST HOK hbd HSHr
          go_wp2_with fail
          refine HCM.out.mono ?_
          rintro e W1 ⟨u1, u2, lv, rfl, P1, P2, P3, hb⟩
          dsimp only at P1 P2 P3
          dsimp only
          obtain ⟨B1', y1, rfl⟩ := P1.isSlice
          obtain ⟨B2', y2, rfl⟩ := P2.isSlice
          have hbl : w1.heap.size ≤ wr.heap.size := HB.out.size
          have HL3 := hd (fun q (e : lv.ownBlock = some q) => (by have h1 := (P3.lt q e).1; have h2 := D2.1; omega : q ≠ gd))
          clear e0 e1 e2 e3 HCM
          rcases HCC with rfl | rfl
          · have HSS2 := hd (show runTo L (k + 1) = (d', lo ++ lo2) from HSS.out)
            clear HSS
            have E2 := desk_new W1 d'.1 (.slice B1' d'.2.1.length y1) (.slice B2' d'.2.2.1.length y2) d'.2.2.2 29
            have hb2 := hb.alloc hb.size (.cells #[.string d'.1, .slice B1' d'.2.1.length y1, .slice B2' d'.2.2.1.length y2, .string d'.2.2.2] 29)
            have Q1 := P1.alloc (.cells #[.string d'.1, .slice B1' d'.2.1.length y1, .slice B2' d'.2.2.1.length y2, .string d'.2.2.2] 29)
            have Q2 := P2.alloc (.cells #[.string d'.1, .slice B1' d'.2.1.length y1, .slice B2' d'.2.2.1.length y2, .string d'.2.2.2] 29)
            have Q3 := (P3.sl eS_len).alloc (.cells #[.string d'.1, .slice B1' d'.2.1.length y1, .slice B2' d'.2.2.1.length y2, .string d'.2.2.2] 29)
            have Q4 := (O3b.below hb (Nat.le_refl _)).alloc (.cells #[.string d'.1, .slice B1' d'.2.1.length y1, .slice B2' d'.2.2.1.length y2, .string d'.2.2.2] 29)
            have hgg : W1.heap.size ≠ gd := by have := D2.1; have := hb.size; omega
            obtain ⟨AO, cO, rfl⟩ := O3.isSlice
            obtain ⟨A3, y3, rfl⟩ := P3.isSlice
            have hol : ∀ q, (Value.slice AO lo.length cO).ownBlock = some q → q ≠ W1.heap.size := fun q e => by have h1 := (O3b.lt q e).2; have := hb.size; omega
            clear P1 P2 P3
            go_wp2_with fail
            generalize W1.alloc (.cells #[.string d'.1, .slice B1' d'.2.1.length y1, .slice B2' d'.2.2.1.length y2, .string d'.2.2.2] 29) = W2 at E2 hb2 Q1 Q2 Q3 Q4 ⊢
            generalize W1.heap.size = g2 at E2 hgg hol ⊢
            have DW := D2.below hb2
            have FW : ∀ i, W2.frozen? ⟨gd, i, none⟩ = false := fun i => (hb2.frozen (p := ⟨gd, i, none⟩) D2.1).trans (F2 i)
            have hng : (Value.slice AO lo.length cO).ownBlock = none ∨ (Value.slice AO lo.length cO).ownBlock ≠ some gd := ne_of_all n3b
            have hNw : w1.heap.size ≤ W2.heap.size := Nat.le_trans hbl hb2.size
            have HN3 := hd n3b
            have HOL := hd hol
            have HOA := hd Q4.drew
            have HXA := hd Q3.drew
            have HNA := hd (show w1.heap.size ≤ W2.drew.heap.size from hNw)
            have HBD := hd (Below.drew hb2)
            have HB0 := hd (below_step HB.out (Below.drew hb2))
            have HQ1 := hd Q1.drew
            have HQ2 := hd Q2.drew
            have hsumz : lo.length + lo2.length ≤ 300000 := by omega
            have HDW := hd DW
            have HFW := hd FW
            have HE2 := hd E2
            have HNG := hd hng
            have hgN : w1.heap.size ≤ gd := hBg
            have hHO := hd O3b
            obtain ⟨-, x0, x1, x2, x3⟩ := E2
            obtain ⟨-, z0, z1, z2, z3⟩ := DW
            have f0 := FW 0
            have f1 := FW 1
            have f2 := FW 2
            have f3 := FW 3
            clear Q1 Q2 Q3 Q4 hb2 hb hng hNw hol D2 F2 n3b O3b FW
            go_region_law (first | (refine step_append_sl_at _ rfl (.tmp 55) (.tmp 56) 24 rfl i0 (.string ByteArray.empty) 16 Tryz.underlying24 hi hz0 hz1 hz2 rfl (by decide) eS_len (by intro x u hu; simp [eS] at hu; subst hu; rfl) _ lo rfl HOA.out _ lo2 rfl HXA.out (by unfold maxLen; omega) (by omega) HNA.out ?_; intro ov' w3 O4 hg4 hat4; obtain ⟨A9, c9, rfl⟩ := O4.isSlice; have HRN := hd (RInv.nextA HR.out HBD.out HQ1.out HQ2.out hg4 O4 hat4 rfl rfl); have HBN := hd (desk_setB (h := gd) (HB0.out.grown hg4 HNA.out (fun q hq => (hHO.out.lt q hq).1)) hgN (.string d'.1) (.slice B1' d'.2.1.length y1) (.slice B2' d'.2.2.1.length y2) (.string d'.2.2.2)); have hk4 := hg4.block gd (HDW.out.1) (fun e => HN3.out gd e.symm rfl); obtain ⟨-, z0, z1, z2, z3⟩ := HDW.out.of_block hk4 hg4.size; have f0 := (World.frozen?_of_block (w := W2.drew) (a := ⟨gd, 0, none⟩) hk4).trans (HFW.out 0); have f1 := (World.frozen?_of_block (w := W2.drew) (a := ⟨gd, 1, none⟩) hk4).trans (HFW.out 1); have f2 := (World.frozen?_of_block (w := W2.drew) (a := ⟨gd, 2, none⟩) hk4).trans (HFW.out 2); have f3 := (World.frozen?_of_block (w := W2.drew) (a := ⟨gd, 3, none⟩) hk4).trans (HFW.out 3); have hk5 := hg4.block g2 (HE2.out.1) (fun e => HOL.out g2 e.symm rfl); obtain ⟨-, x0, x1, x2, x3⟩ := HE2.out.of_block hk5 hg4.size))
            all_goals
              clear x0 x1 x2 x3 z0 z1 z2 z3 f0 f1 f2 f3 HR HB HBw
              go_wp2_with fail
              go_roundw
              case rel => exact ⟨k + 1, by omega, by omega, by go_num, by rw [HSS2.out, ← List.length_append]; exact HRN, HBN⟩
              case measure => simp [intOf]; omega
          · have HSS2 := hd (show runTo L (k + 1) = (d, lo ++ [qS]) from HSS.out)
            clear HSS
            have P4 := (O3b.below hb (Nat.le_refl _)).alloc (.cells #[.string d'.1, .slice B1' d'.2.1.length y1, .slice B2' d'.2.2.1.length y2, .string d'.2.2.2] 29)
            have hb4 := hb.alloc hb.size (.cells #[.string d'.1, .slice B1' d'.2.1.length y1, .slice B2' d'.2.2.1.length y2, .string d'.2.2.2] 29)
            obtain ⟨AO, cO, rfl⟩ := O3.isSlice
            obtain ⟨A3, y3, rfl⟩ := P3.isSlice
            clear P1 P2 P3
            go_wp2_with (at_builtin; refine wpList_push_at _ rfl _ _ 24 rfl i0 (.string ByteArray.empty) 16 Tryz.underlying24 hi hz0 hz1 hz2 rfl (by decide) _ lo qS rfl (P4.alloc _) (W1.heap.size + 1) rfl #[.string qS] 9 (by first | exact heap_alloc_new _ _ | (have := heap_alloc_new (W1.alloc (.cells #[.string d'.1, .slice B1' d'.2.1.length y1, .slice B2' d'.2.2.1.length y2, .string d'.2.2.2] 29)) (.cells #[.string qS] 9); rw [show (W1.alloc (.cells #[.string d'.1, .slice B1' d'.2.1.length y1, .slice B2' d'.2.2.1.length y2, .string d'.2.2.2] 29)).heap.size = W1.heap.size + 1 from by simp] at this; exact this)) rfl rfl (by intro u hu; simp [eS] at hu; subst hu; rfl) (by unfold maxLen; omega) (by omega) (Nat.le_trans hbl (Nat.le_trans hb4.size (by simp))) ?_)
            intro ov' WM OM hgM hatM
            have hb5 := hb4.alloc hb4.size (.cells #[.string qS] 9)
            have HR2 := hd (RInv.grow HR.out hb5 hgM OM (by simpa using hatM))
            have HB2 := hd ((below_step HB.out hb5).grown hgM (Nat.le_trans hbl hb5.size) (fun q hq => (O3b.lt q hq).1))
            clear OM hgM hatM P4 hb hb4 hb5 HR HB HBw O3b
            go_wp2_with fail
            go_roundw
            case rel => exact ⟨k + 1, by omega, by omega, by go_num, by rw [HSS2.out]; exact HR2, HB2⟩
            case measure => simp [intOf]; omega
      · obtain rfl : k = n := by omega
        have HMO := hd (show outL L = (runTo L (k)).2 by unfold outL; rw [if_pos (by rw [HLL.out]; exact hk60), HLL.out])
        obtain ⟨hsl, hsm⟩ := runTo_small L (k) (by rw [HLL.out]; exact Nat.le_refl _)
        have hMl : (runTo L (k)).2.length ≤ 240061 := Nat.le_trans (Nat.le_trans hsl (Nat.mul_le_mul (Nat.le_refl 4001) hk60)) (by decide)
        have HMZ := hd hsm
        obtain ⟨v1, v2, -, -, -, -, -, OM, -, -, -, -, -⟩ := HR.out
        have HBM := hd (below_step B1 HB.out)
        generalize (runTo L (k)).2 = M at HMO hMl HMZ OM
        obtain ⟨WM, hWM⟩ : ∃ WM, wr = WM := ⟨_, rfl⟩
        subst hWM
        clear hsl hsm HR HB HSH HLL
        have SM := OM.sl eS_len
        obtain ⟨AM, cM, rfl⟩ := OM.isSlice
        have HRM := hd (show runR text = catL M by rw [HRR.out, HMO.out])
        clear HMO OM HLN SL HRR
        go_wp2_with fail
        go_loopw [12, 61] (fun av iv wx => ∃ j : Nat, j ≤ M.length ∧ iv = .int .i64 j ∧ av = .string (catTo M j) ∧ wx = wr) (fun _ iv _ => M.length - (intOf iv).toNat)
        case atStart => exact ⟨0, Nat.zero_le _, rfl, rfl, rfl⟩
        case round =>
          obtain ⟨j, hj, rfl, rfl, rfl⟩ := hrel
          by_cases hlj : j < M.length
          · obtain ⟨bM, oM, hAM, -, hcM⟩ := SM.str_at hlj
            subst hAM
            have HC := hd (catTo_succ M j hlj)
            have sz1 := catTo_size HMZ.out j
            have sz2 := HMZ.out _ (List.getElem_mem hlj)
            have sz3 : 30001 * j ≤ 30001 * 240061 := Nat.mul_le_mul (Nat.le_refl _) (by omega)
            generalize M[j] = y at hcM HC sz2
            generalize catTo M j = s at sz1 HC ⊢
            have sz4 : y.size + 1 ≤ 9223372036854775807 := by omega
            have sz5 : s.size + (y.size + 1) ≤ 9223372036854775807 := by omega
            go_wp2_with fail
            go_roundw
            case rel => exact ⟨j + 1, by omega, by go_num, by rw [HC.out]; rfl, by first | rfl | trivial⟩
            case measure => simp [intOf]; omega
          · obtain rfl : j = M.length := by omega
            have HE := hd (show catTo M M.length = runR text by rw [catTo_all, HRM.out])
            go_wp2_with fail
            go_ret
            exact ⟨by show Ending.returned (.string (catTo M M.length)) = _; rw [HE.out], HBM.out⟩
  · have hx1 := list_false hx
    subst hnm
    clear hx
    go_wp2_with fail
    refine (nd_impl w1).mono ?_
    rintro e w2 ⟨rfl, B2⟩
    have RI := hd (rinv_start w2 w1.heap.size B2.size)
    have BW := hd ((B2.alloc B2.size (.cells #[] 9)).alloc (B2.alloc B2.size (.cells #[] 9)).size (.cells #[.string ⟨#[97, 98, 99, 100]⟩, .slice none 0 0, .slice none 0 0, .string ⟨#[]⟩] 29))
    clear B2 hlast hx1
    go_wp2_with fail
    generalize (w2.alloc (.cells #[] 9)).alloc (.cells #[.string ⟨#[97, 98, 99, 100]⟩, .slice none 0 0, .slice none 0 0, .string ⟨#[]⟩] 29) = W0 at RI BW ⊢
    obtain ⟨gd, hgd⟩ : ∃ gd, w2.heap.size + 1 = gd := ⟨_, rfl⟩
    rw [hgd] at RI ⊢
    clear hgd
    go_loopw [6, 32] (fun ov iv wr => ∃ k : Nat, k ≤ m + 1 ∧ k ≤ 60 ∧ iv = .int .i64 k ∧ Hid (RInv w1.heap.size gd (runTo L k) ov wr) ∧ Hid (Below w1.heap.size w1 wr)) (fun _ iv _ => m + 1 - (intOf iv).toNat)
    case atStart => exact ⟨0, Nat.zero_le _, Nat.zero_le _, rfl, RI, BW⟩
    case round =>
      obtain ⟨k, hk, hk60, rfl, HR, HB⟩ := hrel
      clear RI BW
      by_cases hlt : k < m + 1
      · have hLk : k < L.length := by rw [HLL.out]; exact hlt
        have hlti : ((k : Int) < (m : Int) + 1) := by omega
        obtain ⟨b', o', hA, -, hcx⟩ := (SL.out.below HB.out).str_at hLk
        injection hA with hA
        injection hA with ee1 ee2 _
        subst ee1
        subst ee2
        have hxz := HLN.out _ (List.getElem_mem hLk)
        have HST := hd (runTo_succ L k hLk)
        have HOK := hd (runTo_ok L k (by omega))
        obtain ⟨hsl, hsm⟩ := runTo_small L k (by omega)
        have hsl2 : (runTo L k).2.length ≤ 240060 := Nat.le_trans hsl (Nat.mul_le_mul (Nat.le_refl 4001) hk60)
        have HSM := hd hsm
        clear hsl hsm
        generalize L[k] = x at hcx hxz HST
        have HBw := hd (below_step B1 HB.out)
        by_cases h60 : k = 60
        · subst h60
          have hgt : 60 < L.length := hLk
          have HMO := hd (show outL L = (runTo L 60).2 ++ [fullS] by unfold outL; rw [if_neg (by omega)])
          obtain ⟨v1, v2, D, F, hBg, O1, O2, O3, n1, n2, n3, a1, a2⟩ := HR.out
          clear D F O1 O2 n1 n2 n3 a1 a2 HST HOK
          generalize (runTo L 60).2 = lo at HMO O3 hsl2 HSM
          have hbl : w1.heap.size ≤ wr.heap.size := HB.out.size
          go_wp2_with (at_builtin; refine wpList_push_at _ rfl _ _ 24 rfl i0 (.string ByteArray.empty) 16 Tryz.underlying24 hi hz0 hz1 hz2 rfl (by decide) _ lo fullS rfl (O3.alloc _) wr.heap.size rfl #[.string fullS] 9 (heap_alloc_new _ _) rfl rfl (by intro u hu; simp [eS] at hu; subst hu; rfl) (by unfold maxLen; omega) (by omega) (by simp; omega) ?_)
          intro ov' WM OM hgM hatM
          have HBM := hd ((HBw.out.alloc HBw.out.size (.cells #[.string fullS] 9)).grown hgM (Nat.le_trans HBw.out.size (by simp)) (fun q hq => Nat.le_trans B1.size (O3.lt q hq).1))
          have HMZ := hd (show ∀ y ∈ lo ++ [fullS], y.size ≤ 30000 from fun y hy => by
            rcases List.mem_append.1 hy with hy | hy
            · exact HSM.out y hy
            · rw [List.mem_singleton.1 hy]; decide)
          have hMl : (lo ++ [fullS]).length ≤ 240061 := by rw [List.length_append, List.length_singleton]; omega
          generalize lo ++ [fullS] = M at OM HMO HMZ hMl
          clear hgM hatM O3 HB HBw HR HSM HSH HLL hcx
          have SM := OM.sl eS_len
          obtain ⟨AM, cM, rfl⟩ := OM.isSlice
          have HRM := hd (show runR text = catL M by rw [HRR.out, HMO.out])
          clear HMO OM HLN SL HRR
          go_wp2_with fail
          go_loopw [12, 61] (fun av iv wr => ∃ j : Nat, j ≤ M.length ∧ iv = .int .i64 j ∧ av = .string (catTo M j) ∧ wr = WM) (fun _ iv _ => M.length - (intOf iv).toNat)
          case atStart => exact ⟨0, Nat.zero_le _, rfl, rfl, rfl⟩
          case round =>
            obtain ⟨j, hj, rfl, rfl, rfl⟩ := hrel
            by_cases hlj : j < M.length
            · obtain ⟨bM, oM, hAM, -, hcM⟩ := SM.str_at hlj
              subst hAM
              have HC := hd (catTo_succ M j hlj)
              have sz1 := catTo_size HMZ.out j
              have sz2 := HMZ.out _ (List.getElem_mem hlj)
              have sz3 : 30001 * j ≤ 30001 * 240061 := Nat.mul_le_mul (Nat.le_refl _) (by omega)
              generalize M[j] = y at hcM HC sz2
              generalize catTo M j = s at sz1 HC ⊢
              have sz4 : y.size + 1 ≤ 9223372036854775807 := by omega
              have sz5 : s.size + (y.size + 1) ≤ 9223372036854775807 := by omega
              go_wp2_with fail
              go_roundw
              case rel => exact ⟨j + 1, by omega, by go_num, by rw [HC.out]; rfl, by first | rfl | trivial⟩
              case measure => simp [intOf]; omega
            · obtain rfl : j = M.length := by omega
              have HE := hd (show catTo M M.length = runR text by rw [catTo_all, HRM.out])
              go_wp2_with fail
              go_ret
              exact ⟨by show Ending.returned (.string (catTo M M.length)) = _; rw [HE.out], HBM.out⟩
        · have HSHr := hd (HSH.out wr HBw.out)
          obtain ⟨v1, v2, D, F, hBg, O1, O2, O3, n1, n2, n3, a1, a2⟩ := id HR.out
          have hbd := okD_bd HOK.out
          have HCM := hd (cmd_impl wr (runTo L k).1 v1 v2 x (O1.sl eCue_len) (O2.sl eTitle_len) (Nat.le_trans hbd.1 (by decide)) (Nat.le_trans hbd.2.2.2 (by decide)) hxz HSHr.out.1 HSHr.out.2)
          have HCC := cmd_code HOK.out x
          have HSS := hd (show runTo L (k + 1) = if (cmdR (runTo L k).1 x).2.2 = 0 then ((cmdR (runTo L k).1 x).1, (runTo L k).2 ++ (cmdR (runTo L k).1 x).2.1) else ((runTo L k).1, (runTo L k).2 ++ [qS]) from HST.out)
          have hsm2 := (cmd_small (runTo L k).1 x).1
          generalize runTo L k = T at HR HCM HCC HSS hsl2 hsm2 HSM D O1 O2 O3
          obtain ⟨d, lo⟩ := T
          dsimp only at D O1 O2 O3 hsl2 HSM HCM HCC HSS hsm2
          generalize cmdR d x = rr at HCM HCC HSS hsm2
          obtain ⟨d', lo2, cc⟩ := rr
          dsimp only at HCC HSS hsm2
          have hkn : ¬ ((k : Int) = 60) := by omega
          have O3b := O3
          have D2 := D
          have F2 := F
          have n3b := n3
          obtain ⟨A1, c1, rfl⟩ := O1.isSlice
          obtain ⟨A2, c2, rfl⟩ := O2.isSlice
          obtain ⟨-, e0, e1, e2, e3⟩ := D
          clear O1 O2 n1 n2 a1 a2 F HST HOK hbd HSHr
          go_wp2_with fail
          refine HCM.out.mono ?_
          rintro e W1 ⟨u1, u2, lv, rfl, P1, P2, P3, hb⟩
          dsimp only at P1 P2 P3
          dsimp only
          obtain ⟨B1', y1, rfl⟩ := P1.isSlice
          obtain ⟨B2', y2, rfl⟩ := P2.isSlice
          have hbl : w1.heap.size ≤ wr.heap.size := HB.out.size
          have HL3 := hd (fun q (e : lv.ownBlock = some q) => (by have h1 := (P3.lt q e).1; have h2 := D2.1; omega : q ≠ gd))
          clear e0 e1 e2 e3 HCM
          rcases HCC with rfl | rfl
          · have HSS2 := hd (show runTo L (k + 1) = (d', lo ++ lo2) from HSS.out)
            clear HSS
            have E2 := desk_new W1 d'.1 (.slice B1' d'.2.1.length y1) (.slice B2' d'.2.2.1.length y2) d'.2.2.2 29
            have hb2 := hb.alloc hb.size (.cells #[.string d'.1, .slice B1' d'.2.1.length y1, .slice B2' d'.2.2.1.length y2, .string d'.2.2.2] 29)
            have Q1 := P1.alloc (.cells #[.string d'.1, .slice B1' d'.2.1.length y1, .slice B2' d'.2.2.1.length y2, .string d'.2.2.2] 29)
            have Q2 := P2.alloc (.cells #[.string d'.1, .slice B1' d'.2.1.length y1, .slice B2' d'.2.2.1.length y2, .string d'.2.2.2] 29)
            have Q3 := (P3.sl eS_len).alloc (.cells #[.string d'.1, .slice B1' d'.2.1.length y1, .slice B2' d'.2.2.1.length y2, .string d'.2.2.2] 29)
            have Q4 := (O3b.below hb (Nat.le_refl _)).alloc (.cells #[.string d'.1, .slice B1' d'.2.1.length y1, .slice B2' d'.2.2.1.length y2, .string d'.2.2.2] 29)
            have hgg : W1.heap.size ≠ gd := by have := D2.1; have := hb.size; omega
            obtain ⟨AO, cO, rfl⟩ := O3.isSlice
            obtain ⟨A3, y3, rfl⟩ := P3.isSlice
            have hol : ∀ q, (Value.slice AO lo.length cO).ownBlock = some q → q ≠ W1.heap.size := fun q e => by have h1 := (O3b.lt q e).2; have := hb.size; omega
            clear P1 P2 P3
            go_wp2_with fail
            generalize W1.alloc (.cells #[.string d'.1, .slice B1' d'.2.1.length y1, .slice B2' d'.2.2.1.length y2, .string d'.2.2.2] 29) = W2 at E2 hb2 Q1 Q2 Q3 Q4 ⊢
            generalize W1.heap.size = g2 at E2 hgg hol ⊢
            have DW := D2.below hb2
            have FW : ∀ i, W2.frozen? ⟨gd, i, none⟩ = false := fun i => (hb2.frozen (p := ⟨gd, i, none⟩) D2.1).trans (F2 i)
            have hng : (Value.slice AO lo.length cO).ownBlock = none ∨ (Value.slice AO lo.length cO).ownBlock ≠ some gd := ne_of_all n3b
            have hNw : w1.heap.size ≤ W2.heap.size := Nat.le_trans hbl hb2.size
            have HN3 := hd n3b
            have HOL := hd hol
            have HOA := hd Q4.drew
            have HXA := hd Q3.drew
            have HNA := hd (show w1.heap.size ≤ W2.drew.heap.size from hNw)
            have HBD := hd (Below.drew hb2)
            have HB0 := hd (below_step HB.out (Below.drew hb2))
            have HQ1 := hd Q1.drew
            have HQ2 := hd Q2.drew
            have hsumz : lo.length + lo2.length ≤ 300000 := by omega
            have HDW := hd DW
            have HFW := hd FW
            have HE2 := hd E2
            have HNG := hd hng
            have hgN : w1.heap.size ≤ gd := hBg
            have hHO := hd O3b
            obtain ⟨-, x0, x1, x2, x3⟩ := E2
            obtain ⟨-, z0, z1, z2, z3⟩ := DW
            have f0 := FW 0
            have f1 := FW 1
            have f2 := FW 2
            have f3 := FW 3
            clear Q1 Q2 Q3 Q4 hb2 hb hng hNw hol D2 F2 n3b O3b FW
            go_region_law (first | (refine step_append_sl_at _ rfl (.tmp 55) (.tmp 56) 24 rfl i0 (.string ByteArray.empty) 16 Tryz.underlying24 hi hz0 hz1 hz2 rfl (by decide) eS_len (by intro x u hu; simp [eS] at hu; subst hu; rfl) _ lo rfl HOA.out _ lo2 rfl HXA.out (by unfold maxLen; omega) (by omega) HNA.out ?_; intro ov' w3 O4 hg4 hat4; obtain ⟨A9, c9, rfl⟩ := O4.isSlice; have HRN := hd (RInv.nextA HR.out HBD.out HQ1.out HQ2.out hg4 O4 hat4 rfl rfl); have HBN := hd (desk_setB (h := gd) (HB0.out.grown hg4 HNA.out (fun q hq => (hHO.out.lt q hq).1)) hgN (.string d'.1) (.slice B1' d'.2.1.length y1) (.slice B2' d'.2.2.1.length y2) (.string d'.2.2.2)); have hk4 := hg4.block gd (HDW.out.1) (fun e => HN3.out gd e.symm rfl); obtain ⟨-, z0, z1, z2, z3⟩ := HDW.out.of_block hk4 hg4.size; have f0 := (World.frozen?_of_block (w := W2.drew) (a := ⟨gd, 0, none⟩) hk4).trans (HFW.out 0); have f1 := (World.frozen?_of_block (w := W2.drew) (a := ⟨gd, 1, none⟩) hk4).trans (HFW.out 1); have f2 := (World.frozen?_of_block (w := W2.drew) (a := ⟨gd, 2, none⟩) hk4).trans (HFW.out 2); have f3 := (World.frozen?_of_block (w := W2.drew) (a := ⟨gd, 3, none⟩) hk4).trans (HFW.out 3); have hk5 := hg4.block g2 (HE2.out.1) (fun e => HOL.out g2 e.symm rfl); obtain ⟨-, x0, x1, x2, x3⟩ := HE2.out.of_block hk5 hg4.size))
            all_goals
              clear x0 x1 x2 x3 z0 z1 z2 z3 f0 f1 f2 f3 HR HB HBw
              go_wp2_with fail
              go_roundw
              case rel => exact ⟨k + 1, by omega, by omega, by go_num, by rw [HSS2.out, ← List.length_append]; exact HRN, HBN⟩
              case measure => simp [intOf]; omega
          · have HSS2 := hd (show runTo L (k + 1) = (d, lo ++ [qS]) from HSS.out)
            clear HSS
            have P4 := (O3b.below hb (Nat.le_refl _)).alloc (.cells #[.string d'.1, .slice B1' d'.2.1.length y1, .slice B2' d'.2.2.1.length y2, .string d'.2.2.2] 29)
            have hb4 := hb.alloc hb.size (.cells #[.string d'.1, .slice B1' d'.2.1.length y1, .slice B2' d'.2.2.1.length y2, .string d'.2.2.2] 29)
            obtain ⟨AO, cO, rfl⟩ := O3.isSlice
            obtain ⟨A3, y3, rfl⟩ := P3.isSlice
            clear P1 P2 P3
            go_wp2_with (at_builtin; refine wpList_push_at _ rfl _ _ 24 rfl i0 (.string ByteArray.empty) 16 Tryz.underlying24 hi hz0 hz1 hz2 rfl (by decide) _ lo qS rfl (P4.alloc _) (W1.heap.size + 1) rfl #[.string qS] 9 (by first | exact heap_alloc_new _ _ | (have := heap_alloc_new (W1.alloc (.cells #[.string d'.1, .slice B1' d'.2.1.length y1, .slice B2' d'.2.2.1.length y2, .string d'.2.2.2] 29)) (.cells #[.string qS] 9); rw [show (W1.alloc (.cells #[.string d'.1, .slice B1' d'.2.1.length y1, .slice B2' d'.2.2.1.length y2, .string d'.2.2.2] 29)).heap.size = W1.heap.size + 1 from by simp] at this; exact this)) rfl rfl (by intro u hu; simp [eS] at hu; subst hu; rfl) (by unfold maxLen; omega) (by omega) (Nat.le_trans hbl (Nat.le_trans hb4.size (by simp))) ?_)
            intro ov' WM OM hgM hatM
            have hb5 := hb4.alloc hb4.size (.cells #[.string qS] 9)
            have HR2 := hd (RInv.grow HR.out hb5 hgM OM (by simpa using hatM))
            have HB2 := hd ((below_step HB.out hb5).grown hgM (Nat.le_trans hbl hb5.size) (fun q hq => (O3b.lt q hq).1))
            clear OM hgM hatM P4 hb hb4 hb5 HR HB HBw O3b
            go_wp2_with fail
            go_roundw
            case rel => exact ⟨k + 1, by omega, by omega, by go_num, by rw [HSS2.out]; exact HR2, HB2⟩
            case measure => simp [intOf]; omega
      · obtain rfl : k = m + 1 := by omega
        have HMO := hd (show outL L = (runTo L (m + 1)).2 by unfold outL; rw [if_pos (by rw [HLL.out]; exact hk60), HLL.out])
        obtain ⟨hsl, hsm⟩ := runTo_small L (m + 1) (by rw [HLL.out]; exact Nat.le_refl _)
        have hMl : (runTo L (m + 1)).2.length ≤ 240061 := Nat.le_trans (Nat.le_trans hsl (Nat.mul_le_mul (Nat.le_refl 4001) hk60)) (by decide)
        have HMZ := hd hsm
        obtain ⟨v1, v2, -, -, -, -, -, OM, -, -, -, -, -⟩ := HR.out
        have HBM := hd (below_step B1 HB.out)
        generalize (runTo L (m + 1)).2 = M at HMO hMl HMZ OM
        obtain ⟨WM, hWM⟩ : ∃ WM, wr = WM := ⟨_, rfl⟩
        subst hWM
        clear hsl hsm HR HB HSH HLL
        have SM := OM.sl eS_len
        obtain ⟨AM, cM, rfl⟩ := OM.isSlice
        have HRM := hd (show runR text = catL M by rw [HRR.out, HMO.out])
        clear HMO OM HLN SL HRR
        go_wp2_with fail
        go_loopw [12, 61] (fun av iv wx => ∃ j : Nat, j ≤ M.length ∧ iv = .int .i64 j ∧ av = .string (catTo M j) ∧ wx = wr) (fun _ iv _ => M.length - (intOf iv).toNat)
        case atStart => exact ⟨0, Nat.zero_le _, rfl, rfl, rfl⟩
        case round =>
          obtain ⟨j, hj, rfl, rfl, rfl⟩ := hrel
          by_cases hlj : j < M.length
          · obtain ⟨bM, oM, hAM, -, hcM⟩ := SM.str_at hlj
            subst hAM
            have HC := hd (catTo_succ M j hlj)
            have sz1 := catTo_size HMZ.out j
            have sz2 := HMZ.out _ (List.getElem_mem hlj)
            have sz3 : 30001 * j ≤ 30001 * 240061 := Nat.mul_le_mul (Nat.le_refl _) (by omega)
            generalize M[j] = y at hcM HC sz2
            generalize catTo M j = s at sz1 HC ⊢
            have sz4 : y.size + 1 ≤ 9223372036854775807 := by omega
            have sz5 : s.size + (y.size + 1) ≤ 9223372036854775807 := by omega
            go_wp2_with fail
            go_roundw
            case rel => exact ⟨j + 1, by omega, by go_num, by rw [HC.out]; rfl, by first | rfl | trivial⟩
            case measure => simp [intOf]; omega
          · obtain rfl : j = M.length := by omega
            have HE := hd (show catTo M M.length = runR text by rw [catTo_all, HRM.out])
            go_wp2_with fail
            go_ret
            exact ⟨by show Ending.returned (.string (catTo M M.length)) = _; rw [HE.out], HBM.out⟩
end Go.Proofs.YtgcodjkjdfahdaaGreatDoor
