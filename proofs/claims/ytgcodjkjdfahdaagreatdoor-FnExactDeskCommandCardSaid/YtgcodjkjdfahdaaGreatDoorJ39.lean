/- Lemmas for the claim (the walks of its functions and their plain laws), joined. No condition. -/
import Derived.Test.YtgcodjkjdfahdaaGreatDoorJ37
import Derived.Deep.RegionHeld3
import Derived.Test.YtgcodjkjdfahdaaGreatDoorJ38
namespace Go.Proofs.YtgcodjkjdfahdaaGreatDoor
open Go Go.RowKit Go.ChangeShapes Go.WideShapes
set_option linter.unusedSimpArgs false
set_option linter.unusedVariables false
theorem entries_at (A : Option Addr) (n c : Nat) (x y : Int) (w : World) : (Instr.field 135 (.agg #[.slice A n c, .int .i64 x, .int .i64 y]) 0).run Tryz.prog w = .ok (.slice A n c) w := by kernel_rfl
def ttS (x : TTitle) : ByteArray := textR x.1 x.2.1 x.2.2.1 x.2.2.2
def tTo (l : List TTitle) (k : Nat) : List ByteArray := (l.map ttS).take k
theorem tTo_len (l : List TTitle) {k : Nat} (h : k ≤ l.length) : (tTo l k).length = k := by unfold tTo; rw [List.length_take, List.length_map]; omega
theorem tTo_snoc {l : List TTitle} {k : Nat} (h : k < l.length) : tTo l (k + 1) = tTo l k ++ [ttS l[k]] := by
  unfold tTo
  rw [List.take_succ_eq_append_getElem (by rw [List.length_map]; exact h), List.getElem_map]
theorem tTo_all (l : List TTitle) : tTo l l.length = l.map ttS := by
  unfold tTo
  exact List.take_of_length_le (by rw [List.length_map]; exact Nat.le_refl _)
def wwS (x : TEntry) : ByteArray := wordsS x.1 x.2.1 x.2.2
def wTo (l : List TEntry) (k : Nat) : List ByteArray := (l.map wwS).take k
theorem wTo_len (l : List TEntry) {k : Nat} (h : k ≤ l.length) : (wTo l k).length = k := by unfold wTo; rw [List.length_take, List.length_map]; omega
theorem wTo_snoc {l : List TEntry} {k : Nat} (h : k < l.length) : wTo l (k + 1) = wTo l k ++ [wwS l[k]] := by
  unfold wTo
  rw [List.take_succ_eq_append_getElem (by rw [List.length_map]; exact h), List.getElem_map]
theorem wTo_all (l : List TEntry) : wTo l l.length = l.map wwS := by
  unfold wTo
  exact List.take_of_length_le (by rw [List.length_map]; exact Nat.le_refl _)
set_option maxRecDepth 100000 in
set_option maxHeartbeats 8000000 in
theorem exec_titles (w : World) (B g : Nat) (d : TDk) (hD : DeskOwn w B g d) (hT : d.2.2.1.length ≤ 20) (vW vN : Value) (hW : Sl w 1 vW eS [⟨#[116, 105, 116, 108, 101, 115]⟩]) (hN : Sl w 1 vN eI []) (hsh : Shop w) :
    Calls Tryz.prog 34 #[.pointer (some ⟨g, 0, none⟩), vW, vN] w (ExecTo B g w (d, d.2.2.1.map ttS ++ [okS (d.2.2.1.map ttS).length], 0)) := by
  obtain ⟨i0, hi, hz0, hz1, hz2⟩ := info_parts info_str
  obtain ⟨bw, ow, cw, rfl, -, -, hw⟩ := hW.strs (Nat.succ_pos _)
  obtain ⟨bn, cn, rfl⟩ := hN.isSlice
  have w0 := hw 0 _ rfl
  rw [Nat.add_zero] at w0
  obtain ⟨v1, v2, ⟨hg, d0, d1, d2, d3⟩, hfr, hBg, O1, O2, a1, a2, a3⟩ := id hD
  have hB : B ≤ w.heap.size := Nat.le_trans hBg (Nat.le_of_lt hg)
  have HD := hd hD
  have HSH := hd hsh.at_
  have ST := O2.sl eTitle_len
  obtain ⟨A2, c2, rfl⟩ := O2.isSlice
  have HSL := hd (show ∀ ww, Below w.heap.size w ww → Sl ww 4 (.slice A2 d.2.2.1.length c2) eTitle d.2.2.1 from fun ww K => ST.below K)
  have own0 := Own.made0 w w.heap.size 9 1 eS (Nat.le_refl _)
  have bel0 := (Below.refl w.heap.size w).alloc (Nat.le_refl _) (.cells #[] 9)
  clear hfr hBg O1 O2 a1 a2 a3 d0 d1 d3 ST hW hN hw hD hsh
  go_enter Tryz.func34, Tryz.ntmps34
  go_wp2_with fail
  go_loopw [28, 265] (fun ov iv wr => ∃ k : Nat, k ≤ d.2.2.1.length ∧ iv = .int .i64 k ∧ Own wr w.heap.size 9 1 ov eS (tTo d.2.2.1 k) ∧ Below w.heap.size w wr) (fun _ iv _ => d.2.2.1.length - (intOf iv).toNat)
  case atStart => exact ⟨0, Nat.zero_le _, rfl, own0, bel0⟩
  case round =>
    obtain ⟨k, hk, rfl, hown, hbel⟩ := hrel
    clear own0 bel0
    have hlen := tTo_len d.2.2.1 hk
    by_cases hlt : k < d.2.2.1.length
    · have HS := hd (tTo_snoc hlt)
      have HTR := hd (HSH.out wr hbel).1
      obtain ⟨bb, oo, hA, hbb, cc0, cc1, cc2, cc3⟩ := (HSL.out wr hbel).Title_at hlt
      subst hA
      have HL := hd hlen
      have hlk : (tTo d.2.2.1 k).length ≤ 5000 := by omega
      clear hlen
      generalize tTo d.2.2.1 k = M at hown hlk HS HL ⊢
      generalize d.2.2.1[k] = x at cc0 cc1 cc2 cc3 HS ⊢
      obtain ⟨xa, xb, xc, xd⟩ := x
      have cc0 : wr.cell? ⟨bb, oo + k * 4, none⟩ = some (.int .i64 xa) := cc0
      have cc1 : wr.cell? ⟨bb, oo + k * 4 + 1, none⟩ = some (.string xb) := cc1
      have cc2 : wr.cell? ⟨bb, oo + k * 4 + 2, none⟩ = some (.int .i64 xc) := cc2
      have cc3 : wr.cell? ⟨bb, oo + k * 4 + 3, none⟩ = some (.int .i64 xd) := cc3
      have bel1 := hbel.alloc hbel.size (.cells #[.int .i64 xa, .string xb, .int .i64 xc, .int .i64 xd] 95)
      have own1 := hown.alloc (.cells #[.int .i64 xa, .string xb, .int .i64 xc, .int .i64 xd] 95)
      have hTB := hd (HTR.out.below ((Below.refl wr.heap.size wr).alloc (Nat.le_refl _) (.cells #[.int .i64 xa, .string xb, .int .i64 xc, .int .i64 xd] 95)))
      go_wp2_with fail
      generalize wr.alloc (.cells #[.int .i64 xa, .string xb, .int .i64 xc, .int .i64 xd] 95) = W1 at bel1 own1 hTB ⊢
      clear cc0 cc1 cc2 cc3 hown hbel
      refine (ttext_impl W1 xa xb xc xd hTB.out).mono ?_
      rintro e w5 ⟨rfl, hb5⟩
      have hown1 := Own.below own1 hb5 (Nat.le_refl _)
      have hbel1 := below_step bel1 hb5
      clear own1 bel1 hb5
      have HX := hd (show ttS (xa, xb, xc, xd) = textR xa xb xc xd from rfl)
      generalize textR xa xb xc xd = tx at HX ⊢
      go_wp2_with (at_builtin; refine wpList_push _ rfl _ _ 24 rfl i0 (.string ByteArray.empty) 16 Tryz.underlying24 hi hz0 hz1 hz2 rfl (by decide) _ _ tx rfl (hown1.alloc _) w5.heap.size rfl #[.string tx] 9 (heap_alloc_new _ _) rfl rfl (by intro u hu; simp [eS] at hu; subst hu; rfl) (by unfold maxLen; omega) (by omega) (by have := hbel1.size; simp; omega) ?_)
      intro v' w6 hown2 hgr2
      have hbel2 := (hbel1.alloc hbel1.size (.cells #[.string tx] 9)).grown hgr2 (by have := hbel1.size; simp; omega) (fun q hq => (hown1.lt q hq).1)
      clear hown1 hgr2 hbel1
      go_wp2_with fail
      go_roundw
      case rel => exact ⟨k + 1, by omega, by go_num, by rw [HS.out, HX.out]; exact hown2, hbel2⟩
      case measure => simp [intOf]; omega
    · obtain rfl : k = d.2.2.1.length := by omega
      rw [tTo_all] at hown
      have hbw := hbel
      have HOK := hd (fun u (hu : Own wr w.heap.size 9 1 u eS (d.2.2.1.map ttS)) => ok_impl wr w.heap.size hbw.size u _ hu (by rw [List.length_map]; omega) (HSH.out _ hbw).1)
      have HOW := hd hown
      obtain ⟨AL, cL, rfl⟩ := hown.isSlice
      rw [show (d.2.2.1.map ttS).length = d.2.2.1.length from List.length_map ..] at HOW
      go_wp2_with fail
      refine (HOK.out _ HOW.out).mono ?_
      rintro e w8 ⟨v8, rfl, O8, hb8⟩
      have O9 := hd O8
      obtain ⟨A8, c8, rfl⟩ := O8.isSlice
      rw [show (d.2.2.1.map ttS ++ [okS (d.2.2.1.map ttS).length]).length = d.2.2.1.length + 1 by rw [List.length_append, List.length_map]; rfl] at O9
      go_wp2_with fail
      go_ret2
      obtain ⟨v1', v2', ⟨D1, F1, -, P1, P2, -⟩⟩ := HD.out.below (hbw.trans hb8)
      exact exec_to (d := d) ((hbw.trans hb8).mono hB) (O9.out.base hB) D1 P1 P2 rfl
set_option maxRecDepth 100000 in
set_option maxHeartbeats 8000000 in
theorem exec_log (w : World) (B g : Nat) (d : TDk) (hD : DeskOwn w B g d) (hq : d.2.2.2.size ≤ 1048576) (hq4 : d.2.2.2.size ≤ 4000) (vW vN : Value) (hW : Sl w 1 vW eS [⟨#[108, 111, 103]⟩]) (hN : Sl w 1 vN eI []) (hsh : Shop w) :
    Calls Tryz.prog 34 #[.pointer (some ⟨g, 0, none⟩), vW, vN] w (ExecTo B g w (d, (readL d.2.2.2).l.map wwS ++ [okS ((readL d.2.2.2).l.map wwS).length], 0)) := by
  obtain ⟨i0, hi, hz0, hz1, hz2⟩ := info_parts info_str
  obtain ⟨bw, ow, cw, rfl, -, -, hw⟩ := hW.strs (Nat.succ_pos _)
  obtain ⟨bn, cn, rfl⟩ := hN.isSlice
  have w0 := hw 0 _ rfl
  rw [Nat.add_zero] at w0
  obtain ⟨v1, v2, ⟨hg, d0, d1, d2, d3⟩, hfr, hBg, O1, O2, a1, a2, a3⟩ := id hD
  have hB : B ≤ w.heap.size := Nat.le_trans hBg (Nat.le_of_lt hg)
  have HD := hd hD
  have HSH := hd hsh.at_
  have own0 := Own.made0 w w.heap.size 9 1 eS (Nat.le_refl _)
  have bel0 := (Below.refl w.heap.size w).alloc (Nat.le_refl _) (.cells #[] 9)
  clear hfr hBg O1 O2 a1 a2 a3 d0 d1 d2 hW hN hw hD hsh
  go_enter Tryz.func34, Tryz.ntmps34
  go_wp2_with fail
  have HW0 := hd (show w.heap.size < (w.alloc (.cells #[] 9)).heap.size by simp)
  generalize w.alloc (.cells #[] 9) = W0 at own0 bel0 HW0 ⊢
  refine (readLog_impl W0 d.2.2.2 hq (HSH.out _ bel0)).mono ?_
  rintro e w1 ⟨v, rfl, O, hb1⟩
  have hle := Nat.le_trans (readL_len d.2.2.2) hq4
  have HOK2 := hd (readL_ok d.2.2.2)
  have ST := O.sl eEntry_len
  have hOE0 := O
  have hlt0 : ∀ q, v.ownBlock = some q → w.heap.size < q ∧ q < w1.heap.size := fun q e => ⟨Nat.lt_of_lt_of_le HW0.out (O.lt q e).1, (O.lt q e).2⟩
  obtain ⟨A2, c2, rfl⟩ := O.isSlice
  have own1 := Own.below own0 hb1 (Nat.le_refl _)
  have bel1 := below_step bel0 hb1
  have hq0 : ∀ q, (.slice (some ⟨w.heap.size, 0, none⟩) 0 0 : Value).ownBlock = some q → q = w.heap.size ∨ w1.heap.size ≤ q := fun q e => .inl (by injection e with e; exact e.symm)
  clear own0 bel0 hb1 O d3
  have own0 := own1
  have bel0 := bel1
  clear own1 bel1
  obtain ⟨l, hl⟩ : ∃ l, (readL d.2.2.2).l = l := ⟨_, rfl⟩
  rw [hl] at hle HOK2 ST hOE0 hlt0 ⊢
  have HLE := hd hl
  clear hl
  have HAP := hd (show ∀ v : Value, (∀ q, v.ownBlock = some q → q = w.heap.size ∨ w1.heap.size ≤ q) → ((.slice A2 l.length c2 : Value).ownBlock = none ∨ (.slice A2 l.length c2 : Value).ownBlock ≠ v.ownBlock) from fun v hv => by
    rcases hb : (.slice A2 l.length c2 : Value).ownBlock with _ | q
    · exact .inl rfl
    · refine .inr fun e => ?_
      have h1 := hlt0 q hb
      rcases hv q e.symm with h2 | h2 <;> omega)
  clear ST hlt0
  have hfe : ∀ (A : Option Addr) (n c : Nat) (x y : Int) (w : World), (Instr.field 135 (.agg #[.slice A n c, .int .i64 x, .int .i64 y]) 0).run Tryz.prog w = .ok (.slice A n c) w := entries_at
  go_wp2_with fail
  clear hfe
  go_loopw [34, 329] (fun ov iv wr => ∃ k : Nat, k ≤ l.length ∧ iv = .int .i64 k ∧ Own wr w.heap.size 9 1 ov eS (wTo l k) ∧ Below w.heap.size w wr ∧ Own wr W0.heap.size 130 3 (.slice A2 l.length c2) eEntry l ∧ (∀ q, ov.ownBlock = some q → q = w.heap.size ∨ w1.heap.size ≤ q) ∧ w1.heap.size ≤ wr.heap.size) (fun _ iv _ => l.length - (intOf iv).toNat)
  case atStart => exact ⟨0, Nat.zero_le _, rfl, own0, bel0, hOE0, hq0, Nat.le_refl _⟩
  case round =>
    obtain ⟨k, hk, rfl, hown, hbel, hOE, hqq, hsz⟩ := hrel
    clear own0 bel0 hOE0 hq0
    have hlen := wTo_len l hk
    by_cases hlt : k < l.length
    · have HS := hd (wTo_snoc hlt)
      have HTR := hd (HSH.out wr hbel).1
      obtain ⟨bb, oo, hA, hbb, cc0, cc1, cc2⟩ := (hOE.sl eEntry_len).Entry_at hlt
      subst hA
      have HE := hd (HOK2.out _ (List.getElem_mem hlt))
      have HL := hd hlen
      have hlk : (wTo l k).length ≤ 5000 := by omega
      clear hlen
      generalize wTo l k = M at hown hlk HS HL ⊢
      generalize l[k] = x at HE cc0 cc1 cc2 HS ⊢
      obtain ⟨xa, xb, xc⟩ := x
      have cc0 : wr.cell? ⟨bb, oo + k * 3, none⟩ = some (.int .i64 xa) := cc0
      have cc1 : wr.cell? ⟨bb, oo + k * 3 + 1, none⟩ = some (.string xb) := cc1
      have cc2 : wr.cell? ⟨bb, oo + k * 3 + 2, none⟩ = some (.int .i64 xc) := cc2
      have bel1 := hbel.alloc hbel.size (.cells #[.int .i64 xa, .string xb, .int .i64 xc] 130)
      have own1 := hown.alloc (.cells #[.int .i64 xa, .string xb, .int .i64 xc] 130)
      have hTB := hd (HTR.out.below ((Below.refl wr.heap.size wr).alloc (Nat.le_refl _) (.cells #[.int .i64 xa, .string xb, .int .i64 xc] 130)))
      go_wp2_with fail
      obtain ⟨W1, HWX⟩ : ∃ W, wr.alloc (.cells #[.int .i64 xa, .string xb, .int .i64 xc] 130) = W := ⟨_, rfl⟩
      have HW1 := hd HWX
      have HSZW := hd (show wr.heap.size ≤ W1.heap.size by rw [← HWX]; simp)
      rw [HWX] at bel1 own1 hTB ⊢
      clear HWX
      clear cc0 cc1 cc2 hown hbel
      refine (words_impl W1 xa xb xc HE.out hTB.out).mono ?_
      rintro e w5 ⟨rfl, hb5⟩
      have hown1 := Own.below own1 hb5 (Nat.le_refl _)
      have hbel1 := below_step bel1 hb5
      have HOE1 := hd (Own.below (hOE.alloc (.cells #[.int .i64 xa, .string xb, .int .i64 xc] 130)) (by have hb5' := hb5; rw [← HW1.out] at hb5'; exact hb5') (Nat.le_refl _))
      have HSZ := hd (show w1.heap.size ≤ w5.heap.size from Nat.le_trans hsz (Nat.le_trans HSZW.out hb5.size))
      clear own1 bel1 hb5 hOE HW1 HSZW
      have HX := hd (show wwS (xa, xb, xc) = wordsS xa xb xc from rfl)
      generalize wordsS xa xb xc = tx at HX ⊢
      go_wp2_with (at_builtin; refine wpList_push_at _ rfl _ _ 24 rfl i0 (.string ByteArray.empty) 16 Tryz.underlying24 hi hz0 hz1 hz2 rfl (by decide) _ _ tx rfl (hown1.alloc _) w5.heap.size rfl #[.string tx] 9 (heap_alloc_new _ _) rfl rfl (by intro u hu; simp [eS] at hu; subst hu; rfl) (by unfold maxLen; omega) (by omega) (by have := hbel1.size; simp; omega) ?_)
      intro v' w6 hown2 hgr2 hat2
      have hOE2 := (HOE1.out.alloc (.cells #[.string tx] 9)).grown hgr2 (HAP.out _ hqq)
      have hq2 : ∀ q, v'.ownBlock = some q → q = w.heap.size ∨ w1.heap.size ≤ q := by
        intro q hq
        rcases hat2 with e | e
        · exact hqq q (by rw [← e]; exact hq)
        · rw [e] at hq
          injection hq with hq
          refine .inr (Nat.le_trans HSZ.out ?_)
          rw [← hq]
          simp
      have hsz2 : w1.heap.size ≤ w6.heap.size := Nat.le_trans HSZ.out (Nat.le_trans (by simp) hgr2.size)
      have hbel2 := (hbel1.alloc hbel1.size (.cells #[.string tx] 9)).grown hgr2 (by have := hbel1.size; simp; omega) (fun q hq => (hown1.lt q hq).1)
      clear hown1 hgr2 hbel1
      go_wp2_with fail
      go_roundw
      case rel => exact ⟨k + 1, by omega, by go_num, by rw [HS.out, HX.out]; exact hown2, hbel2, hOE2, hq2, hsz2⟩
      case measure => simp [intOf]; omega
    · obtain rfl : k = l.length := by omega
      rw [wTo_all] at hown
      have hbw := hbel
      have HOK := hd (fun u (hu : Own wr w.heap.size 9 1 u eS (l.map wwS)) => ok_impl wr w.heap.size hbw.size u _ hu (by rw [List.length_map]; omega) (HSH.out _ hbw).1)
      have HOW := hd hown
      obtain ⟨AL, cL, rfl⟩ := hown.isSlice
      rw [show (l.map wwS).length = l.length from List.length_map ..] at HOW
      go_wp2_with fail
      refine (HOK.out _ HOW.out).mono ?_
      rintro e w8 ⟨v8, rfl, O8, hb8⟩
      have O9 := hd O8
      obtain ⟨A8, c8, rfl⟩ := O8.isSlice
      rw [show (l.map wwS ++ [okS (l.map wwS).length]).length = l.length + 1 by rw [List.length_append, List.length_map]; rfl] at O9
      go_wp2_with fail
      go_ret2
      obtain ⟨v1', v2', ⟨D1, F1, -, P1, P2, -⟩⟩ := HD.out.below (hbw.trans hb8)
      exact exec_to (d := d) ((hbw.trans hb8).mono hB) (O9.out.base hB) D1 P1 P2 (by rw [HLE.out])
end Go.Proofs.YtgcodjkjdfahdaaGreatDoor

namespace Go.Proofs.YtgcodjkjdfahdaaGreatDoor
open Go Go.RowKit Go.ChangeShapes Go.WideShapes
set_option linter.unusedSimpArgs false
set_option linter.unusedVariables false
def enterG (d : TDk) (t : ByteArray) (r : ByteArray × Int) : TRes := if r.2 = 0 then ((d.1, d.2.1, d.2.2.1, r.1), [orS (decS (sumI (valR r.1 t).1))], (valR r.1 t).2) else (d, [], r.2)
def enterX (d : TDk) (a : Int) (t : ByteArray) (b : Int) : TRes := enterG d t (addR d.2.2.2 (a, t, b))
theorem addR_size {s : ByteArray} {x : TEntry} (h : (addR s x).2 = 0) : (addR s x).1.size ≤ 4000 := by
  unfold addR at h ⊢
  split at h
  · rename_i h0
    rw [if_pos h0]
    unfold addG at h ⊢
    by_cases h1 : okEntryB x = true
    · rw [if_pos h1] at h ⊢
      by_cases h2 : dayOf (readL s).l ≤ x.1
      · rw [if_pos h2] at h ⊢
        by_cases h3 : (s ++ lineS (stampN (readL s).st (wordsE x)) x).size ≤ 4000
        · rw [if_pos h3]; exact h3
        · rw [if_neg h3]; exact Nat.zero_le _
      · rw [if_neg h2]; exact Nat.zero_le _
    · rw [if_neg h1]; exact Nat.zero_le _
  · rename_i h0
    rw [if_neg h0]; exact Nat.zero_le _
theorem wrap_bd (n : Int) : -9223372036854775808 ≤ wrap64 n ∧ wrap64 n ≤ 9223372036854775807 := by unfold wrap64; omega
theorem sumF_bd (l : List Int) : ∀ a : Int, (-9223372036854775808 ≤ a ∧ a ≤ 9223372036854775807) → -9223372036854775808 ≤ l.foldl (fun s x => wrap64 (s + x)) a ∧ l.foldl (fun s x => wrap64 (s + x)) a ≤ 9223372036854775807 := by
  induction l with
  | nil => exact fun a h => h
  | cons x l ih => exact fun a _ => ih _ (wrap_bd _)
theorem sumI_bd (l : List Int) : -9223372036854775808 ≤ sumI l ∧ sumI l ≤ 9223372036854775807 := sumF_bd l 0 (by omega)
set_option maxRecDepth 100000 in
set_option maxHeartbeats 8000000 in
theorem exec_enter (w : World) (B g : Nat) (d : TDk) (hD : DeskOwn w B g d) (hq : d.2.2.2.size ≤ 1048576) (vW vN : Value) (s1 s2 s3 : ByteArray) (n0 n1 : Int) (hz : s2.size ≤ 1048576) (hW : Sl w 1 vW eS [⟨#[101, 110, 116, 101, 114]⟩, s1, s2, s3]) (hN : Sl w 1 vN eI [n0, n1]) (hbw : ∀ b, vW.ownBlock = some b → b < B) (hsh : ShopB B w) :
    Calls Tryz.prog 34 #[.pointer (some ⟨g, 0, none⟩), vW, vN] w (ExecTo B g w (enterX d n0 s2 n1)) := by
  obtain ⟨bw, ow, cw, rfl, -, -, hw⟩ := hW.strs (Nat.succ_pos _)
  obtain ⟨bn, on, cn, rfl, -, hn⟩ := hN.ints (Nat.succ_pos _)
  have w0 := hw 0 _ rfl
  rw [Nat.add_zero] at w0
  have w2 := hw 2 _ rfl
  have k0 := hn 0 _ rfl
  rw [Nat.add_zero] at k0
  have k1 := hn 1 _ rfl
  have hbB := hbw bw rfl
  obtain ⟨v1, v2, DA, hfr, hBg, O1, O2, a1, a2, a3⟩ := id hD
  have hB : B ≤ w.heap.size := Nat.le_trans hBg (Nat.le_of_lt DA.1)
  obtain ⟨hg, -, -, -, d3⟩ := DA
  have HS := hd (show ∀ W, Below w.heap.size w W → W.cell? ⟨g, 3, none⟩ = some (.string d.2.2.2) ∧ W.cell? ⟨bn, on, none⟩ = some (.int .i64 n0) ∧ W.cell? ⟨bw, ow + 2, none⟩ = some (.string s2) ∧ W.cell? ⟨bn, on + 1, none⟩ = some (.int .i64 n1) from fun W hb => ⟨cell_below d3 W hb, cell_below k0 W hb, cell_below w2 W hb, cell_below k1 W hb⟩)
  have HWB := hd (show ∀ W, Below B w W → W.cell? ⟨bw, ow + 2, none⟩ = some (.string s2) from fun W hb => (hb.cell (p := ⟨bw, ow + 2, none⟩) hbB).trans w2)
  have HD := hd hD
  have HSH := hd hsh
  have K := Below.refl w.heap.size w
  clear hD hW hN hw hn hsh hfr O1 O2 a1 a2 a3 hbw
  have HSZ := hd (addR_size (s := d.2.2.2) (x := (n0, s2, n1)))
  obtain ⟨q', cd, hr⟩ : ∃ q' cd, addR d.2.2.2 (n0, s2, n1) = (q', cd) := ⟨_, _, rfl⟩
  have HAD := hd (show ∀ W, Below w.heap.size w W → Calls Tryz.prog 84 #[.string d.2.2.2, .agg #[.int .i64 n0, .string s2, .int .i64 n1]] W fun e w' => e = .returned (.tuple #[.string q', .int .i64 cd]) ∧ Below W.heap.size W w' from fun W hb => by
    have := add_impl W d.2.2.2 n0 s2 n1 hq (HSH.out.keep (hb.mono hB)).shop
    rw [hr] at this
    exact this)
  have HE := hd (show enterX d n0 s2 n1 = enterG d s2 (q', cd) by unfold enterX; rw [hr])
  rw [hr] at HSZ
  clear hr
  go_enter Tryz.func34, Tryz.ntmps34
  go_wp2_with fail
  clear w0
  go_region_held3 (fun ww => ww.cell? ⟨g, 3, none⟩ = some (.string d.2.2.2) ∧ ww.cell? ⟨bn, on, none⟩ = some (.int .i64 n0) ∧ ww.cell? ⟨bw, ow + 2, none⟩ = some (.string s2) ∧ ww.cell? ⟨bn, on + 1, none⟩ = some (.int .i64 n1)) (first | with_reducible exact HS.out _ K | with_reducible exact HS.out _ (Below.drew K)) (first | (go_at_call 84; replace K := Below.drew K; (with_reducible refine (HAD.out _ K).mono ?_); rintro e w5 ⟨rfl, hb5⟩; replace K := below_step K hb5; clear hb5))
  clear HAD HS d3 k0 k1 w2
  have B5 := K.mono hB
  have HD5 := hd (HD.out.below K)
  by_cases hc : cd = 0
  case neg =>
    have HR2 := hd (show enterX d n0 s2 n1 = (d, [], cd) by rw [HE.out]; unfold enterG; rw [if_neg hc])
    have kc : (cd != 0) = true := by simpa using hc
    have HC := hd hc
    clear hc
    go_wp2_with fail
    go_ret2
    exact exec_err B5 HC.out HR2.out
  subst hc
  have hz4 := HSZ.out rfl
  have HR2 := hd (show enterX d n0 s2 n1 = ((d.1, d.2.1, d.2.2.1, q'), [orS (decS (sumI (valR q' s2).1))], (valR q' s2).2) by rw [HE.out]; unfold enterG; rw [if_pos rfl])
  obtain ⟨v1, v2, DA, hfr, -, O1, O2, a1, a2, a3⟩ := HD5.out
  have DZ := desk_set3 DA hfr q'
  have P1 := own_set O1 a1 3 (.string q')
  have P2 := own_set O2 a2 3 (.string q')
  have BZ := B5.setCell (p := ⟨g, 3, none⟩) hBg (.string q')
  have f3 := hfr 3
  obtain ⟨hg5, -, -, -, d3⟩ := DA
  have w2 := HWB.out _ BZ
  have HW2 := hd w2
  clear w2 hfr O1 O2 a1 a2 a3 HD5 HD K HSZ HE
  go_wp2_with fail
  clear d3 f3
  have w2 := HW2.out
  generalize w5.setCell ⟨g, 3, none⟩ (.string q') = Z at DZ P1 P2 BZ w2 ⊢
  clear HW2
  have d3 := DZ.2.2.2.2
  have HS := hd (show ∀ W, Below Z.heap.size Z W → W.cell? ⟨g, 3, none⟩ = some (.string q') ∧ W.cell? ⟨bw, ow + 2, none⟩ = some (.string s2) from fun W hb => ⟨cell_below d3 W hb, cell_below w2 W hb⟩)
  have K := Below.refl Z.heap.size Z
  have hBZ : B ≤ Z.heap.size := Nat.le_trans hB BZ.size
  have HZS := hd (show ∀ W, Below Z.heap.size Z W → Shop W from fun W hb => (HSH.out.keep (BZ.trans (hb.mono hBZ))).shop)
  go_region_held3 (fun ww => ww.cell? ⟨g, 3, none⟩ = some (.string q') ∧ ww.cell? ⟨bw, ow + 2, none⟩ = some (.string s2)) (first | with_reducible exact HS.out _ K | with_reducible exact HS.out _ (Below.drew K)) (first | (go_at_call 85; replace K := Below.drew K; (with_reducible refine (val_impl _ q' s2 (Nat.le_trans hz4 (by decide)) (Nat.le_trans hz (by decide)) (HZS.out _ K)).mono ?_); rintro e w6 ⟨v6, rfl, O6, hb6⟩; obtain ⟨A6, c6, rfl⟩ := O6.isSlice; replace K := below_step K hb6; clear hb6))
  have SL := O6.sl eI_len
  clear O6 HS d3 w2
  obtain ⟨l, hl⟩ : ∃ l, (valR q' s2).1 = l := ⟨_, rfl⟩
  obtain ⟨c, hcc⟩ : ∃ c, (valR q' s2).2 = c := ⟨_, rfl⟩
  have HR3 := hd (show enterX d n0 s2 n1 = ((d.1, d.2.1, d.2.2.1, q'), [orS (decS (sumI l))], c) by rw [HR2.out, hl, hcc])
  rw [hl] at SL ⊢
  rw [hcc]
  clear hl hcc HR2
  have HSU := hd (sum_impl w6 _ l SL)
  have HDC := hd (dec_impl w6 (sumI l) (sumI_bd l) (HZS.out _ K).1)
  clear SL
  go_wp2_with fail
  refine HSU.out.mono ?_
  rintro e wx ⟨rfl, hw⟩
  have hw := hw.symm
  subst hw
  go_wp2_with fail
  refine HDC.out.mono ?_
  rintro e w7 ⟨rfl, hb7⟩
  replace K := below_step K hb7
  go_wp2_with fail
  refine (or_impl _ _).mono ?_
  rintro e w8 ⟨v8, rfl, O8, hb8⟩
  have O9 := O8.base (Nat.le_trans hBZ K.size)
  replace K := below_step K hb8
  obtain ⟨A8, c8, rfl⟩ := O8.isSlice
  go_wp2_with fail
  go_ret2
  exact exec_to (d := (d.1, d.2.1, d.2.2.1, q')) (BZ.trans (K.mono hBZ)) O9 (DZ.below K) (P1.below K (Nat.le_refl _)) (P2.below K (Nat.le_refl _)) HR3.out
end Go.Proofs.YtgcodjkjdfahdaaGreatDoor

namespace Go.Proofs.YtgcodjkjdfahdaaGreatDoor
open Go Go.RowKit Go.ChangeShapes Go.WideShapes
set_option linter.unusedSimpArgs false
set_option linter.unusedVariables false
def wordNo (s : ByteArray) : Nat :=
  if s = ⟨#[115, 101, 101, 110]⟩ then 0
  else if s = ⟨#[100, 105, 115, 99]⟩ then 1
  else if s = ⟨#[115, 104, 111, 119, 115]⟩ then 2
  else if s = ⟨#[102, 101, 119, 101, 115, 116]⟩ then 3
  else if s = ⟨#[102, 111, 114]⟩ then 4
  else if s = ⟨#[105, 109, 97, 103, 101]⟩ then 5
  else if s = ⟨#[99, 117, 101]⟩ then 6
  else if s = ⟨#[115, 104, 105, 102, 116, 115]⟩ then 7
  else if s = ⟨#[108, 111, 97, 100, 115]⟩ then 8
  else if s = ⟨#[98, 117, 114, 110]⟩ then 9
  else if s = ⟨#[116, 105, 116, 108, 101]⟩ then 10
  else if s = ⟨#[116, 105, 116, 108, 101, 115]⟩ then 11
  else if s = ⟨#[101, 110, 116, 101, 114]⟩ then 12
  else if s = ⟨#[108, 111, 103]⟩ then 13
  else 14
theorem wordNo_seen : wordNo ⟨#[115, 101, 101, 110]⟩ = 0 := by unfold wordNo; simp
theorem wordNo_disc : wordNo ⟨#[100, 105, 115, 99]⟩ = 1 := by unfold wordNo; simp
theorem wordNo_shows : wordNo ⟨#[115, 104, 111, 119, 115]⟩ = 2 := by unfold wordNo; simp
theorem wordNo_fewest : wordNo ⟨#[102, 101, 119, 101, 115, 116]⟩ = 3 := by unfold wordNo; simp
theorem wordNo_for : wordNo ⟨#[102, 111, 114]⟩ = 4 := by unfold wordNo; simp
theorem wordNo_image : wordNo ⟨#[105, 109, 97, 103, 101]⟩ = 5 := by unfold wordNo; simp
theorem wordNo_cue : wordNo ⟨#[99, 117, 101]⟩ = 6 := by unfold wordNo; simp
theorem wordNo_shifts : wordNo ⟨#[115, 104, 105, 102, 116, 115]⟩ = 7 := by unfold wordNo; simp
theorem wordNo_loads : wordNo ⟨#[108, 111, 97, 100, 115]⟩ = 8 := by unfold wordNo; simp
theorem wordNo_burn : wordNo ⟨#[98, 117, 114, 110]⟩ = 9 := by unfold wordNo; simp
theorem wordNo_title : wordNo ⟨#[116, 105, 116, 108, 101]⟩ = 10 := by unfold wordNo; simp
theorem wordNo_titles : wordNo ⟨#[116, 105, 116, 108, 101, 115]⟩ = 11 := by unfold wordNo; simp
theorem wordNo_enter : wordNo ⟨#[101, 110, 116, 101, 114]⟩ = 12 := by unfold wordNo; simp
theorem wordNo_log : wordNo ⟨#[108, 111, 103]⟩ = 13 := by unfold wordNo; simp
def execK (k : Nat) (d : TDk) (ws : List ByteArray) (s : Nat → ByteArray) (n : Nat → Int) : TRes :=
  match k with
  | 0 => (d, [orS (numsS ⟨#[32]⟩ (seenR (n 0) (n 1)).1)], (seenR (n 0) (n 1)).2)
  | 1 => discX d (s 1)
  | 2 => (d, [orS (motR d.1 (n 0)).1], (motR d.1 (n 0)).2)
  | 3 => (d, [orS (decS (fewR (s 1)).1)], (fewR (s 1)).2)
  | 4 => (d, [orS (dforR (s 1) (n 0)).1], (dforR (s 1) (n 0)).2)
  | 5 => (d, [orS (fracT (imgC (n 0) (n 1)).1 (imgC (n 0) (n 1)).2.1)], (imgC (n 0) (n 1)).2.2)
  | 6 => cueX d (n 0, n 1, n 2, n 3)
  | 7 => (d, [orS (numsS ⟨#[32]⟩ (leastR d.2.1 (n 0)).1)], (leastR d.2.1 (n 0)).2)
  | 8 => (d, [orS (decS (loadR (s 1) (n 0)).1)], (loadR (s 1) (n 0)).2)
  | 9 => (d, [orS (lampR (n 0) (n 1) (n 2) (n 3)).1], (lampR (n 0) (n 1) (n 2) (n 3)).2)
  | 10 => titleX d (joinS ⟨#[32]⟩ (ws.drop 1))
  | 11 => (d, d.2.2.1.map ttS ++ [okS (d.2.2.1.map ttS).length], 0)
  | 12 => enterX d (n 0) (s 2) (n 1)
  | 13 => (d, (readL d.2.2.2).l.map wwS ++ [okS ((readL d.2.2.2).l.map wwS).length], 0)
  | _ => (d, [], 7)
def execR (d : TDk) (ws : List ByteArray) (ns : List Int) : TRes := execK (wordNo (ws.getD 0 ⟨#[]⟩)) d ws (fun i => ws.getD i ⟨#[]⟩) (fun i => ns.getD i 0)
theorem execR_seen (d : TDk) (s1 s2 : ByteArray) (n0 n1 : Int) : execR d [⟨#[115, 101, 101, 110]⟩, s1, s2] [n0, n1] = (d, [orS (numsS ⟨#[32]⟩ (seenR n0 n1).1)], (seenR n0 n1).2) := by
  show execK (wordNo ⟨#[115, 101, 101, 110]⟩) d _ _ _ = _
  rw [wordNo_seen]
  rfl
theorem execR_disc (d : TDk) (s1 : ByteArray) : execR d [⟨#[100, 105, 115, 99]⟩, s1] [] = discX d s1 := by
  show execK (wordNo ⟨#[100, 105, 115, 99]⟩) d _ _ _ = _
  rw [wordNo_disc]
  rfl
theorem execR_shows (d : TDk) (s1 : ByteArray) (n0 : Int) : execR d [⟨#[115, 104, 111, 119, 115]⟩, s1] [n0] = (d, [orS (motR d.1 n0).1], (motR d.1 n0).2) := by
  show execK (wordNo ⟨#[115, 104, 111, 119, 115]⟩) d _ _ _ = _
  rw [wordNo_shows]
  rfl
theorem execR_fewest (d : TDk) (s1 : ByteArray) : execR d [⟨#[102, 101, 119, 101, 115, 116]⟩, s1] [] = (d, [orS (decS (fewR s1).1)], (fewR s1).2) := by
  show execK (wordNo ⟨#[102, 101, 119, 101, 115, 116]⟩) d _ _ _ = _
  rw [wordNo_fewest]
  rfl
theorem execR_for (d : TDk) (s1 s2 : ByteArray) (n0 : Int) : execR d [⟨#[102, 111, 114]⟩, s1, s2] [n0] = (d, [orS (dforR s1 n0).1], (dforR s1 n0).2) := by
  show execK (wordNo ⟨#[102, 111, 114]⟩) d _ _ _ = _
  rw [wordNo_for]
  rfl
theorem execR_image (d : TDk) (s1 s2 : ByteArray) (n0 n1 : Int) : execR d [⟨#[105, 109, 97, 103, 101]⟩, s1, s2] [n0, n1] = (d, [orS (fracT (imgC n0 n1).1 (imgC n0 n1).2.1)], (imgC n0 n1).2.2) := by
  show execK (wordNo ⟨#[105, 109, 97, 103, 101]⟩) d _ _ _ = _
  rw [wordNo_image]
  rfl
theorem execR_cue (d : TDk) (s1 s2 s3 s4 : ByteArray) (n0 n1 n2 n3 : Int) : execR d [⟨#[99, 117, 101]⟩, s1, s2, s3, s4] [n0, n1, n2, n3] = cueX d (n0, n1, n2, n3) := by
  show execK (wordNo ⟨#[99, 117, 101]⟩) d _ _ _ = _
  rw [wordNo_cue]
  rfl
theorem execR_shifts (d : TDk) (s1 : ByteArray) (n0 : Int) : execR d [⟨#[115, 104, 105, 102, 116, 115]⟩, s1] [n0] = (d, [orS (numsS ⟨#[32]⟩ (leastR d.2.1 n0).1)], (leastR d.2.1 n0).2) := by
  show execK (wordNo ⟨#[115, 104, 105, 102, 116, 115]⟩) d _ _ _ = _
  rw [wordNo_shifts]
  rfl
theorem execR_loads (d : TDk) (s1 s2 : ByteArray) (n0 : Int) : execR d [⟨#[108, 111, 97, 100, 115]⟩, s1, s2] [n0] = (d, [orS (decS (loadR s1 n0).1)], (loadR s1 n0).2) := by
  show execK (wordNo ⟨#[108, 111, 97, 100, 115]⟩) d _ _ _ = _
  rw [wordNo_loads]
  rfl
theorem execR_burn (d : TDk) (s1 s2 s3 s4 : ByteArray) (n0 n1 n2 n3 : Int) : execR d [⟨#[98, 117, 114, 110]⟩, s1, s2, s3, s4] [n0, n1, n2, n3] = (d, [orS (lampR n0 n1 n2 n3).1], (lampR n0 n1 n2 n3).2) := by
  show execK (wordNo ⟨#[98, 117, 114, 110]⟩) d _ _ _ = _
  rw [wordNo_burn]
  rfl
theorem execR_title (d : TDk) (r : List ByteArray) (ns : List Int) : execR d (⟨#[116, 105, 116, 108, 101]⟩ :: r) ns = titleX d (joinS ⟨#[32]⟩ r) := by
  show execK (wordNo ⟨#[116, 105, 116, 108, 101]⟩) d _ _ _ = _
  rw [wordNo_title]
  rfl
theorem execR_titles (d : TDk) : execR d [⟨#[116, 105, 116, 108, 101, 115]⟩] [] = (d, d.2.2.1.map ttS ++ [okS (d.2.2.1.map ttS).length], 0) := by
  show execK (wordNo ⟨#[116, 105, 116, 108, 101, 115]⟩) d _ _ _ = _
  rw [wordNo_titles]
  rfl
theorem execR_enter (d : TDk) (s1 s2 s3 : ByteArray) (n0 n1 : Int) : execR d [⟨#[101, 110, 116, 101, 114]⟩, s1, s2, s3] [n0, n1] = enterX d n0 s2 n1 := by
  show execK (wordNo ⟨#[101, 110, 116, 101, 114]⟩) d _ _ _ = _
  rw [wordNo_enter]
  rfl
theorem execR_log (d : TDk) : execR d [⟨#[108, 111, 103]⟩] [] = (d, (readL d.2.2.2).l.map wwS ++ [okS ((readL d.2.2.2).l.map wwS).length], 0) := by
  show execK (wordNo ⟨#[108, 111, 103]⟩) d _ _ _ = _
  rw [wordNo_log]
  rfl
def fitsB (ws : List ByteArray) (ns : List Int) : Prop :=
  (∃ (s1 : ByteArray) (s2 : ByteArray), ∃ (n0 : Int) (n1 : Int), ws = [⟨#[115, 101, 101, 110]⟩, s1, s2] ∧ ns = [n0, n1]) ∨
  (∃ (s1 : ByteArray), ws = [⟨#[100, 105, 115, 99]⟩, s1] ∧ ns = []) ∨
  (∃ (s1 : ByteArray), ∃ (n0 : Int), ws = [⟨#[115, 104, 111, 119, 115]⟩, s1] ∧ ns = [n0]) ∨
  (∃ (s1 : ByteArray), ws = [⟨#[102, 101, 119, 101, 115, 116]⟩, s1] ∧ ns = []) ∨
  (∃ (s1 : ByteArray) (s2 : ByteArray), ∃ (n0 : Int), ws = [⟨#[102, 111, 114]⟩, s1, s2] ∧ ns = [n0]) ∨
  (∃ (s1 : ByteArray) (s2 : ByteArray), ∃ (n0 : Int) (n1 : Int), ws = [⟨#[105, 109, 97, 103, 101]⟩, s1, s2] ∧ ns = [n0, n1]) ∨
  (∃ (s1 : ByteArray) (s2 : ByteArray) (s3 : ByteArray) (s4 : ByteArray), ∃ (n0 : Int) (n1 : Int) (n2 : Int) (n3 : Int), ws = [⟨#[99, 117, 101]⟩, s1, s2, s3, s4] ∧ ns = [n0, n1, n2, n3]) ∨
  (∃ (s1 : ByteArray), ∃ (n0 : Int), ws = [⟨#[115, 104, 105, 102, 116, 115]⟩, s1] ∧ ns = [n0]) ∨
  (∃ (s1 : ByteArray) (s2 : ByteArray), ∃ (n0 : Int), ws = [⟨#[108, 111, 97, 100, 115]⟩, s1, s2] ∧ ns = [n0]) ∨
  (∃ (s1 : ByteArray) (s2 : ByteArray) (s3 : ByteArray) (s4 : ByteArray), ∃ (n0 : Int) (n1 : Int) (n2 : Int) (n3 : Int), ws = [⟨#[98, 117, 114, 110]⟩, s1, s2, s3, s4] ∧ ns = [n0, n1, n2, n3]) ∨
  (∃ r, ws = ⟨#[116, 105, 116, 108, 101]⟩ :: r ∧ 0 < r.length ∧ ns = []) ∨
  (ws = [⟨#[116, 105, 116, 108, 101, 115]⟩] ∧ ns = []) ∨
  (∃ (s1 : ByteArray) (s2 : ByteArray) (s3 : ByteArray), ∃ (n0 : Int) (n1 : Int), ws = [⟨#[101, 110, 116, 101, 114]⟩, s1, s2, s3] ∧ ns = [n0, n1]) ∨
  (ws = [⟨#[108, 111, 103]⟩] ∧ ns = [])
theorem okD_bd {d : TDk} (h : okD d = true) : d.1.size ≤ 24 ∧ d.2.1.length ≤ 6 ∧ d.2.2.1.length ≤ 20 ∧ d.2.2.2.size ≤ 4000 := by
  have h1 := okDesk_bd h
  refine ⟨h1.1, h1.2.1, h1.2.2, ?_⟩
  unfold okD okDeskB at h
  simp only [Bool.and_eq_true, decide_eq_true_eq] at h
  exact lc_size h.2.2.2
set_option maxRecDepth 100000 in
theorem exec_impl (w : World) (B g : Nat) (d : TDk) (hD : DeskOwn w B g d) (hok : okD d = true) (vW vN : Value) (ws : List ByteArray) (ns : List Int) (hfit : fitsB ws ns) (hW : Sl w 1 vW eS ws) (hN : Sl w 1 vN eI ns) (hwn : ws.length ≤ 1048577) (hwz : ∀ x ∈ ws, x.size ≤ 1048576) (hj : (joinS ⟨#[32]⟩ (ws.drop 1)).size ≤ 1048576)
    (hNb : ∀ b, vN.ownBlock = some b → b < B ∨ g < b) (hbw : ∀ b, vW.ownBlock = some b → b < B) (hsh : ShopB B w) :
    Calls Tryz.prog 34 #[.pointer (some ⟨g, 0, none⟩), vW, vN] w (ExecTo B g w (execR d ws ns)) := by
  obtain ⟨z1, z2, z3, z4⟩ := okD_bd hok
  have y1 : d.1.size ≤ 1048576 := Nat.le_trans z1 (by decide)
  have y4 : d.2.2.2.size ≤ 1048576 := Nat.le_trans z4 (by decide)
  rcases hfit with ⟨s1, s2, n0, n1, rfl, rfl⟩ | ⟨s1, rfl, rfl⟩ | ⟨s1, n0, rfl, rfl⟩ | ⟨s1, rfl, rfl⟩ | ⟨s1, s2, n0, rfl, rfl⟩ | ⟨s1, s2, n0, n1, rfl, rfl⟩ | ⟨s1, s2, s3, s4, n0, n1, n2, n3, rfl, rfl⟩ | ⟨s1, n0, rfl, rfl⟩ | ⟨s1, s2, n0, rfl, rfl⟩ | ⟨s1, s2, s3, s4, n0, n1, n2, n3, rfl, rfl⟩ | ⟨r, rfl, hr, rfl⟩ | ⟨rfl, rfl⟩ | ⟨s1, s2, s3, n0, n1, rfl, rfl⟩ | ⟨rfl, rfl⟩
  · rw [execR_seen]; exact exec_seen w B g d hD vW vN s1 s2 n0 n1 hW hN hsh.shop
  · rw [execR_disc]; exact exec_disc w B g d hD y4 vW vN s1 (hwz _ (by simp)) hW hN hsh
  · rw [execR_shows]; exact exec_shows w B g d hD y1 vW vN s1 n0 hW hN hsh.shop
  · rw [execR_fewest]; exact exec_fewest w B g d hD vW vN s1 (hwz _ (by simp)) hW hN hsh.shop
  · rw [execR_for]; exact exec_for w B g d hD vW vN s1 s2 (hwz _ (by simp)) n0 hW hN hsh.shop
  · rw [execR_image]; exact exec_image w B g d hD vW vN s1 s2 n0 n1 hW hN hsh.shop
  · rw [execR_cue]; exact exec_cue w B g d hD y1 y4 z2 vW vN s1 s2 s3 s4 n0 n1 n2 n3 hW hN hNb hsh
  · rw [execR_shifts]; exact exec_shifts w B g d hD vW vN s1 n0 hW hN hsh.shop
  · rw [execR_loads]; exact exec_loads w B g d hD vW vN s1 s2 (hwz _ (by simp)) n0 hW hN hsh.shop
  · rw [execR_burn]; exact exec_burn w B g d hD vW vN s1 s2 s3 s4 n0 n1 n2 n3 hW hN hsh.shop
  · rw [execR_title]; exact exec_title w B g d hD y1 y4 vW vN r hW hr (Nat.le_of_succ_le_succ hwn) (fun x hx => hwz x (List.mem_cons_of_mem _ hx)) hj hN hsh
  · rw [execR_titles]; exact exec_titles w B g d hD z3 vW vN hW hN hsh.shop
  · rw [execR_enter]; exact exec_enter w B g d hD y4 vW vN s1 s2 s3 n0 n1 (hwz _ (by simp)) hW hN hbw hsh
  · rw [execR_log]; exact exec_log w B g d hD y4 z4 vW vN hW hN hsh.shop
end Go.Proofs.YtgcodjkjdfahdaaGreatDoor
