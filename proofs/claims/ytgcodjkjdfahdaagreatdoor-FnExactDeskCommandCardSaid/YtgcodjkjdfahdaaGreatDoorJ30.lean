/- Lemmas for the claim (the walks of its functions and their plain laws), joined. No condition. -/
import Derived.Test.YtgcodjkjdfahdaaGreatDoorJ26
import Derived.Test.YtgcodjkjdfahdaaGreatDoorJ25
namespace Go.Proofs.YtgcodjkjdfahdaaGreatDoor
open Go Go.RowKit Go.ChangeShapes Go.WideShapes
set_option linter.unusedSimpArgs false
set_option linter.unusedVariables false
def addG (s : ByteArray) (l : List TEntry) (st : Int) (x : TEntry) : ByteArray × Int :=
  if okEntryB x = true then
    if dayOf l ≤ x.1 then
      if (s ++ lineS (stampN st (wordsE x)) x).size ≤ 4000 then (s ++ lineS (stampN st (wordsE x)) x, 0) else (⟨#[]⟩, 5)
    else (⟨#[]⟩, 6)
  else (⟨#[]⟩, 7)
def addR (s : ByteArray) (x : TEntry) : ByteArray × Int := if lc s = 0 then addG s (readL s).l (readL s).st x else (⟨#[]⟩, lc s)
theorem addG_bad {s : ByteArray} {l : List TEntry} {st : Int} {x : TEntry} (h : okEntryB x = false) : addG s l st x = (⟨#[]⟩, 7) := by unfold addG; rw [if_neg (by rw [h]; decide)]
theorem addG_day {s : ByteArray} {l : List TEntry} {st : Int} {x : TEntry} (h : okEntryB x = true) (hd : ¬ dayOf l ≤ x.1) : addG s l st x = (⟨#[]⟩, 6) := by unfold addG; rw [if_pos h, if_neg hd]
theorem addG_full {s : ByteArray} {l : List TEntry} {st : Int} {x : TEntry} (h : okEntryB x = true) (hd : dayOf l ≤ x.1) (hz : ¬ (s ++ lineS (stampN st (wordsE x)) x).size ≤ 4000) : addG s l st x = (⟨#[]⟩, 5) := by unfold addG; rw [if_pos h, if_pos hd, if_neg hz]
theorem addG_good {s : ByteArray} {l : List TEntry} {st : Int} {x : TEntry} (h : okEntryB x = true) (hd : dayOf l ≤ x.1) (hz : (s ++ lineS (stampN st (wordsE x)) x).size ≤ 4000) : addG s l st x = (s ++ lineS (stampN st (wordsE x)) x, 0) := by unfold addG; rw [if_pos h, if_pos hd, if_pos hz]
set_option maxRecDepth 100000 in
set_option maxHeartbeats 8000000 in
theorem add_spec (w : World) (s : ByteArray) (a : Int) (b : ByteArray) (c : Int) (hs : s.size ≤ 1048576) :
    Calls Tryz.prog 165 #[.string s, .agg #[.int .i64 a, .string b, .int .i64 c]] w fun e w' => e = .returned (.tuple #[.string (addR s (a, b, c)).1, .int .i64 (addR s (a, b, c)).2]) ∧ Below w.heap.size w w' := by
  obtain ⟨t0, t1, t2, -, hz0, hb0⟩ := new3 w (.int .i64 a) (.string b) (.int .i64 c) 130
  go_enter Tryz.func165, Tryz.ntmps165
  go_wp2_with fail
  generalize w.alloc (.cells #[.int .i64 a, .string b, .int .i64 c] 130) = W0 at t0 t1 t2 hz0 hb0 ⊢
  refine (code_spec _ _ hs).mono ?_
  rintro e w1 ⟨g, rfl, hr, B⟩
  have B1 := below_step hb0 B
  by_cases hc : lc s = 0
  case neg =>
    have HR := hd (show addR s (a, b, c) = (⟨#[]⟩, lc s) by unfold addR; rw [if_neg hc])
    obtain ⟨x, hx⟩ : ∃ x, lc s = x := ⟨_, rfl⟩
    rw [hx] at hc HR ⊢
    have kc : (x != 0) = true := by simpa using hc
    clear hr hc hx
    go_wp2_with fail
    go_ret2
    exact ⟨by rw [HR.out]; rfl, B1⟩
  have HR := hd (show addR s (a, b, c) = addG s (readL s).l (readL s).st (a, b, c) by unfold addR; rw [if_pos hc])
  have hz4 := lc_size hc
  obtain ⟨v, R, O, hg, -⟩ := hr hc
  rw [hc]
  clear hc hr
  have hx0 : w.heap.size < W0.heap.size := by omega
  have HTW := hd (show ∀ W, Below w1.heap.size w1 W → W.cell? ⟨w.heap.size, 0, none⟩ = some (.int .i64 a) ∧ W.cell? ⟨w.heap.size, 1, none⟩ = some (.string b) ∧ W.cell? ⟨w.heap.size, 2, none⟩ = some (.int .i64 c) from fun W k => ⟨((below_step B k).cell (p := ⟨w.heap.size, 0, none⟩) hx0).trans t0, ((below_step B k).cell (p := ⟨w.heap.size, 1, none⟩) hx0).trans t1, ((below_step B k).cell (p := ⟨w.heap.size, 2, none⟩) hx0).trans t2⟩)
  have HRW := hd (show ∀ W, Below w1.heap.size w1 W → Rs W g s v (readL s).st (readL s).at_ ∧ Sl W 3 v eEntry (readL s).l from fun W k => ⟨R.below R.1 k, (O.sl eEntry_len).below k⟩)
  have hst := readL_st s
  obtain ⟨q3, q4⟩ := hst
  obtain ⟨T, hT⟩ : ∃ T, readL s = T := ⟨_, rfl⟩
  rw [hT] at HR HRW q3 q4
  clear R O t0 t1 t2 hT
  rcases he : okEntryB (a, b, c) with _ | _
  · have HE := hd (addG_bad (s := s) (l := T.l) (st := T.st) he)
    have HOK := hd (show Calls Tryz.prog 223 #[.pointer (some ⟨w.heap.size, 0, none⟩)] w1 fun e w' => e = .returned (.bool false) ∧ w' = w1 by
      rw [← he]
      exact okE_spec w1 w.heap.size 0 a b c (HTW.out _ (Below.refl _ _)).1 (HTW.out _ (Below.refl _ _)).2.1 (HTW.out _ (Below.refl _ _)).2.2)
    clear he
    go_wp2_with fail
    refine HOK.out.mono ?_
    rintro e ww ⟨rfl, hw⟩
    have hw := hw.symm
    subst hw
    go_wp2_with fail
    go_ret2
    exact ⟨by rw [HR.out, HE.out]; rfl, B1⟩
  have HOK := hd (show Calls Tryz.prog 223 #[.pointer (some ⟨w.heap.size, 0, none⟩)] w1 fun e w' => e = .returned (.bool true) ∧ w' = w1 by
    rw [← he]
    exact okE_spec w1 w.heap.size 0 a b c (HTW.out _ (Below.refl _ _)).1 (HTW.out _ (Below.refl _ _)).2.1 (HTW.out _ (Below.refl _ _)).2.2)
  have HE := hd he
  clear he
  have K := Below.refl w1.heap.size w1
  go_wp2_with fail
  refine HOK.out.mono ?_
  rintro e ww ⟨rfl, hw⟩
  have hw := hw.symm
  subst hw
  clear HOK
  go_wp2_with fail
  obtain ⟨δ, hδ⟩ : ∃ δ, dayOf T.l = δ := ⟨_, rfl⟩
  have HDAY := hd (show ∀ x : Ext w1, Calls Tryz.prog 224 #[.pointer (some ⟨g, 0, none⟩)] (gro w1 x) fun e w' => e = .returned (.int .i64 δ) ∧ ∃ y, w' = gro w1 y from fun x => calm_of_drew (by rw [← hδ]; exact day_log (gro w1 x) g _ T.l (HRW.out _ (gro_below x)).1.2.1.2.2.2 (HRW.out _ (gro_below x)).2))
  have HDL := hd hδ
  have gt0 := gro_cell (HTW.out _ K).1
  clear hδ
  refine wp_region_calm (by kernel_rfl) (by kernel_rfl) ?_
  repeat (first | go_big_quiet_step ((first | (go_at_call 224; exact HDAY.out _))) | quiet_step ((first | (go_at_call 224; exact HDAY.out _))))
  refine wpQuiet_nil ?_
  rintro w6 ⟨x, rfl⟩
  have hgx := gro_below x
  generalize gro w1 x = w6 at hgx ⊢
  replace K := below_step K hgx
  clear HDAY gt0 hgx
  rcases hday : decide (a < δ) with _ | _
  case true =>
    have HE2 := hd (addG_day (s := s) (l := T.l) (st := T.st) HE.out (by rw [HDL.out]; have := of_decide_eq_true hday; show ¬ δ ≤ a; omega))
    have hlt : a < δ := of_decide_eq_true hday
    go_wp2_with fail
    go_ret2
    exact ⟨by rw [HR.out, HE2.out]; rfl, below_step B1 K⟩
  have hlt : ¬ a < δ := of_decide_eq_false hday
  have HDD := hd (show dayOf T.l ≤ ((a, b, c) : TEntry).1 by rw [HDL.out]; show δ ≤ a; omega)
  go_wp2_with fail
  have HT6 := hd (show ∀ x : Ext w6, (gro w6 x).cell? ⟨w.heap.size, 0, none⟩ = some (.int .i64 a) ∧ (gro w6 x).cell? ⟨w.heap.size, 1, none⟩ = some (.string b) ∧ (gro w6 x).cell? ⟨w.heap.size, 2, none⟩ = some (.int .i64 c) from fun x => HTW.out _ (below_step K (gro_below x)))
  obtain ⟨σ, hσ⟩ : ∃ σ, stampN T.st (wordsS a b c) = σ := ⟨_, rfl⟩
  have HSB := hd (show 0 ≤ σ ∧ σ ≤ 65518 by rw [← hσ]; exact stampN_bd _ _)
  have HSTP := hd (show ∀ x : Ext w6, Calls Tryz.prog 226 #[.int .i64 T.st, .string (wordsS a b c)] (gro w6 x) fun e w' => e = .returned (.int .i64 σ) ∧ ∃ y, w' = gro w6 y from fun x => calm_of_same (by rw [← hσ]; exact l27Stamp_spec (gro w6 x) T.st ⟨q3, q4⟩ (wordsS a b c) (Nat.le_trans (words_size HE.out) (by omega))))
  have HSG := hd hσ
  have hls := lineS_size HSB.out HE.out
  have gst := gro_cell (HRW.out _ K).1.2.1.2.2.1
  have hcz : (s ++ lineS σ (a, b, c)).size ≤ 1048576 := by rw [ByteArray.size_append]; omega
  clear hσ
  refine wp_region_calm (by kernel_rfl) (by kernel_rfl) ?_
  repeat (first | go_big_quiet_step ((first | (go_at_call 175; exact calm_of (words_spec _ w.heap.size 0 a b c (HT6.out _).1 (HT6.out _).2.1 (HT6.out _).2.2 HE.out)) | (go_at_call 226; exact HSTP.out _) | (go_at_call 225; exact calm_of (line_spec _ σ HSB.out w.heap.size 0 (a, b, c) (HT6.out _).1 (HT6.out _).2.1 (HT6.out _).2.2 HE.out)))) | quiet_step ((first | (go_at_call 175; exact calm_of (words_spec _ w.heap.size 0 a b c (HT6.out _).1 (HT6.out _).2.1 (HT6.out _).2.2 HE.out)) | (go_at_call 226; exact HSTP.out _) | (go_at_call 225; exact calm_of (line_spec _ σ HSB.out w.heap.size 0 (a, b, c) (HT6.out _).1 (HT6.out _).2.1 (HT6.out _).2.2 HE.out)))))
  refine wpQuiet_nil ?_
  rintro w8 ⟨x, rfl⟩
  have hgx := gro_below x
  generalize gro w6 x = w8 at hgx ⊢
  replace K := below_step K hgx
  clear HT6 HSTP gst hgx
  obtain ⟨out, hout⟩ : ∃ out, s ++ lineS σ (a, b, c) = out := ⟨_, rfl⟩
  rw [hout] at hcz ⊢
  have HO := hd (show s ++ lineS (stampN T.st (wordsE (a, b, c))) (a, b, c) = out by rw [← hout, ← HSG.out]; rfl)
  clear hout
  by_cases hz : out.size ≤ 4000
  · have HE2 := hd (addG_good (s := s) (l := T.l) (st := T.st) HE.out HDD.out (by rw [HO.out]; exact hz))
    go_wp2_with fail
    go_ret2
    exact ⟨by rw [HR.out, HE2.out, HO.out]; rfl, below_step B1 K⟩
  · have HE2 := hd (addG_full (s := s) (l := T.l) (st := T.st) HE.out HDD.out (by rw [HO.out]; exact hz))
    have hz' : 4000 < out.size := by omega
    go_wp2_with fail
    go_ret2
    exact ⟨by rw [HR.out, HE2.out]; rfl, below_step B1 K⟩
set_option maxRecDepth 100000 in
set_option maxHeartbeats 8000000 in
theorem added_impl (w : World) (s : ByteArray) (v : Value) (l : List TEntry) (st n : Int) (a : Int) (b : ByteArray) (c : Int) (hs : s.size ≤ 4000) (hS : Sl w 3 v eEntry l) (q3 : 0 ≤ st) (q4 : st ≤ 65518) (ht : Tab w) :
    Calls Tryz.prog 152 #[.string s, .agg #[v, .int .i64 st, .int .i64 n], .agg #[.int .i64 a, .string b, .int .i64 c]] w fun e w' => e = .returned (.tuple #[.string (addG s l st (a, b, c)).1, .int .i64 (addG s l st (a, b, c)).2]) ∧ Below w.heap.size w w' := by
  have hl := hS.len
  obtain ⟨A, cc, rfl⟩ := hS.isSlice
  obtain ⟨r0, r1, r2, -, hz0, hb0⟩ := new3 w (.slice A l.length cc) (.int .i64 st) (.int .i64 n) 135
  obtain ⟨t0, t1, t2, -, hz1, hb1⟩ := new3 (w.alloc (.cells #[.slice A l.length cc, .int .i64 st, .int .i64 n] 135)) (.int .i64 a) (.string b) (.int .i64 c) 130
  rw [hz0] at t0 t1 t2 hz1
  have hlt0 : w.heap.size < (w.alloc (.cells #[.slice A l.length cc, .int .i64 st, .int .i64 n] 135)).heap.size := by omega
  have s0 := (hb1.cell (p := ⟨w.heap.size, 0, none⟩) hlt0).trans r0
  have s1 := (hb1.cell (p := ⟨w.heap.size, 1, none⟩) hlt0).trans r1
  have B1 := below_step hb0 hb1
  have S1 := hS.below B1
  have HTB := hd (ht.below B1)
  clear r0 r1 r2 hb0 hb1 hS ht hlt0
  go_enter Tryz.func152, Tryz.ntmps152
  go_wp2_with fail
  generalize (w.alloc (.cells #[.slice A l.length cc, .int .i64 st, .int .i64 n] 135)).alloc (.cells #[.int .i64 a, .string b, .int .i64 c] 130) = W1 at t0 t1 t2 s0 s1 hz1 B1 S1 HTB ⊢
  have HTW := hd (show ∀ W, Below W1.heap.size W1 W → (W.cell? ⟨w.heap.size + 1, 0, none⟩ = some (.int .i64 a) ∧ W.cell? ⟨w.heap.size + 1, 1, none⟩ = some (.string b) ∧ W.cell? ⟨w.heap.size + 1, 2, none⟩ = some (.int .i64 c)) ∧ W.cell? ⟨w.heap.size, 0, none⟩ = some (.slice A l.length cc) ∧ W.cell? ⟨w.heap.size, 1, none⟩ = some (.int .i64 st) ∧ Sl W 3 (.slice A l.length cc) eEntry l ∧ Tab W from fun W k => ⟨⟨(k.cell (p := ⟨w.heap.size + 1, 0, none⟩) (show w.heap.size + 1 < W1.heap.size by omega)).trans t0, (k.cell (p := ⟨w.heap.size + 1, 1, none⟩) (show w.heap.size + 1 < W1.heap.size by omega)).trans t1, (k.cell (p := ⟨w.heap.size + 1, 2, none⟩) (show w.heap.size + 1 < W1.heap.size by omega)).trans t2⟩, (k.cell (p := ⟨w.heap.size, 0, none⟩) (show w.heap.size < W1.heap.size by omega)).trans s0, (k.cell (p := ⟨w.heap.size, 1, none⟩) (show w.heap.size < W1.heap.size by omega)).trans s1, S1.below k, HTB.out.below k⟩)
  clear t0 t1 t2 s0 s1 S1 HTB hz1 hz0
  refine (entry_impl _ _ _ _).mono ?_
  rintro e w2 ⟨rfl, K⟩
  rcases he : okEntryB (a, b, c) with _ | _
  · have HE := hd (addG_bad (s := s) (l := l) (st := st) he)
    clear he
    go_wp2_with fail
    go_ret2
    exact ⟨by rw [HE.out]; rfl, below_step B1 K⟩
  have HE := hd he
  have hda := (okEntryB_bd he).1
  clear he
  obtain ⟨⟨t0, t1, t2⟩, s0, s1, S2, -⟩ := HTW.out _ K
  by_cases hm : l.length = 0
  · have HDD := hd (show dayOf l ≤ ((a, b, c) : TEntry).1 by rw [dayOf_nil hm]; exact hda.1)
    have hz : decide ((0 : Int) < ((0 : Nat) : Int)) = false := by decide
    have HTW0 := HTW
    rw [hm] at s0 ⊢
    go_wp2_with fail
    go_quiet (fail)
    replace K := below_drewN K nq
    clear t0 t1 t2 s0 s1 S2
    generalize w2.drewN nq = w6 at K ⊢
    go_wp2_with fail
    have HT6 := hd (show ∀ x : Ext w6, ((gro w6 x).cell? ⟨w.heap.size + 1, 0, none⟩ = some (.int .i64 a) ∧ (gro w6 x).cell? ⟨w.heap.size + 1, 1, none⟩ = some (.string b) ∧ (gro w6 x).cell? ⟨w.heap.size + 1, 2, none⟩ = some (.int .i64 c)) ∧ (gro w6 x).cell? ⟨w.heap.size, 0, none⟩ = some (.slice A l.length cc) ∧ (gro w6 x).cell? ⟨w.heap.size, 1, none⟩ = some (.int .i64 st) ∧ Sl (gro w6 x) 3 (.slice A l.length cc) eEntry l ∧ Tab (gro w6 x) from fun x => HTW0.out _ (below_step K (gro_below x)))
    obtain ⟨σ, hσ⟩ : ∃ σ, stampN st (wordsS a b c) = σ := ⟨_, rfl⟩
    have HSB := hd (show 0 ≤ σ ∧ σ ≤ 65518 by rw [← hσ]; exact stampN_bd _ _)
    obtain ⟨hsb1, hsb2⟩ := HSB.out
    have HSTP := hd (show ∀ x : Ext w6, Calls Tryz.prog 156 #[.int .i64 st, .agg #[.int .i64 a, .string b, .int .i64 c]] (gro w6 x) fun e w' => e = .returned (.int .i64 σ) ∧ ∃ y, w' = gro w6 y from fun x => calm_of (by rw [← hσ]; exact stampOf_impl (gro w6 x) st ⟨q3, q4⟩ a b c HE.out (HT6.out x).2.2.2.2))
    have HSG := hd hσ
    have hls := lineS_size HSB.out HE.out
    have hwz := words_size HE.out
    have hdz := decS_size (n := σ) (by omega)
    obtain ⟨⟨k0, k1, k2⟩, -, k3, -⟩ := HTW0.out _ K
    have g0 := gro_cell k0
    have g1 := gro_cell k1
    have g2 := gro_cell k2
    have g3 := gro_cell k3
    clear hσ k0 k1 k2 k3
    refine wp_region_calm (by kernel_rfl) (by kernel_rfl) ?_
    repeat (first | go_big_quiet_step ((first | (go_at_call 88; exact calm_of (words_impl _ a b c HE.out (HT6.out _).2.2.2.2)) | (go_at_call 156; exact HSTP.out _) | (go_at_call 36; exact calm_of (dec_impl _ _ (by omega) (HT6.out _).2.2.2.2)))) | quiet_step ((first | (go_at_call 88; exact calm_of (words_impl _ a b c HE.out (HT6.out _).2.2.2.2)) | (go_at_call 156; exact HSTP.out _) | (go_at_call 36; exact calm_of (dec_impl _ _ (by omega) (HT6.out _).2.2.2.2)))))
    refine wpQuiet_nil ?_
    rintro w8 ⟨x, rfl⟩
    have hgx := gro_below x
    generalize gro w6 x = w8 at hgx ⊢
    replace K := below_step K hgx
    clear HT6 HSTP g0 g1 g2 g3 hgx
    obtain ⟨out, hout⟩ : ∃ out, s ++ (wordsS a b c ++ ⟨#[32]⟩ ++ decS σ ++ ⟨#[10]⟩) = out := ⟨_, rfl⟩
    have hoz : out.size ≤ 1048576 := by rw [← hout]; simp only [ByteArray.size_append]; show s.size + (_ + 1 + _ + 1) ≤ 1048576; omega
    rw [hout]
    have HO := hd (show s ++ lineS (stampN st (wordsE (a, b, c))) (a, b, c) = out by rw [← hout, ← HSG.out]; rfl)
    clear hout
    by_cases hz : out.size ≤ 4000
    · have HE2 := hd (addG_good (s := s) (l := l) (st := st) HE.out HDD.out (by rw [HO.out]; exact hz))
      go_wp2_with fail
      go_ret2
      exact ⟨by rw [HE2.out, HO.out]; rfl, below_step B1 K⟩
    · have HE2 := hd (addG_full (s := s) (l := l) (st := st) HE.out HDD.out (by rw [HO.out]; exact hz))
      have hz' : 4000 < out.size := by omega
      go_wp2_with fail
      go_ret2
      exact ⟨by rw [HE2.out]; rfl, below_step B1 K⟩
  · have hm1 : l.length = (l.length - 1) + 1 := by omega
    have hdl := dayOf_last hm1
    obtain ⟨bl, ol, hA, hbl, p0, -, -⟩ := S2.Entry_at (show l.length - 1 < l.length by omega)
    rw [← hdl] at p0
    subst hA
    have hlt1 : l.length - 1 < l.length := by omega
    have hkp : 0 < l.length := by omega
    have hz : decide ((0 : Int) < ((l.length : Nat) : Int)) = true := by simp; omega
    clear hdl hm1
    obtain ⟨δ, hδ⟩ : ∃ δ, dayOf l = δ := ⟨_, rfl⟩
    rw [hδ] at p0
    have HDL := hd hδ
    have HTW0 := HTW
    clear hδ
    rcases hday : decide (a < δ) with _ | _
    case true =>
      have HE2 := hd (addG_day (s := s) (l := l) (st := st) HE.out (by rw [HDL.out]; have := of_decide_eq_true hday; show ¬ δ ≤ a; omega))
      go_wp2_with fail
      go_quiet (fail)
      go_wp2_with fail
      go_ret2
      exact ⟨by rw [HE2.out]; rfl, below_step B1 (below_drewN K nq)⟩
    have HDD := hd (show dayOf l ≤ ((a, b, c) : TEntry).1 by rw [HDL.out]; have := of_decide_eq_false hday; show δ ≤ a; omega)
    go_wp2_with fail
    go_quiet (fail)
    replace K := below_drewN K nq
    clear t0 t1 t2 s0 s1 S2 p0
    generalize w2.drewN nq = w6 at K ⊢
    go_wp2_with fail
    have HT6 := hd (show ∀ x : Ext w6, ((gro w6 x).cell? ⟨w.heap.size + 1, 0, none⟩ = some (.int .i64 a) ∧ (gro w6 x).cell? ⟨w.heap.size + 1, 1, none⟩ = some (.string b) ∧ (gro w6 x).cell? ⟨w.heap.size + 1, 2, none⟩ = some (.int .i64 c)) ∧ (gro w6 x).cell? ⟨w.heap.size, 0, none⟩ = some (.slice (some ⟨bl, ol, none⟩) l.length cc) ∧ (gro w6 x).cell? ⟨w.heap.size, 1, none⟩ = some (.int .i64 st) ∧ Sl (gro w6 x) 3 (.slice (some ⟨bl, ol, none⟩) l.length cc) eEntry l ∧ Tab (gro w6 x) from fun x => HTW0.out _ (below_step K (gro_below x)))
    obtain ⟨σ, hσ⟩ : ∃ σ, stampN st (wordsS a b c) = σ := ⟨_, rfl⟩
    have HSB := hd (show 0 ≤ σ ∧ σ ≤ 65518 by rw [← hσ]; exact stampN_bd _ _)
    obtain ⟨hsb1, hsb2⟩ := HSB.out
    have HSTP := hd (show ∀ x : Ext w6, Calls Tryz.prog 156 #[.int .i64 st, .agg #[.int .i64 a, .string b, .int .i64 c]] (gro w6 x) fun e w' => e = .returned (.int .i64 σ) ∧ ∃ y, w' = gro w6 y from fun x => calm_of (by rw [← hσ]; exact stampOf_impl (gro w6 x) st ⟨q3, q4⟩ a b c HE.out (HT6.out x).2.2.2.2))
    have HSG := hd hσ
    have hls := lineS_size HSB.out HE.out
    have hwz := words_size HE.out
    have hdz := decS_size (n := σ) (by omega)
    obtain ⟨⟨k0, k1, k2⟩, -, k3, -⟩ := HTW0.out _ K
    have g0 := gro_cell k0
    have g1 := gro_cell k1
    have g2 := gro_cell k2
    have g3 := gro_cell k3
    clear hσ k0 k1 k2 k3
    refine wp_region_calm (by kernel_rfl) (by kernel_rfl) ?_
    repeat (first | go_big_quiet_step ((first | (go_at_call 88; exact calm_of (words_impl _ a b c HE.out (HT6.out _).2.2.2.2)) | (go_at_call 156; exact HSTP.out _) | (go_at_call 36; exact calm_of (dec_impl _ _ (by omega) (HT6.out _).2.2.2.2)))) | quiet_step ((first | (go_at_call 88; exact calm_of (words_impl _ a b c HE.out (HT6.out _).2.2.2.2)) | (go_at_call 156; exact HSTP.out _) | (go_at_call 36; exact calm_of (dec_impl _ _ (by omega) (HT6.out _).2.2.2.2)))))
    refine wpQuiet_nil ?_
    rintro w8 ⟨x, rfl⟩
    have hgx := gro_below x
    generalize gro w6 x = w8 at hgx ⊢
    replace K := below_step K hgx
    clear HT6 HSTP g0 g1 g2 g3 hgx
    obtain ⟨out, hout⟩ : ∃ out, s ++ (wordsS a b c ++ ⟨#[32]⟩ ++ decS σ ++ ⟨#[10]⟩) = out := ⟨_, rfl⟩
    have hoz : out.size ≤ 1048576 := by rw [← hout]; simp only [ByteArray.size_append]; show s.size + (_ + 1 + _ + 1) ≤ 1048576; omega
    rw [hout]
    have HO := hd (show s ++ lineS (stampN st (wordsE (a, b, c))) (a, b, c) = out by rw [← hout, ← HSG.out]; rfl)
    clear hout
    by_cases hz : out.size ≤ 4000
    · have HE2 := hd (addG_good (s := s) (l := l) (st := st) HE.out HDD.out (by rw [HO.out]; exact hz))
      go_wp2_with fail
      go_ret2
      exact ⟨by rw [HE2.out, HO.out]; rfl, below_step B1 K⟩
    · have HE2 := hd (addG_full (s := s) (l := l) (st := st) HE.out HDD.out (by rw [HO.out]; exact hz))
      have hz' : 4000 < out.size := by omega
      go_wp2_with fail
      go_ret2
      exact ⟨by rw [HE2.out]; rfl, below_step B1 K⟩
set_option maxRecDepth 100000 in
set_option maxHeartbeats 4000000 in
theorem add_impl (w : World) (s : ByteArray) (a : Int) (b : ByteArray) (c : Int) (hs : s.size ≤ 1048576) (hsh : Shop w) :
    Calls Tryz.prog 84 #[.string s, .agg #[.int .i64 a, .string b, .int .i64 c]] w fun e w' => e = .returned (.tuple #[.string (addR s (a, b, c)).1, .int .i64 (addR s (a, b, c)).2]) ∧ Below w.heap.size w w' := by
  obtain ⟨t0, t1, t2, -, hz0, hb0⟩ := new3 w (.int .i64 a) (.string b) (.int .i64 c) 130
  have HSH := hd (hsh.below hb0)
  clear hsh
  go_enter Tryz.func84, Tryz.ntmps84
  go_wp2_with fail
  generalize w.alloc (.cells #[.int .i64 a, .string b, .int .i64 c] 130) = W0 at t0 t1 t2 hz0 hb0 HSH ⊢
  refine (code_impl _ _ hs HSH.out).mono ?_
  rintro e w1 ⟨v, st, n, rfl, O, hst, ⟨s1, s2⟩, ⟨n1, n2⟩, B⟩
  obtain ⟨A, cc, rfl⟩ := O.isSlice
  have hle := eL_len s
  obtain ⟨r0, r1, r2, -, hz2', hb2⟩ := new3 w1 (.slice A (eL s).length cc) (.int .i64 st) (.int .i64 n) 135
  have B1 := below_step hb0 B
  have B2 := below_step B1 hb2
  have O2 := O.below hb2 (Nat.le_refl _)
  have hx0 : w.heap.size < W0.heap.size := by omega
  have hx1 : w.heap.size < w1.heap.size := Nat.lt_of_lt_of_le hx0 B.size
  have u0 := (hb2.cell (p := ⟨w.heap.size, 0, none⟩) hx1).trans ((B.cell (p := ⟨w.heap.size, 0, none⟩) hx0).trans t0)
  have u1 := (hb2.cell (p := ⟨w.heap.size, 1, none⟩) hx1).trans ((B.cell (p := ⟨w.heap.size, 1, none⟩) hx0).trans t1)
  have u2 := (hb2.cell (p := ⟨w.heap.size, 2, none⟩) hx1).trans ((B.cell (p := ⟨w.heap.size, 2, none⟩) hx0).trans t2)
  have SH2 := hd (HSH.out.below (B.trans (hb2.mono B.size)))
  clear O B hb2 hz2' t0 t1 t2 hb0 hz0
  by_cases hc : lc s = 0
  case neg =>
    have HR := hd (show addR s (a, b, c) = (⟨#[]⟩, lc s) by unfold addR; rw [if_neg hc])
    obtain ⟨x, hx⟩ : ∃ x, lc s = x := ⟨_, rfl⟩
    rw [hx] at hc HR ⊢
    have kc : (x != 0) = true := by simpa using hc
    have HB2 := hd B2
    clear hc hx B2 O2 u0 u1 u2 r0 r1 r2
    go_wp2_with fail
    go_ret2
    exact ⟨by rw [HR.out]; rfl, HB2.out⟩
  have HR := hd (show addR s (a, b, c) = addG s (eL s) st (a, b, c) by unfold addR; rw [if_pos hc, eL_good hc, hst hc])
  have hz4 := lc_size hc
  rw [hc]
  clear hc hst
  go_wp2_with fail
  generalize w1.alloc (.cells #[.slice A (eL s).length cc, .int .i64 st, .int .i64 n] 135) = W2 at r0 r1 r2 u0 u1 u2 O2 B2 SH2 ⊢
  refine (added_impl _ s _ (eL s) st n a b c hz4 (O2.sl eEntry_len) s1 s2 SH2.out.1).mono ?_
  rintro e w3 ⟨rfl, hb3⟩
  go_wp2_with fail
  go_ret2
  exact ⟨by rw [HR.out]; rfl, below_step B2 hb3⟩
end Go.Proofs.YtgcodjkjdfahdaaGreatDoor

namespace Go.Proofs.YtgcodjkjdfahdaaGreatDoor
open Go Go.RowKit Go.ChangeShapes Go.WideShapes
set_option linter.unusedSimpArgs false
set_option linter.unusedVariables false
theorem numS_int {n : Int} (h : -99999999999999999 ≤ n) (h2 : n ≤ 99999999999999999) : numS (Lib.itoa n) = some n := by
  by_cases h0 : 0 ≤ n
  · obtain ⟨m, rfl⟩ : ∃ m : Nat, n = (m : Int) := ⟨n.toNat, by omega⟩
    exact numS_nat (by omega)
  · obtain ⟨m, rfl⟩ : ∃ m : Nat, n = -(m : Int) := ⟨(-n).toNat, by omega⟩
    have e := Lib.itoa_neg m (by omega)
    have hl : (Lib.decDigits m).length ≤ 18 := decDigits_len 17 m (by have : (10 : Nat) ^ 18 = 1000000000000000000 := by decide
                                                                      omega)
    have hp : 1 ≤ (Lib.decDigits m).length := by
      rcases hd : Lib.decDigits m with _ | ⟨c, r⟩
      · have := valD_digits m
        rw [hd] at this
        simp [valD] at this
        omega
      · simp
    have ht : tailS (Lib.itoa (-(m : Int))) = Lib.decDigits m := by rw [e]; rfl
    rw [numS_val (u := m) (n := -(m : Int)) (by rw [ht]; exact ⟨hp, hl⟩) (by rw [ht]; exact valD_digits m) (by rw [e]; rfl), if_pos rfl]
theorem itoa_no10 {n : Int} (h : -1000000 ≤ n) : (10 : UInt8) ∉ Lib.itoa n := by
  by_cases h0 : 0 ≤ n
  · exact itoa_no 10 (by decide) h0
  · obtain ⟨m, rfl⟩ : ∃ m : Nat, n = -(m : Int) := ⟨(-n).toNat, by omega⟩
    rw [Lib.itoa_neg m (by omega)]
    intro hm
    rcases List.mem_cons.1 hm with h1 | h1
    · revert h1; decide
    · exact digits_no 10 (by decide) m h1
def bareL (st : Int) (x : TEntry) : List UInt8 := Lib.itoa x.1 ++ 32 :: (x.2.1.data.toList ++ 32 :: (Lib.itoa x.2.2 ++ 32 :: Lib.itoa st))
theorem lineS_bare (st : Int) (x : TEntry) : (lineS st x).data.toList = bareL st x ++ [10] := lineS_list st x.1 x.2.1 x.2.2
theorem bare_no10 {st : Int} {x : TEntry} (hs : 0 ≤ st ∧ st ≤ 65518) (h : okEntryB x = true) : (10 : UInt8) ∉ bareL st x := by
  obtain ⟨a, b, c⟩ := x
  obtain ⟨⟨a1, a2⟩, bn, c1, c2⟩ := okEntryB_bd h
  unfold bareL
  intro hm
  simp only [List.mem_append, List.mem_cons] at hm
  rcases hm with hm | hm | hm | hm | hm | hm | hm
  · exact itoa_no10 (by omega) hm
  · revert hm; decide
  · exact name_no 10 (by decide) bn hm
  · revert hm; decide
  · exact itoa_no10 (by omega) hm
  · revert hm; decide
  · exact itoa_no10 (by omega) hm
theorem rdLine_bare {st : Int} {x : TEntry} (hs : 0 ≤ st ∧ st ≤ 65518) (h : okEntryB x = true) : rdLine ⟨(bareL st x).toArray⟩ = (x, st, true) := by
  obtain ⟨a, b, c⟩ := x
  have h' := h
  obtain ⟨⟨a1, a2⟩, bn, c1, c2⟩ := okEntryB_bd h
  have hp : partsB 32 ⟨(bareL st (a, b, c)).toArray⟩ = [⟨(Lib.itoa a).toArray⟩, b, ⟨(Lib.itoa c).toArray⟩, ⟨(Lib.itoa st).toArray⟩] := by
    unfold partsB
    show (parts 32 (bareL st (a, b, c))).map (fun l => (⟨l.toArray⟩ : ByteArray)) = _
    unfold bareL
    rw [parts_at 32 _ _ (itoa_no32 (by omega)), parts_at 32 _ _ (name_no 32 (by decide) bn), parts_at 32 _ _ (itoa_no32 (by omega)), parts_none 32 _ (itoa_no32 (by omega))]
    rfl
  rw [rdLine_four hp]
  unfold rdLine4
  show (((numS (Lib.itoa a)).getD 0, b, (numS (Lib.itoa c)).getD 0), (numS (Lib.itoa st)).getD 0, _ && (_ && (_ && _))) = _
  rw [numS_int (n := a) (by omega) (by omega), numS_int (n := c) (by omega) (by omega), numS_int (n := st) (by omega) (by omega)]
  simp [h']
theorem lineAt_bare {s : ByteArray} {at_ : Nat} {l r : List UInt8} (h : s.data.toList.drop at_ = l ++ 10 :: r) (hl : (10 : UInt8) ∉ l) : lineAt s at_ = some ⟨l.toArray⟩ := by
  unfold lineAt
  rw [h, cut_at 10 l r hl]
  rfl
theorem lineAt_no {s : ByteArray} {at_ : Nat} (h : (10 : UInt8) ∉ s.data.toList.drop at_) : lineAt s at_ = none := by
  unfold lineAt
  rw [cut_none 10 _ h]
  rfl
end Go.Proofs.YtgcodjkjdfahdaaGreatDoor
