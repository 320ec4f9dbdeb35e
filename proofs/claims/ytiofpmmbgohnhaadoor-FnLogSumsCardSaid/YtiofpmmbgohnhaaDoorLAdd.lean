/- AddEntry: the reference's function and the program's. No condition but that the library's table, its two errors and its search variable lie as they are laid. -/
import Derived.Test.YtiofpmmbgohnhaaDoorLVal
namespace Go.Proofs.YtiofpmmbgohnhaaDoor
open Go Go.RowKit Go.ChangeShapes Go.WideShapes
set_option linter.unusedSimpArgs false
set_option linter.unusedVariables false
def addG (s : ByteArray) (l : List TEntry) (st : Int) (x : TEntry) : ByteArray × Int :=
  if okEntryB x = true then
    if dayOf l ≤ x.1 then
      if (s ++ lineS (stampN st (wordsE x)) x).size ≤ 4000 then (s ++ lineS (stampN st (wordsE x)) x, 0) else (⟨#[]⟩, 5)
    else (⟨#[]⟩, 6)
  else (⟨#[]⟩, 7)
def addR (s : ByteArray) (x : TEntry) : ByteArray × Int := if lc s = 0 then addG s (readL s).l (readL s).st x else (⟨#[]⟩, lc s)
theorem addG_bad {s : ByteArray} {l : List TEntry} {st : Int} {x : TEntry} (h : okEntryB x = false) : addG s l st x = (⟨#[]⟩, 7) := by unfold addG; rw [if_neg (by rw [h]; decide)]
theorem addG_day {s : ByteArray} {l : List TEntry} {st : Int} {x : TEntry} (h : okEntryB x = true) (hd : ¬ dayOf l ≤ x.1) : addG s l st x = (⟨#[]⟩, 6) := by unfold addG; rw [if_pos h, if_neg hd]
theorem addG_full {s : ByteArray} {l : List TEntry} {st : Int} {x : TEntry} (h : okEntryB x = true) (hd : dayOf l ≤ x.1) (hz : ¬ (s ++ lineS (stampN st (wordsE x)) x).size ≤ 4000) : addG s l st x = (⟨#[]⟩, 5) := by unfold addG; rw [if_pos h, if_pos hd, if_neg hz]
theorem addG_good {s : ByteArray} {l : List TEntry} {st : Int} {x : TEntry} (h : okEntryB x = true) (hd : dayOf l ≤ x.1) (hz : (s ++ lineS (stampN st (wordsE x)) x).size ≤ 4000) : addG s l st x = (s ++ lineS (stampN st (wordsE x)) x, 0) := by unfold addG; rw [if_pos h, if_pos hd, if_pos hz]
set_option maxRecDepth 100000 in
set_option maxHeartbeats 8000000 in
theorem added_impl (w : World) (s : ByteArray) (v : Value) (l : List TEntry) (st n : Int) (a : Int) (b : ByteArray) (c : Int) (hs : s.size ≤ 4000) (hS : Sl w 3 v eEntry l) (q3 : 0 ≤ st) (q4 : st ≤ 65518) (ht : Tab w) :
    Calls Tryd.prog 69 #[.string s, .agg #[v, .int .i64 st, .int .i64 n], .agg #[.int .i64 a, .string b, .int .i64 c]] w fun e w' => e = .returned (.tuple #[.string (addG s l st (a, b, c)).1, .int .i64 (addG s l st (a, b, c)).2]) ∧ Below w.heap.size w w' := by
  have hl := hS.len
  obtain ⟨A, cc, rfl⟩ := hS.isSlice
  obtain ⟨r0, r1, r2, -, hz0, hb0⟩ := new3 w (.slice A l.length cc) (.int .i64 st) (.int .i64 n) 87
  obtain ⟨t0, t1, t2, -, hz1, hb1⟩ := new3 (w.alloc (.cells #[.slice A l.length cc, .int .i64 st, .int .i64 n] 87)) (.int .i64 a) (.string b) (.int .i64 c) 38
  rw [hz0] at t0 t1 t2 hz1
  have hlt0 : w.heap.size < (w.alloc (.cells #[.slice A l.length cc, .int .i64 st, .int .i64 n] 87)).heap.size := by omega
  have s0 := (hb1.cell (p := ⟨w.heap.size, 0, none⟩) hlt0).trans r0
  have s1 := (hb1.cell (p := ⟨w.heap.size, 1, none⟩) hlt0).trans r1
  have B1 := below_step hb0 hb1
  have S1 := hS.below B1
  have HTB := hd (ht.below B1)
  clear r0 r1 r2 hb0 hb1 hS ht hlt0
  go_enter Tryd.func69, Tryd.ntmps69
  go_wp2_with fail
  generalize (w.alloc (.cells #[.slice A l.length cc, .int .i64 st, .int .i64 n] 87)).alloc (.cells #[.int .i64 a, .string b, .int .i64 c] 38) = W1 at t0 t1 t2 s0 s1 hz1 B1 S1 HTB ⊢
  have HTW := hd (show ∀ W, Below W1.heap.size W1 W → (W.cell? ⟨w.heap.size + 1, 0, none⟩ = some (.int .i64 a) ∧ W.cell? ⟨w.heap.size + 1, 1, none⟩ = some (.string b) ∧ W.cell? ⟨w.heap.size + 1, 2, none⟩ = some (.int .i64 c)) ∧ W.cell? ⟨w.heap.size, 0, none⟩ = some (.slice A l.length cc) ∧ W.cell? ⟨w.heap.size, 1, none⟩ = some (.int .i64 st) ∧ Sl W 3 (.slice A l.length cc) eEntry l ∧ Tab W from fun W k => ⟨⟨(k.cell (p := ⟨w.heap.size + 1, 0, none⟩) (show w.heap.size + 1 < W1.heap.size by omega)).trans t0, (k.cell (p := ⟨w.heap.size + 1, 1, none⟩) (show w.heap.size + 1 < W1.heap.size by omega)).trans t1, (k.cell (p := ⟨w.heap.size + 1, 2, none⟩) (show w.heap.size + 1 < W1.heap.size by omega)).trans t2⟩, (k.cell (p := ⟨w.heap.size, 0, none⟩) (show w.heap.size < W1.heap.size by omega)).trans s0, (k.cell (p := ⟨w.heap.size, 1, none⟩) (show w.heap.size < W1.heap.size by omega)).trans s1, S1.below k, HTB.out.below k⟩)
  clear t0 t1 t2 s0 s1 S1 HTB hz1 hz0
  refine (entry_impl _ _ _ _).mono ?_
  rintro e w2 ⟨rfl, K⟩
  rcases he : okEntryB (a, b, c) with _ | _
  · have HE := hd (addG_bad (s := s) (l := l) (st := st) he)
    clear he
    go_wp2_with fail
    go_ret2
    exact ⟨by rw [HE.out]; rfl, below_step B1 K⟩
  have HE := hd he
  have hda := (okEntryB_bd he).1
  clear he
  obtain ⟨⟨t0, t1, t2⟩, s0, s1, S2, -⟩ := HTW.out _ K
  by_cases hm : l.length = 0
  · have HDD := hd (show dayOf l ≤ ((a, b, c) : TEntry).1 by rw [dayOf_nil hm]; exact hda.1)
    have hz : decide ((0 : Int) < ((0 : Nat) : Int)) = false := by decide
    have HTW0 := HTW
    rw [hm] at s0 ⊢
    go_wp2_with fail
    go_quiet (fail)
    replace K := below_drewN K nq
    clear t0 t1 t2 s0 s1 S2
    generalize w2.drewN nq = w6 at K ⊢
    go_wp2_with fail
    have HT6 := hd (show ∀ x : Ext w6, ((gro w6 x).cell? ⟨w.heap.size + 1, 0, none⟩ = some (.int .i64 a) ∧ (gro w6 x).cell? ⟨w.heap.size + 1, 1, none⟩ = some (.string b) ∧ (gro w6 x).cell? ⟨w.heap.size + 1, 2, none⟩ = some (.int .i64 c)) ∧ (gro w6 x).cell? ⟨w.heap.size, 0, none⟩ = some (.slice A l.length cc) ∧ (gro w6 x).cell? ⟨w.heap.size, 1, none⟩ = some (.int .i64 st) ∧ Sl (gro w6 x) 3 (.slice A l.length cc) eEntry l ∧ Tab (gro w6 x) from fun x => HTW0.out _ (below_step K (gro_below x)))
    obtain ⟨σ, hσ⟩ : ∃ σ, stampN st (wordsS a b c) = σ := ⟨_, rfl⟩
    have HSB := hd (show 0 ≤ σ ∧ σ ≤ 65518 by rw [← hσ]; exact stampN_bd _ _)
    obtain ⟨hsb1, hsb2⟩ := HSB.out
    have HSTP := hd (show ∀ x : Ext w6, Calls Tryd.prog 66 #[.int .i64 st, .agg #[.int .i64 a, .string b, .int .i64 c]] (gro w6 x) fun e w' => e = .returned (.int .i64 σ) ∧ ∃ y, w' = gro w6 y from fun x => calm_of (by rw [← hσ]; exact stampOf_impl (gro w6 x) st ⟨q3, q4⟩ a b c HE.out (HT6.out x).2.2.2.2))
    have HSG := hd hσ
    have hls := lineS_size HSB.out HE.out
    have hwz := words_size HE.out
    have hdz := decS_size (n := σ) (by omega)
    obtain ⟨⟨k0, k1, k2⟩, -, k3, -⟩ := HTW0.out _ K
    have g0 := gro_cell k0
    have g1 := gro_cell k1
    have g2 := gro_cell k2
    have g3 := gro_cell k3
    clear hσ k0 k1 k2 k3
    refine wp_region_calm (by kernel_rfl) (by kernel_rfl) ?_
    repeat (first | go_big_quiet_step ((first | (go_at_call 67; exact calm_of (words_impl _ a b c HE.out (HT6.out _).2.2.2.2)) | (go_at_call 66; exact HSTP.out _) | (go_at_call 68; exact calm_of (dec_impl _ _ (by omega) (HT6.out _).2.2.2.2)))) | quiet_step ((first | (go_at_call 67; exact calm_of (words_impl _ a b c HE.out (HT6.out _).2.2.2.2)) | (go_at_call 66; exact HSTP.out _) | (go_at_call 68; exact calm_of (dec_impl _ _ (by omega) (HT6.out _).2.2.2.2)))))
    refine wpQuiet_nil ?_
    rintro w8 ⟨x, rfl⟩
    have hgx := gro_below x
    generalize gro w6 x = w8 at hgx ⊢
    replace K := below_step K hgx
    clear HT6 HSTP g0 g1 g2 g3 hgx
    obtain ⟨out, hout⟩ : ∃ out, s ++ (wordsS a b c ++ ⟨#[32]⟩ ++ decS σ ++ ⟨#[10]⟩) = out := ⟨_, rfl⟩
    have hoz : out.size ≤ 1048576 := by rw [← hout]; simp only [ByteArray.size_append]; show s.size + (_ + 1 + _ + 1) ≤ 1048576; omega
    rw [hout]
    have HO := hd (show s ++ lineS (stampN st (wordsE (a, b, c))) (a, b, c) = out by rw [← hout, ← HSG.out]; rfl)
    clear hout
    by_cases hz : out.size ≤ 4000
    · have HE2 := hd (addG_good (s := s) (l := l) (st := st) HE.out HDD.out (by rw [HO.out]; exact hz))
      go_wp2_with fail
      go_ret2
      exact ⟨by rw [HE2.out, HO.out]; rfl, below_step B1 K⟩
    · have HE2 := hd (addG_full (s := s) (l := l) (st := st) HE.out HDD.out (by rw [HO.out]; exact hz))
      have hz' : 4000 < out.size := by omega
      go_wp2_with fail
      go_ret2
      exact ⟨by rw [HE2.out]; rfl, below_step B1 K⟩
  · have hm1 : l.length = (l.length - 1) + 1 := by omega
    have hdl := dayOf_last hm1
    obtain ⟨bl, ol, hA, hbl, p0, -, -⟩ := S2.Entry_at (show l.length - 1 < l.length by omega)
    rw [← hdl] at p0
    subst hA
    have hlt1 : l.length - 1 < l.length := by omega
    have hkp : 0 < l.length := by omega
    have hz : decide ((0 : Int) < ((l.length : Nat) : Int)) = true := by simp; omega
    clear hdl hm1
    obtain ⟨δ, hδ⟩ : ∃ δ, dayOf l = δ := ⟨_, rfl⟩
    rw [hδ] at p0
    have HDL := hd hδ
    have HTW0 := HTW
    clear hδ
    rcases hday : decide (a < δ) with _ | _
    case true =>
      have HE2 := hd (addG_day (s := s) (l := l) (st := st) HE.out (by rw [HDL.out]; have := of_decide_eq_true hday; show ¬ δ ≤ a; omega))
      go_wp2_with fail
      go_quiet (fail)
      go_wp2_with fail
      go_ret2
      exact ⟨by rw [HE2.out]; rfl, below_step B1 (below_drewN K nq)⟩
    have HDD := hd (show dayOf l ≤ ((a, b, c) : TEntry).1 by rw [HDL.out]; have := of_decide_eq_false hday; show δ ≤ a; omega)
    go_wp2_with fail
    go_quiet (fail)
    replace K := below_drewN K nq
    clear t0 t1 t2 s0 s1 S2 p0
    generalize w2.drewN nq = w6 at K ⊢
    go_wp2_with fail
    have HT6 := hd (show ∀ x : Ext w6, ((gro w6 x).cell? ⟨w.heap.size + 1, 0, none⟩ = some (.int .i64 a) ∧ (gro w6 x).cell? ⟨w.heap.size + 1, 1, none⟩ = some (.string b) ∧ (gro w6 x).cell? ⟨w.heap.size + 1, 2, none⟩ = some (.int .i64 c)) ∧ (gro w6 x).cell? ⟨w.heap.size, 0, none⟩ = some (.slice (some ⟨bl, ol, none⟩) l.length cc) ∧ (gro w6 x).cell? ⟨w.heap.size, 1, none⟩ = some (.int .i64 st) ∧ Sl (gro w6 x) 3 (.slice (some ⟨bl, ol, none⟩) l.length cc) eEntry l ∧ Tab (gro w6 x) from fun x => HTW0.out _ (below_step K (gro_below x)))
    obtain ⟨σ, hσ⟩ : ∃ σ, stampN st (wordsS a b c) = σ := ⟨_, rfl⟩
    have HSB := hd (show 0 ≤ σ ∧ σ ≤ 65518 by rw [← hσ]; exact stampN_bd _ _)
    obtain ⟨hsb1, hsb2⟩ := HSB.out
    have HSTP := hd (show ∀ x : Ext w6, Calls Tryd.prog 66 #[.int .i64 st, .agg #[.int .i64 a, .string b, .int .i64 c]] (gro w6 x) fun e w' => e = .returned (.int .i64 σ) ∧ ∃ y, w' = gro w6 y from fun x => calm_of (by rw [← hσ]; exact stampOf_impl (gro w6 x) st ⟨q3, q4⟩ a b c HE.out (HT6.out x).2.2.2.2))
    have HSG := hd hσ
    have hls := lineS_size HSB.out HE.out
    have hwz := words_size HE.out
    have hdz := decS_size (n := σ) (by omega)
    obtain ⟨⟨k0, k1, k2⟩, -, k3, -⟩ := HTW0.out _ K
    have g0 := gro_cell k0
    have g1 := gro_cell k1
    have g2 := gro_cell k2
    have g3 := gro_cell k3
    clear hσ k0 k1 k2 k3
    refine wp_region_calm (by kernel_rfl) (by kernel_rfl) ?_
    repeat (first | go_big_quiet_step ((first | (go_at_call 67; exact calm_of (words_impl _ a b c HE.out (HT6.out _).2.2.2.2)) | (go_at_call 66; exact HSTP.out _) | (go_at_call 68; exact calm_of (dec_impl _ _ (by omega) (HT6.out _).2.2.2.2)))) | quiet_step ((first | (go_at_call 67; exact calm_of (words_impl _ a b c HE.out (HT6.out _).2.2.2.2)) | (go_at_call 66; exact HSTP.out _) | (go_at_call 68; exact calm_of (dec_impl _ _ (by omega) (HT6.out _).2.2.2.2)))))
    refine wpQuiet_nil ?_
    rintro w8 ⟨x, rfl⟩
    have hgx := gro_below x
    generalize gro w6 x = w8 at hgx ⊢
    replace K := below_step K hgx
    clear HT6 HSTP g0 g1 g2 g3 hgx
    obtain ⟨out, hout⟩ : ∃ out, s ++ (wordsS a b c ++ ⟨#[32]⟩ ++ decS σ ++ ⟨#[10]⟩) = out := ⟨_, rfl⟩
    have hoz : out.size ≤ 1048576 := by rw [← hout]; simp only [ByteArray.size_append]; show s.size + (_ + 1 + _ + 1) ≤ 1048576; omega
    rw [hout]
    have HO := hd (show s ++ lineS (stampN st (wordsE (a, b, c))) (a, b, c) = out by rw [← hout, ← HSG.out]; rfl)
    clear hout
    by_cases hz : out.size ≤ 4000
    · have HE2 := hd (addG_good (s := s) (l := l) (st := st) HE.out HDD.out (by rw [HO.out]; exact hz))
      go_wp2_with fail
      go_ret2
      exact ⟨by rw [HE2.out, HO.out]; rfl, below_step B1 K⟩
    · have HE2 := hd (addG_full (s := s) (l := l) (st := st) HE.out HDD.out (by rw [HO.out]; exact hz))
      have hz' : 4000 < out.size := by omega
      go_wp2_with fail
      go_ret2
      exact ⟨by rw [HE2.out]; rfl, below_step B1 K⟩
set_option maxRecDepth 100000 in
set_option maxHeartbeats 4000000 in
theorem add_impl (w : World) (s : ByteArray) (a : Int) (b : ByteArray) (c : Int) (hs : s.size ≤ 1048576) (hsh : Shop w) :
    Calls Tryd.prog 16 #[.string s, .agg #[.int .i64 a, .string b, .int .i64 c]] w fun e w' => e = .returned (.tuple #[.string (addR s (a, b, c)).1, .int .i64 (addR s (a, b, c)).2]) ∧ Below w.heap.size w w' := by
  obtain ⟨t0, t1, t2, -, hz0, hb0⟩ := new3 w (.int .i64 a) (.string b) (.int .i64 c) 38
  have HSH := hd (hsh.below hb0)
  clear hsh
  go_enter Tryd.func16, Tryd.ntmps16
  go_wp2_with fail
  generalize w.alloc (.cells #[.int .i64 a, .string b, .int .i64 c] 38) = W0 at t0 t1 t2 hz0 hb0 HSH ⊢
  refine (code_impl _ _ hs HSH.out).mono ?_
  rintro e w1 ⟨v, st, n, rfl, O, hst, ⟨s1, s2⟩, ⟨n1, n2⟩, B⟩
  obtain ⟨A, cc, rfl⟩ := O.isSlice
  have hle := eL_len s
  obtain ⟨r0, r1, r2, -, hz2', hb2⟩ := new3 w1 (.slice A (eL s).length cc) (.int .i64 st) (.int .i64 n) 87
  have B1 := below_step hb0 B
  have B2 := below_step B1 hb2
  have O2 := O.below hb2 (Nat.le_refl _)
  have hx0 : w.heap.size < W0.heap.size := by omega
  have hx1 : w.heap.size < w1.heap.size := Nat.lt_of_lt_of_le hx0 B.size
  have u0 := (hb2.cell (p := ⟨w.heap.size, 0, none⟩) hx1).trans ((B.cell (p := ⟨w.heap.size, 0, none⟩) hx0).trans t0)
  have u1 := (hb2.cell (p := ⟨w.heap.size, 1, none⟩) hx1).trans ((B.cell (p := ⟨w.heap.size, 1, none⟩) hx0).trans t1)
  have u2 := (hb2.cell (p := ⟨w.heap.size, 2, none⟩) hx1).trans ((B.cell (p := ⟨w.heap.size, 2, none⟩) hx0).trans t2)
  have SH2 := hd (HSH.out.below (B.trans (hb2.mono B.size)))
  clear O B hb2 hz2' t0 t1 t2 hb0 hz0
  by_cases hc : lc s = 0
  case neg =>
    have HR := hd (show addR s (a, b, c) = (⟨#[]⟩, lc s) by unfold addR; rw [if_neg hc])
    obtain ⟨x, hx⟩ : ∃ x, lc s = x := ⟨_, rfl⟩
    rw [hx] at hc HR ⊢
    have kc : (x != 0) = true := by simpa using hc
    have HB2 := hd B2
    clear hc hx B2 O2 u0 u1 u2 r0 r1 r2
    go_wp2_with fail
    go_ret2
    exact ⟨by rw [HR.out]; rfl, HB2.out⟩
  have HR := hd (show addR s (a, b, c) = addG s (eL s) st (a, b, c) by unfold addR; rw [if_pos hc, eL_good hc, hst hc])
  have hz4 := lc_size hc
  rw [hc]
  clear hc hst
  go_wp2_with fail
  generalize w1.alloc (.cells #[.slice A (eL s).length cc, .int .i64 st, .int .i64 n] 87) = W2 at r0 r1 r2 u0 u1 u2 O2 B2 SH2 ⊢
  refine (added_impl _ s _ (eL s) st n a b c hz4 (O2.sl eEntry_len) s1 s2 SH2.out.1).mono ?_
  rintro e w3 ⟨rfl, hb3⟩
  go_wp2_with fail
  go_ret2
  exact ⟨by rw [HR.out]; rfl, below_step B2 hb3⟩
end Go.Proofs.YtiofpmmbgohnhaaDoor
