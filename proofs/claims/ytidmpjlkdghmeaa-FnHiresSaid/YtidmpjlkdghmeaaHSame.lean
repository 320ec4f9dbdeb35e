/- What the reference draws for two lists of hires. No condition but that the bytes read. -/
import Derived.Test.YtidmpjlkdghmeaaHDraw
namespace Go.Proofs.Ytidmpjlkdghmeaa
open Go Go.RowKit Go.ChangeShapes Go.WideShapes
set_option linter.unusedSimpArgs false
set_option linter.unusedVariables false
set_option maxRecDepth 100000 in
set_option maxHeartbeats 8000000 in
theorem draw_same (w0 : World) (v : Value) (l : List UInt8) (hS : Sl w0 1 v eU l) (hl : l.length ≤ 1048576) :
    Calls Try.prog 61 #[v] w0 fun e w' => ∃ (L M : List THire) (u1 u2 : Value), e = .returned (.tuple #[u1, u2]) ∧ Sl w' 3 u1 eHire L ∧ Sl w' 3 u2 eHire M ∧ L.length ≤ 42 ∧ M.length ≤ 42 ∧ Below w0.heap.size w0 w' := by
  have hv : ∃ A n c, v = .slice A n c := by obtain ⟨A, c, h⟩ := hS.isSlice; exact ⟨A, _, c, h⟩
  go_enter Try.func61, Try.ntmps61
  go_wp2_with fail
  refine (from_src w0 v hv).mono ?_
  rintro e w ⟨rfl, S', K, hz⟩
  have hgB : w0.heap.size < w.heap.size := by omega
  have hB0 : w0.heap.size ≤ w.heap.size := by omega
  have hw0 : ∀ g k : Nat, w0.heap.size = g → some g = some k → w0.heap.size ≤ k := fun g k hg hk => by injection hk with hk; omega
  replace K := hd K
  generalize hg0 : w0.heap.size = g at S' hgB hz ⊢
  have S := hd S'
  have G := hd (World.grownBy.refl w (some g))
  clear S' hz
  obtain ⟨iHire, hiHire, hz0Hire, hz1Hire, hz2Hire⟩ := info_parts info_Hire
  go_wp2_with fail
  refine (draw_hires w0 v l hS hl _ g _ S.out (by omega)).mono ?_
  rintro e w1 ⟨SL, L, us, ua, rfl, O1', O2', hSL, hL, S', G'⟩
  replace G := hd (grownBy_trans G.out G')
  replace S := hd S'
  clear S' G'
  have O_a := hd O2'
  have O_s := hd O1'
  clear O1' O2'
  obtain ⟨A0, cc0, rfl⟩ := O_s.out.isSlice
  obtain ⟨A, cc, rfl⟩ := O_a.out.isSlice
  clear O_s
  have hOa := hd (fun b hb => (O_a.out.lt b hb).2)
  have hgN : g < w1.heap.size := S.out.1
  have hBN : w.heap.size ≤ w1.heap.size := G.out.size
  have O_b := hd (Own.made0 w1 w1.heap.size 74 3 eHire (Nat.le_refl _))
  have hsz : w1.heap.size ≤ (w1.alloc (.cells #[] 74)).heap.size := by simp
  replace O_a := hd (O_a.out.alloc (.cells #[] 74))
  replace G := hd (grow_alloc G.out (.cells #[] 74))
  replace S := hd (S.out.more (.cells #[] 74))
  have Sa := O_a.out.sl eHire_len
  go_wp2_with (at_builtin; refine wpList_append_sl _ rfl _ _ 68 rfl iHire (.agg #[.int .i64 0, .int .i64 0, .int .i64 0]) 24 Try.underlying68 hiHire hz0Hire hz1Hire hz2Hire rfl (by decide) eHire_len (by intro x u hu; simp [eHire] at hu; rcases hu with rfl | rfl | rfl <;> rfl) _ [] rfl O_b.out _ L rfl Sa (by simp [maxLen]; omega) (by simp; omega) (by exact hsz) ?_)
  intro v' w9 O' hg'
  try rw [List.nil_append] at O'
  have E' := (Below.refl w1.heap.size _).grown hg' hsz (fun b hb => (O_b.out.lt b hb).1)
  replace O_a := hd (O_a.out.grown hg' (ne_of_lt hOa.out (fun b hb => (O_b.out.lt b hb).1)))
  replace O_b := hd O'
  replace S := hd (S.out.below2 hgN E')
  replace G := hd (grow_below G.out (E'.mono hBN))
  clear E' hg' O' hsz Sa
  obtain ⟨N, hN⟩ : ∃ N, N = w1.heap.size := ⟨_, rfl⟩
  rw [← hN] at hOa hgN hBN O_b
  clear hN
  by_cases h0 : L.length = 0
  · skip
    have hLn := List.eq_nil_of_length_eq_zero h0
    subst hLn
    clear h0
    obtain ⟨Ab, cb, rfl⟩ := O_b.out.isSlice
    go_wp2_with fail
    refine (one_src w0 v l hS hl _ g _ S.out (by omega) 5 (by omega)).mono ?_
    rintro e w2 ⟨y5, rfl, S', G'⟩
    replace O_a := hd (O_a.out.src2 hgB G')
    replace O_b := hd (O_b.out.src2 hgN G')
    replace G := hd (grownBy_trans G.out G')
    replace S := hd S'
    clear S' G'
    rcases y5 with _ | _
    · skip
      obtain ⟨Ab, cb, hAb⟩ := O_b.out.isSlice
      first | subst hAb | clear hAb
      go_wp2_with fail
      go_ret2
      first | exact ⟨[], [], _, _, rfl, O_a.out.sl eHire_len, O_b.out.sl eHire_len, (by first | omega | (simp; done) | (simp; omega)), (by first | omega | (simp; done) | (simp; omega)), (K.out.grown G.out hB0 (fun k hk => hw0 _ k hg0 hk))⟩ | exact ⟨[], [], rfl, O_a.out.sl eHire_len, O_b.out.sl eHire_len, (by first | omega | (simp; done) | (simp; omega)), (by first | omega | (simp; done) | (simp; omega)), (K.out.grown G.out hB0 (fun k hk => hw0 _ k hg0 hk))⟩ | exact ⟨[], [], _, rfl, O_a.out.sl eHire_len, O_b.out.sl eHire_len, (by first | omega | (simp; done) | (simp; omega)), (by first | omega | (simp; done) | (simp; omega)), (K.out.grown G.out hB0 (fun k hk => hw0 _ k hg0 hk))⟩
    · skip
      have hsz := G.out.size
      have O_c := hd (O_b.out.base hBN)
      go_wp2_with (at_builtin; refine wpList_push2 _ rfl _ _ 68 rfl iHire (.agg #[.int .i64 0, .int .i64 0, .int .i64 0]) 24 Try.underlying68 hiHire hz0Hire hz1Hire hz2Hire rfl (by decide) _ _ ((0, 0, 0) : THire) rfl (O_c.out.alloc _) w2.heap.size rfl #[.int .i64 0, .int .i64 0, .int .i64 0] 74 (heap_alloc_new _ _) rfl rfl (by intro u hu; simp [eHire] at hu; rcases hu with rfl | rfl | rfl <;> rfl) (by unfold maxLen; first | omega | (simp; done) | (simp; omega)) (by first | omega | (simp; done) | (simp; omega)) (by first | omega | (simp; done) | (simp; omega)) ?_)
      intro v' w21 O' hg' ho'
      have E' := ((Below.refl w.heap.size w2).alloc hsz (.cells #[.int .i64 0, .int .i64 0, .int .i64 0] 74)).grown hg' (by simp; omega) (fun b hb => (O_c.out.lt b hb).1)
      replace O_a := hd ((O_a.out.alloc (.cells #[.int .i64 0, .int .i64 0, .int .i64 0] 74)).grown hg' (ne_of_lt hOa.out (fun b hb => (O_b.out.lt b hb).1)))
      replace O_b := hd O'
      replace G := hd (grow_below G.out E')
      clear hg' ho' E' hsz O' O_c
      obtain ⟨Ab, cb, hAb⟩ := O_b.out.isSlice
      first | subst hAb | clear hAb
      go_wp2_with fail
      go_ret2
      first | exact ⟨[], [(0, 0, 0)], _, _, rfl, O_a.out.sl eHire_len, O_b.out.sl eHire_len, (by first | omega | (simp; done) | (simp; omega)), (by first | omega | (simp; done) | (simp; omega)), (K.out.grown G.out hB0 (fun k hk => hw0 _ k hg0 hk))⟩ | exact ⟨[], [(0, 0, 0)], rfl, O_a.out.sl eHire_len, O_b.out.sl eHire_len, (by first | omega | (simp; done) | (simp; omega)), (by first | omega | (simp; done) | (simp; omega)), (K.out.grown G.out hB0 (fun k hk => hw0 _ k hg0 hk))⟩ | exact ⟨[], [(0, 0, 0)], _, rfl, O_a.out.sl eHire_len, O_b.out.sl eHire_len, (by first | omega | (simp; done) | (simp; omega)), (by first | omega | (simp; done) | (simp; omega)), (K.out.grown G.out hB0 (fun k hk => hw0 _ k hg0 hk))⟩
  have h0' : 0 < L.length := by omega
  rcases O_b.out.form with ⟨hbv, hb0⟩ | ⟨gg, cap, hbv, hg1, hg2, hg3, hg4⟩
  · rw [hb0] at h0'; exact absurd h0' (by decide)
  subst hbv
  go_wp2_with fail
  refine (one_src w0 v l hS hl _ g _ S.out (by omega) 2 (by omega)).mono ?_
  rintro e w3 ⟨y, rfl, S', G'⟩
  replace O_a := hd (O_a.out.src2 hgB G')
  replace O_b := hd (O_b.out.src2 hgN G')
  replace G := hd (grownBy_trans G.out G')
  replace S := hd S'
  clear S' G'
  rcases y with _ | _
  · skip
    go_wp2_with fail
    refine (one_src w0 v l hS hl _ g _ S.out (by omega) 5 (by omega)).mono ?_
    rintro e w4 ⟨y5, rfl, S', G'⟩
    replace O_a := hd (O_a.out.src2 hgB G')
    replace O_b := hd (O_b.out.src2 hgN G')
    replace G := hd (grownBy_trans G.out G')
    replace S := hd S'
    clear S' G'
    rcases y5 with _ | _
    · skip
      obtain ⟨Ab, cb, hAb⟩ := O_b.out.isSlice
      first | subst hAb | clear hAb
      go_wp2_with fail
      go_ret2
      first | exact ⟨L, L, _, _, rfl, O_a.out.sl eHire_len, O_b.out.sl eHire_len, (by first | omega | (simp; done) | (simp; omega)), (by first | omega | (simp; done) | (simp; omega)), (K.out.grown G.out hB0 (fun k hk => hw0 _ k hg0 hk))⟩ | exact ⟨L, L, rfl, O_a.out.sl eHire_len, O_b.out.sl eHire_len, (by first | omega | (simp; done) | (simp; omega)), (by first | omega | (simp; done) | (simp; omega)), (K.out.grown G.out hB0 (fun k hk => hw0 _ k hg0 hk))⟩ | exact ⟨L, L, _, rfl, O_a.out.sl eHire_len, O_b.out.sl eHire_len, (by first | omega | (simp; done) | (simp; omega)), (by first | omega | (simp; done) | (simp; omega)), (K.out.grown G.out hB0 (fun k hk => hw0 _ k hg0 hk))⟩
    · skip
      have hsz := G.out.size
      have O_c := hd (O_b.out.base hBN)
      go_wp2_with (at_builtin; refine wpList_push2 _ rfl _ _ 68 rfl iHire (.agg #[.int .i64 0, .int .i64 0, .int .i64 0]) 24 Try.underlying68 hiHire hz0Hire hz1Hire hz2Hire rfl (by decide) _ _ ((0, 0, 0) : THire) rfl (O_c.out.alloc _) w4.heap.size rfl #[.int .i64 0, .int .i64 0, .int .i64 0] 74 (heap_alloc_new _ _) rfl rfl (by intro u hu; simp [eHire] at hu; rcases hu with rfl | rfl | rfl <;> rfl) (by unfold maxLen; first | omega | (simp; done) | (simp; omega)) (by first | omega | (simp; done) | (simp; omega)) (by first | omega | (simp; done) | (simp; omega)) ?_)
      intro v' w21 O' hg' ho'
      have E' := ((Below.refl w.heap.size w4).alloc hsz (.cells #[.int .i64 0, .int .i64 0, .int .i64 0] 74)).grown hg' (by simp; omega) (fun b hb => (O_c.out.lt b hb).1)
      replace O_a := hd ((O_a.out.alloc (.cells #[.int .i64 0, .int .i64 0, .int .i64 0] 74)).grown hg' (ne_of_lt hOa.out (fun b hb => (O_b.out.lt b hb).1)))
      replace O_b := hd O'
      replace G := hd (grow_below G.out E')
      clear hg' ho' E' hsz O' O_c
      obtain ⟨Ab, cb, hAb⟩ := O_b.out.isSlice
      first | subst hAb | clear hAb
      go_wp2_with fail
      go_ret2
      first | exact ⟨L, (L ++ [(0, 0, 0)]), _, _, rfl, O_a.out.sl eHire_len, O_b.out.sl eHire_len, (by first | omega | (simp; done) | (simp; omega)), (by first | omega | (simp; done) | (simp; omega)), (K.out.grown G.out hB0 (fun k hk => hw0 _ k hg0 hk))⟩ | exact ⟨L, (L ++ [(0, 0, 0)]), rfl, O_a.out.sl eHire_len, O_b.out.sl eHire_len, (by first | omega | (simp; done) | (simp; omega)), (by first | omega | (simp; done) | (simp; omega)), (K.out.grown G.out hB0 (fun k hk => hw0 _ k hg0 hk))⟩ | exact ⟨L, (L ++ [(0, 0, 0)]), _, rfl, O_a.out.sl eHire_len, O_b.out.sl eHire_len, (by first | omega | (simp; done) | (simp; omega)), (by first | omega | (simp; done) | (simp; omega)), (K.out.grown G.out hB0 (fun k hk => hw0 _ k hg0 hk))⟩
  have SD := hd S.out.drew
  have OD := hd O_b.out.drew
  have OaD := hd O_a.out.drew
  have GD := hd (fun W' (hg : w3.drew.grownBy W' (some g)) => (grownBy_trans G.out ⟨hg.os, hg.tape, hg.output, hg.size, hg.block⟩ : w.grownBy W' (some g)))
  obtain ⟨fc, ff⟩ := O_b.out.fieldAt eHire_len 0 h0' 2 (.int .i64 L[0].2.2) rfl
  generalize hL0 : L[0] = y0 at fc
  go_upto_region 5 with fail
  go_region_with (go_at_call 85; refine (pick_src w0 v l hS hl _ g _ SD.out (by omega) 2 (by omega)).mono ?_; rintro e w11 ⟨x, ⟨x1, x2⟩, rfl, S', G'⟩; obtain ⟨fc9, ff9⟩ := (OD.out.src2 hgN G').fieldAt eHire_len 0 h0' 2 (.int .i64 y0.2.2) (by rw [hL0]; rfl))
  all_goals (have On := (OD.out.src2 hgN G').field eHire_len 0 h0' (y0.1, y0.2.1, IntKind.i64.wrap (y0.2.2 + x)) 2 (by omega) (.int .i64 (IntKind.i64.wrap (y0.2.2 + x))) (by rw [hL0]; rfl); have Oan := (OaD.out.src2 hgB G').grown (grow_set w11 ⟨gg, 2, none⟩ (.int .i64 (IntKind.i64.wrap (y0.2.2 + x)))) (ne_of_lt hOa.out (fun b hb => by have hb2 : some gg = some b := hb; injection hb2 with hb2; omega) : _ ∨ _ ≠ (Value.slice (some ⟨gg, 0, none⟩) 0 0).ownBlock); have Sn := hd (S'.put (show g < gg by omega) 2 (.int .i64 (IntKind.i64.wrap (y0.2.2 + x)))); have Gn := hd (grow_new (GD.out _ G') (Nat.le_trans hBN hg1) 2 (.int .i64 (IntKind.i64.wrap (y0.2.2 + x)))); replace On := hd On; replace Oan := hd Oan; clear O_a O_b S G SD OD OaD GD S' G' fc ff fc9 ff9 hL0; generalize IntKind.i64.wrap (y0.2.2 + x) = yx at On Oan Sn Gn ⊢; have O_a := Oan; have O_b := On; have S := Sn; have G := Gn; clear On Oan Sn Gn)
  all_goals (go_upto_region 6 with fail)
  all_goals (generalize w11.setCell ⟨gg, 2, none⟩ (.int .i64 yx) = w12 at O_a O_b S G ⊢)
  · skip
    go_wp2_with fail
    refine (one_src w0 v l hS hl _ g _ S.out (by omega) 5 (by omega)).mono ?_
    rintro e w5 ⟨y5, rfl, S', G'⟩
    replace O_a := hd (O_a.out.src2 hgB G')
    replace O_b := hd (O_b.out.src2 hgN G')
    replace G := hd (grownBy_trans G.out G')
    replace S := hd S'
    clear S' G'
    rcases y5 with _ | _
    · skip
      obtain ⟨Ab, cb, hAb⟩ := O_b.out.isSlice
      first | subst hAb | clear hAb
      go_wp2_with fail
      go_ret2
      first | exact ⟨L, (L.set 0 (y0.1, y0.2.1, yx)), _, _, rfl, O_a.out.sl eHire_len, O_b.out.sl eHire_len, (by first | omega | (simp; done) | (simp; omega)), (by first | omega | (simp; done) | (simp; omega)), (K.out.grown G.out hB0 (fun k hk => hw0 _ k hg0 hk))⟩ | exact ⟨L, (L.set 0 (y0.1, y0.2.1, yx)), rfl, O_a.out.sl eHire_len, O_b.out.sl eHire_len, (by first | omega | (simp; done) | (simp; omega)), (by first | omega | (simp; done) | (simp; omega)), (K.out.grown G.out hB0 (fun k hk => hw0 _ k hg0 hk))⟩ | exact ⟨L, (L.set 0 (y0.1, y0.2.1, yx)), _, rfl, O_a.out.sl eHire_len, O_b.out.sl eHire_len, (by first | omega | (simp; done) | (simp; omega)), (by first | omega | (simp; done) | (simp; omega)), (K.out.grown G.out hB0 (fun k hk => hw0 _ k hg0 hk))⟩
    · skip
      have hsz := G.out.size
      have O_c := hd (O_b.out.base hBN)
      go_wp2_with (at_builtin; refine wpList_push2 _ rfl _ _ 68 rfl iHire (.agg #[.int .i64 0, .int .i64 0, .int .i64 0]) 24 Try.underlying68 hiHire hz0Hire hz1Hire hz2Hire rfl (by decide) _ _ ((0, 0, 0) : THire) rfl (O_c.out.alloc _) w5.heap.size rfl #[.int .i64 0, .int .i64 0, .int .i64 0] 74 (heap_alloc_new _ _) rfl rfl (by intro u hu; simp [eHire] at hu; rcases hu with rfl | rfl | rfl <;> rfl) (by unfold maxLen; first | omega | (simp; done) | (simp; omega)) (by first | omega | (simp; done) | (simp; omega)) (by first | omega | (simp; done) | (simp; omega)) ?_)
      intro v' w21 O' hg' ho'
      have E' := ((Below.refl w.heap.size w5).alloc hsz (.cells #[.int .i64 0, .int .i64 0, .int .i64 0] 74)).grown hg' (by simp; omega) (fun b hb => (O_c.out.lt b hb).1)
      replace O_a := hd ((O_a.out.alloc (.cells #[.int .i64 0, .int .i64 0, .int .i64 0] 74)).grown hg' (ne_of_lt hOa.out (fun b hb => (O_b.out.lt b hb).1)))
      replace O_b := hd O'
      replace G := hd (grow_below G.out E')
      clear hg' ho' E' hsz O' O_c
      obtain ⟨Ab, cb, hAb⟩ := O_b.out.isSlice
      first | subst hAb | clear hAb
      go_wp2_with fail
      go_ret2
      first | exact ⟨L, ((L.set 0 (y0.1, y0.2.1, yx)) ++ [(0, 0, 0)]), _, _, rfl, O_a.out.sl eHire_len, O_b.out.sl eHire_len, (by first | omega | (simp; done) | (simp; omega)), (by first | omega | (simp; done) | (simp; omega)), (K.out.grown G.out hB0 (fun k hk => hw0 _ k hg0 hk))⟩ | exact ⟨L, ((L.set 0 (y0.1, y0.2.1, yx)) ++ [(0, 0, 0)]), rfl, O_a.out.sl eHire_len, O_b.out.sl eHire_len, (by first | omega | (simp; done) | (simp; omega)), (by first | omega | (simp; done) | (simp; omega)), (K.out.grown G.out hB0 (fun k hk => hw0 _ k hg0 hk))⟩ | exact ⟨L, ((L.set 0 (y0.1, y0.2.1, yx)) ++ [(0, 0, 0)]), _, rfl, O_a.out.sl eHire_len, O_b.out.sl eHire_len, (by first | omega | (simp; done) | (simp; omega)), (by first | omega | (simp; done) | (simp; omega)), (K.out.grown G.out hB0 (fun k hk => hw0 _ k hg0 hk))⟩
  · skip
    go_wp2_with fail
    refine (one_src w0 v l hS hl _ g _ S.out (by omega) 5 (by omega)).mono ?_
    rintro e w6 ⟨y5, rfl, S', G'⟩
    replace O_a := hd (O_a.out.src2 hgB G')
    replace O_b := hd (O_b.out.src2 hgN G')
    replace G := hd (grownBy_trans G.out G')
    replace S := hd S'
    clear S' G'
    rcases y5 with _ | _
    · skip
      obtain ⟨Ab, cb, hAb⟩ := O_b.out.isSlice
      first | subst hAb | clear hAb
      go_wp2_with fail
      go_ret2
      first | exact ⟨L, (L.set 0 (y0.1, y0.2.1, yx)), _, _, rfl, O_a.out.sl eHire_len, O_b.out.sl eHire_len, (by first | omega | (simp; done) | (simp; omega)), (by first | omega | (simp; done) | (simp; omega)), (K.out.grown G.out hB0 (fun k hk => hw0 _ k hg0 hk))⟩ | exact ⟨L, (L.set 0 (y0.1, y0.2.1, yx)), rfl, O_a.out.sl eHire_len, O_b.out.sl eHire_len, (by first | omega | (simp; done) | (simp; omega)), (by first | omega | (simp; done) | (simp; omega)), (K.out.grown G.out hB0 (fun k hk => hw0 _ k hg0 hk))⟩ | exact ⟨L, (L.set 0 (y0.1, y0.2.1, yx)), _, rfl, O_a.out.sl eHire_len, O_b.out.sl eHire_len, (by first | omega | (simp; done) | (simp; omega)), (by first | omega | (simp; done) | (simp; omega)), (K.out.grown G.out hB0 (fun k hk => hw0 _ k hg0 hk))⟩
    · skip
      have hsz := G.out.size
      have O_c := hd (O_b.out.base hBN)
      go_wp2_with (at_builtin; refine wpList_push2 _ rfl _ _ 68 rfl iHire (.agg #[.int .i64 0, .int .i64 0, .int .i64 0]) 24 Try.underlying68 hiHire hz0Hire hz1Hire hz2Hire rfl (by decide) _ _ ((0, 0, 0) : THire) rfl (O_c.out.alloc _) w6.heap.size rfl #[.int .i64 0, .int .i64 0, .int .i64 0] 74 (heap_alloc_new _ _) rfl rfl (by intro u hu; simp [eHire] at hu; rcases hu with rfl | rfl | rfl <;> rfl) (by unfold maxLen; first | omega | (simp; done) | (simp; omega)) (by first | omega | (simp; done) | (simp; omega)) (by first | omega | (simp; done) | (simp; omega)) ?_)
      intro v' w21 O' hg' ho'
      have E' := ((Below.refl w.heap.size w6).alloc hsz (.cells #[.int .i64 0, .int .i64 0, .int .i64 0] 74)).grown hg' (by simp; omega) (fun b hb => (O_c.out.lt b hb).1)
      replace O_a := hd ((O_a.out.alloc (.cells #[.int .i64 0, .int .i64 0, .int .i64 0] 74)).grown hg' (ne_of_lt hOa.out (fun b hb => (O_b.out.lt b hb).1)))
      replace O_b := hd O'
      replace G := hd (grow_below G.out E')
      clear hg' ho' E' hsz O' O_c
      obtain ⟨Ab, cb, hAb⟩ := O_b.out.isSlice
      first | subst hAb | clear hAb
      go_wp2_with fail
      go_ret2
      first | exact ⟨L, ((L.set 0 (y0.1, y0.2.1, yx)) ++ [(0, 0, 0)]), _, _, rfl, O_a.out.sl eHire_len, O_b.out.sl eHire_len, (by first | omega | (simp; done) | (simp; omega)), (by first | omega | (simp; done) | (simp; omega)), (K.out.grown G.out hB0 (fun k hk => hw0 _ k hg0 hk))⟩ | exact ⟨L, ((L.set 0 (y0.1, y0.2.1, yx)) ++ [(0, 0, 0)]), rfl, O_a.out.sl eHire_len, O_b.out.sl eHire_len, (by first | omega | (simp; done) | (simp; omega)), (by first | omega | (simp; done) | (simp; omega)), (K.out.grown G.out hB0 (fun k hk => hw0 _ k hg0 hk))⟩ | exact ⟨L, ((L.set 0 (y0.1, y0.2.1, yx)) ++ [(0, 0, 0)]), _, rfl, O_a.out.sl eHire_len, O_b.out.sl eHire_len, (by first | omega | (simp; done) | (simp; omega)), (by first | omega | (simp; done) | (simp; omega)), (K.out.grown G.out hB0 (fun k hk => hw0 _ k hg0 hk))⟩
end Go.Proofs.Ytidmpjlkdghmeaa
