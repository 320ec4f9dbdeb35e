/- What the reference draws for rates and money. No condition but that the bytes read. -/
import Derived.Test.YtiofpmmbgohnhaaDoorRec
import Derived.Test.YtiofpmmbgohnhaaDoorField
import Derived.Test.YtiofpmmbgohnhaaDoorSRate
import Derived.Test.YtiofpmmbgohnhaaDoorCents
import Derived.Test.YtiofpmmbgohnhaaDoorMax
import Derived.Test.YtiofpmmbgohnhaaDoorReadE
import Derived.Test.YtiofpmmbgohnhaaDoorPriceP
import Derived.Deep.RegionWith
namespace Go.Proofs.YtiofpmmbgohnhaaDoor
open Go Go.RowKit Go.ChangeShapes Go.WideShapes
set_option linter.unusedSimpArgs false
set_option linter.unusedVariables false
/-- numbers of a drawn rate -/
def rateB (x : TRate) : Prop := (-9223372036854775808 ≤ x.1 ∧ x.1 ≤ 9223372036854775807) ∧ (-1 ≤ x.2 ∧ x.2 ≤ 100001)
def ratesB (L : List TRate) : Prop := ∀ x ∈ L, rateB x
theorem rateB_set {L : List TRate} (h : ratesB L) (j : Nat) {y : TRate} (hy : rateB y) : ratesB (L.set j y) := fun x hx => by
  rcases List.mem_or_eq_of_mem_set hx with h1 | h1
  · exact h x h1
  · rw [h1]; exact hy
theorem rateB_snoc {L : List TRate} (h : ratesB L) {y : TRate} (hy : rateB y) : ratesB (L ++ [y]) := fun x hx => by
  rcases List.mem_append.1 hx with h1 | h1
  · exact h x h1
  · rw [List.mem_singleton.1 h1]; exact hy
set_option maxRecDepth 100000 in
set_option maxHeartbeats 8000000 in
theorem draw_rates (w0 : World) (v : Value) (l : List UInt8) (hS : Sl w0 1 v eU l) (hl : l.length ≤ 1048576) (w : World) (g n : Nat) (h : Src w0 v g n w) (hn : n ≤ 700000000) :
    Calls Tryd.prog 77 #[.pointer (some ⟨g, 0, none⟩)] w fun e w' => ∃ (u : Value) (L : List TRate), e = .returned u ∧ Own w' w.heap.size 117 2 u eRate L ∧ L.length ≤ 11 ∧ ratesB L ∧ Src w0 v g (n + 1000) w' ∧ w.grownBy w' (some g) := by
  have hgB : g < w.heap.size := h.1
  obtain ⟨iRate, hiRate, hz0Rate, hz1Rate, hz2Rate⟩ := info_parts info_Rate
  have S := hd h
  clear h
  have G := hd (World.grownBy.refl w (some g))
  go_enter Tryd.func77, Tryd.ntmps77
  have O_out0 := Own.made0 w w.heap.size 117 2 eRate G.out.size
  replace G := hd (grow_alloc G.out (.cells #[] 117))
  replace S := hd (S.out.more (.cells #[] 117))
  have O_out := hd O_out0
  clear O_out0
  go_wp2_with fail
  refine (pick_src w0 v l hS hl _ g _ S.out (by omega) 700 (by omega)).mono ?_
  rintro e w1 ⟨c0, ⟨c0_1, c0_2⟩, rfl, S', G'⟩
  replace O_out := hd (O_out.out.src2 hgB G')
  replace G := hd (grownBy_trans G.out G')
  replace S := hd S'
  clear S' G'
  go_wp2_with fail
  refine (pick_src w0 v l hS hl _ g _ S.out (by omega) 4 (by omega)).mono ?_
  rintro e w2 ⟨q, ⟨q_1, q_2⟩, rfl, S', G'⟩
  replace O_out := hd (O_out.out.src2 hgB G')
  replace G := hd (grownBy_trans G.out G')
  replace S := hd S'
  clear S' G'
  go_wp2_with fail
  refine (one_src w0 v l hS hl _ g _ S.out (by omega) 16 (by omega)).mono ?_
  rintro e w3 ⟨y, rfl, S', G'⟩
  replace O_out := hd (O_out.out.src2 hgB G')
  replace G := hd (grownBy_trans G.out G')
  replace S := hd S'
  clear S' G'
  rcases y with _ | _
  · skip
    go_wp2_with fail
    go_loopw [3, 4, 5, 7] (fun ov dv cv kv wr => ∃ (k dd c : Int) (L : List TRate) (o : Value), o = ov ∧ kv = .int .i64 k ∧ dv = .int .i64 dd ∧ cv = .int .i64 c ∧ 0 ≤ k ∧ (L.length : Int) + k = (1 + q) ∧ 1 ≤ dd ∧ dd ≤ 1 + 6 * (L.length : Int) ∧ 0 ≤ c ∧ c ≤ 1000 ∧ Hid (ratesB L) ∧ Own wr w.heap.size 117 2 o eRate L ∧ Src w0 v g (n + 100 + 10 * L.length) wr ∧ w.grownBy wr (some g)) (fun _ _ _ kv _ => (intOf kv).toNat)
    case atStart => exact ⟨(1 + q), 1, _, [], _, rfl, rfl, rfl, rfl, by omega, by simp, by omega, by simp, by omega, by omega, hd (fun x hx => by simp at hx), O_out.out, S.out.le (by omega), G.out⟩
    case round =>
      obtain ⟨k, dd, c, L, ov, rfl, rfl, rfl, rfl, hk0, hkl, hd1, hd2, hc1, hc2, HB, O2, S2, G2⟩ := hrel
      clear O_out S G
      have O_out := hd O2
      have S := hd S2
      have G := hd G2
      clear O2 S2 G2
      have hL11 : L.length ≤ 11 := by omega
      by_cases hlt : 0 < k
      · skip
        have hsz := G.out.size
        go_wp2_with (at_builtin; refine wpList_push2 _ rfl _ _ 47 rfl iRate (.agg #[.int .i64 0, .int .i64 0]) 16 Tryd.underlying47 hiRate hz0Rate hz1Rate hz2Rate rfl (by decide) _ _ ((dd, c) : TRate) rfl (O_out.out.alloc _) wr.heap.size rfl #[.int .i64 dd, .int .i64 c] 117 (heap_alloc_new _ _) rfl rfl (by intro u hu; simp [eRate] at hu; rcases hu with rfl | rfl <;> rfl) (by unfold maxLen; omega) (by omega) (by simp; omega) ?_)
        intro v' w4 O' hg' ho'
        have E' := ((Below.refl w.heap.size wr).alloc hsz (.cells #[.int .i64 dd, .int .i64 c] 117)).grown hg' (by simp; omega) (fun b hb => (O_out.out.lt b hb).1)
        replace O_out := hd O'
        replace S := hd (S.out.below2 hgB E')
        replace G := hd (grow_below G.out E')
        clear hg' ho' E' hsz O'
        go_wp2_with fail
        refine (pick_src w0 v l hS hl _ g _ S.out (by omega) 6 (by omega)).mono ?_
        rintro e w5 ⟨p1, ⟨p1_1, p1_2⟩, rfl, S', G'⟩
        replace O_out := hd (O_out.out.src2 hgB G')
        replace G := hd (grownBy_trans G.out G')
        replace S := hd S'
        clear S' G'
        go_wp2_with fail
        refine (pick_src w0 v l hS hl _ g _ S.out (by omega) 120 (by omega)).mono ?_
        rintro e w6 ⟨p2, ⟨p2_1, p2_2⟩, rfl, S', G'⟩
        replace O_out := hd (O_out.out.src2 hgB G')
        replace G := hd (grownBy_trans G.out G')
        replace S := hd S'
        clear S' G'
        go_wp2_with fail
        refine (max_spec _ _ _).mono ?_
        rintro e wz ⟨rfl, hw⟩
        have hw := hw.symm
        subst hw
        go_wp2_with fail
        go_roundw
        case rel => exact ⟨k - 1, dd + (1 + p1), max 0 (c - p2), L ++ [(dd, c)], _, rfl, by go_num, by first | rfl | go_num, by first | rfl | go_num, by omega, by simp; omega, by omega, by simp; omega, by omega, by omega, hd (rateB_snoc HB.out ⟨by dsimp only; omega, by dsimp only; omega⟩), O_out.out, S.out.le (by simp; omega), G.out⟩
        case measure => simp [intOf]; omega
      obtain rfl : k = 0 := by omega
      by_cases hnp : (0 : Int) < (1 + q)
      case neg =>
        obtain ⟨A, cc, rfl⟩ := O_out.out.isSlice
        go_wp2_with fail
        go_ret
        first | exact ⟨_, L, rfl, O_out.out, by first | exact hL11 | (simp; exact hL11), HB.out, S.out.le (by omega), G.out⟩ | exact ⟨_, rfl, L, O_out.out, by first | exact hL11 | (simp; exact hL11), HB.out, S.out.le (by omega), G.out⟩
      have hL0 : 0 < L.length := by omega
      rcases O_out.out.form with ⟨-, hnil⟩ | ⟨gg, cap, hv5, hg1, hg2, hg3, hg4⟩
      · rw [hnil] at hL0; exact absurd hL0 (by decide)
      subst hv5
      go_wp2_with fail
      refine (pick_src w0 v l hS hl _ g _ S.out (by omega) ((1 + q)) (by omega)).mono ?_
      rintro e w7 ⟨jx, ⟨jx_1, jx_2⟩, rfl, S', G'⟩
      replace O_out := hd (O_out.out.src2 hgB G')
      replace G := hd (grownBy_trans G.out G')
      replace S := hd S'
      clear S' G'
      obtain ⟨j, rfl⟩ : ∃ j : Nat, jx = (j : Int) := ⟨jx.toNat, by omega⟩
      have hj : j < L.length := by omega
      go_wp2_with fail
      refine (pick_src w0 v l hS hl _ g _ S.out (by omega) 20 (by omega)).mono ?_
      rintro e w8 ⟨z, ⟨z_1, z_2⟩, rfl, S', G'⟩
      replace O_out := hd (O_out.out.src2 hgB G')
      replace G := hd (grownBy_trans G.out G')
      replace S := hd S'
      clear S' G'
      by_cases y0z : z = 0
      · skip
        have e0 : (z == 0) = true := by simpa using y0z
        clear y0z
        have L := hd (list_stays (W := w8) (g := g) S.out.1 2 ([-1, 0, 1, 1000, 1001, -9223372036854775808] : List Int) (by simp))
        replace O_out := hd (O_out.out.alloc (.cells (([-1, 0, 1, 1000, 1001, -9223372036854775808] : List Int).map (Value.int .i64)).toArray 2))
        replace G := hd (grow_alloc G.out (.cells (([-1, 0, 1, 1000, 1001, -9223372036854775808] : List Int).map (Value.int .i64)).toArray 2))
        replace S := hd (S.out.more (.cells (([-1, 0, 1, 1000, 1001, -9223372036854775808] : List Int).map (Value.int .i64)).toArray 2))
        go_wp2_with fail
        refine (among_src w0 v l hS hl _ g _ S.out (by omega) _ ([-1, 0, 1, 1000, 1001, -9223372036854775808] : List Int) L.out (by simp) (by simp)).mono ?_
        rintro e w9 ⟨x, hm, rfl, S', G'⟩
        have x_b : -9223372036854775808 ≤ x ∧ x ≤ 9223372036854775807 := by simp only [List.mem_cons, List.not_mem_nil, or_false] at hm; omega
        obtain ⟨x_1, x_2⟩ := x_b
        clear L
        replace O_out := hd (O_out.out.src2 hgB G')
        replace G := hd (grownBy_trans G.out G')
        replace S := hd S'
        clear S' G'
        have hxb : -9223372036854775808 ≤ x ∧ x ≤ 9223372036854775807 ∧ True := by simp only [List.mem_cons, List.not_mem_nil, or_false] at hm; exact ⟨x_1, x_2, trivial⟩
        clear hm
        obtain ⟨fc, ff⟩ := O_out.out.fieldAt eRate_len j hj 0 (.int .i64 L[j].1) rfl
        rw [Nat.add_zero] at fc ff
        have On := O_out.out.field eRate_len j hj (x, L[j].2) 0 (by omega) (.int .i64 x) rfl
        rw [Nat.add_zero] at On
        have Sn := hd (S.out.put (show g < gg by omega) (j * 2) (.int .i64 x))
        have Gn := hd (grow_new G.out hg1 (j * 2) (.int .i64 x))
        have HBn := hd (rateB_set HB.out j (y := (x, L[j].2)) ⟨⟨hxb.1, hxb.2.1⟩, (HB.out _ (List.getElem_mem hj)).2⟩)
        have HON := hd On
        clear On O_out S G HB
        have O_out := HON
        have S := Sn
        have G := Gn
        clear HON Sn Gn
        generalize L[j] = y0 at fc HBn O_out
        go_wp2_with fail
        go_ret
        first | exact ⟨_, (L.set j (x, y0.2)), rfl, O_out.out, by first | exact hL11 | (simp; exact hL11), HBn.out, S.out.le (by omega), G.out⟩ | exact ⟨_, rfl, (L.set j (x, y0.2)), O_out.out, by first | exact hL11 | (simp; exact hL11), HBn.out, S.out.le (by omega), G.out⟩
      have e0 : (z == 0) = false := by simpa using y0z
      clear y0z
      by_cases y1z : z = 1
      · skip
        have e1 : (z == 1) = true := by simpa using y1z
        clear y1z
        have L := hd (list_stays (W := w8) (g := g) S.out.1 2 ([-1, 0, 100000, 100001] : List Int) (by simp))
        replace O_out := hd (O_out.out.alloc (.cells (([-1, 0, 100000, 100001] : List Int).map (Value.int .i64)).toArray 2))
        replace G := hd (grow_alloc G.out (.cells (([-1, 0, 100000, 100001] : List Int).map (Value.int .i64)).toArray 2))
        replace S := hd (S.out.more (.cells (([-1, 0, 100000, 100001] : List Int).map (Value.int .i64)).toArray 2))
        go_wp2_with fail
        refine (among_src w0 v l hS hl _ g _ S.out (by omega) _ ([-1, 0, 100000, 100001] : List Int) L.out (by simp) (by simp)).mono ?_
        rintro e w10 ⟨x, hm, rfl, S', G'⟩
        have x_b : -9223372036854775808 ≤ x ∧ x ≤ 9223372036854775807 := by simp only [List.mem_cons, List.not_mem_nil, or_false] at hm; omega
        obtain ⟨x_1, x_2⟩ := x_b
        clear L
        replace O_out := hd (O_out.out.src2 hgB G')
        replace G := hd (grownBy_trans G.out G')
        replace S := hd S'
        clear S' G'
        have hxb : -9223372036854775808 ≤ x ∧ x ≤ 9223372036854775807 ∧ (-1 ≤ x ∧ x ≤ 100001) := by simp only [List.mem_cons, List.not_mem_nil, or_false] at hm; omega
        clear hm
        obtain ⟨fc, ff⟩ := O_out.out.fieldAt eRate_len j hj 1 (.int .i64 L[j].2) rfl
        have On := O_out.out.field eRate_len j hj (L[j].1, x) 1 (by omega) (.int .i64 x) rfl
        have Sn := hd (S.out.put (show g < gg by omega) (j * 2 + 1) (.int .i64 x))
        have Gn := hd (grow_new G.out hg1 (j * 2 + 1) (.int .i64 x))
        have HBn := hd (rateB_set HB.out j (y := (L[j].1, x)) ⟨(HB.out _ (List.getElem_mem hj)).1, hxb.2.2⟩)
        have HON := hd On
        clear On O_out S G HB
        have O_out := HON
        have S := Sn
        have G := Gn
        clear HON Sn Gn
        generalize L[j] = y0 at fc HBn O_out
        go_wp2_with fail
        go_ret
        first | exact ⟨_, (L.set j (y0.1, x)), rfl, O_out.out, by first | exact hL11 | (simp; exact hL11), HBn.out, S.out.le (by omega), G.out⟩ | exact ⟨_, rfl, (L.set j (y0.1, x)), O_out.out, by first | exact hL11 | (simp; exact hL11), HBn.out, S.out.le (by omega), G.out⟩
      have e1 : (z == 1) = false := by simpa using y1z
      clear y1z
      go_wp2_with fail
      go_ret
      first | exact ⟨_, L, rfl, O_out.out, by first | exact hL11 | (simp; exact hL11), HB.out, S.out.le (by omega), G.out⟩ | exact ⟨_, rfl, L, O_out.out, by first | exact hL11 | (simp; exact hL11), HB.out, S.out.le (by omega), G.out⟩
  · skip
    have L := hd (list_stays (W := w3) (g := g) S.out.1 2 ([0, 10, 11] : List Int) (by simp))
    replace O_out := hd (O_out.out.alloc (.cells (([0, 10, 11] : List Int).map (Value.int .i64)).toArray 2))
    replace G := hd (grow_alloc G.out (.cells (([0, 10, 11] : List Int).map (Value.int .i64)).toArray 2))
    replace S := hd (S.out.more (.cells (([0, 10, 11] : List Int).map (Value.int .i64)).toArray 2))
    go_wp2_with fail
    refine (among_src w0 v l hS hl _ g _ S.out (by omega) _ ([0, 10, 11] : List Int) L.out (by simp) (by simp)).mono ?_
    rintro e w11 ⟨m, hm, rfl, S', G'⟩
    have m_b : -9223372036854775808 ≤ m ∧ m ≤ 9223372036854775807 := by simp only [List.mem_cons, List.not_mem_nil, or_false] at hm; omega
    obtain ⟨m_1, m_2⟩ := m_b
    clear L
    replace O_out := hd (O_out.out.src2 hgB G')
    replace G := hd (grownBy_trans G.out G')
    replace S := hd S'
    clear S' G'
    have hm2 : 0 ≤ m ∧ m ≤ 11 := by simp only [List.mem_cons, List.not_mem_nil, or_false] at hm; omega
    clear hm
    obtain ⟨hm3, hm4⟩ := hm2
    go_wp2_with fail
    go_loopw [3, 4, 5, 7] (fun ov dv cv kv wr => ∃ (k dd c : Int) (L : List TRate) (o : Value), o = ov ∧ kv = .int .i64 k ∧ dv = .int .i64 dd ∧ cv = .int .i64 c ∧ 0 ≤ k ∧ (L.length : Int) + k = m ∧ 1 ≤ dd ∧ dd ≤ 1 + 6 * (L.length : Int) ∧ 0 ≤ c ∧ c ≤ 1000 ∧ Hid (ratesB L) ∧ Own wr w.heap.size 117 2 o eRate L ∧ Src w0 v g (n + 100 + 10 * L.length) wr ∧ w.grownBy wr (some g)) (fun _ _ _ kv _ => (intOf kv).toNat)
    case atStart => exact ⟨m, 1, _, [], _, rfl, rfl, rfl, rfl, by omega, by simp, by omega, by simp, by omega, by omega, hd (fun x hx => by simp at hx), O_out.out, S.out.le (by omega), G.out⟩
    case round =>
      obtain ⟨k, dd, c, L, ov, rfl, rfl, rfl, rfl, hk0, hkl, hd1, hd2, hc1, hc2, HB, O2, S2, G2⟩ := hrel
      clear O_out S G
      have O_out := hd O2
      have S := hd S2
      have G := hd G2
      clear O2 S2 G2
      have hL11 : L.length ≤ 11 := by omega
      by_cases hlt : 0 < k
      · skip
        have hsz := G.out.size
        go_wp2_with (at_builtin; refine wpList_push2 _ rfl _ _ 47 rfl iRate (.agg #[.int .i64 0, .int .i64 0]) 16 Tryd.underlying47 hiRate hz0Rate hz1Rate hz2Rate rfl (by decide) _ _ ((dd, c) : TRate) rfl (O_out.out.alloc _) wr.heap.size rfl #[.int .i64 dd, .int .i64 c] 117 (heap_alloc_new _ _) rfl rfl (by intro u hu; simp [eRate] at hu; rcases hu with rfl | rfl <;> rfl) (by unfold maxLen; omega) (by omega) (by simp; omega) ?_)
        intro v' w12 O' hg' ho'
        have E' := ((Below.refl w.heap.size wr).alloc hsz (.cells #[.int .i64 dd, .int .i64 c] 117)).grown hg' (by simp; omega) (fun b hb => (O_out.out.lt b hb).1)
        replace O_out := hd O'
        replace S := hd (S.out.below2 hgB E')
        replace G := hd (grow_below G.out E')
        clear hg' ho' E' hsz O'
        go_wp2_with fail
        refine (pick_src w0 v l hS hl _ g _ S.out (by omega) 6 (by omega)).mono ?_
        rintro e w13 ⟨p1, ⟨p1_1, p1_2⟩, rfl, S', G'⟩
        replace O_out := hd (O_out.out.src2 hgB G')
        replace G := hd (grownBy_trans G.out G')
        replace S := hd S'
        clear S' G'
        go_wp2_with fail
        refine (pick_src w0 v l hS hl _ g _ S.out (by omega) 120 (by omega)).mono ?_
        rintro e w14 ⟨p2, ⟨p2_1, p2_2⟩, rfl, S', G'⟩
        replace O_out := hd (O_out.out.src2 hgB G')
        replace G := hd (grownBy_trans G.out G')
        replace S := hd S'
        clear S' G'
        go_wp2_with fail
        refine (max_spec _ _ _).mono ?_
        rintro e wz ⟨rfl, hw⟩
        have hw := hw.symm
        subst hw
        go_wp2_with fail
        go_roundw
        case rel => exact ⟨k - 1, dd + (1 + p1), max 0 (c - p2), L ++ [(dd, c)], _, rfl, by go_num, by first | rfl | go_num, by first | rfl | go_num, by omega, by simp; omega, by omega, by simp; omega, by omega, by omega, hd (rateB_snoc HB.out ⟨by dsimp only; omega, by dsimp only; omega⟩), O_out.out, S.out.le (by simp; omega), G.out⟩
        case measure => simp [intOf]; omega
      obtain rfl : k = 0 := by omega
      by_cases hnp : (0 : Int) < m
      case neg =>
        obtain ⟨A, cc, rfl⟩ := O_out.out.isSlice
        go_wp2_with fail
        go_ret
        first | exact ⟨_, L, rfl, O_out.out, by first | exact hL11 | (simp; exact hL11), HB.out, S.out.le (by omega), G.out⟩ | exact ⟨_, rfl, L, O_out.out, by first | exact hL11 | (simp; exact hL11), HB.out, S.out.le (by omega), G.out⟩
      have hL0 : 0 < L.length := by omega
      rcases O_out.out.form with ⟨-, hnil⟩ | ⟨gg, cap, hv5, hg1, hg2, hg3, hg4⟩
      · rw [hnil] at hL0; exact absurd hL0 (by decide)
      subst hv5
      go_wp2_with fail
      refine (pick_src w0 v l hS hl _ g _ S.out (by omega) (m) (by omega)).mono ?_
      rintro e w15 ⟨jx, ⟨jx_1, jx_2⟩, rfl, S', G'⟩
      replace O_out := hd (O_out.out.src2 hgB G')
      replace G := hd (grownBy_trans G.out G')
      replace S := hd S'
      clear S' G'
      obtain ⟨j, rfl⟩ : ∃ j : Nat, jx = (j : Int) := ⟨jx.toNat, by omega⟩
      have hj : j < L.length := by omega
      go_wp2_with fail
      refine (pick_src w0 v l hS hl _ g _ S.out (by omega) 20 (by omega)).mono ?_
      rintro e w16 ⟨z, ⟨z_1, z_2⟩, rfl, S', G'⟩
      replace O_out := hd (O_out.out.src2 hgB G')
      replace G := hd (grownBy_trans G.out G')
      replace S := hd S'
      clear S' G'
      by_cases y0z : z = 0
      · skip
        have e0 : (z == 0) = true := by simpa using y0z
        clear y0z
        have L := hd (list_stays (W := w16) (g := g) S.out.1 2 ([-1, 0, 1, 1000, 1001, -9223372036854775808] : List Int) (by simp))
        replace O_out := hd (O_out.out.alloc (.cells (([-1, 0, 1, 1000, 1001, -9223372036854775808] : List Int).map (Value.int .i64)).toArray 2))
        replace G := hd (grow_alloc G.out (.cells (([-1, 0, 1, 1000, 1001, -9223372036854775808] : List Int).map (Value.int .i64)).toArray 2))
        replace S := hd (S.out.more (.cells (([-1, 0, 1, 1000, 1001, -9223372036854775808] : List Int).map (Value.int .i64)).toArray 2))
        go_wp2_with fail
        refine (among_src w0 v l hS hl _ g _ S.out (by omega) _ ([-1, 0, 1, 1000, 1001, -9223372036854775808] : List Int) L.out (by simp) (by simp)).mono ?_
        rintro e w17 ⟨x, hm, rfl, S', G'⟩
        have x_b : -9223372036854775808 ≤ x ∧ x ≤ 9223372036854775807 := by simp only [List.mem_cons, List.not_mem_nil, or_false] at hm; omega
        obtain ⟨x_1, x_2⟩ := x_b
        clear L
        replace O_out := hd (O_out.out.src2 hgB G')
        replace G := hd (grownBy_trans G.out G')
        replace S := hd S'
        clear S' G'
        have hxb : -9223372036854775808 ≤ x ∧ x ≤ 9223372036854775807 ∧ True := by simp only [List.mem_cons, List.not_mem_nil, or_false] at hm; exact ⟨x_1, x_2, trivial⟩
        clear hm
        obtain ⟨fc, ff⟩ := O_out.out.fieldAt eRate_len j hj 0 (.int .i64 L[j].1) rfl
        rw [Nat.add_zero] at fc ff
        have On := O_out.out.field eRate_len j hj (x, L[j].2) 0 (by omega) (.int .i64 x) rfl
        rw [Nat.add_zero] at On
        have Sn := hd (S.out.put (show g < gg by omega) (j * 2) (.int .i64 x))
        have Gn := hd (grow_new G.out hg1 (j * 2) (.int .i64 x))
        have HBn := hd (rateB_set HB.out j (y := (x, L[j].2)) ⟨⟨hxb.1, hxb.2.1⟩, (HB.out _ (List.getElem_mem hj)).2⟩)
        have HON := hd On
        clear On O_out S G HB
        have O_out := HON
        have S := Sn
        have G := Gn
        clear HON Sn Gn
        generalize L[j] = y0 at fc HBn O_out
        go_wp2_with fail
        go_ret
        first | exact ⟨_, (L.set j (x, y0.2)), rfl, O_out.out, by first | exact hL11 | (simp; exact hL11), HBn.out, S.out.le (by omega), G.out⟩ | exact ⟨_, rfl, (L.set j (x, y0.2)), O_out.out, by first | exact hL11 | (simp; exact hL11), HBn.out, S.out.le (by omega), G.out⟩
      have e0 : (z == 0) = false := by simpa using y0z
      clear y0z
      by_cases y1z : z = 1
      · skip
        have e1 : (z == 1) = true := by simpa using y1z
        clear y1z
        have L := hd (list_stays (W := w16) (g := g) S.out.1 2 ([-1, 0, 100000, 100001] : List Int) (by simp))
        replace O_out := hd (O_out.out.alloc (.cells (([-1, 0, 100000, 100001] : List Int).map (Value.int .i64)).toArray 2))
        replace G := hd (grow_alloc G.out (.cells (([-1, 0, 100000, 100001] : List Int).map (Value.int .i64)).toArray 2))
        replace S := hd (S.out.more (.cells (([-1, 0, 100000, 100001] : List Int).map (Value.int .i64)).toArray 2))
        go_wp2_with fail
        refine (among_src w0 v l hS hl _ g _ S.out (by omega) _ ([-1, 0, 100000, 100001] : List Int) L.out (by simp) (by simp)).mono ?_
        rintro e w18 ⟨x, hm, rfl, S', G'⟩
        have x_b : -9223372036854775808 ≤ x ∧ x ≤ 9223372036854775807 := by simp only [List.mem_cons, List.not_mem_nil, or_false] at hm; omega
        obtain ⟨x_1, x_2⟩ := x_b
        clear L
        replace O_out := hd (O_out.out.src2 hgB G')
        replace G := hd (grownBy_trans G.out G')
        replace S := hd S'
        clear S' G'
        have hxb : -9223372036854775808 ≤ x ∧ x ≤ 9223372036854775807 ∧ (-1 ≤ x ∧ x ≤ 100001) := by simp only [List.mem_cons, List.not_mem_nil, or_false] at hm; omega
        clear hm
        obtain ⟨fc, ff⟩ := O_out.out.fieldAt eRate_len j hj 1 (.int .i64 L[j].2) rfl
        have On := O_out.out.field eRate_len j hj (L[j].1, x) 1 (by omega) (.int .i64 x) rfl
        have Sn := hd (S.out.put (show g < gg by omega) (j * 2 + 1) (.int .i64 x))
        have Gn := hd (grow_new G.out hg1 (j * 2 + 1) (.int .i64 x))
        have HBn := hd (rateB_set HB.out j (y := (L[j].1, x)) ⟨(HB.out _ (List.getElem_mem hj)).1, hxb.2.2⟩)
        have HON := hd On
        clear On O_out S G HB
        have O_out := HON
        have S := Sn
        have G := Gn
        clear HON Sn Gn
        generalize L[j] = y0 at fc HBn O_out
        go_wp2_with fail
        go_ret
        first | exact ⟨_, (L.set j (y0.1, x)), rfl, O_out.out, by first | exact hL11 | (simp; exact hL11), HBn.out, S.out.le (by omega), G.out⟩ | exact ⟨_, rfl, (L.set j (y0.1, x)), O_out.out, by first | exact hL11 | (simp; exact hL11), HBn.out, S.out.le (by omega), G.out⟩
      have e1 : (z == 1) = false := by simpa using y1z
      clear y1z
      go_wp2_with fail
      go_ret
      first | exact ⟨_, L, rfl, O_out.out, by first | exact hL11 | (simp; exact hL11), HB.out, S.out.le (by omega), G.out⟩ | exact ⟨_, rfl, L, O_out.out, by first | exact hL11 | (simp; exact hL11), HB.out, S.out.le (by omega), G.out⟩
set_option maxRecDepth 100000 in
set_option maxHeartbeats 8000000 in
theorem draw_with (w0 : World) (v : Value) (l : List UInt8) (hS : Sl w0 1 v eU l) (hl : l.length ≤ 1048576) :
    Calls Tryd.prog 72 #[v] w0 fun e w' => ∃ (L : List TRate) (d : Int) (u : Value), e = .returned (.tuple #[u, .int .i64 d]) ∧ Own w' w0.heap.size 117 2 u eRate L ∧ L.length ≤ 11 ∧ Below w0.heap.size w0 w' := by
  have hv : ∃ A n c, v = .slice A n c := by obtain ⟨A, c, h⟩ := hS.isSlice; exact ⟨A, _, c, h⟩
  go_enter Tryd.func72, Tryd.ntmps72
  go_wp2_with fail
  refine (from_src w0 v hv).mono ?_
  rintro e w ⟨rfl, S', K, hz⟩
  have hgB : w0.heap.size < w.heap.size := by omega
  have hB0 : w0.heap.size ≤ w.heap.size := by omega
  have hw0 : ∀ g k : Nat, w0.heap.size = g → some g = some k → w0.heap.size ≤ k := fun g k hg hk => by injection hk with hk; omega
  replace K := hd K
  generalize hg0 : w0.heap.size = g at S' hgB hz ⊢
  have S := hd S'
  have G := hd (World.grownBy.refl w (some g))
  clear S' hz
  go_wp2_with fail
  refine (draw_rates w0 v l hS hl _ g _ S.out (by omega)).mono ?_
  rintro e w1 ⟨u, L, rfl, O', hL, -, S', G'⟩
  replace G := hd (grownBy_trans G.out G')
  replace S := hd S'
  clear S' G'
  have O_out := hd O'
  clear O'
  obtain ⟨A, cc, rfl⟩ := O_out.out.isSlice
  go_wp2_with fail
  refine (one_src w0 v l hS hl _ g _ S.out (by omega) 8 (by omega)).mono ?_
  rintro e w2 ⟨y, rfl, S', G'⟩
  replace O_out := hd (O_out.out.src2 hgB G')
  replace G := hd (grownBy_trans G.out G')
  replace S := hd S'
  clear S' G'
  rcases y with _ | _
  · skip
    go_wp2_with fail
    refine (pick_src w0 v l hS hl _ g _ S.out (by omega) 25 (by omega)).mono ?_
    rintro e w3 ⟨x, ⟨x_1, x_2⟩, rfl, S', G'⟩
    replace O_out := hd (O_out.out.src2 hgB G')
    replace G := hd (grownBy_trans G.out G')
    replace S := hd S'
    clear S' G'
    go_wp2_with fail
    go_ret2
    first | exact ⟨L, _, _, rfl, O_out.out.base hB0, hL, (K.out.grown G.out hB0 (fun k hk => hw0 _ k hg0 hk))⟩ | exact ⟨L, _, rfl, O_out.out.base hB0, hL, (K.out.grown G.out hB0 (fun k hk => hw0 _ k hg0 hk))⟩ | exact ⟨L, _, rfl, O_out.out.base hB0, hL, (K.out.grown G.out hB0 (fun k hk => hw0 _ k hg0 hk))⟩ | exact ⟨L, _, _, rfl, O_out.out.base hB0, hL, (K.out.grown G.out hB0 (fun k hk => hw0 _ k hg0 hk))⟩
  · skip
    have L := hd (list_stays (W := w2) (g := g) S.out.1 2 ([-1, 0, 1, 1000, 1001, -9223372036854775808] : List Int) (by simp))
    replace O_out := hd (O_out.out.alloc (.cells (([-1, 0, 1, 1000, 1001, -9223372036854775808] : List Int).map (Value.int .i64)).toArray 2))
    replace G := hd (grow_alloc G.out (.cells (([-1, 0, 1, 1000, 1001, -9223372036854775808] : List Int).map (Value.int .i64)).toArray 2))
    replace S := hd (S.out.more (.cells (([-1, 0, 1, 1000, 1001, -9223372036854775808] : List Int).map (Value.int .i64)).toArray 2))
    go_wp2_with fail
    refine (among_src w0 v l hS hl _ g _ S.out (by omega) _ ([-1, 0, 1, 1000, 1001, -9223372036854775808] : List Int) L.out (by simp) (by simp)).mono ?_
    rintro e w4 ⟨x, hm, rfl, S', G'⟩
    have x_b : -9223372036854775808 ≤ x ∧ x ≤ 9223372036854775807 := by simp only [List.mem_cons, List.not_mem_nil, or_false] at hm; omega
    obtain ⟨x_1, x_2⟩ := x_b
    clear hm
    clear L
    replace O_out := hd (O_out.out.src2 hgB G')
    replace G := hd (grownBy_trans G.out G')
    replace S := hd S'
    clear S' G'
    go_wp2_with fail
    go_ret2
    first | exact ⟨L, x, _, rfl, O_out.out.base hB0, hL, (K.out.grown G.out hB0 (fun k hk => hw0 _ k hg0 hk))⟩ | exact ⟨L, x, rfl, O_out.out.base hB0, hL, (K.out.grown G.out hB0 (fun k hk => hw0 _ k hg0 hk))⟩ | exact ⟨L, _, rfl, O_out.out.base hB0, hL, (K.out.grown G.out hB0 (fun k hk => hw0 _ k hg0 hk))⟩ | exact ⟨L, _, _, rfl, O_out.out.base hB0, hL, (K.out.grown G.out hB0 (fun k hk => hw0 _ k hg0 hk))⟩
theorem draw_cheapest (w0 : World) (v : Value) (l : List UInt8) (hS : Sl w0 1 v eU l) (hl : l.length ≤ 1048576) :
    Calls Tryd.prog 22 #[v] w0 fun e w' => ∃ (L : List TRate) (d : Int) (u : Value), e = .returned (.tuple #[u, .int .i64 d]) ∧ Own w' w0.heap.size 117 2 u eRate L ∧ L.length ≤ 11 ∧ Below w0.heap.size w0 w' := by
  go_enter Tryd.func22, Tryd.ntmps22
  go_wp2_with fail
  refine (draw_with w0 v l hS hl).mono ?_
  rintro e w1 ⟨L, d, u, rfl, O, hL, K⟩
  obtain ⟨A, cc, rfl⟩ := O.isSlice
  go_wp2_with fail
  go_ret2
  first | exact ⟨L, d, _, rfl, O, hL, K⟩ | exact ⟨L, d, rfl, O, hL, K⟩ | exact ⟨L, _, rfl, O, hL, K⟩ | exact ⟨L, _, _, rfl, O, hL, K⟩
theorem draw_price (w0 : World) (v : Value) (l : List UInt8) (hS : Sl w0 1 v eU l) (hl : l.length ≤ 1048576) :
    Calls Tryd.prog 28 #[v] w0 fun e w' => ∃ (L : List TRate) (d : Int) (u : Value), e = .returned (.tuple #[u, .int .i64 d]) ∧ Own w' w0.heap.size 117 2 u eRate L ∧ L.length ≤ 11 ∧ Below w0.heap.size w0 w' := by
  go_enter Tryd.func28, Tryd.ntmps28
  go_wp2_with fail
  refine (draw_with w0 v l hS hl).mono ?_
  rintro e w1 ⟨L, d, u, rfl, O, hL, K⟩
  obtain ⟨A, cc, rfl⟩ := O.isSlice
  go_wp2_with fail
  go_ret2
  first | exact ⟨L, d, _, rfl, O, hL, K⟩ | exact ⟨L, d, rfl, O, hL, K⟩ | exact ⟨L, _, rfl, O, hL, K⟩ | exact ⟨L, _, _, rfl, O, hL, K⟩
set_option maxRecDepth 100000 in
set_option maxHeartbeats 8000000 in
theorem draw_within (w0 : World) (v : Value) (l : List UInt8) (hS : Sl w0 1 v eU l) (hl : l.length ≤ 1048576) :
    Calls Tryd.prog 25 #[v] w0 fun e w' => ∃ (L : List TRate) (d : Int) (u : Value), e = .returned (.tuple #[u, .int .i64 d]) ∧ Own w' w0.heap.size 117 2 u eRate L ∧ L.length ≤ 11 ∧ Below w0.heap.size w0 w' := by
  have hv : ∃ A n c, v = .slice A n c := by obtain ⟨A, c, h⟩ := hS.isSlice; exact ⟨A, _, c, h⟩
  go_enter Tryd.func25, Tryd.ntmps25
  go_wp2_with fail
  refine (from_src w0 v hv).mono ?_
  rintro e w ⟨rfl, S', K, hz⟩
  have hgB : w0.heap.size < w.heap.size := by omega
  have hB0 : w0.heap.size ≤ w.heap.size := by omega
  have hw0 : ∀ g k : Nat, w0.heap.size = g → some g = some k → w0.heap.size ≤ k := fun g k hg hk => by injection hk with hk; omega
  replace K := hd K
  generalize hg0 : w0.heap.size = g at S' hgB hz ⊢
  have S := hd S'
  have G := hd (World.grownBy.refl w (some g))
  clear S' hz
  go_wp2_with fail
  refine (draw_rates w0 v l hS hl _ g _ S.out (by omega)).mono ?_
  rintro e w1 ⟨u, L, rfl, O', hL, -, S', G'⟩
  replace G := hd (grownBy_trans G.out G')
  replace S := hd S'
  clear S' G'
  have O_out := hd O'
  clear O'
  obtain ⟨A, cc, rfl⟩ := O_out.out.isSlice
  go_wp2_with fail
  refine (cents_src w0 v l hS hl _ g _ S.out (by omega)).mono ?_
  rintro e w2 ⟨x, rfl, S', G'⟩
  replace O_out := hd (O_out.out.src2 hgB G')
  replace G := hd (grownBy_trans G.out G')
  replace S := hd S'
  clear S' G'
  go_wp2_with fail
  go_ret2
  first | exact ⟨L, x, _, rfl, O_out.out.base hB0, hL, (K.out.grown G.out hB0 (fun k hk => hw0 _ k hg0 hk))⟩ | exact ⟨L, x, rfl, O_out.out.base hB0, hL, (K.out.grown G.out hB0 (fun k hk => hw0 _ k hg0 hk))⟩ | exact ⟨L, _, rfl, O_out.out.base hB0, hL, (K.out.grown G.out hB0 (fun k hk => hw0 _ k hg0 hk))⟩ | exact ⟨L, _, _, rfl, O_out.out.base hB0, hL, (K.out.grown G.out hB0 (fun k hk => hw0 _ k hg0 hk))⟩
set_option maxRecDepth 100000 in
set_option maxHeartbeats 8000000 in
theorem draw_cents (w0 : World) (v : Value) (l : List UInt8) (hS : Sl w0 1 v eU l) (hl : l.length ≤ 1048576) :
    Calls Tryd.prog 31 #[v] w0 fun e w' => ∃ (d : Int), e = .returned (.int .i64 d) ∧ Below w0.heap.size w0 w' := by
  have hv : ∃ A n c, v = .slice A n c := by obtain ⟨A, c, h⟩ := hS.isSlice; exact ⟨A, _, c, h⟩
  go_enter Tryd.func31, Tryd.ntmps31
  go_wp2_with fail
  refine (from_src w0 v hv).mono ?_
  rintro e w ⟨rfl, S', K, hz⟩
  have hgB : w0.heap.size < w.heap.size := by omega
  have hB0 : w0.heap.size ≤ w.heap.size := by omega
  have hw0 : ∀ g k : Nat, w0.heap.size = g → some g = some k → w0.heap.size ≤ k := fun g k hg hk => by injection hk with hk; omega
  replace K := hd K
  generalize hg0 : w0.heap.size = g at S' hgB hz ⊢
  have S := hd S'
  have G := hd (World.grownBy.refl w (some g))
  clear S' hz
  go_wp2_with fail
  refine (one_src w0 v l hS hl _ g _ S.out (by omega) 4 (by omega)).mono ?_
  rintro e w1 ⟨y, rfl, S', G'⟩
  replace G := hd (grownBy_trans G.out G')
  replace S := hd S'
  clear S' G'
  rcases y with _ | _
  · skip
    go_wp2_with fail
    refine (pick_src w0 v l hS hl _ g _ S.out (by omega) 30000 (by omega)).mono ?_
    rintro e w2 ⟨x, ⟨x_1, x_2⟩, rfl, S', G'⟩
    replace G := hd (grownBy_trans G.out G')
    replace S := hd S'
    clear S' G'
    go_wp2_with fail
    go_ret
    first | exact ⟨x - 9000, rfl, (K.out.grown G.out hB0 (fun k hk => hw0 _ k hg0 hk))⟩ | exact ⟨_, rfl, (K.out.grown G.out hB0 (fun k hk => hw0 _ k hg0 hk))⟩ | exact ⟨rfl, (K.out.grown G.out hB0 (fun k hk => hw0 _ k hg0 hk))⟩ | exact ⟨(K.out.grown G.out hB0 (fun k hk => hw0 _ k hg0 hk))⟩
  · skip
    have L := hd (list_stays (W := w1) (g := g) S.out.1 2 ([-10000001, -10000000, 10000000, 10000001, -9223372036854775808] : List Int) (by simp))
    replace G := hd (grow_alloc G.out (.cells (([-10000001, -10000000, 10000000, 10000001, -9223372036854775808] : List Int).map (Value.int .i64)).toArray 2))
    replace S := hd (S.out.more (.cells (([-10000001, -10000000, 10000000, 10000001, -9223372036854775808] : List Int).map (Value.int .i64)).toArray 2))
    go_wp2_with fail
    refine (among_src w0 v l hS hl _ g _ S.out (by omega) _ ([-10000001, -10000000, 10000000, 10000001, -9223372036854775808] : List Int) L.out (by simp) (by simp)).mono ?_
    rintro e w3 ⟨x, hm, rfl, S', G'⟩
    have x_b : -9223372036854775808 ≤ x ∧ x ≤ 9223372036854775807 := by simp only [List.mem_cons, List.not_mem_nil, or_false] at hm; omega
    obtain ⟨x_1, x_2⟩ := x_b
    clear hm
    clear L
    replace G := hd (grownBy_trans G.out G')
    replace S := hd S'
    clear S' G'
    go_wp2_with fail
    go_ret
    first | exact ⟨x, rfl, (K.out.grown G.out hB0 (fun k hk => hw0 _ k hg0 hk))⟩ | exact ⟨_, rfl, (K.out.grown G.out hB0 (fun k hk => hw0 _ k hg0 hk))⟩ | exact ⟨rfl, (K.out.grown G.out hB0 (fun k hk => hw0 _ k hg0 hk))⟩ | exact ⟨(K.out.grown G.out hB0 (fun k hk => hw0 _ k hg0 hk))⟩
set_option maxRecDepth 100000 in
set_option maxHeartbeats 8000000 in
theorem spoil_src (w0 : World) (v : Value) (l : List UInt8) (hS : Sl w0 1 v eU l) (hl : l.length ≤ 1048576) (w : World) (g n : Nat) (h : Src w0 v g n w) (hn : n ≤ 700000000) (t : ByteArray) (ht : t.size ≤ 900000) :
    Calls Tryd.prog 90 #[.pointer (some ⟨g, 0, none⟩), .string t] w fun e w' => ∃ x : ByteArray, x.size ≤ t.size + 200 ∧ e = .returned (.string x) ∧ Src w0 v g (n + 20) w' ∧ w.grownBy w' (some g) := by
  have hgB : g < w.heap.size := h.1
  have S := hd h
  have G := hd (World.grownBy.refl w (some g))
  clear h
  go_enter Tryd.func90, Tryd.ntmps90
  go_wp2_with fail
  refine (pick_src w0 v l hS hl _ g _ S.out (by omega) 5 (by omega)).mono ?_
  rintro e w1 ⟨z, ⟨z_1, z_2⟩, rfl, S', G'⟩
  replace G := hd (grownBy_trans G.out G')
  replace S := hd S'
  clear S' G'
  by_cases y0 : z = 0
  · skip
    have e0 : (z == 0) = true := by simpa using y0
    clear y0
    go_wp2_with fail
    refine (pick_src w0 v l hS hl _ g _ S.out (by omega) ((t.size : Int) + 1) (by omega)).mono ?_
    rintro e w2 ⟨p, ⟨p_1, p_2⟩, rfl, S', G'⟩
    replace G := hd (grownBy_trans G.out G')
    replace S := hd S'
    clear S' G'
    obtain ⟨q, rfl⟩ : ∃ q : Nat, p = (q : Int) := ⟨p.toNat, by omega⟩
    have hq : q ≤ t.size := by omega
    have L := hd (texts_stay (W := w2) (g := g) S.out.1 9 ([⟨#[32]⟩, ⟨#[48]⟩, ⟨#[45]⟩, ⟨#[120]⟩, ⟨#[49]⟩, ⟨#[57]⟩, ⟨#[46]⟩] : List ByteArray) (by simp))
    have SD := hd (S.out.more (.cells (([⟨#[32]⟩, ⟨#[48]⟩, ⟨#[45]⟩, ⟨#[120]⟩, ⟨#[49]⟩, ⟨#[57]⟩, ⟨#[46]⟩] : List ByteArray).map Value.string).toArray 9)).drew
    have LD := hd (fun W' (hg : (w2.alloc (.cells (([⟨#[32]⟩, ⟨#[48]⟩, ⟨#[45]⟩, ⟨#[120]⟩, ⟨#[49]⟩, ⟨#[57]⟩, ⟨#[46]⟩] : List ByteArray).map Value.string).toArray 9)).drew.grownBy W' (some g)) => L.out W' ⟨hg.os, hg.tape, hg.output, hg.size, hg.block⟩)
    have GD := hd (fun W' (hg : (w2.alloc (.cells (([⟨#[32]⟩, ⟨#[48]⟩, ⟨#[45]⟩, ⟨#[120]⟩, ⟨#[49]⟩, ⟨#[57]⟩, ⟨#[46]⟩] : List ByteArray).map Value.string).toArray 9)).drew.grownBy W' (some g)) => (grownBy_trans (grow_alloc G.out (.cells (([⟨#[32]⟩, ⟨#[48]⟩, ⟨#[45]⟩, ⟨#[120]⟩, ⟨#[49]⟩, ⟨#[57]⟩, ⟨#[46]⟩] : List ByteArray).map Value.string).toArray 9)) ⟨hg.os, hg.tape, hg.output, hg.size, hg.block⟩ : w.grownBy W' (some g)))
    go_upto_region 4 with fail
    go_region_with (go_at_call 91; refine (text_src w0 v l hS hl _ g _ SD.out (by omega) _ ([⟨#[32]⟩, ⟨#[48]⟩, ⟨#[45]⟩, ⟨#[120]⟩, ⟨#[49]⟩, ⟨#[57]⟩, ⟨#[46]⟩] : List ByteArray) LD.out (by simp) (by simp)).mono ?_; rintro e w9 ⟨x, hm, rfl, S', G'⟩; have hxz : x.size ≤ 100 := by simp only [List.mem_cons, List.not_mem_nil, or_false] at hm; rcases hm with rfl | rfl | rfl | rfl | rfl | rfl | rfl <;> decide)
    all_goals (replace S := hd S'; replace G := hd (GD.out _ G'); clear S' G' SD LD GD L hm)
    go_wp2_with fail
    go_ret
    first | exact ⟨_, by simp; omega, rfl, S.out.le (by omega), G.out⟩
  have e0 : (z == 0) = false := by simpa using y0
  clear y0
  by_cases y1 : z = 1
  · skip
    have e1 : (z == 1) = true := by simpa using y1
    clear y1
    by_cases h0 : t.size = 0
    · skip
      have he : t = ByteArray.empty := by
        obtain ⟨⟨x⟩⟩ := t
        have : x.length = 0 := h0
        rw [List.eq_nil_of_length_eq_zero this]
        rfl
      subst he
      go_wp2_with fail
      go_ret
      first | exact ⟨ByteArray.empty, by simp, rfl, S.out.le (by omega), G.out⟩ | exact ⟨_, by simp, rfl, S.out.le (by omega), G.out⟩
    have he : t.toList.isEmpty = false := by
      rw [ByteArray.toList_eq]
      rcases q : t.data.toList with _ | _
      · exact absurd (by have := congrArg List.length q; rw [Array.length_toList] at this; exact this) h0
      · rfl
    go_wp2_with fail
    refine (pick_src w0 v l hS hl _ g _ S.out (by omega) (t.size : Int) (by omega)).mono ?_
    rintro e w3 ⟨p, ⟨p_1, p_2⟩, rfl, S', G'⟩
    replace G := hd (grownBy_trans G.out G')
    replace S := hd S'
    clear S' G'
    obtain ⟨q, rfl⟩ : ∃ q : Nat, p = (q : Int) := ⟨p.toNat, by omega⟩
    have hq : q < t.size := by omega
    go_upto_region 8 with fail
    go_quiet (fail)
    replace S := hd (S.out.below (below_drewN (Below.refl _ _) nq))
    replace G := hd (grownBy_drewN G.out nq)
    go_wp2_with fail
    go_ret
    first | exact ⟨_, by simp; omega, rfl, S.out.le (by omega), G.out⟩ | exact ⟨_, by simp; omega, rfl, S.out.le (by omega), G.out⟩
  have e1 : (z == 1) = false := by simpa using y1
  clear y1
  go_wp2_with fail
  go_ret
  first | exact ⟨t, by omega, rfl, S.out.le (by omega), G.out⟩ | exact ⟨_, by omega, rfl, S.out.le (by omega), G.out⟩
set_option maxRecDepth 100000 in
set_option maxHeartbeats 8000000 in
theorem draw_text (w0 : World) (v : Value) (l : List UInt8) (hS : Sl w0 1 v eU l) (hl : l.length ≤ 1048576) :
    Calls Tryd.prog 34 #[v] w0 fun e w' => ∃ x : ByteArray, x.size ≤ 500 ∧ e = .returned (.string x) ∧ Below w0.heap.size w0 w' := by
  have hv : ∃ A n c, v = .slice A n c := by obtain ⟨A, c, h⟩ := hS.isSlice; exact ⟨A, _, c, h⟩
  go_enter Tryd.func34, Tryd.ntmps34
  go_wp2_with fail
  refine (from_src w0 v hv).mono ?_
  rintro e w ⟨rfl, S', K, hz⟩
  have hgB : w0.heap.size < w.heap.size := by omega
  have hB0 : w0.heap.size ≤ w.heap.size := by omega
  have hw0 : ∀ g k : Nat, w0.heap.size = g → some g = some k → w0.heap.size ≤ k := fun g k hg hk => by injection hk with hk; omega
  replace K := hd K
  generalize hg0 : w0.heap.size = g at S' hgB hz ⊢
  have S := hd S'
  have G := hd (World.grownBy.refl w (some g))
  clear S' hz
  go_wp2_with fail
  refine (pick_src w0 v l hS hl _ g _ S.out (by omega) 30000 (by omega)).mono ?_
  rintro e w1 ⟨x, ⟨x_1, x_2⟩, rfl, S', G'⟩
  replace G := hd (grownBy_trans G.out G')
  replace S := hd S'
  clear S' G'
  have hin : inB (x - 9000) (-10000000) 10000000 = true := by simp [inB]; omega
  have hms := (moneyS_size (inB_true hin)).1
  go_wp2_with fail
  refine (l26Text_any _ _ hin).mono ?_
  rintro e wt ⟨rfl, ht⟩
  replace S := hd (S.out.below ht)
  replace G := hd (grow_below2 G.out ht)
  clear ht
  generalize moneyS (x - 9000) = t at hms ⊢
  go_wp2_with fail
  refine (pick_src w0 v l hS hl _ g _ S.out (by omega) 4 (by omega)).mono ?_
  rintro e w2 ⟨z, ⟨z_1, z_2⟩, rfl, S', G'⟩
  replace G := hd (grownBy_trans G.out G')
  replace S := hd S'
  clear S' G'
  by_cases y0 : z = 0
  · skip
    have e0 : (z == 0) = true := by simpa using y0
    clear y0
    go_wp2_with fail
    refine (spoil_src w0 v l hS hl _ g _ S.out (by omega) t (by omega)).mono ?_
    rintro e w3 ⟨q, hq, rfl, S', G'⟩
    replace G := hd (grownBy_trans G.out G')
    replace S := hd S'
    clear S' G'
    go_wp2_with fail
    go_ret
    first | exact ⟨q, by omega, rfl, (K.out.grown G.out hB0 (fun k hk => hw0 _ k hg0 hk))⟩ | exact ⟨_, by omega, rfl, (K.out.grown G.out hB0 (fun k hk => hw0 _ k hg0 hk))⟩
  have e0 : (z == 0) = false := by simpa using y0
  clear y0
  by_cases y1 : z = 1
  · skip
    have e1 : (z == 1) = true := by simpa using y1
    clear y1
    have L := hd (texts_stay (W := w2) (g := g) S.out.1 9 ([⟨#[45, 48, 46, 48, 48]⟩, ⟨#[48, 46, 53]⟩, ⟨#[49, 48, 48, 48, 48, 48, 46, 48, 48]⟩, ⟨#[49, 48, 48, 48, 48, 48, 46, 48, 49]⟩, ⟨#[48, 49, 46, 48, 48]⟩, ⟨#[46, 53, 48]⟩, ⟨#[49, 46, 48, 97]⟩] : List ByteArray) (by simp))
    replace G := hd (grow_alloc G.out (.cells (([⟨#[45, 48, 46, 48, 48]⟩, ⟨#[48, 46, 53]⟩, ⟨#[49, 48, 48, 48, 48, 48, 46, 48, 48]⟩, ⟨#[49, 48, 48, 48, 48, 48, 46, 48, 49]⟩, ⟨#[48, 49, 46, 48, 48]⟩, ⟨#[46, 53, 48]⟩, ⟨#[49, 46, 48, 97]⟩] : List ByteArray).map Value.string).toArray 9))
    replace S := hd (S.out.more (.cells (([⟨#[45, 48, 46, 48, 48]⟩, ⟨#[48, 46, 53]⟩, ⟨#[49, 48, 48, 48, 48, 48, 46, 48, 48]⟩, ⟨#[49, 48, 48, 48, 48, 48, 46, 48, 49]⟩, ⟨#[48, 49, 46, 48, 48]⟩, ⟨#[46, 53, 48]⟩, ⟨#[49, 46, 48, 97]⟩] : List ByteArray).map Value.string).toArray 9))
    go_wp2_with fail
    refine (text_src w0 v l hS hl _ g _ S.out (by omega) _ ([⟨#[45, 48, 46, 48, 48]⟩, ⟨#[48, 46, 53]⟩, ⟨#[49, 48, 48, 48, 48, 48, 46, 48, 48]⟩, ⟨#[49, 48, 48, 48, 48, 48, 46, 48, 49]⟩, ⟨#[48, 49, 46, 48, 48]⟩, ⟨#[46, 53, 48]⟩, ⟨#[49, 46, 48, 97]⟩] : List ByteArray) L.out (by simp) (by simp)).mono ?_
    rintro e w4 ⟨q, hm, rfl, S', G'⟩
    have q_z : q.size ≤ 100 := by
      simp only [List.mem_cons, List.not_mem_nil, or_false] at hm
      rcases hm with rfl | rfl | rfl | rfl | rfl | rfl | rfl <;> decide
    clear hm L
    replace G := hd (grownBy_trans G.out G')
    replace S := hd S'
    clear S' G'
    go_wp2_with fail
    go_ret
    first | exact ⟨q, by omega, rfl, (K.out.grown G.out hB0 (fun k hk => hw0 _ k hg0 hk))⟩ | exact ⟨_, by omega, rfl, (K.out.grown G.out hB0 (fun k hk => hw0 _ k hg0 hk))⟩
  have e1 : (z == 1) = false := by simpa using y1
  clear y1
  go_wp2_with fail
  go_ret
  first | exact ⟨t, by omega, rfl, (K.out.grown G.out hB0 (fun k hk => hw0 _ k hg0 hk))⟩ | exact ⟨_, by omega, rfl, (K.out.grown G.out hB0 (fun k hk => hw0 _ k hg0 hk))⟩
set_option maxRecDepth 100000 in
set_option maxHeartbeats 8000000 in
theorem draw_same (w0 : World) (v : Value) (l : List UInt8) (hS : Sl w0 1 v eU l) (hl : l.length ≤ 1048576) :
    Calls Tryd.prog 36 #[v] w0 fun e w' => ∃ (L M : List TRate) (u1 u2 : Value), e = .returned (.tuple #[u1, u2]) ∧ Sl w' 2 u1 eRate L ∧ Sl w' 2 u2 eRate M ∧ L.length ≤ 12 ∧ M.length ≤ 12 ∧ Below w0.heap.size w0 w' := by
  have hv : ∃ A n c, v = .slice A n c := by obtain ⟨A, c, h⟩ := hS.isSlice; exact ⟨A, _, c, h⟩
  go_enter Tryd.func36, Tryd.ntmps36
  go_wp2_with fail
  refine (from_src w0 v hv).mono ?_
  rintro e w ⟨rfl, S', K, hz⟩
  have hgB : w0.heap.size < w.heap.size := by omega
  have hB0 : w0.heap.size ≤ w.heap.size := by omega
  have hw0 : ∀ g k : Nat, w0.heap.size = g → some g = some k → w0.heap.size ≤ k := fun g k hg hk => by injection hk with hk; omega
  replace K := hd K
  generalize hg0 : w0.heap.size = g at S' hgB hz ⊢
  have S := hd S'
  have G := hd (World.grownBy.refl w (some g))
  clear S' hz
  obtain ⟨iRate, hiRate, hz0Rate, hz1Rate, hz2Rate⟩ := info_parts info_Rate
  go_wp2_with fail
  refine (draw_rates w0 v l hS hl _ g _ S.out (by omega)).mono ?_
  rintro e w1 ⟨u, L, rfl, O', hL, HB, S', G'⟩
  replace G := hd (grownBy_trans G.out G')
  replace S := hd S'
  clear S' G'
  have O_a := hd O'
  replace HB := hd HB
  clear O'
  obtain ⟨A, cc, rfl⟩ := O_a.out.isSlice
  have hOa := hd (fun b hb => (O_a.out.lt b hb).2)
  have hgN : g < w1.heap.size := S.out.1
  have hBN : w.heap.size ≤ w1.heap.size := G.out.size
  have O_b := hd (Own.made0 w1 w1.heap.size 117 2 eRate (Nat.le_refl _))
  have hsz : w1.heap.size ≤ (w1.alloc (.cells #[] 117)).heap.size := by simp
  replace O_a := hd (O_a.out.alloc (.cells #[] 117))
  replace G := hd (grow_alloc G.out (.cells #[] 117))
  replace S := hd (S.out.more (.cells #[] 117))
  have Sa := O_a.out.sl eRate_len
  go_wp2_with (at_builtin; refine wpList_append_sl _ rfl _ _ 47 rfl iRate (.agg #[.int .i64 0, .int .i64 0]) 16 Tryd.underlying47 hiRate hz0Rate hz1Rate hz2Rate rfl (by decide) eRate_len (by intro x u hu; simp [eRate] at hu; rcases hu with rfl | rfl <;> rfl) _ [] rfl O_b.out _ L rfl Sa (by simp [maxLen]; omega) (by simp; omega) (by exact hsz) ?_)
  intro v' w9 O' hg'
  try rw [List.nil_append] at O'
  have E' := (Below.refl w1.heap.size _).grown hg' hsz (fun b hb => (O_b.out.lt b hb).1)
  replace O_a := hd (O_a.out.grown hg' (ne_of_lt hOa.out (fun b hb => (O_b.out.lt b hb).1)))
  replace O_b := hd O'
  replace S := hd (S.out.below2 hgN E')
  replace G := hd (grow_below G.out (E'.mono hBN))
  clear E' hg' O' hsz Sa
  obtain ⟨N, hN⟩ : ∃ N, N = w1.heap.size := ⟨_, rfl⟩
  rw [← hN] at hOa hgN hBN O_b
  clear hN
  by_cases h0 : L.length = 0
  · skip
    have hLn := List.eq_nil_of_length_eq_zero h0
    subst hLn
    clear h0
    obtain ⟨Ab, cb, rfl⟩ := O_b.out.isSlice
    go_wp2_with fail
    refine (one_src w0 v l hS hl _ g _ S.out (by omega) 5 (by omega)).mono ?_
    rintro e w2 ⟨y5, rfl, S', G'⟩
    replace O_a := hd (O_a.out.src2 hgB G')
    replace O_b := hd (O_b.out.src2 hgN G')
    replace G := hd (grownBy_trans G.out G')
    replace S := hd S'
    clear S' G'
    rcases y5 with _ | _
    · skip
      obtain ⟨Ab, cb, hAb⟩ := O_b.out.isSlice
      first | subst hAb | clear hAb
      go_wp2_with fail
      go_ret2
      first | exact ⟨[], [], _, _, rfl, O_a.out.sl eRate_len, O_b.out.sl eRate_len, (by first | omega | (simp; done) | (simp; omega)), (by first | omega | (simp; done) | (simp; omega)), (K.out.grown G.out hB0 (fun k hk => hw0 _ k hg0 hk))⟩ | exact ⟨[], [], rfl, O_a.out.sl eRate_len, O_b.out.sl eRate_len, (by first | omega | (simp; done) | (simp; omega)), (by first | omega | (simp; done) | (simp; omega)), (K.out.grown G.out hB0 (fun k hk => hw0 _ k hg0 hk))⟩ | exact ⟨[], [], _, rfl, O_a.out.sl eRate_len, O_b.out.sl eRate_len, (by first | omega | (simp; done) | (simp; omega)), (by first | omega | (simp; done) | (simp; omega)), (K.out.grown G.out hB0 (fun k hk => hw0 _ k hg0 hk))⟩
    · skip
      have hsz := G.out.size
      have O_c := hd (O_b.out.base hBN)
      go_wp2_with (at_builtin; refine wpList_push2 _ rfl _ _ 47 rfl iRate (.agg #[.int .i64 0, .int .i64 0]) 16 Tryd.underlying47 hiRate hz0Rate hz1Rate hz2Rate rfl (by decide) _ _ ((0, 0) : TRate) rfl (O_c.out.alloc _) w2.heap.size rfl #[.int .i64 0, .int .i64 0] 117 (heap_alloc_new _ _) rfl rfl (by intro u hu; simp [eRate] at hu; rcases hu with rfl | rfl <;> rfl) (by unfold maxLen; first | omega | (simp; done) | (simp; omega)) (by first | omega | (simp; done) | (simp; omega)) (by first | omega | (simp; done) | (simp; omega)) ?_)
      intro v' w21 O' hg' ho'
      have E' := ((Below.refl w.heap.size w2).alloc hsz (.cells #[.int .i64 0, .int .i64 0] 117)).grown hg' (by simp; omega) (fun b hb => (O_c.out.lt b hb).1)
      replace O_a := hd ((O_a.out.alloc (.cells #[.int .i64 0, .int .i64 0] 117)).grown hg' (ne_of_lt hOa.out (fun b hb => (O_b.out.lt b hb).1)))
      replace O_b := hd O'
      replace G := hd (grow_below G.out E')
      clear hg' ho' E' hsz O' O_c
      obtain ⟨Ab, cb, hAb⟩ := O_b.out.isSlice
      first | subst hAb | clear hAb
      go_wp2_with fail
      go_ret2
      first | exact ⟨[], [(0, 0)], _, _, rfl, O_a.out.sl eRate_len, O_b.out.sl eRate_len, (by first | omega | (simp; done) | (simp; omega)), (by first | omega | (simp; done) | (simp; omega)), (K.out.grown G.out hB0 (fun k hk => hw0 _ k hg0 hk))⟩ | exact ⟨[], [(0, 0)], rfl, O_a.out.sl eRate_len, O_b.out.sl eRate_len, (by first | omega | (simp; done) | (simp; omega)), (by first | omega | (simp; done) | (simp; omega)), (K.out.grown G.out hB0 (fun k hk => hw0 _ k hg0 hk))⟩ | exact ⟨[], [(0, 0)], _, rfl, O_a.out.sl eRate_len, O_b.out.sl eRate_len, (by first | omega | (simp; done) | (simp; omega)), (by first | omega | (simp; done) | (simp; omega)), (K.out.grown G.out hB0 (fun k hk => hw0 _ k hg0 hk))⟩
  have h0' : 0 < L.length := by omega
  rcases O_b.out.form with ⟨hbv, hb0⟩ | ⟨gg, cap, hbv, hg1, hg2, hg3, hg4⟩
  · rw [hb0] at h0'; exact absurd h0' (by decide)
  subst hbv
  go_wp2_with fail
  refine (one_src w0 v l hS hl _ g _ S.out (by omega) 2 (by omega)).mono ?_
  rintro e w3 ⟨y, rfl, S', G'⟩
  replace O_a := hd (O_a.out.src2 hgB G')
  replace O_b := hd (O_b.out.src2 hgN G')
  replace G := hd (grownBy_trans G.out G')
  replace S := hd S'
  clear S' G'
  rcases y with _ | _
  · skip
    go_wp2_with fail
    refine (one_src w0 v l hS hl _ g _ S.out (by omega) 5 (by omega)).mono ?_
    rintro e w4 ⟨y5, rfl, S', G'⟩
    replace O_a := hd (O_a.out.src2 hgB G')
    replace O_b := hd (O_b.out.src2 hgN G')
    replace G := hd (grownBy_trans G.out G')
    replace S := hd S'
    clear S' G'
    rcases y5 with _ | _
    · skip
      obtain ⟨Ab, cb, hAb⟩ := O_b.out.isSlice
      first | subst hAb | clear hAb
      go_wp2_with fail
      go_ret2
      first | exact ⟨L, L, _, _, rfl, O_a.out.sl eRate_len, O_b.out.sl eRate_len, (by first | omega | (simp; done) | (simp; omega)), (by first | omega | (simp; done) | (simp; omega)), (K.out.grown G.out hB0 (fun k hk => hw0 _ k hg0 hk))⟩ | exact ⟨L, L, rfl, O_a.out.sl eRate_len, O_b.out.sl eRate_len, (by first | omega | (simp; done) | (simp; omega)), (by first | omega | (simp; done) | (simp; omega)), (K.out.grown G.out hB0 (fun k hk => hw0 _ k hg0 hk))⟩ | exact ⟨L, L, _, rfl, O_a.out.sl eRate_len, O_b.out.sl eRate_len, (by first | omega | (simp; done) | (simp; omega)), (by first | omega | (simp; done) | (simp; omega)), (K.out.grown G.out hB0 (fun k hk => hw0 _ k hg0 hk))⟩
    · skip
      have hsz := G.out.size
      have O_c := hd (O_b.out.base hBN)
      go_wp2_with (at_builtin; refine wpList_push2 _ rfl _ _ 47 rfl iRate (.agg #[.int .i64 0, .int .i64 0]) 16 Tryd.underlying47 hiRate hz0Rate hz1Rate hz2Rate rfl (by decide) _ _ ((0, 0) : TRate) rfl (O_c.out.alloc _) w4.heap.size rfl #[.int .i64 0, .int .i64 0] 117 (heap_alloc_new _ _) rfl rfl (by intro u hu; simp [eRate] at hu; rcases hu with rfl | rfl <;> rfl) (by unfold maxLen; first | omega | (simp; done) | (simp; omega)) (by first | omega | (simp; done) | (simp; omega)) (by first | omega | (simp; done) | (simp; omega)) ?_)
      intro v' w21 O' hg' ho'
      have E' := ((Below.refl w.heap.size w4).alloc hsz (.cells #[.int .i64 0, .int .i64 0] 117)).grown hg' (by simp; omega) (fun b hb => (O_c.out.lt b hb).1)
      replace O_a := hd ((O_a.out.alloc (.cells #[.int .i64 0, .int .i64 0] 117)).grown hg' (ne_of_lt hOa.out (fun b hb => (O_b.out.lt b hb).1)))
      replace O_b := hd O'
      replace G := hd (grow_below G.out E')
      clear hg' ho' E' hsz O' O_c
      obtain ⟨Ab, cb, hAb⟩ := O_b.out.isSlice
      first | subst hAb | clear hAb
      go_wp2_with fail
      go_ret2
      first | exact ⟨L, (L ++ [(0, 0)]), _, _, rfl, O_a.out.sl eRate_len, O_b.out.sl eRate_len, (by first | omega | (simp; done) | (simp; omega)), (by first | omega | (simp; done) | (simp; omega)), (K.out.grown G.out hB0 (fun k hk => hw0 _ k hg0 hk))⟩ | exact ⟨L, (L ++ [(0, 0)]), rfl, O_a.out.sl eRate_len, O_b.out.sl eRate_len, (by first | omega | (simp; done) | (simp; omega)), (by first | omega | (simp; done) | (simp; omega)), (K.out.grown G.out hB0 (fun k hk => hw0 _ k hg0 hk))⟩ | exact ⟨L, (L ++ [(0, 0)]), _, rfl, O_a.out.sl eRate_len, O_b.out.sl eRate_len, (by first | omega | (simp; done) | (simp; omega)), (by first | omega | (simp; done) | (simp; omega)), (K.out.grown G.out hB0 (fun k hk => hw0 _ k hg0 hk))⟩
  have SD := hd S.out.drew
  have OD := hd O_b.out.drew
  have OaD := hd O_a.out.drew
  have GD := hd (fun W' (hg : w3.drew.grownBy W' (some g)) => (grownBy_trans G.out ⟨hg.os, hg.tape, hg.output, hg.size, hg.block⟩ : w.grownBy W' (some g)))
  obtain ⟨fc, ff⟩ := O_b.out.fieldAt eRate_len 0 h0' 1 (.int .i64 L[0].2) rfl
  generalize hL0 : L[0] = y0 at fc
  go_upto_region 5 with fail
  go_region_with (go_at_call 84; refine (pick_src w0 v l hS hl _ g _ SD.out (by omega) 2 (by omega)).mono ?_; rintro e w11 ⟨x, ⟨x1, x2⟩, rfl, S', G'⟩; obtain ⟨fc9, ff9⟩ := (OD.out.src2 hgN G').fieldAt eRate_len 0 h0' 1 (.int .i64 y0.2) (by rw [hL0]; rfl))
  all_goals (have On := (OD.out.src2 hgN G').field eRate_len 0 h0' (y0.1, IntKind.i64.wrap (y0.2 + x)) 1 (by omega) (.int .i64 (IntKind.i64.wrap (y0.2 + x))) (by rw [hL0]; rfl); have Oan := (OaD.out.src2 hgB G').grown (grow_set w11 ⟨gg, 1, none⟩ (.int .i64 (IntKind.i64.wrap (y0.2 + x)))) (ne_of_lt hOa.out (fun b hb => by have hb2 : some gg = some b := hb; injection hb2 with hb2; omega) : _ ∨ _ ≠ (Value.slice (some ⟨gg, 0, none⟩) 0 0).ownBlock); have Sn := hd (S'.put (show g < gg by omega) 1 (.int .i64 (IntKind.i64.wrap (y0.2 + x)))); have Gn := hd (grow_new (GD.out _ G') (Nat.le_trans hBN hg1) 1 (.int .i64 (IntKind.i64.wrap (y0.2 + x)))); replace On := hd On; replace Oan := hd Oan; clear O_a O_b S G SD OD OaD GD S' G' fc ff fc9 ff9 hL0; generalize IntKind.i64.wrap (y0.2 + x) = yx at On Oan Sn Gn ⊢; have O_a := Oan; have O_b := On; have S := Sn; have G := Gn; clear On Oan Sn Gn)
  all_goals (go_upto_region 6 with fail)
  all_goals (generalize w11.setCell ⟨gg, 1, none⟩ (.int .i64 yx) = w12 at O_a O_b S G ⊢)
  · skip
    go_wp2_with fail
    refine (one_src w0 v l hS hl _ g _ S.out (by omega) 5 (by omega)).mono ?_
    rintro e w5 ⟨y5, rfl, S', G'⟩
    replace O_a := hd (O_a.out.src2 hgB G')
    replace O_b := hd (O_b.out.src2 hgN G')
    replace G := hd (grownBy_trans G.out G')
    replace S := hd S'
    clear S' G'
    rcases y5 with _ | _
    · skip
      obtain ⟨Ab, cb, hAb⟩ := O_b.out.isSlice
      first | subst hAb | clear hAb
      go_wp2_with fail
      go_ret2
      first | exact ⟨L, (L.set 0 (y0.1, yx)), _, _, rfl, O_a.out.sl eRate_len, O_b.out.sl eRate_len, (by first | omega | (simp; done) | (simp; omega)), (by first | omega | (simp; done) | (simp; omega)), (K.out.grown G.out hB0 (fun k hk => hw0 _ k hg0 hk))⟩ | exact ⟨L, (L.set 0 (y0.1, yx)), rfl, O_a.out.sl eRate_len, O_b.out.sl eRate_len, (by first | omega | (simp; done) | (simp; omega)), (by first | omega | (simp; done) | (simp; omega)), (K.out.grown G.out hB0 (fun k hk => hw0 _ k hg0 hk))⟩ | exact ⟨L, (L.set 0 (y0.1, yx)), _, rfl, O_a.out.sl eRate_len, O_b.out.sl eRate_len, (by first | omega | (simp; done) | (simp; omega)), (by first | omega | (simp; done) | (simp; omega)), (K.out.grown G.out hB0 (fun k hk => hw0 _ k hg0 hk))⟩
    · skip
      have hsz := G.out.size
      have O_c := hd (O_b.out.base hBN)
      go_wp2_with (at_builtin; refine wpList_push2 _ rfl _ _ 47 rfl iRate (.agg #[.int .i64 0, .int .i64 0]) 16 Tryd.underlying47 hiRate hz0Rate hz1Rate hz2Rate rfl (by decide) _ _ ((0, 0) : TRate) rfl (O_c.out.alloc _) w5.heap.size rfl #[.int .i64 0, .int .i64 0] 117 (heap_alloc_new _ _) rfl rfl (by intro u hu; simp [eRate] at hu; rcases hu with rfl | rfl <;> rfl) (by unfold maxLen; first | omega | (simp; done) | (simp; omega)) (by first | omega | (simp; done) | (simp; omega)) (by first | omega | (simp; done) | (simp; omega)) ?_)
      intro v' w21 O' hg' ho'
      have E' := ((Below.refl w.heap.size w5).alloc hsz (.cells #[.int .i64 0, .int .i64 0] 117)).grown hg' (by simp; omega) (fun b hb => (O_c.out.lt b hb).1)
      replace O_a := hd ((O_a.out.alloc (.cells #[.int .i64 0, .int .i64 0] 117)).grown hg' (ne_of_lt hOa.out (fun b hb => (O_b.out.lt b hb).1)))
      replace O_b := hd O'
      replace G := hd (grow_below G.out E')
      clear hg' ho' E' hsz O' O_c
      obtain ⟨Ab, cb, hAb⟩ := O_b.out.isSlice
      first | subst hAb | clear hAb
      go_wp2_with fail
      go_ret2
      first | exact ⟨L, ((L.set 0 (y0.1, yx)) ++ [(0, 0)]), _, _, rfl, O_a.out.sl eRate_len, O_b.out.sl eRate_len, (by first | omega | (simp; done) | (simp; omega)), (by first | omega | (simp; done) | (simp; omega)), (K.out.grown G.out hB0 (fun k hk => hw0 _ k hg0 hk))⟩ | exact ⟨L, ((L.set 0 (y0.1, yx)) ++ [(0, 0)]), rfl, O_a.out.sl eRate_len, O_b.out.sl eRate_len, (by first | omega | (simp; done) | (simp; omega)), (by first | omega | (simp; done) | (simp; omega)), (K.out.grown G.out hB0 (fun k hk => hw0 _ k hg0 hk))⟩ | exact ⟨L, ((L.set 0 (y0.1, yx)) ++ [(0, 0)]), _, rfl, O_a.out.sl eRate_len, O_b.out.sl eRate_len, (by first | omega | (simp; done) | (simp; omega)), (by first | omega | (simp; done) | (simp; omega)), (K.out.grown G.out hB0 (fun k hk => hw0 _ k hg0 hk))⟩
  · skip
    go_wp2_with fail
    refine (one_src w0 v l hS hl _ g _ S.out (by omega) 5 (by omega)).mono ?_
    rintro e w6 ⟨y5, rfl, S', G'⟩
    replace O_a := hd (O_a.out.src2 hgB G')
    replace O_b := hd (O_b.out.src2 hgN G')
    replace G := hd (grownBy_trans G.out G')
    replace S := hd S'
    clear S' G'
    rcases y5 with _ | _
    · skip
      obtain ⟨Ab, cb, hAb⟩ := O_b.out.isSlice
      first | subst hAb | clear hAb
      go_wp2_with fail
      go_ret2
      first | exact ⟨L, (L.set 0 (y0.1, yx)), _, _, rfl, O_a.out.sl eRate_len, O_b.out.sl eRate_len, (by first | omega | (simp; done) | (simp; omega)), (by first | omega | (simp; done) | (simp; omega)), (K.out.grown G.out hB0 (fun k hk => hw0 _ k hg0 hk))⟩ | exact ⟨L, (L.set 0 (y0.1, yx)), rfl, O_a.out.sl eRate_len, O_b.out.sl eRate_len, (by first | omega | (simp; done) | (simp; omega)), (by first | omega | (simp; done) | (simp; omega)), (K.out.grown G.out hB0 (fun k hk => hw0 _ k hg0 hk))⟩ | exact ⟨L, (L.set 0 (y0.1, yx)), _, rfl, O_a.out.sl eRate_len, O_b.out.sl eRate_len, (by first | omega | (simp; done) | (simp; omega)), (by first | omega | (simp; done) | (simp; omega)), (K.out.grown G.out hB0 (fun k hk => hw0 _ k hg0 hk))⟩
    · skip
      have hsz := G.out.size
      have O_c := hd (O_b.out.base hBN)
      go_wp2_with (at_builtin; refine wpList_push2 _ rfl _ _ 47 rfl iRate (.agg #[.int .i64 0, .int .i64 0]) 16 Tryd.underlying47 hiRate hz0Rate hz1Rate hz2Rate rfl (by decide) _ _ ((0, 0) : TRate) rfl (O_c.out.alloc _) w6.heap.size rfl #[.int .i64 0, .int .i64 0] 117 (heap_alloc_new _ _) rfl rfl (by intro u hu; simp [eRate] at hu; rcases hu with rfl | rfl <;> rfl) (by unfold maxLen; first | omega | (simp; done) | (simp; omega)) (by first | omega | (simp; done) | (simp; omega)) (by first | omega | (simp; done) | (simp; omega)) ?_)
      intro v' w21 O' hg' ho'
      have E' := ((Below.refl w.heap.size w6).alloc hsz (.cells #[.int .i64 0, .int .i64 0] 117)).grown hg' (by simp; omega) (fun b hb => (O_c.out.lt b hb).1)
      replace O_a := hd ((O_a.out.alloc (.cells #[.int .i64 0, .int .i64 0] 117)).grown hg' (ne_of_lt hOa.out (fun b hb => (O_b.out.lt b hb).1)))
      replace O_b := hd O'
      replace G := hd (grow_below G.out E')
      clear hg' ho' E' hsz O' O_c
      obtain ⟨Ab, cb, hAb⟩ := O_b.out.isSlice
      first | subst hAb | clear hAb
      go_wp2_with fail
      go_ret2
      first | exact ⟨L, ((L.set 0 (y0.1, yx)) ++ [(0, 0)]), _, _, rfl, O_a.out.sl eRate_len, O_b.out.sl eRate_len, (by first | omega | (simp; done) | (simp; omega)), (by first | omega | (simp; done) | (simp; omega)), (K.out.grown G.out hB0 (fun k hk => hw0 _ k hg0 hk))⟩ | exact ⟨L, ((L.set 0 (y0.1, yx)) ++ [(0, 0)]), rfl, O_a.out.sl eRate_len, O_b.out.sl eRate_len, (by first | omega | (simp; done) | (simp; omega)), (by first | omega | (simp; done) | (simp; omega)), (K.out.grown G.out hB0 (fun k hk => hw0 _ k hg0 hk))⟩ | exact ⟨L, ((L.set 0 (y0.1, yx)) ++ [(0, 0)]), _, rfl, O_a.out.sl eRate_len, O_b.out.sl eRate_len, (by first | omega | (simp; done) | (simp; omega)), (by first | omega | (simp; done) | (simp; omega)), (K.out.grown G.out hB0 (fun k hk => hw0 _ k hg0 hk))⟩
end Go.Proofs.YtiofpmmbgohnhaaDoor
