/- FnIncomes: seats that are needed are enough and one less is not, shares have the whole income, no price pays more. No condition. -/
import Derived.Test.YtpbmhnnafnfoeaaIncD
import Derived.Test.YtpbmhnnafnfoeaaIncP
import Derived.Test.YtpbmhnnafnfoeaaF6
import Derived.Test.YtpbmhnnafnfoeaaNeed
namespace Go.Proofs.Ytpbmhnnafnfoeaa
open Go Go.RowKit Go.ChangeShapes Go.WideShapes Go.ChangeAt
set_option linter.unusedSimpArgs false
set_option linter.unusedVariables false

set_option maxRecDepth 100000 in
set_option maxHeartbeats 8000000 in
theorem law_FnIncomes (w : World) (v : Value) (l0 : List Int) (h0 : Sl w 1 v eB l0) (hr : ∀ x ∈ l0, 0 ≤ x ∧ x ≤ 255) :
    Calls Try.prog 3 #[v] w fun e w' => e = .returned (.bool true) ∧ Below w.heap.size w w' := by
  have hS := h0.bytes hr
  generalize toU l0 = l at hS
  clear h0 hr
  have B := Below.refl w.heap.size w
  by_cases hl : 4096 < l.length
  · go_enter Try.func3, Try.ntmps3
    go_wp2_with fail
    refine (f6big _ _ _ hS).mono ?_
    rintro e w1 ⟨rfl, rfl⟩
    go_wp2_with fail
    go_ret
    exact ⟨rfl, Below.refl _ _⟩
  have hl1 : l.length ≤ 1048576 := by omega
  go_enter Try.func3, Try.ntmps3
  go_wp2_with fail
  refine (f6big _ _ _ hS).mono ?_
  rintro e w1 ⟨rfl, hw⟩
  obtain rfl : w = w1 := hw.symm
  go_wp2_with fail
  refine (draw_seats _ _ _ hS hl1).mono ?_
  rintro e w1 ⟨a, b, c, rfl, B1⟩
  replace B := below_step B B1
  clear B1
  go_wp2_with fail
  refine (seats_impl _ _ _ _).mono ?_
  rintro e w2 ⟨rfl, hw⟩
  obtain rfl : w1 = w2 := hw.symm
  go_wp2_with fail
  refine (seats_spec _ _ _ _).mono ?_
  rintro e w2 ⟨rfl, hw⟩
  obtain rfl : w1 = w2 := hw.symm
  have HN := hd (seats_law a b c)
  generalize (seats a b c).1 = n at HN ⊢
  generalize (seats a b c).2 = bad at HN ⊢
  go_wp2_with fail
  refine (draw_best _ _ _ (hS.below B) hl1).mono ?_
  rintro e w2 ⟨u1, u2, P, Z, rfl, OP, OZ, hP, hZ, B2⟩
  replace OP := OP.base B.size
  replace OZ := OZ.base B.size
  replace B := below_step B B2
  clear B2
  obtain ⟨A1, c1, rfl⟩ := OP.isSlice
  obtain ⟨A2, c2, rfl⟩ := OZ.isSlice
  go_wp2_with fail
  refine (bestSeat_impl _ _ _ (OP.sl eI_len) _ _ (OZ.sl eI_len)).mono ?_
  rintro e w3 ⟨rfl, B3⟩
  replace OP := OP.below B3 (Nat.le_refl _)
  replace OZ := OZ.below B3 (Nat.le_refl _)
  replace B := below_step B B3
  clear B3
  go_wp2_with fail
  refine (bestSeat_spec _ _ _ (OP.sl eI_len) _ _ (OZ.sl eI_len)).mono ?_
  rintro e w4 ⟨rfl, B4⟩
  replace OP := OP.below B4 (Nat.le_refl _)
  replace OZ := OZ.below B4 (Nat.le_refl _)
  replace B := below_step B B4
  clear B4
  have HB := hd (prices_law P Z)
  generalize (bsR P Z).1 = k at HB ⊢
  generalize (bsR P Z).2.1 = m at HB ⊢
  generalize (bsR P Z).2.2 = one at HB ⊢
  go_wp2_with fail
  refine (draw_split _ _ _ (hS.below B) hl1).mono ?_
  rintro e w5 ⟨inc, u3, S, rfl, OS, hSl, B5⟩
  replace OS := OS.base B.size
  replace OP := OP.below B5 (Nat.le_refl _)
  replace OZ := OZ.below B5 (Nat.le_refl _)
  replace B := below_step B B5
  clear B5
  obtain ⟨A3, c3, rfl⟩ := OS.isSlice
  go_wp2_with fail
  refine (split_impl _ _ _ _ (OS.sl eI_len)).mono ?_
  rintro e w6 ⟨u4, rfl, OX, B6⟩
  replace OX := OX.base B.size
  replace OP := OP.below B6 (Nat.le_refl _)
  replace OZ := OZ.below B6 (Nat.le_refl _)
  replace OS := OS.below B6 (Nat.le_refl _)
  replace B := below_step B B6
  clear B6
  go_wp2_with fail
  refine (split_spec _ _ _ _ (OS.sl eI_len)).mono ?_
  rintro e w7 ⟨u5, rfl, OY, B7⟩
  replace OY := OY.base B.size
  replace OP := OP.below B7 (Nat.le_refl _)
  replace OZ := OZ.below B7 (Nat.le_refl _)
  replace OS := OS.below B7 (Nat.le_refl _)
  replace OX := OX.below B7 (Nat.le_refl _)
  replace B := below_step B B7
  clear B7
  have HS := hd (shares_law inc S)
  have hX : (spR inc S).1.length ≤ 31 := by have := spR_len inc S; omega
  generalize (spR inc S).1 = X at HS OX OY hX ⊢
  generalize (spR inc S).2 = three at HS ⊢
  have SX := OX.sl eI_len
  have SY := OY.sl eI_len
  have SS := OS.sl eI_len
  have SP := OP.sl eI_len
  have SZ := OZ.sl eI_len
  clear OX OY OS OP OZ
  obtain ⟨A5, c5, rfl⟩ := SY.isSlice
  go_wp2_with fail
  refine (f6ints _ _ _ _ _ SX SY).mono ?_
  rintro e w8 ⟨rfl, q8, rfl⟩
  rw [decide_eq_true (rfl : X = X)]
  replace B := below_drewN B q8
  replace SX := SX.drewN q8
  replace SY := SY.drewN q8
  replace SS := SS.drewN q8
  replace SP := SP.drewN q8
  replace SZ := SZ.drewN q8
  generalize w7.drewN q8 = W at B SX SY SS SP SZ ⊢
  clear SX
  -- the two last parts, for whatever came before
  have mP := SP.len
  have mZ := SZ.len
  by_cases ht : three = 0
  case neg =>
    have e3 : (three == 0) = false := by simpa using ht
    clear ht HS SS SY
    by_cases ho : one = 0
    case neg =>
      have e1 : (one == 0) = false := by simpa using ho
      clear ho HB
      by_cases hb : bad = 0
      case neg =>
        have eb : (bad != 0) = true := by simpa using hb
        clear hb HN
        go_wp2_with fail
        go_ret
        refine ⟨?_, by assumption⟩
        show Ending.returned _ = _
        simp only [Array.getD]
        rfl
      obtain ⟨⟨k1, k2⟩, ⟨k3, k4⟩, ⟨k5, k6⟩, ⟨k7, k8⟩, ⟨k9, k10⟩, ⟨k11, k12⟩, k13, k14⟩ := HN.out hb
      subst hb
      clear HN
      by_cases hn : n = 0
      · have en : (n == 0) = true := by simpa using hn
        clear hn
        go_wp2_with fail
        go_ret
        refine ⟨?_, by assumption⟩
        show Ending.returned _ = _
        simp only [Array.getD]
        rfl
      · have en : (n == 0) = false := by simpa using hn
        replace k14 : (n - 1) * b * c < 1000 * a := by omega
        clear hn
        go_wp2_with fail
        go_ret
        refine ⟨?_, by assumption⟩
        show Ending.returned _ = _
        simp only [Array.getD]
        rfl
    have e1 : (one == 0) = true := by simpa using ho
    have HP := hd (HB.out ho)
    clear ho HB
    go_wp2_with fail
    have BB := B
    go_loopw [26] (fun i wr => ∃ k : Nat, k ≤ P.length ∧ i = .int .i64 k ∧ ∃ d, wr = W.drewN d) (fun i _ => P.length - (intOf i).toNat)
    case atStart => exact ⟨0, Nat.zero_le _, rfl, 0, rfl⟩
    case round =>
      obtain ⟨k, hk, rfl, d, rfl⟩ := hrel
      replace B := below_drewN BB d
      clear BB
      by_cases hlt : k < P.length
      · have hlt2 : k < Z.length := by have := HP.out.1; omega
        obtain ⟨f1, f2⟩ := HP.out.2.2 k hlt hlt2
        obtain ⟨b1, o1, rfl, -, c1⟩ := SP.int_at hlt
        obtain ⟨b2, o2, rfl, -, c2⟩ := SZ.int_at hlt2
        generalize P[k] = p at c1 f1 f2
        generalize Z[k] = z at c2 f1 f2
        go_wp2_with fail
        go_quiet (fail)
        go_wp2_with fail
        go_roundw
        case rel => exact ⟨k + 1, by omega, by go_num, _, by first | rfl | exact World.drewN_drewN _ _ _⟩
        case measure => simp [intOf]; omega
      · skip
        by_cases hb : bad = 0
        case neg =>
          have eb : (bad != 0) = true := by simpa using hb
          clear hb HN
          go_wp2_with fail
          go_ret
          refine ⟨?_, by assumption⟩
          show Ending.returned _ = _
          simp only [Array.getD]
          rfl
        obtain ⟨⟨k1, k2⟩, ⟨k3, k4⟩, ⟨k5, k6⟩, ⟨k7, k8⟩, ⟨k9, k10⟩, ⟨k11, k12⟩, k13, k14⟩ := HN.out hb
        subst hb
        clear HN
        by_cases hn : n = 0
        · have en : (n == 0) = true := by simpa using hn
          clear hn
          go_wp2_with fail
          go_ret
          refine ⟨?_, by assumption⟩
          show Ending.returned _ = _
          simp only [Array.getD]
          rfl
        · have en : (n == 0) = false := by simpa using hn
          replace k14 : (n - 1) * b * c < 1000 * a := by omega
          clear hn
          go_wp2_with fail
          go_ret
          refine ⟨?_, by assumption⟩
          show Ending.returned _ = _
          simp only [Array.getD]
          rfl
  have e3 : (three == 0) = true := by simpa using ht
  have HF := hd (HS.out ht)
  clear ht HS
  have eL : (((X.length : Nat) : Int) != ((S.length : Nat) : Int)) = false := by have := HF.out.1; simp [this]
  go_wp2_with fail
  refine (f6sum _ _ _ SY).mono ?_
  rintro e w8 ⟨rfl, hw⟩
  obtain rfl : W = w8 := hw.symm
  rw [HF.out.2.2.1]
  go_wp2_with fail
  refine (f6sum _ _ _ SS).mono ?_
  rintro e w8 ⟨rfl, hw⟩
  obtain rfl : W = w8 := hw.symm
  obtain ⟨a1, a2⟩ := HF.out.2.2.2.2.1
  generalize hall : sumI S = all at a1 a2 ⊢
  have HALL := hd hall
  clear hall
  go_wp2_with fail
  have BB := B
  go_loopw [25] (fun i wr => ∃ k : Nat, k ≤ X.length ∧ i = .int .i64 k ∧ ∃ d, wr = W.drewN d) (fun i _ => X.length - (intOf i).toNat)
  case atStart => exact ⟨0, Nat.zero_le _, rfl, 0, rfl⟩
  case round =>
    obtain ⟨k, hk, rfl, d, rfl⟩ := hrel
    replace B := below_drewN BB d
    clear BB
    by_cases hlt : k < X.length
    · have hlt2 : k < S.length := by have := HF.out.1; omega
      have HK := HF.out.2.2.2.2.2 k hlt2 hlt
      rw [HALL.out] at HK
      obtain ⟨⟨f1, f2⟩, ⟨f3, f4⟩, f5, f6, f7⟩ := HK
      obtain ⟨n1, n2⟩ := HF.out.2.2.2.1
      obtain ⟨b1, o1, rfl, -, c1⟩ := SY.int_at hlt
      obtain ⟨b2, o2, rfl, -, c2⟩ := SS.int_at hlt2
      generalize X[k] = x at c1 f3 f4 f5 f6 f7
      generalize S[k] = s at c2 f1 f2 f5 f6 f7
      have m1 : 0 ≤ x * all ∧ x * all ≤ 300000000000 := ⟨Int.mul_nonneg f3 (by omega), Int.le_trans (Int.mul_le_mul f4 a2 (by omega) (by omega)) (by decide)⟩
      have m2 : 0 ≤ inc * s ∧ inc * s ≤ 10000000000 := ⟨Int.mul_nonneg n1 f1, Int.le_trans (Int.mul_le_mul n2 f2 f1 (by omega)) (by decide)⟩
      obtain ⟨m1, m3⟩ := m1
      obtain ⟨m2, m4⟩ := m2
      have g1 : decide (x * all < inc * s - all) = false := by simp; omega
      have g2 : decide (inc * s + all < x * all) = false := by simp; omega
      by_cases hs : s = 0
      · have hx0 := f7 hs
        have gs : (s == 0) = true := by simpa using hs
        have gx : (x != 0) = false := by simpa using hx0
        clear f7 hs hx0
        go_wp2_with fail
        go_quiet (fail)
        go_wp2_with fail
        go_roundw
        case rel => exact ⟨k + 1, by omega, by go_num, _, by first | rfl | exact World.drewN_drewN _ _ _⟩
        case measure => simp [intOf]; omega
      · have gs : (s == 0) = false := by simpa using hs
        clear f7 hs
        go_wp2_with fail
        go_quiet (fail)
        go_wp2_with fail
        go_roundw
        case rel => exact ⟨k + 1, by omega, by go_num, _, by first | rfl | exact World.drewN_drewN _ _ _⟩
        case measure => simp [intOf]; omega
    · clear eL HF HALL SY SS
      replace SP := SP.drewN d
      replace SZ := SZ.drewN d
      generalize W.drewN d = W2 at *
      by_cases ho : one = 0
      case neg =>
        have e1 : (one == 0) = false := by simpa using ho
        clear ho HB
        by_cases hb : bad = 0
        case neg =>
          have eb : (bad != 0) = true := by simpa using hb
          clear hb HN
          go_wp2_with fail
          go_ret
          refine ⟨?_, by assumption⟩
          show Ending.returned _ = _
          simp only [Array.getD]
          rfl
        obtain ⟨⟨k1, k2⟩, ⟨k3, k4⟩, ⟨k5, k6⟩, ⟨k7, k8⟩, ⟨k9, k10⟩, ⟨k11, k12⟩, k13, k14⟩ := HN.out hb
        subst hb
        clear HN
        by_cases hn : n = 0
        · have en : (n == 0) = true := by simpa using hn
          clear hn
          go_wp2_with fail
          go_ret
          refine ⟨?_, by assumption⟩
          show Ending.returned _ = _
          simp only [Array.getD]
          rfl
        · have en : (n == 0) = false := by simpa using hn
          replace k14 : (n - 1) * b * c < 1000 * a := by omega
          clear hn
          go_wp2_with fail
          go_ret
          refine ⟨?_, by assumption⟩
          show Ending.returned _ = _
          simp only [Array.getD]
          rfl
      have e1 : (one == 0) = true := by simpa using ho
      have HP := hd (HB.out ho)
      clear ho HB
      go_wp2_with fail
      have BB := B
      go_loopw [26] (fun i wr => ∃ k : Nat, k ≤ P.length ∧ i = .int .i64 k ∧ ∃ d, wr = W2.drewN d) (fun i _ => P.length - (intOf i).toNat)
      case atStart => exact ⟨0, Nat.zero_le _, rfl, 0, rfl⟩
      case round =>
        obtain ⟨k, hk, rfl, d, rfl⟩ := hrel
        replace B := below_drewN BB d
        clear BB
        by_cases hlt : k < P.length
        · have hlt2 : k < Z.length := by have := HP.out.1; omega
          obtain ⟨f1, f2⟩ := HP.out.2.2 k hlt hlt2
          obtain ⟨b1, o1, rfl, -, c1⟩ := SP.int_at hlt
          obtain ⟨b2, o2, rfl, -, c2⟩ := SZ.int_at hlt2
          generalize P[k] = p at c1 f1 f2
          generalize Z[k] = z at c2 f1 f2
          go_wp2_with fail
          go_quiet (fail)
          go_wp2_with fail
          go_roundw
          case rel => exact ⟨k + 1, by omega, by go_num, _, by first | rfl | exact World.drewN_drewN _ _ _⟩
          case measure => simp [intOf]; omega
        · skip
          by_cases hb : bad = 0
          case neg =>
            have eb : (bad != 0) = true := by simpa using hb
            clear hb HN
            go_wp2_with fail
            go_ret
            refine ⟨?_, by assumption⟩
            show Ending.returned _ = _
            simp only [Array.getD]
            rfl
          obtain ⟨⟨k1, k2⟩, ⟨k3, k4⟩, ⟨k5, k6⟩, ⟨k7, k8⟩, ⟨k9, k10⟩, ⟨k11, k12⟩, k13, k14⟩ := HN.out hb
          subst hb
          clear HN
          by_cases hn : n = 0
          · have en : (n == 0) = true := by simpa using hn
            clear hn
            go_wp2_with fail
            go_ret
            refine ⟨?_, by assumption⟩
            show Ending.returned _ = _
            simp only [Array.getD]
            rfl
          · have en : (n == 0) = false := by simpa using hn
            replace k14 : (n - 1) * b * c < 1000 * a := by omega
            clear hn
            go_wp2_with fail
            go_ret
            refine ⟨?_, by assumption⟩
            show Ending.returned _ = _
            simp only [Array.getD]
            rfl

set_option maxRecDepth 100000 in
theorem FnIncomes_lifted (os : Os) (started : os.Started) (H : Type) (enc : TypeId × Value → H) :
    ReturnsInHanded {} Try.checked os 3 .any (Rows.fnIncomesSpec.pre6 enc Try.prog Try.f3 Rows.fnIncomesRow.domain false) (Rows.fnIncomesSpec.post enc Try.prog Try.f3 false true false false) := by
  refine returnsInHanded_of_change (C := Try.checked) own_knob started (by kernel_rfl) Try.func3
    (ChangeSpec.witness6 (enc := enc) (C := Try.checked) false ⟨#[], #[.slice none 0 0], []⟩ 8 (by kernel_rfl) (by kernel_rfl) (by kernel_rfl) (by kernel_rfl)) ?_
  intro W base args ds gs before hval0 hW hcnd _
  have hval : ∀ (j : Nat) t v, Try.f3.params[j]? = some t → args[j]? = some v → Value.okWide Try.prog W .any base t v := hval0
  have hW' := hW
  obtain ⟨p, q, hA0, hV, rfl, hfz, hnd⟩ := hW
  have hA : DataW.TrodAll enc Try.prog W 0 (fun _ => true) true Try.f3.params.toList args.toList ds p := hA0
  rw [Try.params3] at hA hval
  obtain ⟨v0, vs0, d0, ds0, p0, q0, hargs, rfl, rfl, h0, r0⟩ := trodAll_cons hA
  obtain ⟨rfl, rfl, rfl⟩ := trodAll_nil r0
  obtain rfl : args = #[v0] := by cases args; simp_all
  obtain ⟨rfl, rfl⟩ := trodVars_none hV
  have k0 := h0
  have lt0 : ∀ x ∈ p0, x.block < W.heap.size := by obtain ⟨m, hm⟩ := k0; exact DataW.trod_lt m _ _ _ hm
  obtain ⟨l0, sl0, wf0⟩ := sl_of_bytes Try.underlying22 Try.underlying5 (by kernel_rfl) (hval 0 22 v0 rfl rfl) h0
  refine (law_FnIncomes W v0 l0 sl0 wf0).mono fun e W' ⟨he, bel⟩ => ?_
  subst he
  exact ⟨_, rfl, _, _, _, [], _, [], hW', trodAll_mk1 (shut_bool Try.underlying4 _), (trodAll_cons_mk (Below.trod laid_out (by kernel_rfl) (of_decide_eq_true (by kernel_rfl)) k0 bel lt0) trodAll_mk0), rfl, bel.frame _, fun h => by cases h⟩

theorem FnIncomes_closed : joinedFacts Try.pinned.checked.prog 3 Try.f3 Rows.fnIncomesSpec Rows.fnIncomesRow = true := by
  unfold joinedFacts; rw [seat_enter, seat_lifts, seat_make]; kernel_rfl

theorem FnIncomes_named : Try.pinned.checked.prog.funcNamed Rows.fnIncomesRow.func = some 3 := by kernel_rfl

theorem FnIncomes_holds : Rows.FnIncomesSaid :=
  OpenClaim.holds_of_wide 3 Try.f3 rfl rfl rfl rfl rfl rfl rfl ⟨rfl, rfl, rfl, rfl, rfl⟩ rfl rfl rfl rfl rfl FnIncomes_named Try.func3 FnIncomes_closed
    (of_decide_eq_true (by kernel_rfl)) (by unfold Func.isWrapper; first | (rw [if_pos (by decide +kernel)]; kernel_rfl) | (rw [if_neg (by decide +kernel)]; exact ⟨rfl, rfl⟩))
    (fun os started H enc _ => FnIncomes_lifted os started H enc)
#print axioms FnIncomes_holds

end Go.Proofs.Ytpbmhnnafnfoeaa
