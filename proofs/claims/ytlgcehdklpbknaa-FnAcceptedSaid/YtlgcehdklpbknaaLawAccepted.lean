/- FnAccepted: accepted hires are no more than asked for, all of them just if there is no lack, days out are those of all hires. No condition. -/
import Derived.Test.YtlgcehdklpbknaaAccP
import Derived.Test.YtlgcehdklpbknaaMostS
import Derived.Test.YtlgcehdklpbknaaHDraw
import Derived.Test.YtlgcehdklpbknaaF6
namespace Go.Proofs.Ytlgcehdklpbknaa
open Go Go.RowKit Go.ChangeShapes Go.WideShapes Go.ChangeAt
set_option linter.unusedSimpArgs false
set_option linter.unusedVariables false
set_option maxRecDepth 100000 in
set_option maxHeartbeats 32000000 in
theorem law_FnAccepted (w : World) (v : Value) (l0 : List Int) (h0 : Sl w 1 v eB l0) (hr : ∀ x ∈ l0, 0 ≤ x ∧ x ≤ 255) :
    Calls Try.prog 7 #[v] w fun e w' => e = .returned (.bool true) ∧ Below w.heap.size w w' := by
  have hS := h0.bytes hr
  generalize toU l0 = l at hS
  clear h0 hr
  have B := Below.refl w.heap.size w
  by_cases hl : 4096 < l.length
  · go_enter Try.func7, Try.ntmps7
    go_wp2_with fail
    refine (f6big _ _ _ hS).mono ?_
    rintro e w1 ⟨rfl, rfl⟩
    go_wp2_with fail
    go_ret
    exact ⟨rfl, Below.refl _ _⟩
  have hl1 : l.length ≤ 1048576 := by omega
  go_enter Try.func7, Try.ntmps7
  go_wp2_with fail
  refine (f6big _ _ _ hS).mono ?_
  rintro e w1 ⟨rfl, hw⟩
  obtain rfl : w = w1 := hw.symm
  go_wp2_with fail
  refine (draw_acc _ _ _ (hS.below B) hl1).mono ?_
  rintro e w2 ⟨L1, L2, it, u1, u2, rfl, O1, O2, hz1, hz2, B2⟩
  replace B := below_step B B2
  clear B2
  have S1 := O1.sl eI_len
  have S2 := O2.sl eHire_len
  obtain ⟨A1, c1, rfl⟩ := S1.isSlice
  obtain ⟨A2, c2, rfl⟩ := S2.isSlice
  clear O1 O2
  go_wp2_with fail
  refine (acc_impl _ _ _ S1 _ _ S2 _).mono ?_
  rintro e w3 ⟨rfl, B3⟩
  replace S1 := S1.below B3
  replace S2 := S2.below B3
  replace B := below_step B B3
  clear B3
  go_wp2_with fail
  refine (acc_spec _ _ _ S1 _ _ S2 _).mono ?_
  rintro e w4 ⟨rfl, B4⟩
  replace S1 := S1.below B4
  replace S2 := S2.below B4
  replace B := below_step B B4
  clear B4
  go_wp2_with fail
  refine (mostOut_impl _ _ _ S1 _ _ S2 _).mono ?_
  rintro e w5 ⟨rfl, B5⟩
  replace S1 := S1.below B5
  replace S2 := S2.below B5
  replace B := below_step B B5
  clear B5
  go_wp2_with fail
  refine (mostOut_spec _ _ _ S1 _ _ S2 _).mono ?_
  rintro e w6 ⟨rfl, B6⟩
  replace S1 := S1.below B6
  replace S2 := S2.below B6
  replace B := below_step B B6
  clear B6
  have HA := hd (acc_facts L1 L2 it)
  have HD := hd (day_facts L1 L2)
  generalize (accR L1 L2 it).1 = na at HA ⊢
  generalize (accR L1 L2 it).2 = bad at HA ⊢
  generalize (mostR L1 L2 it).1 = mo at HA ⊢
  generalize (mostR L1 L2 it).2 = one at HA ⊢
  go_wp2_with fail
  refine (days_impl _ _ _ S1 _ _ S2).mono ?_
  rintro e w7 ⟨u3, rfl, O3, B7⟩
  replace S1 := S1.below B7
  replace S2 := S2.below B7
  replace B := below_step B B7
  clear B7
  have S3 := O3.sl eI_len
  clear O3
  obtain ⟨A3, c3, rfl⟩ := S3.isSlice
  go_wp2_with fail
  refine (days_spec _ _ _ S1 _ _ S2).mono ?_
  rintro e w8 ⟨u4, rfl, O4, B8⟩
  replace S1 := S1.below B8
  replace S2 := S2.below B8
  replace S3 := S3.below B8
  replace B := below_step B B8
  clear B8
  have S4 := O4.sl eI_len
  clear O4
  obtain ⟨A4, c4, rfl⟩ := S4.isSlice
  generalize (daysR L1 L2).1 = Y at HD S3 S4 ⊢
  generalize (daysR L1 L2).2 = three at HD ⊢
  go_wp2_with fail
  refine (draw_outon _ _ _ (hS.below B) hl1).mono ?_
  rintro e w9 ⟨L5, L6, ic, dy, u5, u6, rfl, O5, O6, hz5, hz6, B9⟩
  replace S1 := S1.below B9
  replace S2 := S2.below B9
  replace S3 := S3.below B9
  replace S4 := S4.below B9
  replace B := below_step B B9
  clear B9
  have S5 := O5.sl eI_len
  have S6 := O6.sl eHire_len
  obtain ⟨A5, c5, rfl⟩ := S5.isSlice
  obtain ⟨A6, c6, rfl⟩ := S6.isSlice
  clear O5 O6
  go_wp2_with fail
  refine (outOn_impl _ _ _ S5 _ _ S6 _ _).mono ?_
  rintro e w10 ⟨rfl, B10⟩
  replace S1 := S1.below B10
  replace S2 := S2.below B10
  replace S3 := S3.below B10
  replace S4 := S4.below B10
  replace S5 := S5.below B10
  replace S6 := S6.below B10
  replace B := below_step B B10
  clear B10
  go_wp2_with fail
  refine (outOn_spec _ _ _ S5 _ _ S6 _ _).mono ?_
  rintro e w11 ⟨rfl, B11⟩
  replace S1 := S1.below B11
  replace S2 := S2.below B11
  replace S3 := S3.below B11
  replace S4 := S4.below B11
  replace S5 := S5.below B11
  replace S6 := S6.below B11
  replace B := below_step B B11
  clear B11
  have HO := hd (out_facts L5 L6 ic dy)
  generalize (outR L5 L6 ic dy).1 = ko at HO ⊢
  generalize (outR L5 L6 ic dy).2 = five at HO ⊢
  have e1 : (bad != bad) = false := by simp
  have e2 : (na != na) = false := by simp
  have e3 : (one != one) = false := by simp
  have e4 : (mo != mo) = false := by simp
  have e5 : (three != three) = false := by simp
  have e6 : (five != five) = false := by simp
  have e7 : (ko != ko) = false := by simp
  go_wp2_with fail
  refine (f6ints _ _ _ _ _ S3 S4).mono ?_
  rintro e w12 ⟨rfl, nq, rfl⟩
  rw [show decide (Y = Y) = true from by simp]
  have BQ := below_drewN (Below.refl w11.heap.size w11) nq
  replace S1 := S1.below BQ
  replace S2 := S2.below BQ
  replace S3 := S3.below BQ
  replace S4 := S4.below BQ
  replace S5 := S5.below BQ
  replace S6 := S6.below BQ
  replace B := below_step B BQ
  clear BQ
  generalize w11.drewN nq = W12 at S1 S2 S3 S4 S5 S6 B ⊢
  by_cases h5 : five = 0
  · as_aux_lemma =>
    subst h5
    obtain ⟨g1, g2⟩ := HO.out rfl
    go_wp2_with fail
    refine (mostOut_impl _ _ _ S5 _ _ S6 _).mono ?_
    rintro e WY ⟨rfl, B12⟩
    rw [g1]
    generalize (mostR L5 L6 ic).1 = top at g2 ⊢
    replace S1 := S1.below B12
    replace S2 := S2.below B12
    replace S3 := S3.below B12
    replace S4 := S4.below B12
    replace S5 := S5.below B12
    replace S6 := S6.below B12
    replace B := below_step B B12
    clear B12
    by_cases h3 : three = 0
    · as_aux_lemma =>
      subst h3
      obtain ⟨k1, k2⟩ := HD.out rfl
      have z40 := (okHires_stock k1).2.2.2
      have HG := hd (good_of k1)
      have HK2 := hd k2
      clear k1 k2
      go_wp2_with fail
      as_aux_lemma =>
      go_loopw [28, 29] (fun cv kv wr => ∃ k : Nat, k ≤ L2.length ∧ kv = .int .i64 k ∧ cv = .int .i64 (totD L2 k) ∧ Hid (Below WY.heap.size WY wr)) (fun _ kv _ => L2.length - (intOf kv).toNat)
      case atStart => exact ⟨0, Nat.zero_le _, rfl, by simp [totD], hd (Below.refl _ _)⟩
      case round =>
        obtain ⟨k, hk, rfl, rfl, BW⟩ := hrel
        by_cases hlt : k < L2.length
        · as_aux_lemma =>
          have HS := hd (totD_succ hlt)
          have hbd := totD_bd HG.out k hk
          have hgx := HG.out L2[k] (List.getElem_mem hlt)
          obtain ⟨bb, oo, rfl, -, p0, p1, p2⟩ := (S2.below BW.out).Hire_at hlt
          generalize L2[k] = x at p0 p1 p2 HS hgx
          obtain ⟨xa, xb, xc⟩ := x
          dsimp only at p0 p1 p2 hgx
          clear p0
          generalize totD L2 k = s at HS hbd ⊢
          obtain ⟨g0, g1, g2⟩ := hgx
          go_wp2_with fail
          go_quiet (fail)
          go_wp2_with fail
          go_roundw
          case rel => exact ⟨k + 1, by omega, by go_num, by rw [HS.out]; congr 1; omega, hd (below_drewN BW.out _)⟩
          case measure => simp [intOf]; omega
        · as_aux_lemma =>
          obtain rfl : k = L2.length := by omega
          have BX := BW.out
          clear BW
          replace S1 := S1.below BX
          replace S2 := S2.below BX
          replace S3 := S3.below BX
          replace S4 := S4.below BX
          replace S5 := S5.below BX
          replace S6 := S6.below BX
          replace B := below_step B BX
          clear BX
          have hee : (totD L2 L2.length != totD L2 L2.length) = false := by simp
          go_wp2_with fail
          refine (f6sum _ _ _ S4).mono ?_
          rintro e WX ⟨rfl, hw⟩
          obtain rfl : WX = wr := hw
          rw [HK2.out]
          by_cases hbad : bad = 0
          · as_aux_lemma =>
            subst hbad
            obtain ⟨k0, ⟨a1, a2⟩, ⟨a3, a4⟩, a5⟩ := HA.out rfl
            have z40 := (okHires_stock k0).2.2.2
            have HA5 := hd a5
            clear a5 k0
            go_wp2_with fail
            go_loopw [30, 31] (fun cv kv wr => ∃ k : Nat, k ≤ L2.length ∧ kv = .int .i64 k ∧ cv = .int .i64 (askN L2 it k) ∧ wr = WX) (fun _ kv _ => L2.length - (intOf kv).toNat)
            case atStart => exact ⟨0, Nat.zero_le _, rfl, by simp [askN, ownH], rfl⟩
            case round =>
              obtain ⟨k, hk, rfl, rfl, rfl⟩ := hrel
              by_cases hlt : k < L2.length
              · as_aux_lemma =>
                have HS := hd (askN_succ (item := it) hlt)
                have hbd := askN_bd L2 it k
                obtain ⟨bb, oo, rfl, -, p0, p1, p2⟩ := S2.Hire_at hlt
                generalize L2[k].1 = xa at p0 HS
                clear p1 p2
                generalize askN L2 it k = s at HS hbd ⊢
                rcases hq : (xa == it) with _ | _
                · rw [hq] at HS
                  go_wp2_with fail
                  go_roundw
                  case rel => exact ⟨k + 1, by omega, by go_num, by rw [HS.out]; rfl, by first | trivial | rfl⟩
                  case measure => simp [intOf]; omega
                · rw [hq] at HS
                  go_wp2_with fail
                  go_roundw
                  case rel => exact ⟨k + 1, by omega, by go_num, by rw [HS.out]; rfl, by first | trivial | rfl⟩
                  case measure => simp [intOf]; omega
              · as_aux_lemma =>
                obtain rfl : k = L2.length := by omega
                obtain ⟨ni, rfl⟩ : ∃ ni : Nat, it = (ni : Int) := ⟨it.toNat, by omega⟩
                have hni : ni < L1.length := by omega
                obtain ⟨bb, oo, rfl, -, cS⟩ := S1.int_at hni
                have hgd : L1.getD ni 0 = L1[ni] := by rw [List.getD_eq_getElem?_getD, List.getElem?_eq_getElem hni]; rfl
                have a6 := HA5.out
                rw [Int.toNat_natCast, hgd] at a6
                generalize L1[ni] = y at cS a6
                clear hgd
                generalize askN L2 (ni : Int) L2.length = ask at a4 a6 ⊢
                have hnl : (ni : Int) < (L1.length : Int) := by omega
                by_cases hq : na = ask
                · have hle : mo ≤ y := a6.1 hq
                  have hqb : (na == ask) = true := by simpa using hq
                  clear a6
                  go_wp2_with fail
                  go_ret
                  exact ⟨by simp, B⟩
                · have hle : ¬ mo ≤ y := fun h => hq (a6.2 h)
                  have hqb : (na == ask) = false := by simpa using hq
                  have hlb : decide (mo ≤ y) = false := by simpa using hle
                  clear a6
                  go_wp2_with fail
                  go_ret
                  exact ⟨by simp, B⟩
          · as_aux_lemma =>
            have hbb : (bad != 0) = true := by simpa using hbad
            go_wp2_with fail
            go_ret
            exact ⟨rfl, B⟩
    · as_aux_lemma =>
      have h3b : (three == 0) = false := by simpa using h3
      by_cases hbad : bad = 0
      · as_aux_lemma =>
        subst hbad
        obtain ⟨k0, ⟨a1, a2⟩, ⟨a3, a4⟩, a5⟩ := HA.out rfl
        have z40 := (okHires_stock k0).2.2.2
        have HA5 := hd a5
        clear a5 k0
        go_wp2_with fail
        go_loopw [30, 31] (fun cv kv wr => ∃ k : Nat, k ≤ L2.length ∧ kv = .int .i64 k ∧ cv = .int .i64 (askN L2 it k) ∧ wr = WY) (fun _ kv _ => L2.length - (intOf kv).toNat)
        case atStart => exact ⟨0, Nat.zero_le _, rfl, by simp [askN, ownH], rfl⟩
        case round =>
          obtain ⟨k, hk, rfl, rfl, rfl⟩ := hrel
          by_cases hlt : k < L2.length
          · as_aux_lemma =>
            have HS := hd (askN_succ (item := it) hlt)
            have hbd := askN_bd L2 it k
            obtain ⟨bb, oo, rfl, -, p0, p1, p2⟩ := S2.Hire_at hlt
            generalize L2[k].1 = xa at p0 HS
            clear p1 p2
            generalize askN L2 it k = s at HS hbd ⊢
            rcases hq : (xa == it) with _ | _
            · rw [hq] at HS
              go_wp2_with fail
              go_roundw
              case rel => exact ⟨k + 1, by omega, by go_num, by rw [HS.out]; rfl, by first | trivial | rfl⟩
              case measure => simp [intOf]; omega
            · rw [hq] at HS
              go_wp2_with fail
              go_roundw
              case rel => exact ⟨k + 1, by omega, by go_num, by rw [HS.out]; rfl, by first | trivial | rfl⟩
              case measure => simp [intOf]; omega
          · as_aux_lemma =>
            obtain rfl : k = L2.length := by omega
            obtain ⟨ni, rfl⟩ : ∃ ni : Nat, it = (ni : Int) := ⟨it.toNat, by omega⟩
            have hni : ni < L1.length := by omega
            obtain ⟨bb, oo, rfl, -, cS⟩ := S1.int_at hni
            have hgd : L1.getD ni 0 = L1[ni] := by rw [List.getD_eq_getElem?_getD, List.getElem?_eq_getElem hni]; rfl
            have a6 := HA5.out
            rw [Int.toNat_natCast, hgd] at a6
            generalize L1[ni] = y at cS a6
            clear hgd
            generalize askN L2 (ni : Int) L2.length = ask at a4 a6 ⊢
            have hnl : (ni : Int) < (L1.length : Int) := by omega
            by_cases hq : na = ask
            · have hle : mo ≤ y := a6.1 hq
              have hqb : (na == ask) = true := by simpa using hq
              clear a6
              go_wp2_with fail
              go_ret
              exact ⟨by simp, B⟩
            · have hle : ¬ mo ≤ y := fun h => hq (a6.2 h)
              have hqb : (na == ask) = false := by simpa using hq
              have hlb : decide (mo ≤ y) = false := by simpa using hle
              clear a6
              go_wp2_with fail
              go_ret
              exact ⟨by simp, B⟩
      · as_aux_lemma =>
        have hbb : (bad != 0) = true := by simpa using hbad
        go_wp2_with fail
        go_ret
        exact ⟨rfl, B⟩
  · as_aux_lemma =>
    have h5b : (five == 0) = false := by simpa using h5
    by_cases h3 : three = 0
    · as_aux_lemma =>
      subst h3
      obtain ⟨k1, k2⟩ := HD.out rfl
      have z40 := (okHires_stock k1).2.2.2
      have HG := hd (good_of k1)
      have HK2 := hd k2
      clear k1 k2
      go_wp2_with fail
      as_aux_lemma =>
      go_loopw [28, 29] (fun cv kv wr => ∃ k : Nat, k ≤ L2.length ∧ kv = .int .i64 k ∧ cv = .int .i64 (totD L2 k) ∧ Hid (Below W12.heap.size W12 wr)) (fun _ kv _ => L2.length - (intOf kv).toNat)
      case atStart => exact ⟨0, Nat.zero_le _, rfl, by simp [totD], hd (Below.refl _ _)⟩
      case round =>
        obtain ⟨k, hk, rfl, rfl, BW⟩ := hrel
        by_cases hlt : k < L2.length
        · as_aux_lemma =>
          have HS := hd (totD_succ hlt)
          have hbd := totD_bd HG.out k hk
          have hgx := HG.out L2[k] (List.getElem_mem hlt)
          obtain ⟨bb, oo, rfl, -, p0, p1, p2⟩ := (S2.below BW.out).Hire_at hlt
          generalize L2[k] = x at p0 p1 p2 HS hgx
          obtain ⟨xa, xb, xc⟩ := x
          dsimp only at p0 p1 p2 hgx
          clear p0
          generalize totD L2 k = s at HS hbd ⊢
          obtain ⟨g0, g1, g2⟩ := hgx
          go_wp2_with fail
          go_quiet (fail)
          go_wp2_with fail
          go_roundw
          case rel => exact ⟨k + 1, by omega, by go_num, by rw [HS.out]; congr 1; omega, hd (below_drewN BW.out _)⟩
          case measure => simp [intOf]; omega
        · as_aux_lemma =>
          obtain rfl : k = L2.length := by omega
          have BX := BW.out
          clear BW
          replace S1 := S1.below BX
          replace S2 := S2.below BX
          replace S3 := S3.below BX
          replace S4 := S4.below BX
          replace S5 := S5.below BX
          replace S6 := S6.below BX
          replace B := below_step B BX
          clear BX
          have hee : (totD L2 L2.length != totD L2 L2.length) = false := by simp
          go_wp2_with fail
          refine (f6sum _ _ _ S4).mono ?_
          rintro e WX ⟨rfl, hw⟩
          obtain rfl : WX = wr := hw
          rw [HK2.out]
          by_cases hbad : bad = 0
          · as_aux_lemma =>
            subst hbad
            obtain ⟨k0, ⟨a1, a2⟩, ⟨a3, a4⟩, a5⟩ := HA.out rfl
            have z40 := (okHires_stock k0).2.2.2
            have HA5 := hd a5
            clear a5 k0
            go_wp2_with fail
            go_loopw [30, 31] (fun cv kv wr => ∃ k : Nat, k ≤ L2.length ∧ kv = .int .i64 k ∧ cv = .int .i64 (askN L2 it k) ∧ wr = WX) (fun _ kv _ => L2.length - (intOf kv).toNat)
            case atStart => exact ⟨0, Nat.zero_le _, rfl, by simp [askN, ownH], rfl⟩
            case round =>
              obtain ⟨k, hk, rfl, rfl, rfl⟩ := hrel
              by_cases hlt : k < L2.length
              · as_aux_lemma =>
                have HS := hd (askN_succ (item := it) hlt)
                have hbd := askN_bd L2 it k
                obtain ⟨bb, oo, rfl, -, p0, p1, p2⟩ := S2.Hire_at hlt
                generalize L2[k].1 = xa at p0 HS
                clear p1 p2
                generalize askN L2 it k = s at HS hbd ⊢
                rcases hq : (xa == it) with _ | _
                · rw [hq] at HS
                  go_wp2_with fail
                  go_roundw
                  case rel => exact ⟨k + 1, by omega, by go_num, by rw [HS.out]; rfl, by first | trivial | rfl⟩
                  case measure => simp [intOf]; omega
                · rw [hq] at HS
                  go_wp2_with fail
                  go_roundw
                  case rel => exact ⟨k + 1, by omega, by go_num, by rw [HS.out]; rfl, by first | trivial | rfl⟩
                  case measure => simp [intOf]; omega
              · as_aux_lemma =>
                obtain rfl : k = L2.length := by omega
                obtain ⟨ni, rfl⟩ : ∃ ni : Nat, it = (ni : Int) := ⟨it.toNat, by omega⟩
                have hni : ni < L1.length := by omega
                obtain ⟨bb, oo, rfl, -, cS⟩ := S1.int_at hni
                have hgd : L1.getD ni 0 = L1[ni] := by rw [List.getD_eq_getElem?_getD, List.getElem?_eq_getElem hni]; rfl
                have a6 := HA5.out
                rw [Int.toNat_natCast, hgd] at a6
                generalize L1[ni] = y at cS a6
                clear hgd
                generalize askN L2 (ni : Int) L2.length = ask at a4 a6 ⊢
                have hnl : (ni : Int) < (L1.length : Int) := by omega
                by_cases hq : na = ask
                · have hle : mo ≤ y := a6.1 hq
                  have hqb : (na == ask) = true := by simpa using hq
                  clear a6
                  go_wp2_with fail
                  go_ret
                  exact ⟨by simp, B⟩
                · have hle : ¬ mo ≤ y := fun h => hq (a6.2 h)
                  have hqb : (na == ask) = false := by simpa using hq
                  have hlb : decide (mo ≤ y) = false := by simpa using hle
                  clear a6
                  go_wp2_with fail
                  go_ret
                  exact ⟨by simp, B⟩
          · as_aux_lemma =>
            have hbb : (bad != 0) = true := by simpa using hbad
            go_wp2_with fail
            go_ret
            exact ⟨rfl, B⟩
    · as_aux_lemma =>
      have h3b : (three == 0) = false := by simpa using h3
      by_cases hbad : bad = 0
      · as_aux_lemma =>
        subst hbad
        obtain ⟨k0, ⟨a1, a2⟩, ⟨a3, a4⟩, a5⟩ := HA.out rfl
        have z40 := (okHires_stock k0).2.2.2
        have HA5 := hd a5
        clear a5 k0
        go_wp2_with fail
        go_loopw [30, 31] (fun cv kv wr => ∃ k : Nat, k ≤ L2.length ∧ kv = .int .i64 k ∧ cv = .int .i64 (askN L2 it k) ∧ wr = W12) (fun _ kv _ => L2.length - (intOf kv).toNat)
        case atStart => exact ⟨0, Nat.zero_le _, rfl, by simp [askN, ownH], rfl⟩
        case round =>
          obtain ⟨k, hk, rfl, rfl, rfl⟩ := hrel
          by_cases hlt : k < L2.length
          · as_aux_lemma =>
            have HS := hd (askN_succ (item := it) hlt)
            have hbd := askN_bd L2 it k
            obtain ⟨bb, oo, rfl, -, p0, p1, p2⟩ := S2.Hire_at hlt
            generalize L2[k].1 = xa at p0 HS
            clear p1 p2
            generalize askN L2 it k = s at HS hbd ⊢
            rcases hq : (xa == it) with _ | _
            · rw [hq] at HS
              go_wp2_with fail
              go_roundw
              case rel => exact ⟨k + 1, by omega, by go_num, by rw [HS.out]; rfl, by first | trivial | rfl⟩
              case measure => simp [intOf]; omega
            · rw [hq] at HS
              go_wp2_with fail
              go_roundw
              case rel => exact ⟨k + 1, by omega, by go_num, by rw [HS.out]; rfl, by first | trivial | rfl⟩
              case measure => simp [intOf]; omega
          · as_aux_lemma =>
            obtain rfl : k = L2.length := by omega
            obtain ⟨ni, rfl⟩ : ∃ ni : Nat, it = (ni : Int) := ⟨it.toNat, by omega⟩
            have hni : ni < L1.length := by omega
            obtain ⟨bb, oo, rfl, -, cS⟩ := S1.int_at hni
            have hgd : L1.getD ni 0 = L1[ni] := by rw [List.getD_eq_getElem?_getD, List.getElem?_eq_getElem hni]; rfl
            have a6 := HA5.out
            rw [Int.toNat_natCast, hgd] at a6
            generalize L1[ni] = y at cS a6
            clear hgd
            generalize askN L2 (ni : Int) L2.length = ask at a4 a6 ⊢
            have hnl : (ni : Int) < (L1.length : Int) := by omega
            by_cases hq : na = ask
            · have hle : mo ≤ y := a6.1 hq
              have hqb : (na == ask) = true := by simpa using hq
              clear a6
              go_wp2_with fail
              go_ret
              exact ⟨by simp, B⟩
            · have hle : ¬ mo ≤ y := fun h => hq (a6.2 h)
              have hqb : (na == ask) = false := by simpa using hq
              have hlb : decide (mo ≤ y) = false := by simpa using hle
              clear a6
              go_wp2_with fail
              go_ret
              exact ⟨by simp, B⟩
      · as_aux_lemma =>
        have hbb : (bad != 0) = true := by simpa using hbad
        go_wp2_with fail
        go_ret
        exact ⟨rfl, B⟩
set_option maxRecDepth 100000 in
theorem FnAccepted_lifted (os : Os) (started : os.Started) (H : Type) (enc : TypeId × Value → H) :
    ReturnsInHanded {} Try.checked os 7 .any (Rows.fnAcceptedSpec.pre6 enc Try.prog Try.f7 Rows.fnAcceptedRow.domain false) (Rows.fnAcceptedSpec.post enc Try.prog Try.f7 false true false false) := by
  refine returnsInHanded_of_change (C := Try.checked) own_knob started (by kernel_rfl) Try.func7
    (ChangeSpec.witness6 (enc := enc) (C := Try.checked) false ⟨#[], #[.slice none 0 0], []⟩ 8 (by kernel_rfl) (by kernel_rfl) (by kernel_rfl) (by kernel_rfl)) ?_
  intro W base args ds gs before hval0 hW hcnd _
  have hval : ∀ (j : Nat) t v, Try.f7.params[j]? = some t → args[j]? = some v → Value.okWide Try.prog W .any base t v := hval0
  have hW' := hW
  obtain ⟨p, q, hA0, hV, rfl, hfz, hnd⟩ := hW
  have hA : DataW.TrodAll enc Try.prog W 0 (fun _ => true) true Try.f7.params.toList args.toList ds p := hA0
  rw [Try.params7] at hA hval
  obtain ⟨v0, vs0, d0, ds0, p0, q0, hargs, rfl, rfl, h0, r0⟩ := trodAll_cons hA
  obtain ⟨rfl, rfl, rfl⟩ := trodAll_nil r0
  obtain rfl : args = #[v0] := by cases args; simp_all
  obtain ⟨rfl, rfl⟩ := trodVars_none hV
  have k0 := h0
  have lt0 : ∀ x ∈ p0, x.block < W.heap.size := by obtain ⟨m, hm⟩ := k0; exact DataW.trod_lt m _ _ _ hm
  obtain ⟨l0, sl0, wf0⟩ := sl_of_bytes Try.underlying22 Try.underlying5 (by kernel_rfl) (hval 0 22 v0 rfl rfl) h0
  refine (law_FnAccepted W v0 l0 sl0 wf0).mono fun e W' ⟨he, bel⟩ => ?_
  subst he
  exact ⟨_, rfl, _, _, _, [], _, [], hW', trodAll_mk1 (shut_bool Try.underlying4 _), (trodAll_cons_mk (Below.trod laid_out (by kernel_rfl) (of_decide_eq_true (by kernel_rfl)) k0 bel lt0) trodAll_mk0), rfl, bel.frame _, fun h => by cases h⟩

theorem FnAccepted_closed : joinedFacts Try.pinned.checked.prog 7 Try.f7 Rows.fnAcceptedSpec Rows.fnAcceptedRow = true := by
  unfold joinedFacts; rw [seat_enter, seat_lifts, seat_make]; kernel_rfl

theorem FnAccepted_named : Try.pinned.checked.prog.funcNamed Rows.fnAcceptedRow.func = some 7 := by kernel_rfl

theorem FnAccepted_holds : Rows.FnAcceptedSaid :=
  OpenClaim.holds_of_wide 7 Try.f7 rfl rfl rfl rfl rfl rfl rfl ⟨rfl, rfl, rfl, rfl, rfl⟩ rfl rfl rfl rfl rfl FnAccepted_named Try.func7 FnAccepted_closed
    (of_decide_eq_true (by kernel_rfl)) (by unfold Func.isWrapper; first | (rw [if_pos (by decide +kernel)]; kernel_rfl) | (rw [if_neg (by decide +kernel)]; exact ⟨rfl, rfl⟩))
    (fun os started H enc _ => FnAccepted_lifted os started H enc)
#print axioms FnAccepted_holds

end Go.Proofs.Ytlgcehdklpbknaa
