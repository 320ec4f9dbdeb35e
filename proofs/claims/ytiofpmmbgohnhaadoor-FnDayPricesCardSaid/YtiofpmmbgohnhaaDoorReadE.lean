/- Money read from a text: the reference's ReadCents where the text is no money; the whole contracts of both. No condition but that the library's table, its two errors and its search variable lie as they are laid. -/
import Derived.Test.YtiofpmmbgohnhaaDoorReadD
namespace Go.Proofs.YtiofpmmbgohnhaaDoor
open Go Go.RowKit Go.ChangeShapes Go.WideShapes
set_option linter.unusedSimpArgs false
set_option linter.unusedVariables false
noncomputable def rcV (s : ByteArray) : Int := (readC s).getD 0
noncomputable def rcB (s : ByteArray) : Bool := (readC s).isSome
theorem rc_eq (s : ByteArray) : (.tuple #[.int .i64 (rcV s), .bool (rcB s)] : Value) = rcTuple s := rfl
theorem numS_lt {l : List UInt8} {n : Int} (h : numS l = some n) (hl : l.length ≤ 6) : -1000000 < n ∧ n < 1000000 := by
  by_cases h1 : 1 ≤ (tailS l).length ∧ (tailS l).length ≤ 18
  case neg => rw [numS_short h1] at h; cases h
  rcases hv : valD 0 (tailS l) with _ | u
  · rw [numS_bad hv] at h; cases h
  have hu := valD_lt _ _ _ hv
  have h2 : (10 : Nat) ^ (tailS l).length ≤ 10 ^ 6 := Nat.pow_le_pow_right (by omega) (Nat.le_trans (tail_size l) hl)
  have h3 : (10 : Nat) ^ 6 = 1000000 := by decide
  have hu2 : u < 1000000 := by omega
  obtain ⟨m, hm⟩ : ∃ m : Int, m = if l.head? = some 45 then -(u : Int) else (u : Int) := ⟨_, rfl⟩
  rw [numS_val h1 hv hm] at h
  by_cases hi : Lib.itoa m = l
  case neg => rw [if_neg hi] at h; cases h
  rw [if_pos hi] at h
  injection h with h
  subst h
  by_cases hc : l.head? = some 45
  · rw [if_pos hc] at hm; omega
  · rw [if_neg hc] at hm; omega
theorem rd_form6 {l : List UInt8} (hl : l.length ≤ 6) : rdTuple l = .tuple #[.int .i64 0, .bool false] ∨ ∃ n : Int, -1000000 < n ∧ n < 1000000 ∧ rdTuple l = .tuple #[.int .i64 n, .bool true] := by
  rcases h : numS l with _ | n
  · exact .inl (rd_none h)
  · obtain ⟨h1, h2⟩ := numS_lt h hl
    exact .inr ⟨n, h1, h2, rd_some h⟩
theorem l26Text_any (w : World) (n : Int) (h : inB n (-10000000) 10000000 = true) :
    Calls Tryd.prog 89 #[.int .i64 n] w fun e w' => e = .returned (.string (moneyS n)) ∧ Below w.heap.size w w' := by
  have hb := inB_true h
  by_cases hn : n < 0
  · obtain ⟨c, rfl⟩ : ∃ c : Int, n = -c := ⟨-n, by omega⟩
    refine (l26Text_neg w c (by omega)).mono ?_
    rintro e w' ⟨rfl, hb⟩
    refine ⟨?_, hb⟩
    unfold moneyS
    rw [if_pos hn, Int.neg_neg]
  · refine (l26Text_pos w n (by omega)).mono ?_
    rintro e w' ⟨rfl, hb⟩
    refine ⟨?_, hb⟩
    unfold moneyS
    rw [if_neg hn]
set_option maxRecDepth 100000 in
set_option maxHeartbeats 8000000 in
theorem readC_spec_none_pos (w : World) (s : ByteArray) (hs : s.size ≤ 1048576) (HNO : Hid (∀ c : Int, -10000000 ≤ c ∧ c ≤ 10000000 → moneyS c ≠ s)) (h0 : 0 < s.size) (k0 : s.toList.isEmpty = false) (k45 : (((s[0]'h0).toNat : Int) == 45) = false) :
    Calls Tryd.prog 35 #[.string s] w fun e w' => e = .returned (.tuple #[.int .i64 0, .bool false]) ∧ Below w.heap.size w w' := by
  have hts : s.size = s.size := by rfl
  by_cases z4 : 4 ≤ s.size
  case neg =>
    have z4' : ((s.size : Nat) : Int) < 4 := by omega
    have z1' : 1 ≤ s.size := by omega
    clear z4 hts
    go_enter Tryd.func35, Tryd.ntmps35
    go_wp2_with fail
    go_ret2
    exact ⟨rfl, Below.refl _ _⟩
  by_cases z9 : s.size ≤ 9
  case neg =>
    have z9' : (9 : Int) < ((s.size : Nat) : Int) := by omega
    have z4' : 4 ≤ ((s.size : Nat) : Int) := by omega
    clear z9 z4 hts
    go_enter Tryd.func35, Tryd.ntmps35
    go_wp2_with fail
    go_ret2
    exact ⟨rfl, Below.refl _ _⟩
  rcases q46 : ((((s[s.size - 3]'(by omega)).toNat : Nat) : Int) != 46) with _ | _
  case true =>
    go_enter Tryd.func35, Tryd.ntmps35
    go_wp2_with fail
    go_ret2
    exact ⟨rfl, Below.refl _ _⟩
  go_enter Tryd.func35, Tryd.ntmps35
  go_wp2_with fail
  refine (digit_spec _ _).mono ?_
  rintro e wd ⟨rfl, hw⟩
  have hw := hw.symm
  subst hw
  rcases g2 : digitN (s[s.size - 2]'(by omega)).toNat with _ | _
  · go_wp2_with fail
    go_ret2
    exact ⟨rfl, Below.refl _ _⟩
  go_wp2_with fail
  refine (digit_spec _ _).mono ?_
  rintro e wd ⟨rfl, hw⟩
  have hw := hw.symm
  subst hw
  rcases g1 : digitN (s[s.size - 1]'(by omega)).toNat with _ | _
  · go_wp2_with fail
    go_ret2
    exact ⟨rfl, Below.refl _ _⟩
  go_wp2_with fail
  refine (number_spec _ _ (by rw [ByteArray.size_extract]; omega)).mono ?_
  rintro e w1 ⟨rfl, b1⟩
  have hl6 : (s.extract 0 (s.size - 3)).data.toList.length ≤ 6 := by
    rw [size_list, ByteArray.size_extract]
    omega
  rcases rd_form6 hl6 with hr | ⟨n, hn1, hn2, hr⟩
  · rw [hr]
    clear hr hl6
    go_wp2_with fail
    go_ret2
    exact ⟨rfl, b1⟩
  rw [hr]
  clear hr hl6
  by_cases hn0 : 0 ≤ n
  case neg =>
    have hn0' : n < 0 := by omega
    go_wp2_with fail
    go_ret2
    exact ⟨rfl, b1⟩
  have c2 : 48 ≤ (s[s.size - 2]'(by omega)).toNat ∧ (s[s.size - 2]'(by omega)).toNat ≤ 57 := by simp [digitN] at g2; exact g2
  have c1 : 48 ≤ (s[s.size - 1]'(by omega)).toNat ∧ (s[s.size - 1]'(by omega)).toNat ≤ 57 := by simp [digitN] at g1; exact g1
  obtain ⟨c2a, c2b⟩ := c2
  obtain ⟨c1a, c1b⟩ := c1
  go_wp2_with fail
  go_quiet (fail)
  have b2 := below_drewN b1 nq
  obtain ⟨x, hx⟩ : ∃ x : Int, x = (100 : Int) * n + (10 : Int) * (((s[s.size - 2]'(by omega)).toNat : Int) - (48 : Int)) + (((s[s.size - 1]'(by omega)).toNat : Int) - (48 : Int)) := ⟨_, rfl⟩
  have hxb : 0 ≤ x ∧ x ≤ 200000000 := by omega
  rw [← hx]
  clear hx c2a c2b c1a c1b g1 g2
  obtain ⟨hx0, hx1⟩ := hxb
  go_wp2_with fail
  refine (money_spec _ _).mono ?_
  rintro e w2 ⟨rfl, hw⟩
  have hw := hw.symm
  subst hw
  rcases hin : inB (x) (-10000000) 10000000 with _ | _
  · go_wp2_with fail
    go_ret2
    exact ⟨rfl, b2⟩
  have kk : ((moneyS (x)).toList == s.toList) = false := beq_eq_false_iff_ne.2 (fun e => HNO.out _ (inB_true hin) (bytes_of_toList e))
  have HT := hd (fun w : World => l26Text_any w _ hin)
  go_wp2_with fail
  refine (HT.out _).mono ?_
  rintro e w3 ⟨rfl, hb3⟩
  have b3 := below_step b2 hb3
  go_wp2_with fail
  go_ret2
  exact ⟨rfl, b3⟩
set_option maxRecDepth 100000 in
set_option maxHeartbeats 8000000 in
theorem readC_spec_none_neg (w : World) (s : ByteArray) (hs : s.size ≤ 1048576) (HNO : Hid (∀ c : Int, -10000000 ≤ c ∧ c ≤ 10000000 → moneyS c ≠ s)) (h0 : 0 < s.size) (k0 : s.toList.isEmpty = false) (k45 : (((s[0]'h0).toNat : Int) == 45) = true) :
    Calls Tryd.prog 35 #[.string s] w fun e w' => e = .returned (.tuple #[.int .i64 0, .bool false]) ∧ Below w.heap.size w w' := by
  have hts : (s.extract 1 s.size).size = (s.size - 1) := by rw [ByteArray.size_extract]; omega
  by_cases z4 : 4 ≤ (s.size - 1)
  case neg =>
    have z4' : (((s.size - 1) : Nat) : Int) < 4 := by omega
    have z1' : 1 ≤ s.size := by omega
    clear z4 hts
    go_enter Tryd.func35, Tryd.ntmps35
    go_wp2_with fail
    go_ret2
    exact ⟨rfl, Below.refl _ _⟩
  by_cases z9 : (s.size - 1) ≤ 9
  case neg =>
    have z9' : (9 : Int) < (((s.size - 1) : Nat) : Int) := by omega
    have z4' : 4 ≤ (((s.size - 1) : Nat) : Int) := by omega
    clear z9 z4 hts
    go_enter Tryd.func35, Tryd.ntmps35
    go_wp2_with fail
    go_ret2
    exact ⟨rfl, Below.refl _ _⟩
  rcases q46 : (((((s.extract 1 s.size)[(s.size - 1) - 3]'(by omega)).toNat : Nat) : Int) != 46) with _ | _
  case true =>
    go_enter Tryd.func35, Tryd.ntmps35
    go_wp2_with fail
    go_ret2
    exact ⟨rfl, Below.refl _ _⟩
  go_enter Tryd.func35, Tryd.ntmps35
  go_wp2_with fail
  refine (digit_spec _ _).mono ?_
  rintro e wd ⟨rfl, hw⟩
  have hw := hw.symm
  subst hw
  rcases g2 : digitN ((s.extract 1 s.size)[(s.size - 1) - 2]'(by omega)).toNat with _ | _
  · go_wp2_with fail
    go_ret2
    exact ⟨rfl, Below.refl _ _⟩
  go_wp2_with fail
  refine (digit_spec _ _).mono ?_
  rintro e wd ⟨rfl, hw⟩
  have hw := hw.symm
  subst hw
  rcases g1 : digitN ((s.extract 1 s.size)[(s.size - 1) - 1]'(by omega)).toNat with _ | _
  · go_wp2_with fail
    go_ret2
    exact ⟨rfl, Below.refl _ _⟩
  go_wp2_with fail
  refine (number_spec _ _ (by rw [ByteArray.size_extract]; omega)).mono ?_
  rintro e w1 ⟨rfl, b1⟩
  have hl6 : ((s.extract 1 s.size).extract 0 ((s.size - 1) - 3)).data.toList.length ≤ 6 := by
    rw [size_list, ByteArray.size_extract]
    omega
  rcases rd_form6 hl6 with hr | ⟨n, hn1, hn2, hr⟩
  · rw [hr]
    clear hr hl6
    go_wp2_with fail
    go_ret2
    exact ⟨rfl, b1⟩
  rw [hr]
  clear hr hl6
  by_cases hn0 : 0 ≤ n
  case neg =>
    have hn0' : n < 0 := by omega
    go_wp2_with fail
    go_ret2
    exact ⟨rfl, b1⟩
  have c2 : 48 ≤ ((s.extract 1 s.size)[(s.size - 1) - 2]'(by omega)).toNat ∧ ((s.extract 1 s.size)[(s.size - 1) - 2]'(by omega)).toNat ≤ 57 := by simp [digitN] at g2; exact g2
  have c1 : 48 ≤ ((s.extract 1 s.size)[(s.size - 1) - 1]'(by omega)).toNat ∧ ((s.extract 1 s.size)[(s.size - 1) - 1]'(by omega)).toNat ≤ 57 := by simp [digitN] at g1; exact g1
  obtain ⟨c2a, c2b⟩ := c2
  obtain ⟨c1a, c1b⟩ := c1
  go_wp2_with fail
  go_quiet (fail)
  have b2 := below_drewN b1 nq
  obtain ⟨x, hx⟩ : ∃ x : Int, x = (100 : Int) * n + (10 : Int) * ((((s.extract 1 s.size)[(s.size - 1) - 2]'(by omega)).toNat : Int) - (48 : Int)) + ((((s.extract 1 s.size)[(s.size - 1) - 1]'(by omega)).toNat : Int) - (48 : Int)) := ⟨_, rfl⟩
  have hxb : 0 ≤ x ∧ x ≤ 200000000 := by omega
  rw [← hx]
  clear hx c2a c2b c1a c1b g1 g2
  obtain ⟨hx0, hx1⟩ := hxb
  go_wp2_with fail
  refine (money_spec _ _).mono ?_
  rintro e w2 ⟨rfl, hw⟩
  have hw := hw.symm
  subst hw
  rcases hin : inB (-x) (-10000000) 10000000 with _ | _
  · go_wp2_with fail
    go_ret2
    exact ⟨rfl, b2⟩
  have kk : ((moneyS (-x)).toList == s.toList) = false := beq_eq_false_iff_ne.2 (fun e => HNO.out _ (inB_true hin) (bytes_of_toList e))
  have HT := hd (fun w : World => l26Text_any w _ hin)
  go_wp2_with fail
  refine (HT.out _).mono ?_
  rintro e w3 ⟨rfl, hb3⟩
  have b3 := below_step b2 hb3
  go_wp2_with fail
  go_ret2
  exact ⟨rfl, b3⟩
set_option maxRecDepth 100000 in
theorem readC_spec_none_empty (w : World) :
    Calls Tryd.prog 35 #[.string ⟨#[]⟩] w fun e w' => e = .returned (.tuple #[.int .i64 0, .bool false]) ∧ Below w.heap.size w w' := by
  go_enter Tryd.func35, Tryd.ntmps35
  go_wp2_with fail
  go_ret2
  exact ⟨rfl, Below.refl _ _⟩
theorem empty_or (s : ByteArray) : s = ⟨#[]⟩ ∨ ∃ h0 : 0 < s.size, s.toList.isEmpty = false ∧ s.data.toList.head? = some (s[0]'h0) := by
  by_cases h0 : 0 < s.size
  case neg =>
    left
    obtain ⟨⟨l⟩⟩ := s
    have hl : l.length = 0 := by
      have : ¬ 0 < l.length := h0
      omega
    rw [List.eq_nil_of_length_eq_zero hl]
  case pos =>
    refine .inr ⟨h0, ?_, ?_⟩
    · rcases he : s.toList.isEmpty with _ | _
      · rfl
      · have e2 : s.toList = (⟨#[]⟩ : ByteArray).toList := by rw [List.isEmpty_iff.1 he]; first | simp | decide
        have e3 := bytes_of_toList e2
        rw [e3] at h0
        exact absurd h0 (by decide)
    · rw [List.head?_eq_getElem?, List.getElem?_eq_getElem (by rw [size_list]; exact h0), get_list s 0 h0]
theorem k45_of {s : ByteArray} {h0 : 0 < s.size} (hh : s.data.toList.head? = some (s[0]'h0)) : (s.data.toList.head? = some 45 ∧ (((s[0]'h0).toNat : Int) == 45) = true) ∨ (¬ s.data.toList.head? = some 45 ∧ (((s[0]'h0).toNat : Int) == 45) = false) := by
  by_cases hm : s[0]'h0 = 45
  · exact .inl ⟨by rw [hh, hm], by rw [hm]; rfl⟩
  · refine .inr ⟨by rw [hh]; intro e; injection e with e; exact hm e, beq_eq_false_iff_ne.2 (fun e => hm (UInt8.toNat_inj.1 ?_))⟩
    show (s[0]'h0).toNat = 45
    omega
theorem readC_spec (w : World) (s : ByteArray) (hs : s.size ≤ 1048576) :
    Calls Tryd.prog 35 #[.string s] w fun e w' => e = .returned (.tuple #[.int .i64 (rcV s), .bool (rcB s)]) ∧ Below w.heap.size w w' := by
  rw [rc_eq]
  rcases readC_cases s with ⟨c, hc, hm, hr⟩ | ⟨hno, hr⟩
  · rw [hr]
    obtain ⟨d, hd0, hd1, ht, hcase⟩ := moneyS_parts hc
    have hin : inB c (-10000000) 10000000 = true := decide_eq_true hc
    rcases empty_or s with rfl | ⟨h0, k0, hh⟩
    · exfalso
      rw [hm] at ht
      rw [centsS_list hd0] at ht
      simp [tailS] at ht
    rw [hm] at ht hcase
    rcases hcase with ⟨hcn, rfl, hl⟩ | ⟨hcn, rfl, he, hh2⟩
    · have hh45 : s.data.toList.head? = some 45 := by rw [hl]; rfl
      rcases k45_of hh with ⟨-, k45⟩ | ⟨hne, -⟩
      · obtain ⟨d, rfl⟩ : ∃ d : Int, c = -d := ⟨-c, by omega⟩
        rw [Int.neg_neg] at ht
        exact readC_spec_neg w s hs d (by omega) (hd hm) hin (by omega) (by rw [tail_extract hh45, ht]) h0 k0 k45
      · exact absurd hh45 hne
    · rcases k45_of hh with ⟨h45, -⟩ | ⟨-, k45⟩
      · exact absurd h45 hh2
      · exact readC_spec_pos w s hs d (by omega) (hd hm) hin trivial (by rw [he]) h0 k0 k45
  · rw [hr]
    rcases empty_or s with rfl | ⟨h0, k0, hh⟩
    · exact readC_spec_none_empty w
    rcases k45_of hh with ⟨-, k45⟩ | ⟨-, k45⟩
    · exact readC_spec_none_neg w s hs (hd hno) h0 k0 k45
    · exact readC_spec_none_pos w s hs (hd hno) h0 k0 k45
theorem readC_impl (w : World) (s : ByteArray) (hs : s.size ≤ 1048576) (hsh : Shop w) :
    Calls Tryd.prog 33 #[.string s] w fun e w' => e = .returned (.tuple #[.int .i64 (rcV s), .bool (rcB s)]) ∧ Below w.heap.size w w' := by
  rw [rc_eq]
  rcases readC_cases s with ⟨c, hc, hm, hr⟩ | ⟨hno, hr⟩
  · rw [hr]
    obtain ⟨d, hd0, hd1, ht, hcase⟩ := moneyS_parts hc
    have hin : inB c (-10000000) 10000000 = true := decide_eq_true hc
    have HC := hd (show centsR c = s by unfold centsR; rw [if_pos hin, hm])
    rw [hm] at ht hcase
    rcases hcase with ⟨hcn, rfl, hl⟩ | ⟨hcn, rfl, he, hh2⟩
    · obtain ⟨d, rfl⟩ : ∃ d : Int, c = -d := ⟨-c, by omega⟩
      rw [Int.neg_neg] at ht hl
      refine readC_impl_neg w s (centsS d) hs hsh d (by omega) HC rfl (by rw [ht, list_mk]) (hd ?_)
      rw [hl]
      simp [Lib.hasPrefix, List.isPrefixOf]
    · refine readC_impl_pos w s s hs hsh d (by omega) HC (by rw [he]) (by unfold tailS; rw [if_neg hh2, list_mk]) (hd ?_)
      rcases hl : s.data.toList with _ | ⟨y, r⟩
      · rfl
      · rw [hl] at hh2
        have : ¬ (45 : UInt8) = y := fun e => hh2 (by rw [e]; rfl)
        simp [Lib.hasPrefix, List.isPrefixOf, this]
  · rw [hr]
    exact readC_impl_none w s hs hsh hno
end Go.Proofs.YtiofpmmbgohnhaaDoor
