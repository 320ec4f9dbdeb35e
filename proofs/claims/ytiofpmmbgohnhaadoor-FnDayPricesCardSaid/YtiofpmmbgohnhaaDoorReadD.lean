/- Money read from a text: the reference's ReadCents. No condition. -/
import Derived.Test.YtiofpmmbgohnhaaDoorReadC
namespace Go.Proofs.YtiofpmmbgohnhaaDoor
open Go Go.RowKit Go.ChangeShapes Go.WideShapes
set_option linter.unusedSimpArgs false
set_option linter.unusedVariables false
/-- the parts of a text of money, counted from its end -/
theorem money_end {t : ByteArray} {d : Int} (h : 0 ≤ d ∧ d ≤ 10000000) (ht : t.data.toList = (centsS d).data.toList) :
    4 ≤ t.size ∧ t.size ≤ 9 ∧ (∀ k (hk : k < t.size), k + 3 = t.size → (t[k]'hk).toNat = 46) ∧ (∀ k (hk : k < t.size), k + 2 = t.size → (t[k]'hk).toNat = 48 + (d / 10 % 10).toNat) ∧ (∀ k (hk : k < t.size), k + 1 = t.size → (t[k]'hk).toNat = 48 + (d % 10).toNat) ∧
      (∀ k, k + 3 = t.size → rdTuple (t.extract 0 k).data.toList = .tuple #[.int .i64 (d / 100), .bool true]) := by
  rw [centsS_list h.1] at ht
  have hl := itoa_short h
  have hz : t.size = (Lib.itoa (d / 100)).length + 3 := by rw [size_of_list ht, List.length_append]; rfl
  obtain ⟨m, hm⟩ : ∃ m : Nat, d / 100 = (m : Int) := ⟨(d / 100).toNat, by omega⟩
  refine ⟨by omega, by omega, ?_, ?_, ?_, ?_⟩
  · intro k hk e
    rw [get_of_list ht]
    obtain rfl : k = (Lib.itoa (d / 100)).length := by omega
    simp
  · intro k hk e
    rw [get_of_list ht]
    obtain rfl : k = (Lib.itoa (d / 100)).length + 1 := by omega
    rw [List.getElem_append_right (by omega)]
    have e2 : (Lib.itoa (d / 100)).length + 1 - (Lib.itoa (d / 100)).length = 1 := by omega
    simp only [e2]
    exact digit_nat (by omega)
  · intro k hk e
    rw [get_of_list ht]
    obtain rfl : k = (Lib.itoa (d / 100)).length + 2 := by omega
    rw [List.getElem_append_right (by omega)]
    have e2 : (Lib.itoa (d / 100)).length + 2 - (Lib.itoa (d / 100)).length = 2 := by omega
    simp only [e2]
    exact digit_nat (by omega)
  · intro k e
    obtain rfl : k = (Lib.itoa (d / 100)).length := by omega
    refine rd_some ?_
    rw [Lib.extract_data, ht, List.drop_zero, Nat.sub_zero, List.take_left' rfl, hm]
    exact numS_nat (by omega)
theorem tail_extract {s : ByteArray} (h : s.data.toList.head? = some 45) : (s.extract 1 s.size).data.toList = tailS s.data.toList := by
  unfold tailS
  rw [if_pos h, Lib.extract_data, List.drop_one]
  exact List.take_of_length_le (by rw [List.length_tail, size_list]; exact Nat.le_refl _)
set_option maxRecDepth 100000 in
set_option maxHeartbeats 4000000 in
theorem readC_spec_pos (w : World) (s : ByteArray) (hs : s.size ≤ 1048576) (d : Int) (h : 0 ≤ d ∧ d ≤ 10000000) (HC : Hid (moneyS (d) = s)) (hin : inB (d) (-10000000) 10000000 = true) (hd1 : True) (ht : s.data.toList = (centsS d).data.toList) (h0 : 0 < s.size) (k0 : s.toList.isEmpty = false) (k45 : (((s[0]'h0).toNat : Int) == 45) = false) :
    Calls Tryd.prog 35 #[.string s] w fun e w' => e = .returned (.tuple #[.int .i64 (d), .bool true]) ∧ Below w.heap.size w w' := by
  obtain ⟨z4, z9, x3, x2, x1, xr⟩ := money_end h ht
  have hts : s.size = s.size := by rfl
  have y3 := x3 (s.size - 3) (by omega) (by omega)
  have y2 := x2 (s.size - 2) (by omega) (by omega)
  have y1 := x1 (s.size - 1) (by omega) (by omega)
  have HR := hd (xr (s.size - 3) (by omega))
  have z4' : 4 ≤ s.size := by omega
  have z9' : s.size ≤ 9 := by omega
  have q46 : ((((s[s.size - 3]'(by omega)).toNat : Nat) : Int) != 46) = false := by rw [y3]; rfl
  have g2 : digitN (s[s.size - 2]'(by omega)).toNat = true := by
    unfold digitN
    rw [y2]
    simp
    omega
  have g1 : digitN (s[s.size - 1]'(by omega)).toNat = true := by
    unfold digitN
    rw [y1]
    simp
    omega
  have HV := hd (show (100 : Int) * (d / (100 : Int)) + (10 : Int) * (((s[s.size - 2]'(by omega)).toNat : Int) - (48 : Int)) + (((s[s.size - 1]'(by omega)).toNat : Int) - (48 : Int)) = d by omega)
  have b2 : 48 ≤ (s[s.size - 2]'(by omega)).toNat ∧ (s[s.size - 2]'(by omega)).toNat ≤ 57 := by omega
  have b1 : 48 ≤ (s[s.size - 1]'(by omega)).toNat ∧ (s[s.size - 1]'(by omega)).toNat ≤ 57 := by omega
  obtain ⟨b2a, b2b⟩ := b2
  obtain ⟨b1a, b1b⟩ := b1
  have hq : 0 ≤ d / 100 ∧ d / 100 ≤ 10000000 := by omega
  obtain ⟨hqa, hqb⟩ := hq
  obtain ⟨hda, hdb⟩ := h
  have hez : (s.extract 0 (s.size - 3)).size ≤ 1048576 := by rw [ByteArray.size_extract]; omega
  have HT := hd (fun w : World => l26Text_pos w d ⟨hda, hdb⟩)
  have HE := hd (show centsS d = s by rw [← HC.out]; unfold moneyS; rw [if_neg (by omega)])
  have ks : (s.toList == s.toList) = true := by simp
  have hwz : (s.size : Nat) ≤ 1048576 := by omega
  clear x3 x2 x1 xr y3 y2 y1 ht hd1
  go_enter Tryd.func35, Tryd.ntmps35
  go_wp2_with fail
  refine (digit_spec _ _).mono ?_
  rintro e wd ⟨rfl, hw⟩
  have hw := hw.symm
  subst hw
  rw [g2]
  go_wp2_with fail
  refine (digit_spec _ _).mono ?_
  rintro e wd ⟨rfl, hw⟩
  have hw := hw.symm
  subst hw
  rw [g1]
  go_wp2_with fail
  refine (number_spec _ _ hez).mono ?_
  rintro e w1 ⟨rfl, b1⟩
  rw [HR.out]
  go_wp2_with fail
  go_quiet (fail)
  have b2 := below_drewN b1 nq
  rw [HV.out]
  go_wp2_with fail
  refine (money_spec _ _).mono ?_
  rintro e w2 ⟨rfl, hw⟩
  have hw := hw.symm
  subst hw
  rw [hin]
  go_wp2_with fail
  refine (HT.out _).mono ?_
  rintro e w3 ⟨rfl, hb3⟩
  have b3 := below_step b2 hb3
  rw [HE.out]
  go_wp2_with fail
  go_ret2
  exact ⟨rfl, b3⟩
set_option maxRecDepth 100000 in
set_option maxHeartbeats 4000000 in
theorem readC_spec_neg (w : World) (s : ByteArray) (hs : s.size ≤ 1048576) (d : Int) (h : 0 ≤ d ∧ d ≤ 10000000) (HC : Hid (moneyS (-d) = s)) (hin : inB (-d) (-10000000) 10000000 = true) (hd1 : 1 ≤ d) (ht : (s.extract 1 s.size).data.toList = (centsS d).data.toList) (h0 : 0 < s.size) (k0 : s.toList.isEmpty = false) (k45 : (((s[0]'h0).toNat : Int) == 45) = true) :
    Calls Tryd.prog 35 #[.string s] w fun e w' => e = .returned (.tuple #[.int .i64 (-d), .bool true]) ∧ Below w.heap.size w w' := by
  obtain ⟨z4, z9, x3, x2, x1, xr⟩ := money_end h ht
  have hts : (s.extract 1 s.size).size = (s.size - 1) := by rw [ByteArray.size_extract]; omega
  have y3 := x3 ((s.size - 1) - 3) (by omega) (by omega)
  have y2 := x2 ((s.size - 1) - 2) (by omega) (by omega)
  have y1 := x1 ((s.size - 1) - 1) (by omega) (by omega)
  have HR := hd (xr ((s.size - 1) - 3) (by omega))
  have z4' : 4 ≤ (s.size - 1) := by omega
  have z9' : (s.size - 1) ≤ 9 := by omega
  have q46 : (((((s.extract 1 s.size)[(s.size - 1) - 3]'(by omega)).toNat : Nat) : Int) != 46) = false := by rw [y3]; rfl
  have g2 : digitN ((s.extract 1 s.size)[(s.size - 1) - 2]'(by omega)).toNat = true := by
    unfold digitN
    rw [y2]
    simp
    omega
  have g1 : digitN ((s.extract 1 s.size)[(s.size - 1) - 1]'(by omega)).toNat = true := by
    unfold digitN
    rw [y1]
    simp
    omega
  have HV := hd (show (100 : Int) * (d / (100 : Int)) + (10 : Int) * ((((s.extract 1 s.size)[(s.size - 1) - 2]'(by omega)).toNat : Int) - (48 : Int)) + ((((s.extract 1 s.size)[(s.size - 1) - 1]'(by omega)).toNat : Int) - (48 : Int)) = d by omega)
  have b2 : 48 ≤ ((s.extract 1 s.size)[(s.size - 1) - 2]'(by omega)).toNat ∧ ((s.extract 1 s.size)[(s.size - 1) - 2]'(by omega)).toNat ≤ 57 := by omega
  have b1 : 48 ≤ ((s.extract 1 s.size)[(s.size - 1) - 1]'(by omega)).toNat ∧ ((s.extract 1 s.size)[(s.size - 1) - 1]'(by omega)).toNat ≤ 57 := by omega
  obtain ⟨b2a, b2b⟩ := b2
  obtain ⟨b1a, b1b⟩ := b1
  have hq : 0 ≤ d / 100 ∧ d / 100 ≤ 10000000 := by omega
  obtain ⟨hqa, hqb⟩ := hq
  obtain ⟨hda, hdb⟩ := h
  have hez : ((s.extract 1 s.size).extract 0 ((s.size - 1) - 3)).size ≤ 1048576 := by rw [ByteArray.size_extract]; omega
  have HT := hd (fun w : World => l26Text_neg w d ⟨hd1, hdb⟩)
  have HE := hd (show (⟨#[45]⟩ : ByteArray) ++ centsS d = s by rw [← HC.out]; unfold moneyS; rw [if_pos (by omega), Int.neg_neg])
  have ks : (s.toList == s.toList) = true := by simp
  have hwz : ((s.size - 1) : Nat) ≤ 1048576 := by omega
  clear x3 x2 x1 xr y3 y2 y1 ht hd1
  go_enter Tryd.func35, Tryd.ntmps35
  go_wp2_with fail
  refine (digit_spec _ _).mono ?_
  rintro e wd ⟨rfl, hw⟩
  have hw := hw.symm
  subst hw
  rw [g2]
  go_wp2_with fail
  refine (digit_spec _ _).mono ?_
  rintro e wd ⟨rfl, hw⟩
  have hw := hw.symm
  subst hw
  rw [g1]
  go_wp2_with fail
  refine (number_spec _ _ hez).mono ?_
  rintro e w1 ⟨rfl, b1⟩
  rw [HR.out]
  go_wp2_with fail
  go_quiet (fail)
  have b2 := below_drewN b1 nq
  rw [HV.out]
  go_wp2_with fail
  refine (money_spec _ _).mono ?_
  rintro e w2 ⟨rfl, hw⟩
  have hw := hw.symm
  subst hw
  rw [hin]
  go_wp2_with fail
  refine (HT.out _).mono ?_
  rintro e w3 ⟨rfl, hb3⟩
  have b3 := below_step b2 hb3
  rw [HE.out]
  go_wp2_with fail
  go_ret2
  exact ⟨rfl, b3⟩
end Go.Proofs.YtiofpmmbgohnhaaDoor
