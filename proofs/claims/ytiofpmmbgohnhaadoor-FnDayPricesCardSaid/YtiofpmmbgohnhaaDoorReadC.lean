/- Money read from a text: the program's ReadCents and the reference's. No condition but that the library's table, its two errors and its search variable lie as they are laid. -/
import Derived.Test.YtiofpmmbgohnhaaDoorMoney
import Derived.Test.YtiofpmmbgohnhaaDoorDoor
import Derived.BigQuiet
namespace Go.Proofs.YtiofpmmbgohnhaaDoor
open Go Go.RowKit Go.ChangeShapes Go.WideShapes
set_option linter.unusedSimpArgs false
set_option linter.unusedVariables false
theorem list_mk (s : ByteArray) : (⟨s.data.toList.toArray⟩ : ByteArray) = s := by simp
theorem bytes_ext {a b : ByteArray} (h : a.data.toList = b.data.toList) : a = b := by
  rw [← list_mk a, h, list_mk b]
theorem mk_list (l : List UInt8) : (⟨l.toArray⟩ : ByteArray).data.toList = l := by simp
theorem size_of_list {s : ByteArray} {l : List UInt8} (h : s.data.toList = l) : s.size = l.length := by rw [← h, size_list]
theorem get_of_list {s : ByteArray} {l : List UInt8} (h : s.data.toList = l) (k : Nat) (hk : k < s.size) : s[k]'hk = l[k]'(by rw [← size_of_list h]; exact hk) := by
  subst h
  exact (get_list s k hk).symm
/-- the parts of a text of money, behind its sign -/
theorem money_cut {t : ByteArray} {d : Int} (h : 0 ≤ d ∧ d ≤ 10000000) (ht : t.data.toList = (centsS d).data.toList) :
    ∃ (a part : ByteArray) (h0 : 0 < part.size) (h1 : 1 < part.size), part.size = 2 ∧ (part[0]'h0).toNat = 48 + (d / 10 % 10).toNat ∧ (part[1]'h1).toNat = 48 + (d % 10).toNat ∧
      (⟨(Lib.cut t.data.toList (⟨#[46]⟩ : ByteArray).data.toList).1.toArray⟩ : ByteArray) = a ∧ (⟨(Lib.cut t.data.toList (⟨#[46]⟩ : ByteArray).data.toList).2.1.toArray⟩ : ByteArray) = part ∧ (Lib.cut t.data.toList (⟨#[46]⟩ : ByteArray).data.toList).2.2 = true ∧
      rdTuple a.data.toList = .tuple #[.int .i64 (d / 100), .bool true] ∧ a.size ≤ 6 := by
  have e0 : (⟨#[46]⟩ : ByteArray).data.toList = [46] := rfl
  obtain ⟨m, hm⟩ : ∃ m : Nat, d / 100 = (m : Int) := ⟨(d / 100).toNat, by omega⟩
  have hc : Lib.cut t.data.toList [46] = (Lib.itoa (d / 100), [UInt8.ofNat (48 + (d / 10 % 10).toNat), UInt8.ofNat (48 + (d % 10).toNat)], true) := by
    rw [ht, centsS_list h.1]
    exact cut_at 46 _ _ (by rw [hm, Lib.itoa_nonneg]; exact dot_not_mem m)
  rw [e0, hc]
  refine ⟨⟨(Lib.itoa (d / 100)).toArray⟩, ⟨#[UInt8.ofNat (48 + (d / 10 % 10).toNat), UInt8.ofNat (48 + (d % 10).toNat)]⟩, Nat.zero_lt_succ 1, Nat.lt_succ_self 1, rfl, ?_, ?_, rfl, rfl, rfl, ?_, ?_⟩
  · exact digit_nat (by omega)
  · exact digit_nat (by omega)
  · rw [mk_list]
    refine rd_some ?_
    rw [hm]
    exact numS_nat (by omega)
  · rw [size_of_list (mk_list _)]
    exact (itoa_short h).2
set_option maxRecDepth 100000 in
set_option maxHeartbeats 2000000 in
theorem readC_impl_pos (w : World) (s t : ByteArray) (hs : s.size ≤ 1048576) (hsh : Shop w) (d : Int) (h : 0 ≤ d ∧ d ≤ 10000000) (HC : Hid (centsR (d) = s)) (ht : t.data.toList = (centsS d).data.toList) (hst : (⟨(tailS s.data.toList).toArray⟩ : ByteArray) = t) (HH : Hid (Lib.hasPrefix s.data.toList [45] = false)) :
    Calls Tryd.prog 33 #[.string s] w fun e w' => e = .returned (.tuple #[.int .i64 (d), .bool true]) ∧ Below w.heap.size w w' := by
  obtain ⟨a, part, h0, h1, hz, x0, x1, c1, c2, c3, hr, hza⟩ := money_cut h ht
  have htz : t.size ≤ 1048576 := by
    rw [size_of_list ht, centsS_list h.1, List.length_append]
    have := (itoa_short h).2
    simp
    omega
  have HT := hd (show (⟨(Lib.trimPrefix s.data.toList (⟨#[45]⟩ : ByteArray).data.toList).toArray⟩ : ByteArray) = t by
    rw [show (⟨#[45]⟩ : ByteArray).data.toList = [45] from rfl, trim_eq]; exact hst)
  have HP := hd (show Lib.hasPrefix s.data.toList (⟨#[45]⟩ : ByteArray).data.toList = false by
    rw [show (⟨#[45]⟩ : ByteArray).data.toList = [45] from rfl]; exact HH.out)
  have C1 := hd c1
  have C2 := hd c2
  have C3 := hd c3
  have HR := hd hr
  have HV := hd (show (100 : Int) * (d / (100 : Int)) + (10 : Int) * (((part[0]'h0).toNat : Int) - (48 : Int)) + (((part[1]'h1).toNat : Int) - (48 : Int)) = d by omega)
  have y0 : 48 ≤ (part[0]'h0).toNat ∧ (part[0]'h0).toNat ≤ 57 := by omega
  have y1 : 48 ≤ (part[1]'h1).toNat ∧ (part[1]'h1).toNat ≤ 57 := by omega
  obtain ⟨y0a, y0b⟩ := y0
  obtain ⟨y1a, y1b⟩ := y1
  have hq : 0 ≤ d / 100 ∧ d / 100 ≤ 10000000 := by omega
  obtain ⟨hd0, hd1⟩ := h
  have hin : inB (d / 100) 0 10000000 = true := decide_eq_true hq
  obtain ⟨m, hm, HTB, HEB⟩ : ∃ m, w.cell? ⟨0, 0, none⟩ = some (.int .i64 m) ∧ Hid (Tab w) ∧ Hid (Errs w) := by
    obtain ⟨m, hm⟩ := hsh.2.2
    exact ⟨m, hm, hd hsh.1, hd hsh.2.1⟩
  have HM := hd hm
  have ks : (s.toList == s.toList) = true := by simp
  clear hsh c1 c2 c3 hr x0 x1 ht hm HH hst
  go_enter Tryd.func33, Tryd.ntmps33
  go_wp2_with fail
  refine (Tryd.strings_TrimPrefix _ _ _).mono ?_
  rintro e w1 ⟨rfl, hw⟩
  have hw := hw.symm
  subst hw
  rw [HT.out]
  go_wp2_with fail
  refine (Tryd.strings_Cut _ _ _ _ (by omega) HM.out).mono ?_
  rintro e w1 ⟨rfl, n1, hw⟩
  have b1 : Below w.heap.size w w1 := by rw [hw]; exact below_drewN (Below.refl _ _) n1
  clear hw
  rw [C1.out, C2.out, C3.out]
  go_wp2_with fail
  refine (readDec_impl _ _ (by omega) (HTB.out.below b1) (HEB.out.below b1)).mono ?_
  rintro e w2 ⟨rfl, hb2⟩
  have b2 := below_step b1 hb2
  rw [HR.out]
  go_wp2_with fail
  refine (in_impl _ _ _ _).mono ?_
  rintro e w3 ⟨rfl, hw⟩
  have hw := hw.symm
  subst hw
  rw [hin]
  go_wp2_with fail
  go_quiet (fail)
  have b3 := below_drewN b2 nq
  go_wp2_with fail
  rw [HV.out]
  refine (Tryd.strings_HasPrefix _ _ _).mono ?_
  rintro e w4 ⟨rfl, hw⟩
  have hw := hw.symm
  subst hw
  rw [HP.out]
  go_wp2_with fail
  refine (cents_impl _ _ (HTB.out.below b3)).mono ?_
  rintro e w5 ⟨rfl, hb5⟩
  have b5 := below_step b3 hb5
  rw [HC.out]
  go_wp2_with fail
  go_ret2
  exact ⟨rfl, b5⟩
set_option maxRecDepth 100000 in
set_option maxHeartbeats 2000000 in
theorem readC_impl_neg (w : World) (s t : ByteArray) (hs : s.size ≤ 1048576) (hsh : Shop w) (d : Int) (h : 0 ≤ d ∧ d ≤ 10000000) (HC : Hid (centsR (-d) = s)) (ht : t.data.toList = (centsS d).data.toList) (hst : (⟨(tailS s.data.toList).toArray⟩ : ByteArray) = t) (HH : Hid (Lib.hasPrefix s.data.toList [45] = true)) :
    Calls Tryd.prog 33 #[.string s] w fun e w' => e = .returned (.tuple #[.int .i64 (-d), .bool true]) ∧ Below w.heap.size w w' := by
  obtain ⟨a, part, h0, h1, hz, x0, x1, c1, c2, c3, hr, hza⟩ := money_cut h ht
  have htz : t.size ≤ 1048576 := by
    rw [size_of_list ht, centsS_list h.1, List.length_append]
    have := (itoa_short h).2
    simp
    omega
  have HT := hd (show (⟨(Lib.trimPrefix s.data.toList (⟨#[45]⟩ : ByteArray).data.toList).toArray⟩ : ByteArray) = t by
    rw [show (⟨#[45]⟩ : ByteArray).data.toList = [45] from rfl, trim_eq]; exact hst)
  have HP := hd (show Lib.hasPrefix s.data.toList (⟨#[45]⟩ : ByteArray).data.toList = true by
    rw [show (⟨#[45]⟩ : ByteArray).data.toList = [45] from rfl]; exact HH.out)
  have C1 := hd c1
  have C2 := hd c2
  have C3 := hd c3
  have HR := hd hr
  have HV := hd (show (100 : Int) * (d / (100 : Int)) + (10 : Int) * (((part[0]'h0).toNat : Int) - (48 : Int)) + (((part[1]'h1).toNat : Int) - (48 : Int)) = d by omega)
  have y0 : 48 ≤ (part[0]'h0).toNat ∧ (part[0]'h0).toNat ≤ 57 := by omega
  have y1 : 48 ≤ (part[1]'h1).toNat ∧ (part[1]'h1).toNat ≤ 57 := by omega
  obtain ⟨y0a, y0b⟩ := y0
  obtain ⟨y1a, y1b⟩ := y1
  have hq : 0 ≤ d / 100 ∧ d / 100 ≤ 10000000 := by omega
  obtain ⟨hd0, hd1⟩ := h
  have hin : inB (d / 100) 0 10000000 = true := decide_eq_true hq
  obtain ⟨m, hm, HTB, HEB⟩ : ∃ m, w.cell? ⟨0, 0, none⟩ = some (.int .i64 m) ∧ Hid (Tab w) ∧ Hid (Errs w) := by
    obtain ⟨m, hm⟩ := hsh.2.2
    exact ⟨m, hm, hd hsh.1, hd hsh.2.1⟩
  have HM := hd hm
  have ks : (s.toList == s.toList) = true := by simp
  clear hsh c1 c2 c3 hr x0 x1 ht hm HH hst
  go_enter Tryd.func33, Tryd.ntmps33
  go_wp2_with fail
  refine (Tryd.strings_TrimPrefix _ _ _).mono ?_
  rintro e w1 ⟨rfl, hw⟩
  have hw := hw.symm
  subst hw
  rw [HT.out]
  go_wp2_with fail
  refine (Tryd.strings_Cut _ _ _ _ (by omega) HM.out).mono ?_
  rintro e w1 ⟨rfl, n1, hw⟩
  have b1 : Below w.heap.size w w1 := by rw [hw]; exact below_drewN (Below.refl _ _) n1
  clear hw
  rw [C1.out, C2.out, C3.out]
  go_wp2_with fail
  refine (readDec_impl _ _ (by omega) (HTB.out.below b1) (HEB.out.below b1)).mono ?_
  rintro e w2 ⟨rfl, hb2⟩
  have b2 := below_step b1 hb2
  rw [HR.out]
  go_wp2_with fail
  refine (in_impl _ _ _ _).mono ?_
  rintro e w3 ⟨rfl, hw⟩
  have hw := hw.symm
  subst hw
  rw [hin]
  go_wp2_with fail
  go_quiet (fail)
  have b3 := below_drewN b2 nq
  go_wp2_with fail
  rw [HV.out]
  refine (Tryd.strings_HasPrefix _ _ _).mono ?_
  rintro e w4 ⟨rfl, hw⟩
  have hw := hw.symm
  subst hw
  rw [HP.out]
  go_wp2_with fail
  refine (cents_impl _ _ (HTB.out.below b3)).mono ?_
  rintro e w5 ⟨rfl, hb5⟩
  have b5 := below_step b3 hb5
  rw [HC.out]
  go_wp2_with fail
  go_ret2
  exact ⟨rfl, b5⟩
theorem cents_other {s : ByteArray} (hno : ∀ c : Int, -10000000 ≤ c ∧ c ≤ 10000000 → moneyS c ≠ s) (hs : s ≠ ByteArray.empty) (n : Int) : ((centsR n).toList == s.toList) = false := by
  refine beq_eq_false_iff_ne.2 (fun e => ?_)
  have e := bytes_of_toList e
  unfold centsR at e
  split at e
  next h => exact hno n (inB_true h) e
  next => exact hs e.symm
theorem rd_form (l : List UInt8) : rdTuple l = .tuple #[.int .i64 0, .bool false] ∨ ∃ n : Int, -1000000000000000000 < n ∧ n < 1000000000000000000 ∧ numS l = some n ∧ rdTuple l = .tuple #[.int .i64 n, .bool true] := by
  rcases h : numS l with _ | n
  · exact .inl (rd_none h)
  · obtain ⟨-, -, h1, h2, -⟩ := numS_some h
    exact .inr ⟨n, h1, h2, rfl, rd_some h⟩
theorem cut_sizes (l sep : List UInt8) : (Lib.cut l sep).1.length ≤ l.length ∧ (Lib.cut l sep).2.1.length ≤ l.length := by
  unfold Lib.cut
  split
  · exact ⟨by rw [List.length_take]; omega, by rw [List.length_drop]; omega⟩
  · exact ⟨Nat.le_refl _, Nat.zero_le _⟩
theorem tail_size (l : List UInt8) : (tailS l).length ≤ l.length := by
  unfold tailS
  split
  · rw [List.length_tail]; omega
  · exact Nat.le_refl _
set_option maxRecDepth 100000 in
set_option maxHeartbeats 4000000 in
theorem readC_impl_none (w : World) (s : ByteArray) (hs : s.size ≤ 1048576) (hsh : Shop w) (hno : ∀ c : Int, -10000000 ≤ c ∧ c ≤ 10000000 → moneyS c ≠ s) :
    Calls Tryd.prog 33 #[.string s] w fun e w' => e = .returned (.tuple #[.int .i64 0, .bool false]) ∧ Below w.heap.size w w' := by
  obtain ⟨t, htt⟩ : ∃ t : ByteArray, (⟨(tailS s.data.toList).toArray⟩ : ByteArray) = t := ⟨_, rfl⟩
  have htz : t.size ≤ 1048576 := by
    have h1 := tail_size s.data.toList
    have h2 : t.size = (tailS s.data.toList).length := by rw [← htt]; exact size_of_list (mk_list _)
    rw [size_list] at h1
    omega
  have HT := hd (show (⟨(Lib.trimPrefix s.data.toList (⟨#[45]⟩ : ByteArray).data.toList).toArray⟩ : ByteArray) = t by
    rw [show (⟨#[45]⟩ : ByteArray).data.toList = [45] from rfl, trim_eq]; exact htt)
  obtain ⟨pre, HP⟩ : ∃ b, Hid (Lib.hasPrefix s.data.toList (⟨#[45]⟩ : ByteArray).data.toList = b) := ⟨_, hd rfl⟩
  obtain ⟨a, part, parted, C1, C2, C3, hza, hzp, hse⟩ : ∃ (a part : ByteArray) (parted : Bool), Hid ((⟨(Lib.cut t.data.toList (⟨#[46]⟩ : ByteArray).data.toList).1.toArray⟩ : ByteArray) = a) ∧ Hid ((⟨(Lib.cut t.data.toList (⟨#[46]⟩ : ByteArray).data.toList).2.1.toArray⟩ : ByteArray) = part) ∧ Hid ((Lib.cut t.data.toList (⟨#[46]⟩ : ByteArray).data.toList).2.2 = parted) ∧ a.size ≤ 1048576 ∧ part.size ≤ 1048576 ∧ Hid (parted = true → s ≠ ByteArray.empty) := by
    have hc := cut_sizes t.data.toList (⟨#[46]⟩ : ByteArray).data.toList
    rw [size_list] at hc
    refine ⟨_, _, _, hd rfl, hd rfl, hd rfl, ?_, ?_, ?_⟩
    · rw [size_of_list (mk_list _)]; omega
    · rw [size_of_list (mk_list _)]; omega
    · refine hd (fun hp e => ?_)
      rw [← htt, e] at hp
      revert hp
      decide
  have HNO := hd hno
  obtain ⟨m, hm, HTB, HEB⟩ : ∃ m, w.cell? ⟨0, 0, none⟩ = some (.int .i64 m) ∧ Hid (Tab w) ∧ Hid (Errs w) := by
    obtain ⟨m, hm⟩ := hsh.2.2
    exact ⟨m, hm, hd hsh.1, hd hsh.2.1⟩
  have HM := hd hm
  clear hsh hm htt hno
  go_enter Tryd.func33, Tryd.ntmps33
  go_wp2_with fail
  refine (Tryd.strings_TrimPrefix _ _ _).mono ?_
  rintro e w1 ⟨rfl, hw⟩
  have hw := hw.symm
  subst hw
  rw [HT.out]
  go_wp2_with fail
  refine (Tryd.strings_Cut _ _ _ _ (by omega) HM.out).mono ?_
  rintro e w1 ⟨rfl, n1, hw⟩
  have b1 : Below w.heap.size w w1 := by rw [hw]; exact below_drewN (Below.refl _ _) n1
  clear hw
  rw [C1.out, C2.out, C3.out]
  go_wp2_with fail
  refine (readDec_impl _ _ (by omega) (HTB.out.below b1) (HEB.out.below b1)).mono ?_
  rintro e w2 ⟨rfl, hb2⟩
  have b2 := below_step b1 hb2
  rcases parted with _ | _
  · rcases rd_form a.data.toList with hr | ⟨n, -, -, -, hr⟩
    · rw [hr]
      clear hr
      go_wp2_with fail
      go_ret2
      exact ⟨rfl, b2⟩
    · rw [hr]
      clear hr
      go_wp2_with fail
      go_ret2
      exact ⟨rfl, b2⟩
  have HSE := hd (hse.out rfl)
  rcases rd_form a.data.toList with hr | ⟨n, hn1, hn2, -, hr⟩
  · rw [hr]
    clear hr
    go_wp2_with fail
    go_ret2
    exact ⟨rfl, b2⟩
  rw [hr]
  clear hr
  by_cases hz : part.size = 2
  case neg =>
    have hz' : ((part.size : Nat) : Int) ≠ 2 := by omega
    go_wp2_with fail
    go_ret2
    exact ⟨rfl, b2⟩
  by_cases hi : 0 ≤ n ∧ n ≤ 10000000
  case neg =>
    have hin : inB n 0 10000000 = false := decide_eq_false hi
    clear hi
    go_wp2_with fail
    refine (in_impl _ _ _ _).mono ?_
    rintro e w3 ⟨rfl, hw3⟩
    have hw3 := hw3.symm
    subst hw3
    rw [hin]
    go_wp2_with fail
    go_ret2
    exact ⟨rfl, b2⟩
  have hin : inB n 0 10000000 = true := decide_eq_true hi
  obtain ⟨hi0, hi1⟩ := hi
  have h0 : 0 < part.size := by omega
  have h1 : 1 < part.size := by omega
  go_wp2_with fail
  refine (in_impl _ _ _ _).mono ?_
  rintro e w3 ⟨rfl, hw3⟩
  have hw3 := hw3.symm
  subst hw3
  rw [hin]
  clear hin
  by_cases y0a : 48 ≤ (part[0]'h0).toNat
  case neg =>
    have y0' : (((part[0]'h0).toNat : Nat) : Int) < 48 := by omega
    go_wp2_with fail
    go_ret2
    exact ⟨rfl, b2⟩
  by_cases y0b : (part[0]'h0).toNat ≤ 57
  case neg =>
    have y0' : (57 : Int) < (((part[0]'h0).toNat : Nat) : Int) := by omega
    go_wp2_with fail
    go_ret2
    exact ⟨rfl, b2⟩
  by_cases y1a : 48 ≤ (part[1]'h1).toNat
  case neg =>
    have y0' : (((part[1]'h1).toNat : Nat) : Int) < 48 := by omega
    go_wp2_with fail
    go_ret2
    exact ⟨rfl, b2⟩
  by_cases y1b : (part[1]'h1).toNat ≤ 57
  case neg =>
    have y0' : (57 : Int) < (((part[1]'h1).toNat : Nat) : Int) := by omega
    go_wp2_with fail
    go_ret2
    exact ⟨rfl, b2⟩
  have HNE := hd (cents_other HNO.out HSE.out)
  go_wp2_with fail
  go_quiet (fail)
  have b3 := below_drewN b2 nq
  go_wp2_with fail
  refine (Tryd.strings_HasPrefix _ _ _).mono ?_
  rintro e w4 ⟨rfl, hw⟩
  have hw := hw.symm
  subst hw
  rw [HP.out]
  rcases pre with _ | _
  · go_wp2_with fail
    refine (cents_impl _ _ (HTB.out.below b3)).mono ?_
    rintro e w5 ⟨rfl, hb5⟩
    have b5 := below_step b3 hb5
    obtain ⟨r, hr⟩ : ∃ r, r = centsR ((100 : Int) * n + (10 : Int) * (((part[0]'h0).toNat : Int) - (48 : Int)) + (((part[1]'h1).toNat : Int) - (48 : Int))) := ⟨_, rfl⟩
    have kk : (r.toList == s.toList) = false := by rw [hr]; exact HNE.out _
    rw [← hr]
    clear hr
    go_wp2_with fail
    go_ret2
    exact ⟨rfl, b5⟩
  · go_wp2_with fail
    refine (cents_impl _ _ (HTB.out.below b3)).mono ?_
    rintro e w5 ⟨rfl, hb5⟩
    have b5 := below_step b3 hb5
    obtain ⟨r, hr⟩ : ∃ r, r = centsR (-((100 : Int) * n + (10 : Int) * (((part[0]'h0).toNat : Int) - (48 : Int)) + (((part[1]'h1).toNat : Int) - (48 : Int)))) := ⟨_, rfl⟩
    have kk : (r.toList == s.toList) = false := by rw [hr]; exact HNE.out _
    rw [← hr]
    clear hr
    go_wp2_with fail
    go_ret2
    exact ⟨rfl, b5⟩
end Go.Proofs.YtiofpmmbgohnhaaDoor
