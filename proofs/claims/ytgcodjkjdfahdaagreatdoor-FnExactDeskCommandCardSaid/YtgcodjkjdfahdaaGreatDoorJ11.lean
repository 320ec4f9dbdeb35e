/- Lemmas for the claim (the walks of its functions and their plain laws), joined. No condition. -/
import Derived.Test.YtgcodjkjdfahdaaGreatDoorJ10
import Derived.Test.YtgcodjkjdfahdaaGreatDoorJ6
import Derived.Lib.IndexMore
import Derived.Lib.CutLaws
import Derived.Test.YtgcodjkjdfahdaaGreatDoorJ4
import Derived.Lib.AtoiErrMem
import Derived.Lib.ParseIntBTie
namespace Go.Proofs.YtgcodjkjdfahdaaGreatDoor
open Go Go.RowKit Go.ChangeShapes Go.WideShapes
set_option linter.unusedSimpArgs false
set_option linter.unusedVariables false
theorem toList_append (a b : ByteArray) : (a ++ b).data.toList = a.data.toList ++ b.data.toList := by
  simp
theorem decDigits_len : ∀ (k u : Nat), u < 10 ^ (k + 1) → (Lib.decDigits u).length ≤ k + 1
  | 0, u, h => by rw [Lib.decDigits_one (by simpa using h)]; simp
  | k + 1, u, h => by
    by_cases h2 : u < 10
    · rw [Lib.decDigits_one h2]; simp
    · rw [Lib.decDigits, dif_neg h2, List.length_append]
      have := decDigits_len k (u / 10) (by rw [Nat.pow_succ] at h; omega)
      simp
      omega
theorem index_at (c : UInt8) : ∀ (l r : List UInt8), c ∉ l → Lib.index (l ++ c :: r) [c] = (l.length : Int)
  | [], r, _ => by
    unfold Lib.index
    simp [List.isPrefixOf]
  | x :: l, r, h => by
    have hx : ¬ c = x := fun e => h (by rw [e]; exact List.mem_cons_self ..)
    have hl : c ∉ l := fun e => h (List.mem_cons_of_mem _ e)
    rw [List.cons_append]
    unfold Lib.index
    rw [if_neg (by simp [List.isPrefixOf, hx]), index_at c l r hl, if_neg (by simp)]
    simp
theorem index_none (c : UInt8) : ∀ (l : List UInt8), c ∉ l → Lib.index l [c] = -1
  | [], _ => rfl
  | x :: l, h => by
    have hx : ¬ c = x := fun e => h (by rw [e]; exact List.mem_cons_self ..)
    have hl : c ∉ l := fun e => h (List.mem_cons_of_mem _ e)
    unfold Lib.index
    rw [if_neg (by simp [List.isPrefixOf, hx]), index_none c l hl]
    rfl
theorem cut_at (c : UInt8) (l r : List UInt8) (h : c ∉ l) : Lib.cut (l ++ c :: r) [c] = (l, r, true) := by
  unfold Lib.cut
  rw [index_at c l r h, if_pos (by omega)]
  have e1 : ((l.length : Int)).toNat = l.length := by omega
  rw [e1, List.take_left' rfl, List.drop_append]
  simp
theorem cut_none (c : UInt8) (l : List UInt8) (h : c ∉ l) : Lib.cut l [c] = (l, [], false) := by
  unfold Lib.cut
  rw [index_none c l h, if_neg (by omega)]
theorem valD_mem : ∀ (l : List UInt8) (acc u : Nat), valD acc l = some u → ∀ x ∈ l, 48 ≤ x.toNat ∧ x.toNat ≤ 57
  | [], acc, u, _, x, hx => absurd hx (by simp)
  | c :: r, acc, u, h, x, hx => by
    unfold valD at h
    split at h
    next hd =>
      rcases List.mem_cons.1 hx with rfl | hx
      · exact hd
      · exact valD_mem r _ u h x hx
    next => cases h
theorem decDigits_mem (u : Nat) : ∀ x ∈ Lib.decDigits u, 48 ≤ x.toNat ∧ x.toNat ≤ 57 := valD_mem _ 0 u (valD_digits u)
theorem numS_nat {u : Nat} (h : u ≤ 99999999999999999) : numS (Lib.itoa (u : Int)) = some (u : Int) := by
  have hl : (Lib.decDigits u).length ≤ 18 := by
    exact decDigits_len 17 u (by have : (10 : Nat) ^ 18 = 1000000000000000000 := by decide
                                 omega)
  rw [Lib.itoa_nonneg]
  have hm := decDigits_mem u
  have hne : Lib.decDigits u ≠ [] := by
    intro e
    have := valD_digits u
    rw [Lib.decDigits] at e
    split at e <;> simp at e
  have hh : ¬ (Lib.decDigits u).head? = some 45 := by
    intro e
    have := hm 45 (List.mem_of_mem_head? e)
    revert this
    decide
  have ht : tailS (Lib.decDigits u) = Lib.decDigits u := by unfold tailS; rw [if_neg hh]
  rw [numS_val (u := u) (n := (u : Int)) (by rw [ht]; exact ⟨List.length_pos_iff.2 hne, hl⟩) (by rw [ht]; exact valD_digits u) (by rw [if_neg hh]), if_pos (Lib.itoa_nonneg u)]
end Go.Proofs.YtgcodjkjdfahdaaGreatDoor

namespace Go.Proofs.YtgcodjkjdfahdaaGreatDoor
open Go Go.RowKit Go.ChangeShapes Go.WideShapes
set_option linter.unusedSimpArgs false
set_option linter.unusedVariables false
def Errs (w : World) : Prop := (∃ te pe, w.cell? ⟨2, 0, none⟩ = some (.iface te pe)) ∧ ∃ te pe, w.cell? ⟨3, 0, none⟩ = some (.iface te pe)
theorem Errs.below {w w' : World} (h : Errs w) (hb : Below w.heap.size w w') : Errs w' := by
  obtain ⟨⟨a, b, h1⟩, c, d, h2⟩ := h
  exact ⟨⟨a, b, (hb.cell (Lib.lt_of_cell h1)).trans h1⟩, c, d, (hb.cell (Lib.lt_of_cell h2)).trans h2⟩
theorem trim_eq (l : List UInt8) : Lib.trimPrefix l [45] = tailS l := by
  rcases l with _ | ⟨c, r⟩
  · rfl
  · unfold Lib.trimPrefix Lib.hasPrefix tailS
    by_cases h : c = 45
    · subst h
      simp [List.isPrefixOf]
    · have h' : ¬ (45 : UInt8) = c := fun e => h e.symm
      simp [List.isPrefixOf, h, h']
def rdTuple (l : List UInt8) : Value := .tuple #[.int .i64 ((numS l).getD 0), .bool (numS l).isSome]
theorem rd_none {l : List UInt8} (h : numS l = none) : rdTuple l = .tuple #[.int .i64 0, .bool false] := by unfold rdTuple; rw [h]; rfl
theorem rd_some {l : List UInt8} {n : Int} (h : numS l = some n) : rdTuple l = .tuple #[.int .i64 n, .bool true] := by unfold rdTuple; rw [h]; rfl
theorem decS_list (n : Int) : (decS n).data.toList = Lib.itoa n := by simp [decS]
theorem decS_of {n : Int} {s : ByteArray} (h : Lib.itoa n = s.data.toList) : decS n = s := by
  unfold decS
  rw [h]
theorem parse_impl (w : World) (s : ByteArray) (hs : s.size ≤ 1048576) (he : Errs w) :
    Calls Tryz.prog 66 #[.string s, .int .i64 10, .int .i64 64] w fun e w' => ∃ (n : Int) (x : Value), e = .returned (.tuple #[.int .i64 n, x]) ∧ ((x = .nilIface ∧ Lib.parseIntB 64 s.data.toList = .ok n) ∨ ((∃ tp p, x = .iface tp p) ∧ ∀ v, Lib.parseIntB 64 s.data.toList ≠ .ok v)) ∧ Below w.heap.size w w' := by
  obtain ⟨⟨t1, p1, h1⟩, t2, p2, h2⟩ := he
  rcases hp : Lib.parseIntB 64 s.data.toList with v | _ | _
  · refine (Tryz.strconv_ParseInt_10_at64_ok s (by omega) v hp w).mono ?_
    rintro e w' ⟨rfl, hw⟩
    refine ⟨v, _, rfl, .inl ⟨rfl, rfl⟩, ?_⟩
    rcases hw with rfl | ⟨t, rfl⟩
    · exact Below.refl _ _
    · exact Lib.bytesWorld_below _ _ _
  · refine (Tryz.strconv_ParseInt_10_at64_syntax s (by omega) hp _ w h1 (.inr ⟨_, _, rfl⟩)).mono ?_
    rintro e w' ⟨N, rfl, -, -, hb⟩
    exact ⟨_, _, rfl, .inr ⟨⟨_, _, rfl⟩, fun v h => by cases h⟩, hb⟩
  · refine (Tryz.strconv_ParseInt_10_at64_range s (by omega) hp _ w h2 (.inr ⟨_, _, rfl⟩)).mono ?_
    rintro e w' ⟨N, rfl, -, -, hb⟩
    exact ⟨_, _, rfl, .inr ⟨⟨_, _, rfl⟩, fun v h => by cases h⟩, hb⟩
set_option maxRecDepth 100000 in
set_option maxHeartbeats 1000000 in
theorem readDec_impl (w : World) (s : ByteArray) (hs : s.size ≤ 1048576) (ht : Tab w) (he : Errs w) :
    Calls Tryz.prog 32 #[.string s] w fun e w' => e = .returned (rdTuple s.data.toList) ∧ Below w.heap.size w w' := by
  have hl : s.data.toList.length = s.size := Array.length_toList
  by_cases q1 : s.size ≤ 19
  case neg =>
    have HR := hd (rd_none (l := s.data.toList) (by
      rcases h : numS s.data.toList with _ | n
      · rfl
      · have := (numS_some h).2.2.2.2.1
        omega))
    have q1' : 19 < s.size := by omega
    clear q1 hl
    go_enter Tryz.func32, Tryz.ntmps32
    go_wp2_with fail
    go_ret2
    exact ⟨by rw [HR.out]; rfl, Below.refl _ _⟩
  obtain ⟨t, htt⟩ : ∃ t : ByteArray, t = ⟨(tailS s.data.toList).toArray⟩ := ⟨_, rfl⟩
  have HT := hd (show (⟨(Lib.trimPrefix s.data.toList (⟨#[45]⟩ : ByteArray).data.toList).toArray⟩ : ByteArray) = t by rw [show (⟨#[45]⟩ : ByteArray).data.toList = [45] from rfl, trim_eq, htt])
  have tsz : t.size = (tailS s.data.toList).length := by rw [htt]; exact List.size_toArray
  clear htt hl
  by_cases q2 : t.size ≤ 18
  case neg =>
    have HR := hd (rd_none (l := s.data.toList) (by
      rcases h : numS s.data.toList with _ | n
      · rfl
      · have := (numS_some h).2.2.2.2.2
        omega))
    have q2' : 18 < t.size := by omega
    have q3 : t.size ≤ 1048576 := by
      have : (tailS s.data.toList).length ≤ s.data.toList.length := by
        unfold tailS
        split
        · rw [List.length_tail]; omega
        · omega
      have h2 : s.data.toList.length = s.size := Array.length_toList
      omega
    clear q2 tsz
    go_enter Tryz.func32, Tryz.ntmps32
    go_wp2_with (go_at_call 65; refine (Tryz.strings_TrimPrefix _ _ _).mono ?_; rintro e w1 ⟨rfl, hw⟩; have hw := hw.symm; subst hw; rw [HT.out])
    go_ret2
    exact ⟨by rw [HR.out]; rfl, Below.refl _ _⟩
  have HZ := hd (show (tailS s.data.toList).length ≤ 18 by omega)
  clear tsz
  go_enter Tryz.func32, Tryz.ntmps32
  go_wp2_with (go_at_call 65; refine (Tryz.strings_TrimPrefix _ _ _).mono ?_; rintro e w1 ⟨rfl, hw⟩; have hw := hw.symm; subst hw; rw [HT.out])
  refine (parse_impl _ _ hs he).mono ?_
  rintro e w1 ⟨n, x, rfl, hx, hb⟩
  rcases hx with ⟨rfl, hp⟩ | ⟨⟨tp, p, rfl⟩, hno⟩
  · have hn : -9223372036854775808 ≤ n ∧ n ≤ 9223372036854775807 := Lib.atoiAll_bounds (l := s.data.toList) (by rw [← Lib.parseIntB_64]; exact hp)
    have HP := hd hp
    clear hp
    go_wp2_with fail
    refine (dec_impl _ _ hn (ht.below hb)).mono ?_
    rintro e w2 ⟨rfl, hb2⟩
    have hb3 := below_step hb hb2
    by_cases hq : decS n = s
    · have HR := hd (rd_some (l := s.data.toList) (n := n) (numS_of HP.out (by rw [← hq, decS_list]) HZ.out))
      have k : ((decS n).toList == s.toList) = true := by rw [hq]; simp
      clear hq
      go_wp2_with fail
      go_ret2
      exact ⟨by rw [HR.out]; rfl, hb3⟩
    · have HR := hd (rd_none (l := s.data.toList) (numS_none (fun v hv e => hq (by
        have : n = v := by have h1 := HP.out; rw [hv] at h1; injection h1 with h1; exact h1.symm
        subst this
        exact decS_of e))))
      have k : ((decS n).toList == s.toList) = false := beq_eq_false_iff_ne.2 (fun e => hq (bytes_of_toList e))
      clear hq
      go_wp2_with fail
      go_ret2
      exact ⟨by rw [HR.out]; rfl, hb3⟩
  · have HR := hd (rd_none (l := s.data.toList) (numS_none (fun v hv => absurd hv (hno v))))
    clear hno
    go_wp2_with fail
    go_ret2
    exact ⟨by rw [HR.out]; rfl, hb⟩
theorem valD_bad {l : List UInt8} {k u : Nat} (hk : k < l.length) (h : valD 0 (l.take k) = some u) (hc : ¬ (48 ≤ l[k].toNat ∧ l[k].toNat ≤ 57)) : valD 0 l = none := by
  have e : l = l.take k ++ l[k] :: l.drop (k + 1) := by rw [List.getElem_cons_drop]; exact (List.take_append_drop k l).symm
  have h2 : valD 0 (l.take k ++ l[k] :: l.drop (k + 1)) = none := by
    rw [valD_append, h]
    show valD u (l[k] :: l.drop (k + 1)) = none
    unfold valD
    rw [if_neg hc]
  rw [← e] at h2
  exact h2
theorem valD_step {l : List UInt8} {k u : Nat} (hk : k < l.length) (h : valD 0 (l.take k) = some u) (hc : 48 ≤ l[k].toNat ∧ l[k].toNat ≤ 57) : valD 0 (l.take (k + 1)) = some (10 * u + (l[k].toNat - 48)) := by
  rw [List.take_succ_eq_append_getElem hk, valD_append, h]
  show valD u [l[k]] = _
  simp only [valD]
  rw [if_pos hc]
theorem get_list (t : ByteArray) (k : Nat) (h : k < t.size) : t.data.toList[k]'(by rw [Array.length_toList]; exact h) = t[k]'h := Array.getElem_toList ..
theorem size_list (t : ByteArray) : t.data.toList.length = t.size := Array.length_toList
theorem valD_lt17 {l : List UInt8} {k u : Nat} (hk : k < 18) (h : valD 0 (l.take k) = some u) : u < 100000000000000000 := by
  have h1 := valD_lt _ _ _ h
  have h2 : (10 : Nat) ^ (l.take k).length ≤ 10 ^ 17 := Nat.pow_le_pow_right (by omega) (by rw [List.length_take]; omega)
  have h3 : (10 : Nat) ^ 17 = 100000000000000000 := by decide
  omega
set_option maxRecDepth 100000 in
set_option maxHeartbeats 2000000 in
theorem number_minus (w : World) (s : ByteArray) (hs : s.size ≤ 1048576) (h0 : 0 < s.size) (HM : Hid (s.data.toList.head? = some 45)) (k0 : s.toList.isEmpty = false) (k45 : (((s[0]'h0).toNat : Int) == 45) = true) :
    Calls Tryz.prog 161 #[.string s] w fun e w' => e = .returned (rdTuple s.data.toList) ∧ Below w.heap.size w w' := by
  obtain ⟨t, htt⟩ : ∃ t : ByteArray, t = s.extract 1 s.size := ⟨_, rfl⟩
  have HT := hd (show t.data.toList = tailS s.data.toList by
    rw [htt]
    unfold tailS
    rw [if_pos HM.out]
    simp only [ByteArray.data_extract, Array.toList_extract, List.extract]
    rw [List.drop_one]
    exact List.take_of_length_le (by rw [List.length_tail, size_list]; omega))
  have hz : t.size + 1 = s.size := by rw [htt, ByteArray.size_extract]; omega
  have HX := hd htt
  clear htt
  by_cases z1 : 2 ≤ s.size
  case neg =>
    have HR := hd (rd_none (numS_short (l := s.data.toList) (by rw [← HT.out, size_list]; omega)))
    have z1' : s.size = 1 := by omega
    have e1 : ((s.size - 1 : Nat) : Int) < 1 := by omega
    clear z1 hz HT HX
    go_enter Tryz.func161, Tryz.ntmps161
    go_wp2_with fail
    go_ret2
    exact ⟨by rw [HR.out]; rfl, Below.refl _ _⟩
  by_cases z2 : s.size ≤ 19
  case neg =>
    have HR := hd (rd_none (numS_short (l := s.data.toList) (by rw [← HT.out, size_list]; omega)))
    have z2' : 18 < ((s.size - 1 : Nat) : Int) := by omega
    have z2'' : 1 ≤ ((s.size - 1 : Nat) : Int) := by omega
    clear z2 z1 hz HX HT
    go_enter Tryz.func161, Tryz.ntmps161
    go_wp2_with fail
    go_ret2
    exact ⟨by rw [HR.out]; rfl, Below.refl _ _⟩
  have z4 : 1 ≤ ((s.size - 1 : Nat) : Int) := by omega
  have z5 : ((s.size - 1 : Nat) : Int) ≤ 18 := by omega
  go_enter Tryz.func161, Tryz.ntmps161
  go_wp2_with fail
  rw [← HX.out]
  have z3 : t.size ≤ 18 := by omega
  go_loop [5, 6] (fun nv iv => ∃ k u : Nat, k ≤ t.size ∧ iv = .int .i64 k ∧ nv = .int .i64 u ∧ Hid (valD 0 (t.data.toList.take k) = some u)) (fun _ iv => t.size - (intOf iv).toNat)
  case atStart => exact ⟨0, 0, Nat.zero_le _, rfl, rfl, hd rfl⟩
  case round =>
    obtain ⟨k, u, hk, rfl, rfl, HV⟩ := hrel
    by_cases hlt : k < t.size
    · have hk18 : k < 18 := by omega
      have hu := valD_lt17 hk18 HV.out
      have hkl : k < t.data.toList.length := by rw [size_list]; exact hlt
      rcases hdg : digitN (t[k]'hlt).toNat with _ | _
      · have HR := hd (rd_none (numS_bad (l := s.data.toList) (by
          rw [← HT.out]
          refine valD_bad hkl HV.out ?_
          rw [get_list t k hlt]
          intro hc
          simp [digitN, hc.1, hc.2] at hdg)))
        clear hk18 hkl
        go_wp2_with (go_at_call 218; refine (digit_spec _ _).mono ?_; rintro e w' ⟨rfl, rfl⟩; rw [hdg])
        go_ret2
        exact ⟨by rw [HR.out]; rfl, Below.refl _ _⟩
      · have hc : 48 ≤ (t[k]'hlt).toNat ∧ (t[k]'hlt).toNat ≤ 57 := by simp [digitN] at hdg; exact hdg
        have HN := hd (show valD 0 (t.data.toList.take (k + 1)) = some (10 * u + ((t[k]'hlt).toNat - 48)) by
          rw [← get_list t k hlt]
          exact valD_step hkl HV.out (by rw [get_list t k hlt]; exact hc))
        obtain ⟨c1, c2⟩ := hc
        have hdg' := hd hdg
        clear hk18 hkl hdg
        go_wp2_with (go_at_call 218; refine (digit_spec _ _).mono ?_; rintro e w' ⟨rfl, rfl⟩; rw [hdg'.out])
        go_round
        case rel => exact ⟨k + 1, 10 * u + ((t[k]'hlt).toNat - 48), by omega, by go_num, by go_num, HN⟩
        case measure => simp [intOf]; omega
    · obtain rfl : k = t.size := by omega
      have hv : valD 0 t.data.toList = some u := by
        have h1 := HV.out
        rw [← size_list t, List.take_length] at h1
        exact h1
      have hu := valD_lt18 (by rw [size_list]; omega) hv
      have HL := hd (numS_val (l := s.data.toList) (u := u) (n := -(u : Int)) (by rw [← HT.out, size_list]; omega) (by rw [← HT.out]; exact hv) (by simp [HM.out]))
      clear hv
      go_wp2_with fail
      refine (dec_spec _ _ (by omega)).mono ?_
      rintro e w2 ⟨rfl, hb2⟩
      by_cases hq : decS (-(u : Int)) = s
      · have HR := hd (rd_some (l := s.data.toList) (n := -(u : Int)) (by rw [HL.out, if_pos (by rw [← decS_list, hq])]))
        have kk : ((decS (-(u : Int))).toList == s.toList) = true := by rw [hq]; simp
        clear hq
        go_wp2_with fail
        go_ret2
        exact ⟨by rw [HR.out]; rfl, hb2⟩
      · have HR := hd (rd_none (l := s.data.toList) (by rw [HL.out, if_neg (fun e => hq (decS_of e))]))
        have kk : ((decS (-(u : Int))).toList == s.toList) = false := beq_eq_false_iff_ne.2 (fun e => hq (bytes_of_toList e))
        clear hq
        go_wp2_with fail
        go_ret2
        exact ⟨by rw [HR.out]; rfl, hb2⟩
set_option maxRecDepth 100000 in
set_option maxHeartbeats 2000000 in
theorem number_plain (w : World) (s : ByteArray) (hs : s.size ≤ 1048576) (h0 : 0 < s.size) (HM : Hid (¬ s.data.toList.head? = some 45)) (k0 : s.toList.isEmpty = false) (k45 : (((s[0]'h0).toNat : Int) == 45) = false) :
    Calls Tryz.prog 161 #[.string s] w fun e w' => e = .returned (rdTuple s.data.toList) ∧ Below w.heap.size w w' := by
  have HT := hd (show s.data.toList = tailS s.data.toList by unfold tailS; rw [if_neg HM.out])
  by_cases z2 : s.size ≤ 18
  case neg =>
    have HR := hd (rd_none (numS_short (l := s.data.toList) (by rw [← HT.out, size_list]; omega)))
    have z2' : 18 < s.size := by omega
    clear z2  HT
    go_enter Tryz.func161, Tryz.ntmps161
    go_wp2_with fail
    go_ret2
    exact ⟨by rw [HR.out]; rfl, Below.refl _ _⟩
  go_enter Tryz.func161, Tryz.ntmps161
  go_wp2_with fail
  go_loop [5, 6] (fun nv iv => ∃ k u : Nat, k ≤ s.size ∧ iv = .int .i64 k ∧ nv = .int .i64 u ∧ Hid (valD 0 (s.data.toList.take k) = some u)) (fun _ iv => s.size - (intOf iv).toNat)
  case atStart => exact ⟨0, 0, Nat.zero_le _, rfl, rfl, hd rfl⟩
  case round =>
    obtain ⟨k, u, hk, rfl, rfl, HV⟩ := hrel
    by_cases hlt : k < s.size
    · have hk18 : k < 18 := by omega
      have hu := valD_lt17 hk18 HV.out
      have hkl : k < s.data.toList.length := by rw [size_list]; exact hlt
      rcases hdg : digitN (s[k]'hlt).toNat with _ | _
      · have HR := hd (rd_none (numS_bad (l := s.data.toList) (by
          rw [← HT.out]
          refine valD_bad hkl HV.out ?_
          rw [get_list s k hlt]
          intro hc
          simp [digitN, hc.1, hc.2] at hdg)))
        clear hk18 hkl
        go_wp2_with (go_at_call 218; refine (digit_spec _ _).mono ?_; rintro e w' ⟨rfl, rfl⟩; rw [hdg])
        go_ret2
        exact ⟨by rw [HR.out]; rfl, Below.refl _ _⟩
      · have hc : 48 ≤ (s[k]'hlt).toNat ∧ (s[k]'hlt).toNat ≤ 57 := by simp [digitN] at hdg; exact hdg
        have HN := hd (show valD 0 (s.data.toList.take (k + 1)) = some (10 * u + ((s[k]'hlt).toNat - 48)) by
          rw [← get_list s k hlt]
          exact valD_step hkl HV.out (by rw [get_list s k hlt]; exact hc))
        obtain ⟨c1, c2⟩ := hc
        have hdg' := hd hdg
        clear hk18 hkl hdg
        go_wp2_with (go_at_call 218; refine (digit_spec _ _).mono ?_; rintro e w' ⟨rfl, rfl⟩; rw [hdg'.out])
        go_round
        case rel => exact ⟨k + 1, 10 * u + ((s[k]'hlt).toNat - 48), by omega, by go_num, by go_num, HN⟩
        case measure => simp [intOf]; omega
    · obtain rfl : k = s.size := by omega
      have hv : valD 0 s.data.toList = some u := by
        have h1 := HV.out
        rw [← size_list s, List.take_length] at h1
        exact h1
      have hu := valD_lt18 (by rw [size_list]; omega) hv
      have HL := hd (numS_val (l := s.data.toList) (u := u) (n := (u : Int)) (by rw [← HT.out, size_list]; omega) (by rw [← HT.out]; exact hv) (by simp [HM.out]))
      clear hv
      go_wp2_with fail
      refine (dec_spec _ _ (by omega)).mono ?_
      rintro e w2 ⟨rfl, hb2⟩
      by_cases hq : decS ((u : Int)) = s
      · have HR := hd (rd_some (l := s.data.toList) (n := (u : Int)) (by rw [HL.out, if_pos (by rw [← decS_list, hq])]))
        have kk : ((decS ((u : Int))).toList == s.toList) = true := by rw [hq]; simp
        clear hq
        go_wp2_with fail
        go_ret2
        exact ⟨by rw [HR.out]; rfl, hb2⟩
      · have HR := hd (rd_none (l := s.data.toList) (by rw [HL.out, if_neg (fun e => hq (decS_of e))]))
        have kk : ((decS ((u : Int))).toList == s.toList) = false := beq_eq_false_iff_ne.2 (fun e => hq (bytes_of_toList e))
        clear hq
        go_wp2_with fail
        go_ret2
        exact ⟨by rw [HR.out]; rfl, hb2⟩
set_option maxRecDepth 100000 in
theorem number_spec (w : World) (s : ByteArray) (hs : s.size ≤ 1048576) :
    Calls Tryz.prog 161 #[.string s] w fun e w' => e = .returned (rdTuple s.data.toList) ∧ Below w.heap.size w w' := by
  by_cases h0 : 0 < s.size
  case neg =>
    have he : s = ⟨#[]⟩ := by
      obtain ⟨⟨l⟩⟩ := s
      have hl : l.length = 0 := by
        have : ¬ 0 < l.length := h0
        omega
      rw [List.eq_nil_of_length_eq_zero hl]
    subst he
    have HR := hd (rd_none (numS_short (l := (⟨#[]⟩ : ByteArray).data.toList) (by decide)))
    clear h0 hs
    go_enter Tryz.func161, Tryz.ntmps161
    go_wp2_with fail
    go_ret2
    exact ⟨by rw [HR.out]; rfl, Below.refl _ _⟩
  have k0 : s.toList.isEmpty = false := by
    rcases he : s.toList.isEmpty with _ | _
    · rfl
    · have e2 : s.toList = (⟨#[]⟩ : ByteArray).toList := by rw [List.isEmpty_iff.1 he]; first | simp | decide
      have e3 := bytes_of_toList e2
      rw [e3] at h0
      exact absurd h0 (by decide)
  have hh : s.data.toList.head? = some (s[0]'h0) := by
    rw [List.head?_eq_getElem?, List.getElem?_eq_getElem (by rw [size_list]; exact h0), get_list s 0 h0]
  by_cases hm : s[0]'h0 = 45
  · exact number_minus w s hs h0 (hd (by rw [hh, hm])) k0 (by rw [hm]; rfl)
  · refine number_plain w s hs h0 (hd (by rw [hh]; intro e; injection e with e; exact hm e)) k0 (beq_eq_false_iff_ne.2 (fun e => hm (UInt8.toNat_inj.1 ?_)))
    show (s[0]'h0).toNat = 45
    omega
end Go.Proofs.YtgcodjkjdfahdaaGreatDoor
