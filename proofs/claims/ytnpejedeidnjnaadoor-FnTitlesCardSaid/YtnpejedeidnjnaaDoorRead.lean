/- Numbers read in decimal: the walks of the program's ReadDecimal and the reference's l01Number. No condition but that the library's table and its two errors lie as they are laid. -/
import Derived.Test.YtnpejedeidnjnaaDoorNum
import Derived.Test.YtnpejedeidnjnaaDoorDec
import Derived.Test.YtnpejedeidnjnaaDoorStrs
import Derived.Test.YtnpejedeidnjnaaDoorName
import Derived.Lib.AtoiErrMem
import Derived.Lib.ParseIntBTie
namespace Go.Proofs.YtnpejedeidnjnaaDoor
open Go Go.RowKit Go.ChangeShapes Go.WideShapes
set_option linter.unusedSimpArgs false
set_option linter.unusedVariables false
/-- the library's two errors lie as they are laid -/
def Errs (w : World) : Prop := (∃ te pe, w.cell? ⟨1, 0, none⟩ = some (.iface te pe)) ∧ ∃ te pe, w.cell? ⟨2, 0, none⟩ = some (.iface te pe)
theorem Errs.below {w w' : World} (h : Errs w) (hb : Below w.heap.size w w') : Errs w' := by
  obtain ⟨⟨a, b, h1⟩, c, d, h2⟩ := h
  exact ⟨⟨a, b, (hb.cell (Lib.lt_of_cell h1)).trans h1⟩, c, d, (hb.cell (Lib.lt_of_cell h2)).trans h2⟩
theorem trim_eq (l : List UInt8) : Lib.trimPrefix l [45] = tailS l := by
  rcases l with _ | ⟨c, r⟩
  · rfl
  · unfold Lib.trimPrefix Lib.hasPrefix tailS
    by_cases h : c = 45
    · subst h
      simp [List.isPrefixOf]
    · have h' : ¬ (45 : UInt8) = c := fun e => h e.symm
      simp [List.isPrefixOf, h, h']
/-- what both return -/
def rdTuple (l : List UInt8) : Value := .tuple #[.int .i64 ((numS l).getD 0), .bool (numS l).isSome]
theorem rd_none {l : List UInt8} (h : numS l = none) : rdTuple l = .tuple #[.int .i64 0, .bool false] := by unfold rdTuple; rw [h]; rfl
theorem rd_some {l : List UInt8} {n : Int} (h : numS l = some n) : rdTuple l = .tuple #[.int .i64 n, .bool true] := by unfold rdTuple; rw [h]; rfl
theorem decS_list (n : Int) : (decS n).data.toList = Lib.itoa n := by simp [decS]
theorem decS_of {n : Int} {s : ByteArray} (h : Lib.itoa n = s.data.toList) : decS n = s := by
  unfold decS
  rw [h]
theorem parse_impl (w : World) (s : ByteArray) (hs : s.size ≤ 1048576) (he : Errs w) :
    Calls Tryd.prog 43 #[.string s, .int .i64 10, .int .i64 64] w fun e w' => ∃ (n : Int) (x : Value), e = .returned (.tuple #[.int .i64 n, x]) ∧ ((x = .nilIface ∧ Lib.parseIntB 64 s.data.toList = .ok n) ∨ ((∃ tp p, x = .iface tp p) ∧ ∀ v, Lib.parseIntB 64 s.data.toList ≠ .ok v)) ∧ Below w.heap.size w w' := by
  obtain ⟨⟨t1, p1, h1⟩, t2, p2, h2⟩ := he
  rcases hp : Lib.parseIntB 64 s.data.toList with v | _ | _
  · refine (Tryd.strconv_ParseInt_10_at64_ok s (by omega) v hp w).mono ?_
    rintro e w' ⟨rfl, hw⟩
    refine ⟨v, _, rfl, .inl ⟨rfl, rfl⟩, ?_⟩
    rcases hw with rfl | ⟨t, rfl⟩
    · exact Below.refl _ _
    · exact Lib.bytesWorld_below _ _ _
  · refine (Tryd.strconv_ParseInt_10_at64_syntax s (by omega) hp _ w h1 (.inr ⟨_, _, rfl⟩)).mono ?_
    rintro e w' ⟨N, rfl, -, -, hb⟩
    exact ⟨_, _, rfl, .inr ⟨⟨_, _, rfl⟩, fun v h => by cases h⟩, hb⟩
  · refine (Tryd.strconv_ParseInt_10_at64_range s (by omega) hp _ w h2 (.inr ⟨_, _, rfl⟩)).mono ?_
    rintro e w' ⟨N, rfl, -, -, hb⟩
    exact ⟨_, _, rfl, .inr ⟨⟨_, _, rfl⟩, fun v h => by cases h⟩, hb⟩
set_option maxRecDepth 100000 in
set_option maxHeartbeats 1000000 in
theorem readDec_impl (w : World) (s : ByteArray) (hs : s.size ≤ 1048576) (ht : Tab w) (he : Errs w) :
    Calls Tryd.prog 28 #[.string s] w fun e w' => e = .returned (rdTuple s.data.toList) ∧ Below w.heap.size w w' := by
  have hl : s.data.toList.length = s.size := Array.length_toList
  by_cases q1 : s.size ≤ 19
  case neg =>
    have HR := hd (rd_none (l := s.data.toList) (by
      rcases h : numS s.data.toList with _ | n
      · rfl
      · have := (numS_some h).2.2.2.2.1
        omega))
    have q1' : 19 < s.size := by omega
    clear q1 hl
    go_enter Tryd.func28, Tryd.ntmps28
    go_wp2_with fail
    go_ret2
    exact ⟨by rw [HR.out]; rfl, Below.refl _ _⟩
  obtain ⟨t, htt⟩ : ∃ t : ByteArray, t = ⟨(tailS s.data.toList).toArray⟩ := ⟨_, rfl⟩
  have HT := hd (show (⟨(Lib.trimPrefix s.data.toList (⟨#[45]⟩ : ByteArray).data.toList).toArray⟩ : ByteArray) = t by rw [show (⟨#[45]⟩ : ByteArray).data.toList = [45] from rfl, trim_eq, htt])
  have tsz : t.size = (tailS s.data.toList).length := by rw [htt]; exact List.size_toArray
  clear htt hl
  by_cases q2 : t.size ≤ 18
  case neg =>
    have HR := hd (rd_none (l := s.data.toList) (by
      rcases h : numS s.data.toList with _ | n
      · rfl
      · have := (numS_some h).2.2.2.2.2
        omega))
    have q2' : 18 < t.size := by omega
    have q3 : t.size ≤ 1048576 := by
      have : (tailS s.data.toList).length ≤ s.data.toList.length := by
        unfold tailS
        split
        · rw [List.length_tail]; omega
        · omega
      have h2 : s.data.toList.length = s.size := Array.length_toList
      omega
    clear q2 tsz
    go_enter Tryd.func28, Tryd.ntmps28
    go_wp2_with (go_at_call 42; refine (Tryd.strings_TrimPrefix _ _ _).mono ?_; rintro e w1 ⟨rfl, hw⟩; have hw := hw.symm; subst hw; rw [HT.out])
    go_ret2
    exact ⟨by rw [HR.out]; rfl, Below.refl _ _⟩
  have HZ := hd (show (tailS s.data.toList).length ≤ 18 by omega)
  clear tsz
  go_enter Tryd.func28, Tryd.ntmps28
  go_wp2_with (go_at_call 42; refine (Tryd.strings_TrimPrefix _ _ _).mono ?_; rintro e w1 ⟨rfl, hw⟩; have hw := hw.symm; subst hw; rw [HT.out])
  refine (parse_impl _ _ hs he).mono ?_
  rintro e w1 ⟨n, x, rfl, hx, hb⟩
  rcases hx with ⟨rfl, hp⟩ | ⟨⟨tp, p, rfl⟩, hno⟩
  · have hn : -9223372036854775808 ≤ n ∧ n ≤ 9223372036854775807 := Lib.atoiAll_bounds (l := s.data.toList) (by rw [← Lib.parseIntB_64]; exact hp)
    have HP := hd hp
    clear hp
    go_wp2_with fail
    refine (dec_impl _ _ hn (ht.below hb)).mono ?_
    rintro e w2 ⟨rfl, hb2⟩
    have hb3 := below_step hb hb2
    by_cases hq : decS n = s
    · have HR := hd (rd_some (l := s.data.toList) (n := n) (numS_of HP.out (by rw [← hq, decS_list]) HZ.out))
      have k : ((decS n).toList == s.toList) = true := by rw [hq]; simp
      clear hq
      go_wp2_with fail
      go_ret2
      exact ⟨by rw [HR.out]; rfl, hb3⟩
    · have HR := hd (rd_none (l := s.data.toList) (numS_none (fun v hv e => hq (by
        have : n = v := by have h1 := HP.out; rw [hv] at h1; injection h1 with h1; exact h1.symm
        subst this
        exact decS_of e))))
      have k : ((decS n).toList == s.toList) = false := beq_eq_false_iff_ne.2 (fun e => hq (bytes_of_toList e))
      clear hq
      go_wp2_with fail
      go_ret2
      exact ⟨by rw [HR.out]; rfl, hb3⟩
  · have HR := hd (rd_none (l := s.data.toList) (numS_none (fun v hv => absurd hv (hno v))))
    clear hno
    go_wp2_with fail
    go_ret2
    exact ⟨by rw [HR.out]; rfl, hb⟩
theorem valD_bad {l : List UInt8} {k u : Nat} (hk : k < l.length) (h : valD 0 (l.take k) = some u) (hc : ¬ (48 ≤ l[k].toNat ∧ l[k].toNat ≤ 57)) : valD 0 l = none := by
  have e : l = l.take k ++ l[k] :: l.drop (k + 1) := by rw [List.getElem_cons_drop]; exact (List.take_append_drop k l).symm
  have h2 : valD 0 (l.take k ++ l[k] :: l.drop (k + 1)) = none := by
    rw [valD_append, h]
    show valD u (l[k] :: l.drop (k + 1)) = none
    unfold valD
    rw [if_neg hc]
  rw [← e] at h2
  exact h2
theorem valD_step {l : List UInt8} {k u : Nat} (hk : k < l.length) (h : valD 0 (l.take k) = some u) (hc : 48 ≤ l[k].toNat ∧ l[k].toNat ≤ 57) : valD 0 (l.take (k + 1)) = some (10 * u + (l[k].toNat - 48)) := by
  rw [List.take_succ_eq_append_getElem hk, valD_append, h]
  show valD u [l[k]] = _
  simp only [valD]
  rw [if_pos hc]
theorem get_list (t : ByteArray) (k : Nat) (h : k < t.size) : t.data.toList[k]'(by rw [Array.length_toList]; exact h) = t[k]'h := Array.getElem_toList ..
theorem size_list (t : ByteArray) : t.data.toList.length = t.size := Array.length_toList
theorem valD_lt17 {l : List UInt8} {k u : Nat} (hk : k < 18) (h : valD 0 (l.take k) = some u) : u < 100000000000000000 := by
  have h1 := valD_lt _ _ _ h
  have h2 : (10 : Nat) ^ (l.take k).length ≤ 10 ^ 17 := Nat.pow_le_pow_right (by omega) (by rw [List.length_take]; omega)
  have h3 : (10 : Nat) ^ 17 = 100000000000000000 := by decide
  omega
end Go.Proofs.YtnpejedeidnjnaaDoor
