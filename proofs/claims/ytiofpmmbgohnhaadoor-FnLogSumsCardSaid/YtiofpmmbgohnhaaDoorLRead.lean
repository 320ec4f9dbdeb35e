/- What is read of a log: the plain law. No condition. -/
import Derived.Test.YtiofpmmbgohnhaaDoorParts
import Derived.Test.YtiofpmmbgohnhaaDoorLogS
import Derived.Test.YtiofpmmbgohnhaaDoorTRead
namespace Go.Proofs.YtiofpmmbgohnhaaDoor
open Go Go.RowKit Go.ChangeShapes Go.WideShapes
set_option linter.unusedSimpArgs false
set_option linter.unusedVariables false
/-- a line's entry, stamp, and whether it has them -/
def rdLine4 (w0 w1 w2 w3 : ByteArray) : TEntry × Int × Bool :=
  (((numS w0.data.toList).getD 0, w1, (numS w2.data.toList).getD 0), (numS w3.data.toList).getD 0,
    (numS w0.data.toList).isSome && ((numS w2.data.toList).isSome && ((numS w3.data.toList).isSome && okEntryB ((numS w0.data.toList).getD 0, w1, (numS w2.data.toList).getD 0))))
def rdLine (line : ByteArray) : TEntry × Int × Bool :=
  match partsB 32 line with
  | [w0, w1, w2, w3] => rdLine4 w0 w1 w2 w3
  | _ => (noE, 0, false)
theorem four {α : Type} {L : List α} (h : L.length = 4) : ∃ w0 w1 w2 w3, L = [w0, w1, w2, w3] := by
  rcases L with _ | ⟨w0, _ | ⟨w1, _ | ⟨w2, _ | ⟨w3, _ | ⟨w4, r⟩⟩⟩⟩⟩ <;> simp at h
  exact ⟨_, _, _, _, rfl⟩
theorem rdLine_len {s : ByteArray} (h : (partsB 32 s).length ≠ 4) : rdLine s = (noE, 0, false) := by
  unfold rdLine
  split
  next h2 => rw [h2] at h; exact absurd rfl h
  next => rfl
theorem rdLine_four {s : ByteArray} {w0 w1 w2 w3 : ByteArray} (h : partsB 32 s = [w0, w1, w2, w3]) : rdLine s = rdLine4 w0 w1 w2 w3 := by
  unfold rdLine
  rw [h]
theorem num_get (l : List UInt8) : -1000000000000000000 < (numS l).getD 0 ∧ (numS l).getD 0 < 1000000000000000000 := by
  rcases h : numS l with _ | n
  · simp
  · obtain ⟨-, -, h1, h2, -⟩ := numS_some h
    exact ⟨h1, h2⟩
theorem rdLine_bd (s : ByteArray) : (-1000000000000000000 < (rdLine s).1.1 ∧ (rdLine s).1.1 < 1000000000000000000) ∧ (-1000000000000000000 < (rdLine s).1.2.2 ∧ (rdLine s).1.2.2 < 1000000000000000000) ∧ (-1000000000000000000 < (rdLine s).2.1 ∧ (rdLine s).2.1 < 1000000000000000000) := by
  unfold rdLine
  split
  next => exact ⟨num_get _, num_get _, num_get _⟩
  next => simp [noE]
/-- the line that begins at a place, where it ends with a newline -/
def lineAt (s : ByteArray) (at_ : Nat) : Option ByteArray :=
  if (Lib.cut (s.data.toList.drop at_) [10]).2.2 = true then some ⟨(Lib.cut (s.data.toList.drop at_) [10]).1.toArray⟩ else none
/-- how far a log has been read, its stamp, its entries -/
structure LS where
  at_ : Nat
  st : Int
  l : List TEntry
def dayOf (l : List TEntry) : Int := if l.length = 0 then 0 else (l.getD (l.length - 1) noE).1
def goodE (T : LS) (x : TEntry × Int × Bool) : Bool := x.2.2 && (decide (dayOf T.l ≤ x.1.1) && decide (stampN T.st (wordsE x.1) = x.2.1))
def nextL (s : ByteArray) (T : LS) : Option LS :=
  match lineAt s T.at_ with
  | none => none
  | some line => if goodE T (rdLine line) = true then some ⟨T.at_ + line.size + 1, (rdLine line).2.1, T.l ++ [(rdLine line).1]⟩ else none
def runL (s : ByteArray) : Nat → LS → LS
  | 0, T => T
  | n + 1, T => match nextL s T with
    | none => T
    | some T' => runL s n T'
def startL : LS := ⟨0, 0, []⟩
/-- what is read of a text -/
def readL (s : ByteArray) : LS := runL s (s.size + 1) startL
theorem runL_none {s : ByteArray} {T : LS} (h : nextL s T = none) (n : Nat) : runL s n T = T := by
  cases n with
  | zero => rfl
  | succ n => unfold runL; rw [h]
theorem runL_some {s : ByteArray} {T T' : LS} (h : nextL s T = some T') (n : Nat) : runL s (n + 1) T = runL s n T' := by
  conv => lhs; unfold runL
  rw [h]
/-- a state that lies on the way -/
def OnWay (s : ByteArray) (T : LS) : Prop := (∃ n, s.size < n + T.at_ ∧ readL s = runL s n T) ∧ T.at_ ≤ s.size ∧ T.l.length ≤ T.at_ ∧ (0 ≤ T.st ∧ T.st ≤ 65518) ∧ ∀ x ∈ T.l, okEntryB x = true
theorem onWay_start (s : ByteArray) : OnWay s startL := ⟨⟨s.size + 1, by show s.size < s.size + 1 + 0; omega, rfl⟩, Nat.zero_le _, Nat.zero_le _, by simp [startL], fun x hx => by simp [startL] at hx⟩
theorem cut_cases (l : List UInt8) (c : UInt8) : (c ∉ l ∧ Lib.cut l [c] = (l, [], false)) ∨ ∃ a r, l = a ++ c :: r ∧ c ∉ a ∧ Lib.cut l [c] = (a, r, true) := by
  by_cases h : c ∈ l
  · obtain ⟨a, r, hl, ha⟩ := List.eq_append_cons_of_mem h
    exact .inr ⟨a, r, hl, ha, by rw [hl]; exact cut_at c a r ha⟩
  · exact .inl ⟨h, cut_none c l h⟩
theorem lineAt_some {s : ByteArray} {at_ : Nat} {line : ByteArray} (h : lineAt s at_ = some line) : ∃ r, s.data.toList.drop at_ = line.data.toList ++ 10 :: r ∧ at_ + line.size + 1 ≤ s.size := by
  unfold lineAt at h
  rcases cut_cases (s.data.toList.drop at_) 10 with ⟨-, e⟩ | ⟨a, r, hl, ha, e⟩
  · rw [e] at h; cases h
  · rw [e] at h
    rw [if_pos rfl] at h
    injection h with h
    subst h
    refine ⟨r, by rw [pmk_list]; exact hl, ?_⟩
    have := congrArg List.length hl
    rw [List.length_drop, size_list, List.length_append, List.length_cons] at this
    rw [psize_of_list (pmk_list a)]
    omega
theorem good_ok {T : LS} {x : TEntry × Int × Bool} (h : goodE T x = true) : x.2.2 = true ∧ dayOf T.l ≤ x.1.1 ∧ stampN T.st (wordsE x.1) = x.2.1 := by
  simp [goodE] at h
  exact h
theorem rdLine_ok {line : ByteArray} (h : (rdLine line).2.2 = true) : okEntryB (rdLine line).1 = true := by
  unfold rdLine at h ⊢
  split
  next w0 w1 w2 w3 h2 =>
    simp only [h2] at h
    unfold rdLine4 at h ⊢
    simp only [Bool.and_eq_true] at h
    exact h.2.2.2
  next h2 =>
    exfalso
    split at h
    next h3 => exact h2 _ _ _ _ h3
    next => cases h
theorem onWay_next {s : ByteArray} {T T' : LS} (h : OnWay s T) (hn : nextL s T = some T') : OnWay s T' := by
  obtain ⟨⟨n, h1, h2⟩, h3, h4, h5, h6⟩ := h
  have hn0 := hn
  unfold nextL at hn
  rcases hl : lineAt s T.at_ with _ | line
  · rw [hl] at hn; cases hn
  rw [hl] at hn
  simp only at hn
  split at hn
  next hg =>
    injection hn with hn
    obtain ⟨r, -, h7⟩ := lineAt_some hl
    obtain ⟨g1, g2, g3⟩ := good_ok hg
    subst hn
    refine ⟨⟨n - 1, ?_, ?_⟩, h7, ?_, ?_, ?_⟩
    · show s.size < n - 1 + (T.at_ + line.size + 1)
      omega
    · rw [h2]
      obtain ⟨m, rfl⟩ : ∃ m, n = m + 1 := ⟨n - 1, by omega⟩
      exact runL_some hn0 m
    · simp
      omega
    · show 0 ≤ (rdLine line).2.1 ∧ (rdLine line).2.1 ≤ 65518
      rw [← g3]
      exact stampN_bd ..
    · intro x hx
      rcases List.mem_append.1 hx with hx | hx
      · exact h6 x hx
      · rw [List.mem_singleton.1 hx]
        exact rdLine_ok g1
  next => cases hn
theorem onWay_end {s : ByteArray} {T : LS} (h : OnWay s T) (hn : nextL s T = none) : readL s = T := by
  obtain ⟨⟨n, h1, h2⟩, -⟩ := h
  rw [h2, runL_none hn]
theorem nextL_none {s : ByteArray} {T : LS} (h : lineAt s T.at_ = none) : nextL s T = none := by unfold nextL; rw [h]
theorem nextL_bad {s : ByteArray} {T : LS} {line : ByteArray} (h : lineAt s T.at_ = some line) (hg : goodE T (rdLine line) = false) : nextL s T = none := by
  unfold nextL
  rw [h]
  simp [hg]
theorem nextL_good {s : ByteArray} {T : LS} {line : ByteArray} (h : lineAt s T.at_ = some line) (hg : goodE T (rdLine line) = true) : nextL s T = some ⟨T.at_ + line.size + 1, (rdLine line).2.1, T.l ++ [(rdLine line).1]⟩ := by
  unfold nextL
  rw [h]
  simp [hg]
/-- the end of a reading lies on the way -/
theorem nextL_at {s : ByteArray} {T T' : LS} (hn : nextL s T = some T') : T.at_ + 1 ≤ T'.at_ ∧ T'.at_ ≤ s.size := by
  unfold nextL at hn
  rcases hl : lineAt s T.at_ with _ | line
  · rw [hl] at hn; cases hn
  rw [hl] at hn
  simp only at hn
  split at hn
  next hg =>
    injection hn with hn
    obtain ⟨r, -, h7⟩ := lineAt_some hl
    subst hn
    exact ⟨by show T.at_ + 1 ≤ T.at_ + line.size + 1; omega, h7⟩
  next => cases hn
theorem onWay_readL (s : ByteArray) : OnWay s (readL s) := by
  have key : ∀ n T, OnWay s T → s.size < n + T.at_ → OnWay s (runL s n T) := by
    intro n
    induction n with
    | zero => intro T h hn; exact h
    | succ n ih =>
      intro T h hn
      rcases hx : nextL s T with _ | T'
      · rw [runL_none hx]; exact h
      · rw [runL_some hx]
        exact ih T' (onWay_next h hx) (by have := (nextL_at hx).1; omega)
  exact key (s.size + 1) startL (onWay_start s) (by show s.size < s.size + 1 + 0; omega)
/-- the reference's last test -/
theorem itoa_no32 {n : Int} (h : -1000000 ≤ n) : (32 : UInt8) ∉ Lib.itoa n := by
  by_cases h0 : 0 ≤ n
  · exact itoa_no 32 (by decide) h0
  · obtain ⟨m, rfl⟩ : ∃ m : Nat, n = -(m : Int) := ⟨(-n).toNat, by omega⟩
    rw [Lib.itoa_neg m (by omega)]
    intro hm
    rcases List.mem_cons.1 hm with h1 | h1
    · revert h1; decide
    · exact digits_no 32 (by decide) m h1
theorem lineS_list (st : Int) (a : Int) (b : ByteArray) (c : Int) : (lineS st (a, b, c)).data.toList = (Lib.itoa a ++ 32 :: (b.data.toList ++ 32 :: (Lib.itoa c ++ 32 :: Lib.itoa st))) ++ [10] := by
  unfold lineS wordsE wordsS
  simp only [toList_append]
  have e (n : Int) : (decS n).data.toList = Lib.itoa n := by simp [decS]
  simp [e]
theorem parts_list {c : UInt8} {s : ByteArray} {L : List ByteArray} (h : partsB c s = L) : parts c s.data.toList = L.map (·.data.toList) := by
  rw [← h]
  unfold partsB
  rw [List.map_map]
  have : ((fun x : ByteArray => x.data.toList) ∘ fun l : List UInt8 => (⟨l.toArray⟩ : ByteArray)) = id := funext fun l => pmk_list l
  rw [this, List.map_id]
theorem line_iff {line : ByteArray} {w0 w1 w2 w3 : ByteArray} {a c st : Int} (h : partsB 32 line = [w0, w1, w2, w3]) (h0 : numS w0.data.toList = some a) (h2 : numS w2.data.toList = some c) (hok : okEntryB (a, w1, c) = true) (hst : 0 ≤ st ∧ st ≤ 65518) :
    (lineS st (a, w1, c)).data.toList = line.data.toList ++ [10] ↔ numS w3.data.toList = some st := by
  obtain ⟨⟨a1, a2⟩, bn, c1, c2⟩ := okEntryB_bd hok
  have hp := parts_list h
  rw [lineS_list]
  constructor
  · intro e
    have e2 := List.append_cancel_right e
    rw [← e2, parts_at 32 _ _ (itoa_no32 (by omega)), parts_at 32 _ _ (name_no 32 (by decide) bn), parts_at 32 _ _ (itoa_no32 (by omega)), parts_none 32 _ (itoa_no32 (by omega))] at hp
    simp only [List.map_cons, List.map_nil] at hp
    injection hp with x0 hp
    injection hp with x1 hp
    injection hp with x2 hp
    injection hp with x3 hp
    rw [← x3]
    obtain ⟨m, rfl⟩ : ∃ m : Nat, st = (m : Int) := ⟨st.toNat, by omega⟩
    exact numS_nat (by omega)
  · intro h3
    congr 1
    rw [← joinL_parts 32 line.data.toList, hp, (numS_some h0).2.1, (numS_some h2).2.1, (numS_some h3).2.1]
    rfl
theorem goodE_iff {T : LS} {line : ByteArray} {w0 w1 w2 w3 : ByteArray} {a c : Int} (h : partsB 32 line = [w0, w1, w2, w3]) (h0 : numS w0.data.toList = some a) (h2 : numS w2.data.toList = some c) (hok : okEntryB (a, w1, c) = true) (hd : dayOf T.l ≤ a) :
    goodE T (rdLine line) = true ↔ (lineS (stampN T.st (wordsE (a, w1, c))) (a, w1, c)).data.toList = line.data.toList ++ [10] := by
  rw [line_iff h h0 h2 hok (stampN_bd _ _), rdLine_four h]
  unfold goodE rdLine4
  rw [h0, h2]
  simp only [Option.getD_some, Option.isSome_some, Bool.true_and, hok, Bool.and_true]
  rw [decide_eq_true hd]
  rcases h3 : numS w3.data.toList with _ | st
  · simp
  · simp
    exact ⟨fun e => e.symm, fun e => e.symm⟩
theorem good_entry {T : LS} {line : ByteArray} {w0 w1 w2 w3 : ByteArray} {a c : Int} (h : partsB 32 line = [w0, w1, w2, w3]) (h0 : numS w0.data.toList = some a) (h2 : numS w2.data.toList = some c) (hg : goodE T (rdLine line) = true) : (rdLine line).1 = (a, w1, c) ∧ (rdLine line).2.1 = stampN T.st (wordsE (a, w1, c)) := by
  have e : (rdLine line).1 = (a, w1, c) := by rw [rdLine_four h]; unfold rdLine4; rw [h0, h2]; rfl
  refine ⟨e, ?_⟩
  rw [← (good_ok hg).2.2, e]
theorem bad_len {T : LS} {line : ByteArray} (h : (partsB 32 line).length ≠ 4) : goodE T (rdLine line) = false := by
  rw [rdLine_len h]
  rfl
theorem bad_num {T : LS} {line : ByteArray} {w0 w1 w2 w3 : ByteArray} (h : partsB 32 line = [w0, w1, w2, w3]) (hn : numS w0.data.toList = none ∨ numS w2.data.toList = none) : goodE T (rdLine line) = false := by
  rw [rdLine_four h]
  unfold goodE rdLine4
  rcases hn with hn | hn <;> rw [hn] <;> simp
theorem bad_entry {T : LS} {line : ByteArray} {w0 w1 w2 w3 : ByteArray} {a c : Int} (h : partsB 32 line = [w0, w1, w2, w3]) (h0 : numS w0.data.toList = some a) (h2 : numS w2.data.toList = some c) (hok : okEntryB (a, w1, c) = false) : goodE T (rdLine line) = false := by
  rw [rdLine_four h]
  unfold goodE rdLine4
  rw [h0, h2]
  simp [hok]
theorem bad_day {T : LS} {line : ByteArray} {w0 w1 w2 w3 : ByteArray} {a c : Int} (h : partsB 32 line = [w0, w1, w2, w3]) (h0 : numS w0.data.toList = some a) (h2 : numS w2.data.toList = some c) (hd : ¬ dayOf T.l ≤ a) : goodE T (rdLine line) = false := by
  rw [rdLine_four h]
  unfold goodE rdLine4
  rw [h0, h2]
  simp [hd]
/-- the first newline, as the reference finds it -/
theorem lineAt_hit {s : ByteArray} {at_ k : Nat} (h1 : at_ ≤ k) (hk : k < s.size) (hn : ∀ i (hi : i < s.size), at_ ≤ i → i < k → ¬ s[i]'hi = 10) (hc : s[k]'hk = 10) : lineAt s at_ = some (s.extract at_ k) := by
  have hd : s.data.toList.drop at_ = (s.extract at_ k).data.toList ++ 10 :: s.data.toList.drop (k + 1) := by
    rw [Lib.extract_data]
    have e1 : s.data.toList.drop k = 10 :: s.data.toList.drop (k + 1) := by
      rw [List.drop_eq_getElem_cons (by rw [size_list]; exact hk), get_list s k hk, hc]
    rw [← e1, show List.drop k s.data.toList = List.drop (k - at_) (List.drop at_ s.data.toList) by rw [List.drop_drop]; congr 1; omega, List.take_append_drop]
  have hm : (10 : UInt8) ∉ (s.extract at_ k).data.toList := by
    intro hm
    obtain ⟨i, hi, e⟩ := List.getElem_of_mem hm
    rw [Lib.extract_data] at hi
    simp only [Lib.extract_data] at e
    rw [List.length_take, List.length_drop, size_list] at hi
    rw [List.getElem_take, List.getElem_drop, get_list s (at_ + i) (by omega)] at e
    exact hn (at_ + i) (by omega) (by omega) (by omega) e
  unfold lineAt
  rw [hd, cut_at 10 _ _ hm]
  simp only [if_true, plist_mk]
theorem lineAt_end {s : ByteArray} {at_ : Nat} (hn : ∀ i (hi : i < s.size), at_ ≤ i → ¬ s[i]'hi = 10) : lineAt s at_ = none := by
  have hm : (10 : UInt8) ∉ s.data.toList.drop at_ := by
    intro hm
    obtain ⟨i, hi, e⟩ := List.getElem_of_mem hm
    rw [List.length_drop, size_list] at hi
    rw [List.getElem_drop, get_list s (at_ + i) (by omega)] at e
    exact hn (at_ + i) (by omega) (by omega) e
  unfold lineAt
  rw [cut_none 10 _ hm]
  rfl
theorem extract_line {s line : ByteArray} {at_ : Nat} (h : lineAt s at_ = some line) : (s.extract at_ (at_ + line.size + 1)).data.toList = line.data.toList ++ [10] := by
  obtain ⟨r, hd, hz⟩ := lineAt_some h
  rw [Lib.extract_data, hd, show at_ + line.size + 1 - at_ = line.data.toList.length + 1 by rw [size_list]; omega]
  rw [List.take_append]
  simp
  exact List.take_of_length_le (by rw [size_list]; omega)
end Go.Proofs.YtiofpmmbgohnhaaDoor
