/- A log that was written is read back: the plain law. No condition. -/
import Derived.Test.YtiofpmmbgohnhaaDoorLCode
import Derived.Test.YtiofpmmbgohnhaaDoorLAdd
namespace Go.Proofs.YtiofpmmbgohnhaaDoor
open Go Go.RowKit Go.ChangeShapes Go.WideShapes
set_option linter.unusedSimpArgs false
set_option linter.unusedVariables false
theorem numS_int {n : Int} (h : -99999999999999999 ≤ n) (h2 : n ≤ 99999999999999999) : numS (Lib.itoa n) = some n := by
  by_cases h0 : 0 ≤ n
  · obtain ⟨m, rfl⟩ : ∃ m : Nat, n = (m : Int) := ⟨n.toNat, by omega⟩
    exact numS_nat (by omega)
  · obtain ⟨m, rfl⟩ : ∃ m : Nat, n = -(m : Int) := ⟨(-n).toNat, by omega⟩
    have e := Lib.itoa_neg m (by omega)
    have hl : (Lib.decDigits m).length ≤ 18 := decDigits_len 17 m (by have : (10 : Nat) ^ 18 = 1000000000000000000 := by decide
                                                                      omega)
    have hp : 1 ≤ (Lib.decDigits m).length := by
      rcases hd : Lib.decDigits m with _ | ⟨c, r⟩
      · have := valD_digits m
        rw [hd] at this
        simp [valD] at this
        omega
      · simp
    have ht : tailS (Lib.itoa (-(m : Int))) = Lib.decDigits m := by rw [e]; rfl
    rw [numS_val (u := m) (n := -(m : Int)) (by rw [ht]; exact ⟨hp, hl⟩) (by rw [ht]; exact valD_digits m) (by rw [e]; rfl), if_pos rfl]
theorem itoa_no10 {n : Int} (h : -1000000 ≤ n) : (10 : UInt8) ∉ Lib.itoa n := by
  by_cases h0 : 0 ≤ n
  · exact itoa_no 10 (by decide) h0
  · obtain ⟨m, rfl⟩ : ∃ m : Nat, n = -(m : Int) := ⟨(-n).toNat, by omega⟩
    rw [Lib.itoa_neg m (by omega)]
    intro hm
    rcases List.mem_cons.1 hm with h1 | h1
    · revert h1; decide
    · exact digits_no 10 (by decide) m h1
/-- a line without its end -/
def bareL (st : Int) (x : TEntry) : List UInt8 := Lib.itoa x.1 ++ 32 :: (x.2.1.data.toList ++ 32 :: (Lib.itoa x.2.2 ++ 32 :: Lib.itoa st))
theorem lineS_bare (st : Int) (x : TEntry) : (lineS st x).data.toList = bareL st x ++ [10] := lineS_list st x.1 x.2.1 x.2.2
theorem bare_no10 {st : Int} {x : TEntry} (hs : 0 ≤ st ∧ st ≤ 65518) (h : okEntryB x = true) : (10 : UInt8) ∉ bareL st x := by
  obtain ⟨a, b, c⟩ := x
  obtain ⟨⟨a1, a2⟩, bn, c1, c2⟩ := okEntryB_bd h
  unfold bareL
  intro hm
  simp only [List.mem_append, List.mem_cons] at hm
  rcases hm with hm | hm | hm | hm | hm | hm | hm
  · exact itoa_no10 (by omega) hm
  · revert hm; decide
  · exact name_no 10 (by decide) bn hm
  · revert hm; decide
  · exact itoa_no10 (by omega) hm
  · revert hm; decide
  · exact itoa_no10 (by omega) hm
theorem rdLine_bare {st : Int} {x : TEntry} (hs : 0 ≤ st ∧ st ≤ 65518) (h : okEntryB x = true) : rdLine ⟨(bareL st x).toArray⟩ = (x, st, true) := by
  obtain ⟨a, b, c⟩ := x
  have h' := h
  obtain ⟨⟨a1, a2⟩, bn, c1, c2⟩ := okEntryB_bd h
  have hp : partsB 32 ⟨(bareL st (a, b, c)).toArray⟩ = [⟨(Lib.itoa a).toArray⟩, b, ⟨(Lib.itoa c).toArray⟩, ⟨(Lib.itoa st).toArray⟩] := by
    unfold partsB
    show (parts 32 (bareL st (a, b, c))).map (fun l => (⟨l.toArray⟩ : ByteArray)) = _
    unfold bareL
    rw [parts_at 32 _ _ (itoa_no32 (by omega)), parts_at 32 _ _ (name_no 32 (by decide) bn), parts_at 32 _ _ (itoa_no32 (by omega)), parts_none 32 _ (itoa_no32 (by omega))]
    rfl
  rw [rdLine_four hp]
  unfold rdLine4
  show (((numS (Lib.itoa a)).getD 0, b, (numS (Lib.itoa c)).getD 0), (numS (Lib.itoa st)).getD 0, _ && (_ && (_ && _))) = _
  rw [numS_int (n := a) (by omega) (by omega), numS_int (n := c) (by omega) (by omega), numS_int (n := st) (by omega) (by omega)]
  simp [h']
theorem lineAt_bare {s : ByteArray} {at_ : Nat} {l r : List UInt8} (h : s.data.toList.drop at_ = l ++ 10 :: r) (hl : (10 : UInt8) ∉ l) : lineAt s at_ = some ⟨l.toArray⟩ := by
  unfold lineAt
  rw [h, cut_at 10 l r hl]
  rfl
theorem lineAt_no {s : ByteArray} {at_ : Nat} (h : (10 : UInt8) ∉ s.data.toList.drop at_) : lineAt s at_ = none := by
  unfold lineAt
  rw [cut_none 10 _ h]
  rfl
/-- the state behind k entries -/
def atT (l : List TEntry) (k : Nat) : LS := ⟨(logTo l k).1.size, (logTo l k).2, l.take k⟩
/-- valid entries in order -/
def Fine (l : List TEntry) : Prop := (∀ x ∈ l, okEntryB x = true) ∧ ∀ k (h : k + 1 < l.length), l[k].1 ≤ l[k + 1].1
theorem Fine.day {l : List TEntry} (h : Fine l) {k : Nat} (hk : k < l.length) : dayOf (l.take k) ≤ l[k].1 := by
  unfold dayOf
  have e : (l.take k).length = k := by rw [List.length_take]; omega
  rw [e]
  by_cases h0 : k = 0
  · rw [if_pos h0]
    have := h.1 l[k] (List.getElem_mem hk)
    obtain ⟨⟨a1, a2⟩, -⟩ := okEntryB_bd (a := l[k].1) (b := l[k].2.1) (c := l[k].2.2) this
    exact a1
  · rw [if_neg h0]
    obtain ⟨m, rfl⟩ : ∃ m, k = m + 1 := ⟨k - 1, by omega⟩
    have : (l.take (m + 1)).getD (m + 1 - 1) noE = l[m] := by
      simp only [Nat.add_sub_cancel]
      rw [List.getD_eq_getElem?_getD, List.getElem?_take]
      simp [show m < l.length by omega]
    rw [this]
    exact h.2 m hk
theorem log_split (l : List TEntry) (k : Nat) (h : k < l.length) : (logTo l (k + 1)).1.data.toList = (logTo l k).1.data.toList ++ (bareL (logTo l (k + 1)).2 l[k] ++ [10]) := by
  rw [logTo_succ l k h]
  show ((logTo l k).1 ++ lineS (stampN (logTo l k).2 (wordsE l[k])) l[k]).data.toList = _
  rw [toList_append, lineS_bare]
  rfl
theorem next_at {l : List TEntry} (hf : Fine l) {s : ByteArray} {k : Nat} (hk : k < l.length) {r : List UInt8} (hs : s.data.toList = (logTo l (k + 1)).1.data.toList ++ r) : nextL s (atT l k) = some (atT l (k + 1)) := by
  have hb := logTo_bd l (k + 1)
  have hok := hf.1 l[k] (List.getElem_mem hk)
  have hd : s.data.toList.drop (logTo l k).1.size = bareL (logTo l (k + 1)).2 l[k] ++ 10 :: r := by
    rw [hs, log_split l k hk, ← size_list, List.append_assoc, List.drop_left]
    simp
  have hl := lineAt_bare hd (bare_no10 hb hok)
  have hr := rdLine_bare hb hok
  have hst : stampN (logTo l k).2 (wordsE l[k]) = (logTo l (k + 1)).2 := by rw [logTo_succ l k hk]; rfl
  have hg : goodE (atT l k) (rdLine ⟨(bareL (logTo l (k + 1)).2 l[k]).toArray⟩) = true := by
    rw [hr]
    unfold goodE
    have h1 := hf.day hk
    show (true && (decide (dayOf (l.take k) ≤ l[k].1) && decide (stampN (logTo l k).2 (wordsE l[k]) = (logTo l (k + 1)).2))) = true
    rw [hst, decide_eq_true h1, decide_eq_true rfl]
    rfl
  rw [nextL_good hl hg, hr]
  unfold atT
  congr 1
  have hz : (logTo l (k + 1)).1.size = (logTo l k).1.size + (⟨(bareL (logTo l (k + 1)).2 l[k]).toArray⟩ : ByteArray).size + 1 := by
    have := congrArg List.length (log_split l k hk)
    rw [List.length_append, List.length_append, size_list, size_list] at this
    rw [this]
    show _ = _ + (bareL (logTo l (k + 1)).2 l[k]).toArray.size + 1
    simp
    omega
  rw [hz, List.take_succ_eq_append_getElem hk]
theorem log_prefix (l : List TEntry) (k n : Nat) : ∃ r, (logTo l (k + n)).1.data.toList = (logTo l k).1.data.toList ++ r := by
  induction n with
  | zero => exact ⟨[], by simp⟩
  | succ n ih =>
    obtain ⟨r, hr⟩ := ih
    by_cases h : k + n < l.length
    · exact ⟨r ++ (bareL (logTo l (k + n + 1)).2 l[k + n] ++ [10]), by rw [show k + (n + 1) = k + n + 1 from rfl, log_split l _ h, hr, List.append_assoc]⟩
    · rw [show logTo l (k + (n + 1)) = logTo l (k + n) from by unfold logTo; rw [List.take_of_length_le (by omega), List.take_of_length_le (by omega)]]
      exact ⟨r, hr⟩
theorem way_to {l : List TEntry} (hf : Fine l) {s : ByteArray} {k : Nat} (hk : k ≤ l.length) {r : List UInt8} (hs : s.data.toList = (logTo l k).1.data.toList ++ r) : OnWay s (atT l k) := by
  have key : ∀ j, j ≤ k → OnWay s (atT l j) := by
    intro j
    induction j with
    | zero => intro _; exact onWay_start s
    | succ j ih =>
      intro hj
      obtain ⟨r2, hr2⟩ := log_prefix l (j + 1) (k - (j + 1))
      rw [show j + 1 + (k - (j + 1)) = k by omega] at hr2
      exact onWay_next (ih (by omega)) (next_at hf (by omega) (r := r2 ++ r) (by rw [hs, hr2, List.append_assoc]))
  exact key k (Nat.le_refl _)
/-- what is read of a whole log and a piece without an end of line -/
theorem read_at {l : List TEntry} (hf : Fine l) {s : ByteArray} {k : Nat} (hk : k ≤ l.length) {r : List UInt8} (hs : s.data.toList = (logTo l k).1.data.toList ++ r) (hr : (10 : UInt8) ∉ r) : readL s = atT l k := by
  refine onWay_end (way_to hf hk hs) (nextL_none (lineAt_no ?_))
  show (10 : UInt8) ∉ s.data.toList.drop (logTo l k).1.size
  rw [hs, ← size_list, List.drop_left]
  exact hr
theorem read_log {l : List TEntry} (hf : Fine l) {k : Nat} (hk : k ≤ l.length) : readL (logTo l k).1 = atT l k := read_at hf hk (r := []) (by simp) (by simp)
theorem read_all {l : List TEntry} (hf : Fine l) : readL (logAll l) = ⟨(logAll l).size, (logTo l l.length).2, l⟩ := by
  unfold logAll
  rw [read_log hf (Nat.le_refl _)]
  unfold atT
  rw [List.take_length]
theorem Fine.rise {l : List TEntry} (h : Fine l) : daysRise l = true := rise_of (k := l.length) (by omega) fun j hj => by
  rcases j with _ | j
  · unfold dayBad; rfl
  · rw [dayBad_at (m := j) hj]
    have := h.2 j hj
    simp
    omega
theorem Fine.any {l : List TEntry} (h : Fine l) : (l.any fun x => !okEntryB x) = false := by
  rw [List.any_eq_false]
  intro x hx
  simp [h.1 x hx]
theorem logAll_size {l : List TEntry} (h : Fine l) : (logAll l).size ≤ 79 * l.length := logTo_size l h.1 l.length (Nat.le_refl _)
theorem logR_fine {l : List TEntry} (h : Fine l) (hl : l.length ≤ 50) : logR l = (logAll l, 0) := by
  have := logAll_size h
  unfold logR
  rw [h.any, h.rise, if_neg (by simp), if_pos rfl, if_neg (by omega)]
theorem lc_fine {l : List TEntry} (h : Fine l) (hl : l.length ≤ 50) {k : Nat} (hk : k ≤ l.length) : lc (logTo l k).1 = 0 := by
  have := logTo_size l h.1 k hk
  unfold lc
  rw [read_log h hk, if_pos (by omega)]
  exact if_pos rfl
theorem Fine.snoc {l : List TEntry} (h : Fine l) {x : TEntry} (hx : okEntryB x = true) (hd : dayOf l ≤ x.1) : Fine (l ++ [x]) := by
  refine ⟨fun y hy => ?_, fun k hk => ?_⟩
  · rcases List.mem_append.1 hy with hy | hy
    · exact h.1 y hy
    · rw [List.mem_singleton.1 hy]; exact hx
  · rw [List.length_append, List.length_singleton] at hk
    by_cases e : k + 1 = l.length
    · have e1 : (l ++ [x])[k] = l[k] := List.getElem_append_left (by omega)
      have e2 : (l ++ [x])[k + 1]'(by simp; omega) = x := by simp [List.getElem_append_right, e]
      rw [e1, e2]
      unfold dayOf at hd
      rw [if_neg (by omega)] at hd
      have : l.getD (l.length - 1) noE = l[k] := by
        rw [show l.length - 1 = k by omega]
        simp [show k < l.length by omega]
      rw [this] at hd
      exact hd
    · have e1 : (l ++ [x])[k] = l[k] := List.getElem_append_left (by omega)
      have e2 : (l ++ [x])[k + 1]'(by simp; omega) = l[k + 1] := List.getElem_append_left (by omega)
      rw [e1, e2]
      exact h.2 k (by omega)
theorem fine_nil : Fine [] := ⟨fun x hx => by simp at hx, fun k h => absurd h (by simp)⟩
end Go.Proofs.YtiofpmmbgohnhaaDoor
