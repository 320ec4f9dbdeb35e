/- Lemmas for the claim (the walks of its functions and their plain laws), joined. No condition. -/
import Derived.Test.YtgcodjkjdfahdaaGreatDoorJ12
import Derived.Test.YtgcodjkjdfahdaaGreatDoorJ6
import Derived.Test.YtgcodjkjdfahdaaGreatDoorJ18
import Derived.Laws.ResultCell
namespace Go.Proofs.YtgcodjkjdfahdaaGreatDoor
open Go Go.RowKit Go.ChangeShapes Go.WideShapes
set_option linter.unusedSimpArgs false
set_option linter.unusedVariables false
def rdLine4 (w0 w1 w2 w3 : ByteArray) : TEntry × Int × Bool :=
  (((numS w0.data.toList).getD 0, w1, (numS w2.data.toList).getD 0), (numS w3.data.toList).getD 0,
    (numS w0.data.toList).isSome && ((numS w2.data.toList).isSome && ((numS w3.data.toList).isSome && okEntryB ((numS w0.data.toList).getD 0, w1, (numS w2.data.toList).getD 0))))
def rdLine (line : ByteArray) : TEntry × Int × Bool :=
  match partsB 32 line with
  | [w0, w1, w2, w3] => rdLine4 w0 w1 w2 w3
  | _ => (noE, 0, false)
theorem four {α : Type} {L : List α} (h : L.length = 4) : ∃ w0 w1 w2 w3, L = [w0, w1, w2, w3] := by
  rcases L with _ | ⟨w0, _ | ⟨w1, _ | ⟨w2, _ | ⟨w3, _ | ⟨w4, r⟩⟩⟩⟩⟩ <;> simp at h
  exact ⟨_, _, _, _, rfl⟩
theorem rdLine_len {s : ByteArray} (h : (partsB 32 s).length ≠ 4) : rdLine s = (noE, 0, false) := by
  unfold rdLine
  split
  next h2 => rw [h2] at h; exact absurd rfl h
  next => rfl
theorem rdLine_four {s : ByteArray} {w0 w1 w2 w3 : ByteArray} (h : partsB 32 s = [w0, w1, w2, w3]) : rdLine s = rdLine4 w0 w1 w2 w3 := by
  unfold rdLine
  rw [h]
theorem num_get (l : List UInt8) : -1000000000000000000 < (numS l).getD 0 ∧ (numS l).getD 0 < 1000000000000000000 := by
  rcases h : numS l with _ | n
  · simp
  · obtain ⟨-, -, h1, h2, -⟩ := numS_some h
    exact ⟨h1, h2⟩
theorem rdLine_bd (s : ByteArray) : (-1000000000000000000 < (rdLine s).1.1 ∧ (rdLine s).1.1 < 1000000000000000000) ∧ (-1000000000000000000 < (rdLine s).1.2.2 ∧ (rdLine s).1.2.2 < 1000000000000000000) ∧ (-1000000000000000000 < (rdLine s).2.1 ∧ (rdLine s).2.1 < 1000000000000000000) := by
  unfold rdLine
  split
  next => exact ⟨num_get _, num_get _, num_get _⟩
  next => simp [noE]
def lineAt (s : ByteArray) (at_ : Nat) : Option ByteArray :=
  if (Lib.cut (s.data.toList.drop at_) [10]).2.2 = true then some ⟨(Lib.cut (s.data.toList.drop at_) [10]).1.toArray⟩ else none
structure LS where
  at_ : Nat
  st : Int
  l : List TEntry
def dayOf (l : List TEntry) : Int := if l.length = 0 then 0 else (l.getD (l.length - 1) noE).1
def goodE (T : LS) (x : TEntry × Int × Bool) : Bool := x.2.2 && (decide (dayOf T.l ≤ x.1.1) && decide (stampN T.st (wordsE x.1) = x.2.1))
def nextL (s : ByteArray) (T : LS) : Option LS :=
  match lineAt s T.at_ with
  | none => none
  | some line => if goodE T (rdLine line) = true then some ⟨T.at_ + line.size + 1, (rdLine line).2.1, T.l ++ [(rdLine line).1]⟩ else none
def runL (s : ByteArray) : Nat → LS → LS
  | 0, T => T
  | n + 1, T => match nextL s T with
    | none => T
    | some T' => runL s n T'
def startL : LS := ⟨0, 0, []⟩
def readL (s : ByteArray) : LS := runL s (s.size + 1) startL
theorem runL_none {s : ByteArray} {T : LS} (h : nextL s T = none) (n : Nat) : runL s n T = T := by
  cases n with
  | zero => rfl
  | succ n => unfold runL; rw [h]
theorem runL_some {s : ByteArray} {T T' : LS} (h : nextL s T = some T') (n : Nat) : runL s (n + 1) T = runL s n T' := by
  conv => lhs; unfold runL
  rw [h]
def OnWay (s : ByteArray) (T : LS) : Prop := (∃ n, s.size < n + T.at_ ∧ readL s = runL s n T) ∧ T.at_ ≤ s.size ∧ T.l.length ≤ T.at_ ∧ (0 ≤ T.st ∧ T.st ≤ 65518) ∧ ∀ x ∈ T.l, okEntryB x = true
theorem onWay_start (s : ByteArray) : OnWay s startL := ⟨⟨s.size + 1, by show s.size < s.size + 1 + 0; omega, rfl⟩, Nat.zero_le _, Nat.zero_le _, by simp [startL], fun x hx => by simp [startL] at hx⟩
theorem cut_cases (l : List UInt8) (c : UInt8) : (c ∉ l ∧ Lib.cut l [c] = (l, [], false)) ∨ ∃ a r, l = a ++ c :: r ∧ c ∉ a ∧ Lib.cut l [c] = (a, r, true) := by
  by_cases h : c ∈ l
  · obtain ⟨a, r, hl, ha⟩ := List.eq_append_cons_of_mem h
    exact .inr ⟨a, r, hl, ha, by rw [hl]; exact cut_at c a r ha⟩
  · exact .inl ⟨h, cut_none c l h⟩
theorem lineAt_some {s : ByteArray} {at_ : Nat} {line : ByteArray} (h : lineAt s at_ = some line) : ∃ r, s.data.toList.drop at_ = line.data.toList ++ 10 :: r ∧ at_ + line.size + 1 ≤ s.size := by
  unfold lineAt at h
  rcases cut_cases (s.data.toList.drop at_) 10 with ⟨-, e⟩ | ⟨a, r, hl, ha, e⟩
  · rw [e] at h; cases h
  · rw [e] at h
    rw [if_pos rfl] at h
    injection h with h
    subst h
    refine ⟨r, by rw [pmk_list]; exact hl, ?_⟩
    have := congrArg List.length hl
    rw [List.length_drop, size_list, List.length_append, List.length_cons] at this
    rw [psize_of_list (pmk_list a)]
    omega
theorem good_ok {T : LS} {x : TEntry × Int × Bool} (h : goodE T x = true) : x.2.2 = true ∧ dayOf T.l ≤ x.1.1 ∧ stampN T.st (wordsE x.1) = x.2.1 := by
  simp [goodE] at h
  exact h
theorem rdLine_ok {line : ByteArray} (h : (rdLine line).2.2 = true) : okEntryB (rdLine line).1 = true := by
  unfold rdLine at h ⊢
  split
  next w0 w1 w2 w3 h2 =>
    simp only [h2] at h
    unfold rdLine4 at h ⊢
    simp only [Bool.and_eq_true] at h
    exact h.2.2.2
  next h2 =>
    exfalso
    split at h
    next h3 => exact h2 _ _ _ _ h3
    next => cases h
theorem onWay_next {s : ByteArray} {T T' : LS} (h : OnWay s T) (hn : nextL s T = some T') : OnWay s T' := by
  obtain ⟨⟨n, h1, h2⟩, h3, h4, h5, h6⟩ := h
  have hn0 := hn
  unfold nextL at hn
  rcases hl : lineAt s T.at_ with _ | line
  · rw [hl] at hn; cases hn
  rw [hl] at hn
  simp only at hn
  split at hn
  next hg =>
    injection hn with hn
    obtain ⟨r, -, h7⟩ := lineAt_some hl
    obtain ⟨g1, g2, g3⟩ := good_ok hg
    subst hn
    refine ⟨⟨n - 1, ?_, ?_⟩, h7, ?_, ?_, ?_⟩
    · show s.size < n - 1 + (T.at_ + line.size + 1)
      omega
    · rw [h2]
      obtain ⟨m, rfl⟩ : ∃ m, n = m + 1 := ⟨n - 1, by omega⟩
      exact runL_some hn0 m
    · simp
      omega
    · show 0 ≤ (rdLine line).2.1 ∧ (rdLine line).2.1 ≤ 65518
      rw [← g3]
      exact stampN_bd ..
    · intro x hx
      rcases List.mem_append.1 hx with hx | hx
      · exact h6 x hx
      · rw [List.mem_singleton.1 hx]
        exact rdLine_ok g1
  next => cases hn
theorem onWay_end {s : ByteArray} {T : LS} (h : OnWay s T) (hn : nextL s T = none) : readL s = T := by
  obtain ⟨⟨n, h1, h2⟩, -⟩ := h
  rw [h2, runL_none hn]
theorem nextL_none {s : ByteArray} {T : LS} (h : lineAt s T.at_ = none) : nextL s T = none := by unfold nextL; rw [h]
theorem nextL_bad {s : ByteArray} {T : LS} {line : ByteArray} (h : lineAt s T.at_ = some line) (hg : goodE T (rdLine line) = false) : nextL s T = none := by
  unfold nextL
  rw [h]
  simp [hg]
theorem nextL_good {s : ByteArray} {T : LS} {line : ByteArray} (h : lineAt s T.at_ = some line) (hg : goodE T (rdLine line) = true) : nextL s T = some ⟨T.at_ + line.size + 1, (rdLine line).2.1, T.l ++ [(rdLine line).1]⟩ := by
  unfold nextL
  rw [h]
  simp [hg]
theorem nextL_at {s : ByteArray} {T T' : LS} (hn : nextL s T = some T') : T.at_ + 1 ≤ T'.at_ ∧ T'.at_ ≤ s.size := by
  unfold nextL at hn
  rcases hl : lineAt s T.at_ with _ | line
  · rw [hl] at hn; cases hn
  rw [hl] at hn
  simp only at hn
  split at hn
  next hg =>
    injection hn with hn
    obtain ⟨r, -, h7⟩ := lineAt_some hl
    subst hn
    exact ⟨by show T.at_ + 1 ≤ T.at_ + line.size + 1; omega, h7⟩
  next => cases hn
theorem onWay_readL (s : ByteArray) : OnWay s (readL s) := by
  have key : ∀ n T, OnWay s T → s.size < n + T.at_ → OnWay s (runL s n T) := by
    intro n
    induction n with
    | zero => intro T h hn; exact h
    | succ n ih =>
      intro T h hn
      rcases hx : nextL s T with _ | T'
      · rw [runL_none hx]; exact h
      · rw [runL_some hx]
        exact ih T' (onWay_next h hx) (by have := (nextL_at hx).1; omega)
  exact key (s.size + 1) startL (onWay_start s) (by show s.size < s.size + 1 + 0; omega)
theorem itoa_no32 {n : Int} (h : -1000000 ≤ n) : (32 : UInt8) ∉ Lib.itoa n := by
  by_cases h0 : 0 ≤ n
  · exact itoa_no 32 (by decide) h0
  · obtain ⟨m, rfl⟩ : ∃ m : Nat, n = -(m : Int) := ⟨(-n).toNat, by omega⟩
    rw [Lib.itoa_neg m (by omega)]
    intro hm
    rcases List.mem_cons.1 hm with h1 | h1
    · revert h1; decide
    · exact digits_no 32 (by decide) m h1
theorem lineS_list (st : Int) (a : Int) (b : ByteArray) (c : Int) : (lineS st (a, b, c)).data.toList = (Lib.itoa a ++ 32 :: (b.data.toList ++ 32 :: (Lib.itoa c ++ 32 :: Lib.itoa st))) ++ [10] := by
  unfold lineS wordsE wordsS
  simp only [toList_append]
  have e (n : Int) : (decS n).data.toList = Lib.itoa n := by simp [decS]
  simp [e]
theorem parts_list {c : UInt8} {s : ByteArray} {L : List ByteArray} (h : partsB c s = L) : parts c s.data.toList = L.map (·.data.toList) := by
  rw [← h]
  unfold partsB
  rw [List.map_map]
  have : ((fun x : ByteArray => x.data.toList) ∘ fun l : List UInt8 => (⟨l.toArray⟩ : ByteArray)) = id := funext fun l => pmk_list l
  rw [this, List.map_id]
theorem line_iff {line : ByteArray} {w0 w1 w2 w3 : ByteArray} {a c st : Int} (h : partsB 32 line = [w0, w1, w2, w3]) (h0 : numS w0.data.toList = some a) (h2 : numS w2.data.toList = some c) (hok : okEntryB (a, w1, c) = true) (hst : 0 ≤ st ∧ st ≤ 65518) :
    (lineS st (a, w1, c)).data.toList = line.data.toList ++ [10] ↔ numS w3.data.toList = some st := by
  obtain ⟨⟨a1, a2⟩, bn, c1, c2⟩ := okEntryB_bd hok
  have hp := parts_list h
  rw [lineS_list]
  constructor
  · intro e
    have e2 := List.append_cancel_right e
    rw [← e2, parts_at 32 _ _ (itoa_no32 (by omega)), parts_at 32 _ _ (name_no 32 (by decide) bn), parts_at 32 _ _ (itoa_no32 (by omega)), parts_none 32 _ (itoa_no32 (by omega))] at hp
    simp only [List.map_cons, List.map_nil] at hp
    injection hp with x0 hp
    injection hp with x1 hp
    injection hp with x2 hp
    injection hp with x3 hp
    rw [← x3]
    obtain ⟨m, rfl⟩ : ∃ m : Nat, st = (m : Int) := ⟨st.toNat, by omega⟩
    exact numS_nat (by omega)
  · intro h3
    congr 1
    rw [← joinL_parts 32 line.data.toList, hp, (numS_some h0).2.1, (numS_some h2).2.1, (numS_some h3).2.1]
    rfl
theorem goodE_iff {T : LS} {line : ByteArray} {w0 w1 w2 w3 : ByteArray} {a c : Int} (h : partsB 32 line = [w0, w1, w2, w3]) (h0 : numS w0.data.toList = some a) (h2 : numS w2.data.toList = some c) (hok : okEntryB (a, w1, c) = true) (hd : dayOf T.l ≤ a) :
    goodE T (rdLine line) = true ↔ (lineS (stampN T.st (wordsE (a, w1, c))) (a, w1, c)).data.toList = line.data.toList ++ [10] := by
  rw [line_iff h h0 h2 hok (stampN_bd _ _), rdLine_four h]
  unfold goodE rdLine4
  rw [h0, h2]
  simp only [Option.getD_some, Option.isSome_some, Bool.true_and, hok, Bool.and_true]
  rw [decide_eq_true hd]
  rcases h3 : numS w3.data.toList with _ | st
  · simp
  · simp
    exact ⟨fun e => e.symm, fun e => e.symm⟩
theorem good_entry {T : LS} {line : ByteArray} {w0 w1 w2 w3 : ByteArray} {a c : Int} (h : partsB 32 line = [w0, w1, w2, w3]) (h0 : numS w0.data.toList = some a) (h2 : numS w2.data.toList = some c) (hg : goodE T (rdLine line) = true) : (rdLine line).1 = (a, w1, c) ∧ (rdLine line).2.1 = stampN T.st (wordsE (a, w1, c)) := by
  have e : (rdLine line).1 = (a, w1, c) := by rw [rdLine_four h]; unfold rdLine4; rw [h0, h2]; rfl
  refine ⟨e, ?_⟩
  rw [← (good_ok hg).2.2, e]
theorem bad_len {T : LS} {line : ByteArray} (h : (partsB 32 line).length ≠ 4) : goodE T (rdLine line) = false := by
  rw [rdLine_len h]
  rfl
theorem bad_num {T : LS} {line : ByteArray} {w0 w1 w2 w3 : ByteArray} (h : partsB 32 line = [w0, w1, w2, w3]) (hn : numS w0.data.toList = none ∨ numS w2.data.toList = none) : goodE T (rdLine line) = false := by
  rw [rdLine_four h]
  unfold goodE rdLine4
  rcases hn with hn | hn <;> rw [hn] <;> simp
theorem bad_entry {T : LS} {line : ByteArray} {w0 w1 w2 w3 : ByteArray} {a c : Int} (h : partsB 32 line = [w0, w1, w2, w3]) (h0 : numS w0.data.toList = some a) (h2 : numS w2.data.toList = some c) (hok : okEntryB (a, w1, c) = false) : goodE T (rdLine line) = false := by
  rw [rdLine_four h]
  unfold goodE rdLine4
  rw [h0, h2]
  simp [hok]
theorem bad_day {T : LS} {line : ByteArray} {w0 w1 w2 w3 : ByteArray} {a c : Int} (h : partsB 32 line = [w0, w1, w2, w3]) (h0 : numS w0.data.toList = some a) (h2 : numS w2.data.toList = some c) (hd : ¬ dayOf T.l ≤ a) : goodE T (rdLine line) = false := by
  rw [rdLine_four h]
  unfold goodE rdLine4
  rw [h0, h2]
  simp [hd]
theorem lineAt_hit {s : ByteArray} {at_ k : Nat} (h1 : at_ ≤ k) (hk : k < s.size) (hn : ∀ i (hi : i < s.size), at_ ≤ i → i < k → ¬ s[i]'hi = 10) (hc : s[k]'hk = 10) : lineAt s at_ = some (s.extract at_ k) := by
  have hd : s.data.toList.drop at_ = (s.extract at_ k).data.toList ++ 10 :: s.data.toList.drop (k + 1) := by
    rw [Lib.extract_data]
    have e1 : s.data.toList.drop k = 10 :: s.data.toList.drop (k + 1) := by
      rw [List.drop_eq_getElem_cons (by rw [size_list]; exact hk), get_list s k hk, hc]
    rw [← e1, show List.drop k s.data.toList = List.drop (k - at_) (List.drop at_ s.data.toList) by rw [List.drop_drop]; congr 1; omega, List.take_append_drop]
  have hm : (10 : UInt8) ∉ (s.extract at_ k).data.toList := by
    intro hm
    obtain ⟨i, hi, e⟩ := List.getElem_of_mem hm
    rw [Lib.extract_data] at hi
    simp only [Lib.extract_data] at e
    rw [List.length_take, List.length_drop, size_list] at hi
    rw [List.getElem_take, List.getElem_drop, get_list s (at_ + i) (by omega)] at e
    exact hn (at_ + i) (by omega) (by omega) (by omega) e
  unfold lineAt
  rw [hd, cut_at 10 _ _ hm]
  simp only [if_true, plist_mk]
theorem lineAt_end {s : ByteArray} {at_ : Nat} (hn : ∀ i (hi : i < s.size), at_ ≤ i → ¬ s[i]'hi = 10) : lineAt s at_ = none := by
  have hm : (10 : UInt8) ∉ s.data.toList.drop at_ := by
    intro hm
    obtain ⟨i, hi, e⟩ := List.getElem_of_mem hm
    rw [List.length_drop, size_list] at hi
    rw [List.getElem_drop, get_list s (at_ + i) (by omega)] at e
    exact hn (at_ + i) (by omega) (by omega) e
  unfold lineAt
  rw [cut_none 10 _ hm]
  rfl
theorem extract_line {s line : ByteArray} {at_ : Nat} (h : lineAt s at_ = some line) : (s.extract at_ (at_ + line.size + 1)).data.toList = line.data.toList ++ [10] := by
  obtain ⟨r, hd, hz⟩ := lineAt_some h
  rw [Lib.extract_data, hd, show at_ + line.size + 1 - at_ = line.data.toList.length + 1 by rw [size_list]; omega]
  rw [List.take_append]
  simp
  exact List.take_of_length_le (by rw [size_list]; omega)
end Go.Proofs.YtgcodjkjdfahdaaGreatDoor

namespace Go.Proofs.YtgcodjkjdfahdaaGreatDoor
open Go Go.RowKit Go.ChangeShapes Go.WideShapes
set_option linter.unusedSimpArgs false
set_option linter.unusedVariables false
theorem free_in {w : World} {g : Nat} {cs : Array Value} {T : TypeId} (h : w.heap[g]? = some (.cells cs T (0, 0))) (j : Nat) : w.frozen? ⟨g, j, none⟩ = false := by
  simp [World.frozen?, h]
theorem title_new (w : World) (a b c d : Value) (T : TypeId) :
    (w.alloc (.cells #[a, b, c, d] T)).cell? ⟨w.heap.size, 0, none⟩ = some a ∧ (w.alloc (.cells #[a, b, c, d] T)).cell? ⟨w.heap.size, 1, none⟩ = some b ∧ (w.alloc (.cells #[a, b, c, d] T)).cell? ⟨w.heap.size, 2, none⟩ = some c ∧ (w.alloc (.cells #[a, b, c, d] T)).cell? ⟨w.heap.size, 3, none⟩ = some d ∧
    (w.alloc (.cells #[a, b, c, d] T)).frozen? ⟨w.heap.size, 0, none⟩ = false ∧ (w.alloc (.cells #[a, b, c, d] T)).frozen? ⟨w.heap.size, 1, none⟩ = false ∧ (w.alloc (.cells #[a, b, c, d] T)).frozen? ⟨w.heap.size, 2, none⟩ = false ∧ (w.alloc (.cells #[a, b, c, d] T)).frozen? ⟨w.heap.size, 3, none⟩ = false ∧
    (w.alloc (.cells #[a, b, c, d] T)).heap.size = w.heap.size + 1 ∧ Below w.heap.size w (w.alloc (.cells #[a, b, c, d] T)) := by
  have g0 : (w.alloc (.cells #[a, b, c, d] T)).heap[w.heap.size]? = some (.cells #[a, b, c, d] T (0, 0)) := heap_alloc_new w _
  exact ⟨cell_of_row _ _ 0 _ _ (0, 0) g0, cell_of_row _ _ 1 _ _ (0, 0) g0, cell_of_row _ _ 2 _ _ (0, 0) g0, cell_of_row _ _ 3 _ _ (0, 0) g0, free_in g0 0, free_in g0 1, free_in g0 2, free_in g0 3, by simp, (Below.refl _ _).alloc (Nat.le_refl _) _⟩
def Box (W : World) (h : Nat) : Prop := h < W.heap.size ∧ (∃ d0 d1 d2 d3, W.cell? ⟨h, 0, none⟩ = some d0 ∧ W.cell? ⟨h, 1, none⟩ = some d1 ∧ W.cell? ⟨h, 2, none⟩ = some d2 ∧ W.cell? ⟨h, 3, none⟩ = some d3) ∧ W.frozen? ⟨h, 0, none⟩ = false ∧ W.frozen? ⟨h, 1, none⟩ = false ∧ W.frozen? ⟨h, 2, none⟩ = false ∧ W.frozen? ⟨h, 3, none⟩ = false
theorem Box.below {W W' : World} {h : Nat} (x : Box W h) (hb : Below W.heap.size W W') : Box W' h := by
  obtain ⟨h0, ⟨d0, d1, d2, d3, c0, c1, c2, c3⟩, f0, f1, f2, f3⟩ := x
  exact ⟨Nat.lt_of_lt_of_le h0 hb.size, ⟨d0, d1, d2, d3, (hb.cell (p := ⟨h, 0, none⟩) h0).trans c0, (hb.cell (p := ⟨h, 1, none⟩) h0).trans c1, (hb.cell (p := ⟨h, 2, none⟩) h0).trans c2, (hb.cell (p := ⟨h, 3, none⟩) h0).trans c3⟩, (hb.frozen (p := ⟨h, 0, none⟩) h0).trans f0, (hb.frozen (p := ⟨h, 1, none⟩) h0).trans f1, (hb.frozen (p := ⟨h, 2, none⟩) h0).trans f2, (hb.frozen (p := ⟨h, 3, none⟩) h0).trans f3⟩
theorem box_new (w : World) (a b c d : Value) (T : TypeId) : Box (w.alloc (.cells #[a, b, c, d] T)) w.heap.size := by
  obtain ⟨c0, c1, c2, c3, f0, f1, f2, f3, hs, -⟩ := title_new w a b c d T
  exact ⟨by omega, ⟨_, _, _, _, c0, c1, c2, c3⟩, f0, f1, f2, f3⟩
theorem box_below {w W : World} {h : Nat} (hb : Below h w W) (a b c d : Value) : Below h w ((((W.setCell ⟨h, 0, none⟩ a).setCell ⟨h, 1, none⟩ b).setCell ⟨h, 2, none⟩ c).setCell ⟨h, 3, none⟩ d) :=
  (((hb.setCell (p := ⟨h, 0, none⟩) (Nat.le_refl _) _).setCell (p := ⟨h, 1, none⟩) (Nat.le_refl _) _).setCell (p := ⟨h, 2, none⟩) (Nat.le_refl _) _).setCell (p := ⟨h, 3, none⟩) (Nat.le_refl _) _
theorem num_form (l : List UInt8) : ∃ (n : Int) (ok : Bool), -1000000000000000000 < n ∧ n < 1000000000000000000 ∧ rdTuple l = .tuple #[.int .i64 n, .bool ok] ∧ (ok = true → numS l = some n) ∧ (ok = false → numS l = none) := by
  rcases h : numS l with _ | n
  · exact ⟨0, false, by omega, by omega, rd_none h, fun e => (by cases e), fun _ => rfl⟩
  · obtain ⟨-, -, h1, h2, -⟩ := numS_some h
    exact ⟨n, true, h1, h2, rd_some h, fun _ => rfl, fun e => (by cases e)⟩
set_option maxRecDepth 100000 in
set_option maxHeartbeats 8000000 in
theorem readT_impl (w : World) (s : ByteArray) (hs : s.size ≤ 1048576) (hsh : Shop w) :
    Calls Tryz.prog 79 #[.string s] w fun e w' => e = .returned (.tuple #[.agg #[.int .i64 (rtV s).1, .string (rtV s).2.1, .int .i64 (rtV s).2.2.1, .int .i64 (rtV s).2.2.2], .bool (rtB s)]) ∧ Below w.heap.size w w' := by
  have hb0 := (title_new w (.int .i64 0) (.string ⟨#[]⟩) (.int .i64 0) (.int .i64 0) 95).2.2.2.2.2.2.2.2.2
  have hz0 := (title_new w (.int .i64 0) (.string ⟨#[]⟩) (.int .i64 0) (.int .i64 0) 95).2.2.2.2.2.2.2.2.1
  have X0 := box_new w (.int .i64 0) (.string ⟨#[]⟩) (.int .i64 0) (.int .i64 0) 95
  have HSH := hd (hsh.below hb0)
  clear hsh
  go_enter Tryz.func79, Tryz.ntmps79
  go_wp2_with fail
  generalize w.alloc (.cells #[.int .i64 0, .string ⟨#[]⟩, .int .i64 0, .int .i64 0] 95) = W0 at hb0 hz0 X0 HSH ⊢
  refine (split_impl _ _ 32 hs HSH.out.2.2).mono ?_
  rintro e w1 ⟨v, rfl, hown, hb1⟩
  have B1 := below_step hb0 hb1
  have SH1 := hd (HSH.out.below hb1)
  have X1 := X0.below hb1
  by_cases hlen : (partsB 32 s).length = 7
  case neg =>
    have HN := hd (readT_len hlen)
    have hlen' : (((partsB 32 s).length : Nat) : Int) ≠ 7 := by omega
    have hle := partsB_len_le 32 s
    obtain ⟨A, cc, rfl⟩ := hown.isSlice
    obtain ⟨x0, ⟨d0, d1, d2, d3, c0, c1, c2, c3⟩, f0, f1, f2, f3⟩ := X1
    clear hlen hown X0
    go_wp2_with fail
    have FC := title_cells w1 w.heap.size (.int .i64 0) (.string ⟨#[]⟩) (.int .i64 0) (.int .i64 0) _ _ _ _ c0 c1 c2 c3
    have BZ := box_below B1 (.int .i64 0) (.string ⟨#[]⟩) (.int .i64 0) (.int .i64 0)
    generalize ((((w1.setCell ⟨w.heap.size, 0, none⟩ (.int .i64 0)).setCell ⟨w.heap.size, 1, none⟩ (.string ⟨#[]⟩)).setCell ⟨w.heap.size, 2, none⟩ (.int .i64 0)).setCell ⟨w.heap.size, 3, none⟩ (.int .i64 0)) = Z at FC BZ ⊢
    obtain ⟨e0, e1, e2, e3⟩ := FC
    refine bodyPost_ret (v := .tuple #[.agg #[.int .i64 0, .string ⟨#[]⟩, .int .i64 0, .int .i64 0], .bool false]) ?_ rfl ?_
    · refine (results_cell_tmp Tryz.results79 _ _ _).trans ?_
      show (((loadVar 95 ⟨w.heap.size, 0, none⟩).run Tryz.prog Z).andThen fun v w₂ => Result.ok (Value.tuple #[v, Value.bool false]) w₂) = _
      rw [load_title Z _ _ _ _ _ e0 e1 e2 e3]
      rfl
    · exact ⟨by unfold rtV rtB; rw [HN.out]; rfl, BZ⟩
  obtain ⟨y0, y1, y2, y3, y4, y5, y6, hL⟩ := seven hlen
  have hsz : ∀ x ∈ partsB 32 s, x.size ≤ 1048576 := fun x hx => Nat.le_trans (partsB_size 32 s x hx) hs
  obtain ⟨g, cap, rfl, hg, hcap, hcap2, CE1⟩ := own_cells hown (by omega)
  rw [hlen] at hcap ⊢
  rw [hL] at hsz CE1
  have HL := hd hL
  have z0 : y0.size ≤ 1048576 := hsz y0 (by simp)
  have z1 : y1.size ≤ 1048576 := hsz y1 (by simp)
  have z2 : y2.size ≤ 1048576 := hsz y2 (by simp)
  have z3 : y3.size ≤ 1048576 := hsz y3 (by simp)
  have z4 : y4.size ≤ 1048576 := hsz y4 (by simp)
  have z5 : y5.size ≤ 1048576 := hsz y5 (by simp)
  have z6 : y6.size ≤ 1048576 := hsz y6 (by simp)
  clear hsz hL hown hlen X0
  have p1 : w1.cell? ⟨g, 1, none⟩ = some (.string y1) := CE1.2 1 y1 rfl
  go_wp2_with fail
  refine (readDec_impl _ _ z1 SH1.out.1 SH1.out.2.1).mono ?_
  rintro e w2 ⟨rfl, hb2⟩
  obtain ⟨a, oka, la, ua, hra, ya, na⟩ := num_form y1.data.toList
  rw [hra]
  have Ya := hd ya
  have Na := hd na
  clear hra ya na
  have B2 := below_step B1 hb2
  have SH2 := hd (SH1.out.below hb2)
  have X2 := X1.below hb2
  have CE2 := CE1.below hb2
  have p4 : w2.cell? ⟨g, 4, none⟩ = some (.string y4) := CE2.2 4 y4 rfl
  go_wp2_with fail
  refine (readDec_impl _ _ z4 SH2.out.1 SH2.out.2.1).mono ?_
  rintro e w3 ⟨rfl, hb3⟩
  obtain ⟨c, okc, lc, uc, hrc, yc, nc⟩ := num_form y4.data.toList
  rw [hrc]
  have Yc := hd yc
  have Nc := hd nc
  clear hrc yc nc
  have B3 := below_step B2 hb3
  have SH3 := hd (SH2.out.below hb3)
  have X3 := X2.below hb3
  have CE3 := CE2.below hb3
  have p6 : w3.cell? ⟨g, 6, none⟩ = some (.string y6) := CE3.2 6 y6 rfl
  go_wp2_with fail
  refine (readDec_impl _ _ z6 SH3.out.1 SH3.out.2.1).mono ?_
  rintro e w4 ⟨rfl, hb4⟩
  obtain ⟨d, okd, ld, ud, hrd, yd, nd⟩ := num_form y6.data.toList
  rw [hrd]
  have Yd := hd yd
  have Nd := hd nd
  clear hrd yd nd
  have B4 := below_step B3 hb4
  have SH4 := hd (SH3.out.below hb4)
  have X4 := X3.below hb4
  have CE4 := CE3.below hb4
  have p2 : w4.cell? ⟨g, 2, none⟩ = some (.string y2) := CE4.2 2 y2 rfl
  have HX := title_new w4 (.int .i64 a) (.string y2) (.int .i64 c) (.int .i64 d) 95
  have X5 := X4.below HX.2.2.2.2.2.2.2.2.2
  have B5 := below_step B4 HX.2.2.2.2.2.2.2.2.2
  have SH5 := hd (SH4.out.below HX.2.2.2.2.2.2.2.2.2)
  obtain ⟨t0, t1, t2, t3, -, -, -, -, hz5, -⟩ := HX
  rcases oka with _ | _
  · have HN := hd (readT_num HL.out (.inl (Na.out (by trivial))))
    obtain ⟨x0, ⟨d0, d1, d2, d3, c0, c1, c2, c3⟩, f0, f1, f2, f3⟩ := X5
    go_wp2_with fail
    have FC := title_cells (w4.alloc (.cells #[.int .i64 a, .string y2, .int .i64 c, .int .i64 d] 95)) w.heap.size (.int .i64 0) (.string ⟨#[]⟩) (.int .i64 0) (.int .i64 0) _ _ _ _ c0 c1 c2 c3
    have BZ := box_below B5 (.int .i64 0) (.string ⟨#[]⟩) (.int .i64 0) (.int .i64 0)
    generalize (((((w4.alloc (.cells #[.int .i64 a, .string y2, .int .i64 c, .int .i64 d] 95)).setCell ⟨w.heap.size, 0, none⟩ (.int .i64 0)).setCell ⟨w.heap.size, 1, none⟩ (.string ⟨#[]⟩)).setCell ⟨w.heap.size, 2, none⟩ (.int .i64 0)).setCell ⟨w.heap.size, 3, none⟩ (.int .i64 0)) = Z at FC BZ ⊢
    obtain ⟨e0, e1, e2, e3⟩ := FC
    refine bodyPost_ret (v := .tuple #[.agg #[.int .i64 0, .string ⟨#[]⟩, .int .i64 0, .int .i64 0], .bool false]) ?_ rfl ?_
    · refine (results_cell_tmp Tryz.results79 _ _ _).trans ?_
      show (((loadVar 95 ⟨w.heap.size, 0, none⟩).run Tryz.prog Z).andThen fun v w₂ => Result.ok (Value.tuple #[v, Value.bool false]) w₂) = _
      rw [load_title Z _ _ _ _ _ e0 e1 e2 e3]
      rfl
    · exact ⟨by unfold rtV rtB; rw [HN.out]; rfl, BZ⟩
  rcases okc with _ | _
  · have HN := hd (readT_num HL.out (.inr (.inl (Nc.out (by trivial)))))
    obtain ⟨x0, ⟨d0, d1, d2, d3, c0, c1, c2, c3⟩, f0, f1, f2, f3⟩ := X5
    go_wp2_with fail
    have FC := title_cells (w4.alloc (.cells #[.int .i64 a, .string y2, .int .i64 c, .int .i64 d] 95)) w.heap.size (.int .i64 0) (.string ⟨#[]⟩) (.int .i64 0) (.int .i64 0) _ _ _ _ c0 c1 c2 c3
    have BZ := box_below B5 (.int .i64 0) (.string ⟨#[]⟩) (.int .i64 0) (.int .i64 0)
    generalize (((((w4.alloc (.cells #[.int .i64 a, .string y2, .int .i64 c, .int .i64 d] 95)).setCell ⟨w.heap.size, 0, none⟩ (.int .i64 0)).setCell ⟨w.heap.size, 1, none⟩ (.string ⟨#[]⟩)).setCell ⟨w.heap.size, 2, none⟩ (.int .i64 0)).setCell ⟨w.heap.size, 3, none⟩ (.int .i64 0)) = Z at FC BZ ⊢
    obtain ⟨e0, e1, e2, e3⟩ := FC
    refine bodyPost_ret (v := .tuple #[.agg #[.int .i64 0, .string ⟨#[]⟩, .int .i64 0, .int .i64 0], .bool false]) ?_ rfl ?_
    · refine (results_cell_tmp Tryz.results79 _ _ _).trans ?_
      show (((loadVar 95 ⟨w.heap.size, 0, none⟩).run Tryz.prog Z).andThen fun v w₂ => Result.ok (Value.tuple #[v, Value.bool false]) w₂) = _
      rw [load_title Z _ _ _ _ _ e0 e1 e2 e3]
      rfl
    · exact ⟨by unfold rtV rtB; rw [HN.out]; rfl, BZ⟩
  rcases okd with _ | _
  · have HN := hd (readT_num HL.out (.inr (.inr (Nd.out (by trivial)))))
    obtain ⟨x0, ⟨d0, d1, d2, d3, c0, c1, c2, c3⟩, f0, f1, f2, f3⟩ := X5
    go_wp2_with fail
    have FC := title_cells (w4.alloc (.cells #[.int .i64 a, .string y2, .int .i64 c, .int .i64 d] 95)) w.heap.size (.int .i64 0) (.string ⟨#[]⟩) (.int .i64 0) (.int .i64 0) _ _ _ _ c0 c1 c2 c3
    have BZ := box_below B5 (.int .i64 0) (.string ⟨#[]⟩) (.int .i64 0) (.int .i64 0)
    generalize (((((w4.alloc (.cells #[.int .i64 a, .string y2, .int .i64 c, .int .i64 d] 95)).setCell ⟨w.heap.size, 0, none⟩ (.int .i64 0)).setCell ⟨w.heap.size, 1, none⟩ (.string ⟨#[]⟩)).setCell ⟨w.heap.size, 2, none⟩ (.int .i64 0)).setCell ⟨w.heap.size, 3, none⟩ (.int .i64 0)) = Z at FC BZ ⊢
    obtain ⟨e0, e1, e2, e3⟩ := FC
    refine bodyPost_ret (v := .tuple #[.agg #[.int .i64 0, .string ⟨#[]⟩, .int .i64 0, .int .i64 0], .bool false]) ?_ rfl ?_
    · refine (results_cell_tmp Tryz.results79 _ _ _).trans ?_
      show (((loadVar 95 ⟨w.heap.size, 0, none⟩).run Tryz.prog Z).andThen fun v w₂ => Result.ok (Value.tuple #[v, Value.bool false]) w₂) = _
      rw [load_title Z _ _ _ _ _ e0 e1 e2 e3]
      rfl
    · exact ⟨by unfold rtV rtB; rw [HN.out]; rfl, BZ⟩
  go_wp2_with fail
  refine (ttext_impl _ a y2 c d SH5.out.1).mono ?_
  rintro e w6 ⟨rfl, hb6⟩
  have hx6 : w4.heap.size < (w4.alloc (.cells #[.int .i64 a, .string y2, .int .i64 c, .int .i64 d] 95)).heap.size := by omega
  have u0 := (hb6.cell (p := ⟨w4.heap.size, 0, none⟩) hx6).trans t0
  have u1 := (hb6.cell (p := ⟨w4.heap.size, 1, none⟩) hx6).trans t1
  have u2 := (hb6.cell (p := ⟨w4.heap.size, 2, none⟩) hx6).trans t2
  have u3 := (hb6.cell (p := ⟨w4.heap.size, 3, none⟩) hx6).trans t3
  have X6 := X5.below hb6
  have B6 := below_step B5 hb6
  have HI := hd (textR_iff HL.out (Ya.out (by trivial)) (Yc.out (by trivial)) (Yd.out (by trivial)))
  have HR := hd (readT_some HL.out (Ya.out (by trivial)) (Yc.out (by trivial)) (Yd.out (by trivial)))
  obtain ⟨x0, ⟨d0, d1, d2, d3, c0, c1, c2, c3⟩, f0, f1, f2, f3⟩ := X6
  clear X5 hb6 t0 t1 t2 t3
  by_cases et : textR a y2 c d = s
  case neg =>
    have HN := hd (show readT s = none by rw [HR.out, if_neg (fun e => et (HI.out.2 e))])
    have kk : ((textR a y2 c d).toList == s.toList) = false := beq_eq_false_iff_ne.2 (fun e => et (bytes_of_toList e))
    clear et
    go_wp2_with fail
    have FC := title_cells w6 w.heap.size (.int .i64 0) (.string ⟨#[]⟩) (.int .i64 0) (.int .i64 0) _ _ _ _ c0 c1 c2 c3
    have BZ := box_below B6 (.int .i64 0) (.string ⟨#[]⟩) (.int .i64 0) (.int .i64 0)
    generalize ((((w6.setCell ⟨w.heap.size, 0, none⟩ (.int .i64 0)).setCell ⟨w.heap.size, 1, none⟩ (.string ⟨#[]⟩)).setCell ⟨w.heap.size, 2, none⟩ (.int .i64 0)).setCell ⟨w.heap.size, 3, none⟩ (.int .i64 0)) = Z at FC BZ ⊢
    obtain ⟨e0, e1, e2, e3⟩ := FC
    refine bodyPost_ret (v := .tuple #[.agg #[.int .i64 0, .string ⟨#[]⟩, .int .i64 0, .int .i64 0], .bool false]) ?_ rfl ?_
    · refine (results_cell_tmp Tryz.results79 _ _ _).trans ?_
      show (((loadVar 95 ⟨w.heap.size, 0, none⟩).run Tryz.prog Z).andThen fun v w₂ => Result.ok (Value.tuple #[v, Value.bool false]) w₂) = _
      rw [load_title Z _ _ _ _ _ e0 e1 e2 e3]
      rfl
    · exact ⟨by unfold rtV rtB; rw [HN.out]; rfl, BZ⟩
  have HN := hd (show readT s = some (a, y2, c, d) by rw [HR.out, if_pos (HI.out.1 et)])
  have kk : ((textR a y2 c d).toList == s.toList) = true := by rw [et]; simp
  clear et
  go_wp2_with fail
  have FC := title_cells w6 w.heap.size (.int .i64 a) (.string y2) (.int .i64 c) (.int .i64 d) _ _ _ _ c0 c1 c2 c3
  have BZ := box_below B6 (.int .i64 a) (.string y2) (.int .i64 c) (.int .i64 d)
  generalize ((((w6.setCell ⟨w.heap.size, 0, none⟩ (.int .i64 a)).setCell ⟨w.heap.size, 1, none⟩ (.string y2)).setCell ⟨w.heap.size, 2, none⟩ (.int .i64 c)).setCell ⟨w.heap.size, 3, none⟩ (.int .i64 d)) = Z at FC BZ ⊢
  obtain ⟨e0, e1, e2, e3⟩ := FC
  refine bodyPost_ret (v := .tuple #[.agg #[.int .i64 a, .string y2, .int .i64 c, .int .i64 d], .bool true]) ?_ rfl ?_
  · refine (results_cell_tmp Tryz.results79 _ _ _).trans ?_
    show (((loadVar 95 ⟨w.heap.size, 0, none⟩).run Tryz.prog Z).andThen fun v w₂ => Result.ok (Value.tuple #[v, Value.bool true]) w₂) = _
    rw [load_title Z _ _ _ _ _ e0 e1 e2 e3]
    rfl
  · exact ⟨by unfold rtV rtB; rw [HN.out]; rfl, BZ⟩
end Go.Proofs.YtgcodjkjdfahdaaGreatDoor
