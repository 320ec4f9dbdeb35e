/- Logs: what a log of entries is, in plain Lean. -/
import Derived.Test.YtiofpmmbgohnhaaDoorWords
namespace Go.Proofs.YtiofpmmbgohnhaaDoor
open Go Go.RowKit Go.ChangeShapes Go.WideShapes
set_option linter.unusedSimpArgs false
set_option linter.unusedVariables false

def noE : TEntry := (0, ByteArray.empty, 0)
def wordsE (x : TEntry) : ByteArray := wordsS x.1 x.2.1 x.2.2
def lineS (st : Int) (x : TEntry) : ByteArray := wordsE x ++ ⟨#[32]⟩ ++ decS st ++ ⟨#[10]⟩
def logStep (t : ByteArray × Int) (x : TEntry) : ByteArray × Int := (t.1 ++ lineS (stampN t.2 (wordsE x)) x, stampN t.2 (wordsE x))
def logFrom (t : ByteArray × Int) (l : List TEntry) : ByteArray × Int := l.foldl logStep t
def logTo (l : List TEntry) (k : Nat) : ByteArray × Int := logFrom (ByteArray.empty, 0) (l.take k)
theorem logTo_succ (l : List TEntry) (k : Nat) (h : k < l.length) : logTo l (k + 1) = logStep (logTo l k) l[k] := by
  unfold logTo logFrom
  rw [List.take_succ_eq_append_getElem h, List.foldl_append]
  rfl
theorem logTo_bd (l : List TEntry) (k : Nat) : 0 ≤ (logTo l k).2 ∧ (logTo l k).2 ≤ 65518 := by
  induction k with
  | zero => simp [logTo, logFrom]
  | succ k ih =>
    by_cases h : k < l.length
    · rw [logTo_succ l k h]
      exact stampN_bd ..
    · rw [show logTo l (k + 1) = logTo l k from by unfold logTo; rw [List.take_of_length_le (by omega), List.take_of_length_le (by omega)]]
      exact ih
theorem lineS_size {st : Int} {x : TEntry} (hs : 0 ≤ st ∧ st ≤ 65518) (h : okEntryB x = true) : 2 ≤ (lineS st x).size ∧ (lineS st x).size ≤ 79 := by
  have h1 := words_size (a := x.1) (b := x.2.1) (c := x.2.2) h
  have h2 := decS_size (n := st) (by omega)
  unfold lineS wordsE
  simp only [ByteArray.size_append]
  have e1 : (⟨#[32]⟩ : ByteArray).size = 1 := rfl
  have e2 : (⟨#[10]⟩ : ByteArray).size = 1 := rfl
  omega
theorem logTo_size (l : List TEntry) (h : ∀ x ∈ l, okEntryB x = true) (k : Nat) (hk : k ≤ l.length) : (logTo l k).1.size ≤ 79 * k := by
  induction k with
  | zero => simp [logTo, logFrom]
  | succ k ih =>
    have h1 := ih (by omega)
    have h2 := (lineS_size (stampN_bd (logTo l k).2 (wordsE l[k])) (h l[k] (List.getElem_mem (by omega)))).2
    rw [logTo_succ l k (by omega)]
    show ((logTo l k).1 ++ _).size ≤ _
    rw [ByteArray.size_append]
    omega
theorem logTo_mono (l : List TEntry) (k n : Nat) : (logTo l k).1.size ≤ (logTo l (k + n)).1.size := by
  induction n with
  | zero => exact Nat.le_refl _
  | succ n ih =>
    refine Nat.le_trans ih ?_
    by_cases h : k + n < l.length
    · rw [show k + (n + 1) = (k + n) + 1 from rfl, logTo_succ l _ h]
      show _ ≤ ((logTo l (k + n)).1 ++ _).size
      rw [ByteArray.size_append]
      omega
    · rw [show logTo l (k + (n + 1)) = logTo l (k + n) from by unfold logTo; rw [List.take_of_length_le (by omega), List.take_of_length_le (by omega)]]
      exact Nat.le_refl _
/-- days that do not fall -/
def dayBad (l : List TEntry) (i : Nat) : Bool := decide (0 < i) && decide ((l.getD i noE).1 < (l.getD (i - 1) noE).1)
def daysRise (l : List TEntry) : Bool := allTo (fun i => !dayBad l i) l.length
def logAll (l : List TEntry) : ByteArray := (logTo l l.length).1
def logR (l : List TEntry) : ByteArray × Int :=
  if (l.any fun x => !okEntryB x) = true then (ByteArray.empty, 7) else if daysRise l = true then if 4000 < (logAll l).size then (ByteArray.empty, 5) else (logAll l, 0) else (ByteArray.empty, 6)
theorem okAll_of {l : List TEntry} (h : (l.any fun x => !okEntryB x) = false) : ∀ x ∈ l, okEntryB x = true := fun x hx => by
  have := List.any_eq_false.1 h x hx
  simpa using this
end Go.Proofs.YtiofpmmbgohnhaaDoor
