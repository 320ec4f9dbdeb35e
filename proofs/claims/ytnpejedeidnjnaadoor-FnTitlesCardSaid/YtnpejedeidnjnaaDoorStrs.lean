/- Contracts of the laws' helpers on []string: a copy, a comparison, marks. No condition but that the slice reads. -/
import Derived.Test.YtnpejedeidnjnaaDoorBase
namespace Go.Proofs.YtnpejedeidnjnaaDoor
open Go Go.RowKit Go.ChangeShapes Go.WideShapes
set_option linter.unusedSimpArgs false
set_option linter.unusedVariables false

def eS (x : ByteArray) : List Value := [.string x]
theorem eS_len (x : ByteArray) : (eS x).length = 1 := rfl
theorem bytes_of_toList {a b : ByteArray} (h : a.toList = b.toList) : a = b := by
  rw [ByteArray.toList_eq, ByteArray.toList_eq] at h
  obtain ⟨⟨x⟩⟩ := a
  obtain ⟨⟨y⟩⟩ := b
  simpa using h
theorem info_str : (Tryd.prog.info? 9).map (fun i => (i.zero, i.size, i.bytes)) = some (some (.string ByteArray.empty), 1, 16) := by kernel_rfl
theorem Sl.str_at {w : World} {A : Option Addr} {n c : Nat} {l : List ByteArray} (h : Sl w 1 (.slice A n c) eS l) {i : Nat} (hi : i < l.length) :
    ∃ b o, A = some ⟨b, o, none⟩ ∧ b < w.heap.size ∧ w.cell? ⟨b, o + i, none⟩ = some (.string l[i]) := by
  obtain ⟨b, o, x, hx, hA, hb, hc⟩ := h.at_ hi
  have : x = l[i] := by rw [List.getElem?_eq_getElem hi] at hx; exact (Option.some.inj hx).symm
  subst this
  exact ⟨b, o, hA, hb, by simpa using hc 0 _ rfl⟩


/-- the digits of a number ahead of a text -/
def mtGo : Nat → Nat → ByteArray → ByteArray
  | 0, _, out => out
  | f + 1, n, out => if n = 0 then out else mtGo f (n / 10) (strOfNums [48 + (n : Int) % 10] ++ out)
def markB (k : Nat) : ByteArray := if k = 0 then ⟨#[109, 48]⟩ else ⟨#[109]⟩ ++ mtGo 20 k ByteArray.empty
def marksB (k n : Nat) : List ByteArray := (List.range n).map fun i => markB (k + i)
theorem marksB_len (k n : Nat) : (marksB k n).length = n := by simp [marksB]
theorem marksB_get (k n i : Nat) (h : i < (marksB k n).length) : (marksB k n)[i] = markB (k + i) := by simp [marksB]
end Go.Proofs.YtnpejedeidnjnaaDoor
