/- Contracts of the laws' helpers on []Entry: a copy, a comparison, marks. No condition but that the slice reads. -/
import Derived.Test.YtiofpmmbgohnhaaDoorStrs
namespace Go.Proofs.YtiofpmmbgohnhaaDoor
open Go Go.RowKit Go.ChangeShapes Go.WideShapes
set_option linter.unusedSimpArgs false
set_option linter.unusedVariables false

abbrev TEntry := Int × ByteArray × Int
def eEntry (x : TEntry) : List Value := [.int .i64 x.1, .string x.2.1, .int .i64 x.2.2]
theorem eEntry_len (x : TEntry) : (eEntry x).length = 3 := rfl

theorem Sl.Entry_at {w : World} {A : Option Addr} {n c : Nat} {l : List TEntry} (h : Sl w 3 (.slice A n c) eEntry l) {i : Nat} (hi : i < l.length) :
    ∃ b o, A = some ⟨b, o, none⟩ ∧ b < w.heap.size ∧ w.cell? ⟨b, o + i * 3, none⟩ = some (.int .i64 l[i].1) ∧ w.cell? ⟨b, o + i * 3 + 1, none⟩ = some (.string l[i].2.1) ∧ w.cell? ⟨b, o + i * 3 + 2, none⟩ = some (.int .i64 l[i].2.2) := by
  obtain ⟨b, o, x, hx, hA, hb, hc⟩ := h.at_ hi
  have : x = l[i] := by rw [List.getElem?_eq_getElem hi] at hx; exact (Option.some.inj hx).symm
  subst this
  exact ⟨b, o, hA, hb, hc 0 _ rfl, hc 1 _ rfl, hc 2 _ rfl⟩

def okEntry (x : TEntry) : Prop := (-9223372036854775808 ≤ x.1 ∧ x.1 ≤ 9223372036854775807) ∧ x.2.1.size ≤ maxLen ∧ (-9223372036854775808 ≤ x.2.2 ∧ x.2.2 ≤ 9223372036854775807)

theorem info_Entry : (Tryd.prog.info? 38).map (fun i => (i.zero, i.size, i.bytes)) = some (some (.agg #[.int .i64 0, .string ByteArray.empty, .int .i64 0]), 3, 32) := by kernel_rfl

def sumEntry (l : List TEntry) : Nat := (l.map fun x => x.2.1.size).sum
theorem sumEntry_snoc (l : List TEntry) (k : Nat) (h : k < l.length) : sumEntry (l.take (k + 1)) = sumEntry (l.take k) + l[k].2.1.size := by
  unfold sumEntry
  rw [List.take_succ_eq_append_getElem h, List.map_append, List.sum_append]
  simp
theorem sumEntry_le (l : List TEntry) (k : Nat) : sumEntry (l.take k) ≤ sumEntry l := by
  have h : sumEntry l = sumEntry (l.take k) + sumEntry (l.drop k) := by
    unfold sumEntry
    rw [← List.sum_append, ← List.map_append, List.take_append_drop]
  omega
def totEntry (l : List TEntry) : Nat := l.length + sumEntry l
def szREntry (l : List TEntry) (left : Int) : Int := if (totEntry l : Int) ≤ left then left - (totEntry l : Int) else -1
theorem szREntry_yes {l : List TEntry} {left : Int} (h : (totEntry l : Int) ≤ left) : szREntry l left = left - (totEntry l : Int) := if_pos h
theorem szREntry_no {l : List TEntry} {left : Int} (h : left < (totEntry l : Int)) : szREntry l left = -1 := if_neg (by omega)
theorem szREntry_part {l : List TEntry} {left : Int} {k : Nat} (h : left < (l.length : Int) + (sumEntry (l.take k) : Int)) : szREntry l left = -1 := by
  refine szREntry_no ?_
  have := sumEntry_le l k
  unfold totEntry
  omega
theorem szREntry_all {l : List TEntry} {left : Int} {k : Nat} (hk : ¬ k < l.length) (h : (l.length : Int) + (sumEntry (l.take k) : Int) ≤ left) : left - (l.length : Int) - (sumEntry (l.take k) : Int) = szREntry l left := by
  rw [List.take_of_length_le (by omega)] at h ⊢
  rw [szREntry_yes (by unfold totEntry; omega)]
  unfold totEntry
  omega
/-- the marks from k on -/
def marksEntry (k n : Nat) : List TEntry := (List.range n).map fun (i : Nat) => (((k + 3 * i : Nat) : Int), markB (k + 3 * i + 1), ((k + 3 * i + 1 + 1 : Nat) : Int))
theorem marksEntry_len (k n : Nat) : (marksEntry k n).length = n := by simp [marksEntry]
theorem marksEntry_get (k n i : Nat) (h : i < (marksEntry k n).length) : (marksEntry k n)[i] = (((k + 3 * i : Nat) : Int), markB (k + 3 * i + 1), ((k + 3 * i + 1 + 1 : Nat) : Int)) := by simp [marksEntry]
end Go.Proofs.YtiofpmmbgohnhaaDoor
