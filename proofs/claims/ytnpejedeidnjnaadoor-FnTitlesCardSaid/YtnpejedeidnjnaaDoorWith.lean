/- Titles whose names begin with a text: reference and program alike. No condition but that the slices read. -/
import Derived.Test.YtnpejedeidnjnaaDoorTitle
namespace Go.Proofs.YtnpejedeidnjnaaDoor
open Go Go.RowKit Go.ChangeShapes Go.WideShapes
set_option linter.unusedSimpArgs false
set_option linter.unusedVariables false

def beginsB (s p : ByteArray) : Bool := decide (p.size ≤ s.size) && ((s.extract 0 p.size).toList == p.toList)
def withTo (l : List TTitle) (p : ByteArray) (k : Nat) : List Int := (List.range k).filterMap fun i => if beginsB (l.getD i noT).2.1 p then some ((i : Nat) : Int) else none
def withR (l : List TTitle) (p : ByteArray) : List Int × Int := if okTitles l then (withTo l p l.length, 0) else ([], 1)
theorem withTo_yes {l : List TTitle} {p : ByteArray} {k : Nat} (hk : k < l.length) (h : beginsB l[k].2.1 p = true) : withTo l p (k + 1) = withTo l p k ++ [(k : Int)] := by
  simp [withTo, List.range_succ, List.filterMap_append, hk, h]
theorem withTo_no {l : List TTitle} {p : ByteArray} {k : Nat} (hk : k < l.length) (h : beginsB l[k].2.1 p = false) : withTo l p (k + 1) = withTo l p k := by
  simp [withTo, List.range_succ, List.filterMap_append, hk, h]
theorem withTo_len (l : List TTitle) (p : ByteArray) (k : Nat) : (withTo l p k).length ≤ k := by
  have := List.length_filterMap_le (fun i => if beginsB (l.getD i noT).2.1 p then some ((i : Nat) : Int) else none) (List.range k)
  simpa [withTo] using this
theorem withR_len (l : List TTitle) (p : ByteArray) : (withR l p).1.length ≤ l.length := by
  unfold withR
  split
  · exact withTo_len _ _ _
  · simp
theorem GivesOwnI.is {α : Type} {enc : α → List Value} {w wr : World} {E : TypeId} {k : Nat} {r : List α × Int} {c : Int} {l : List α} {v : Value} (h : r = (l, c)) (ho : Own wr w.heap.size E k v enc l) (hb : Below w.heap.size w wr) : GivesOwnI w E k enc r (.returned (.tuple #[v, .int .i64 c])) wr := by
  subst h
  exact ⟨_, rfl, ho, hb⟩
theorem GivesOwnI.is_nil {α : Type} {enc : α → List Value} {w : World} {E : TypeId} {k : Nat} {r : List α × Int} {c : Int} (h : r = ([], c)) (wr : World) (hb : Below w.heap.size w wr) : GivesOwnI w E k enc r (.returned (.tuple #[.slice none 0 0, .int .i64 c])) wr := by
  subst h
  exact ⟨_, rfl, Own.nil _ _ _ _ _, hb⟩

theorem prefix_lite (w : World) (s p : ByteArray) (hs : s.size ≤ 9223372036854775807) (hp : p.size ≤ 9223372036854775807) : Calls Tryd.prog 66 #[.string s, .string p] w fun e w' => e = .returned (.bool (beginsB s p)) ∧ w' = w := by
  by_cases q : p.size ≤ s.size
  · have HE := hd (show beginsB s p = ((s.extract 0 p.size).toList == p.toList) by unfold beginsB; rw [decide_eq_true q, Bool.true_and])
    go_enter Tryd.func66, Tryd.ntmps66
    go_wp2_with fail
    go_ret
    exact ⟨by rw [HE.out]; rfl, rfl⟩
  · have HE := hd (show beginsB s p = false by unfold beginsB; rw [decide_eq_false q, Bool.false_and])
    have q' : s.size < p.size := by omega
    clear q
    go_enter Tryd.func66, Tryd.ntmps66
    go_wp2_with fail
    go_ret
    exact ⟨by rw [HE.out]; rfl, rfl⟩

theorem isName_le {s : ByteArray} (h : isNameB s = true) : s.size ≤ 12 := by
  simp [isNameB] at h
  exact h.2.1

end Go.Proofs.YtnpejedeidnjnaaDoor
