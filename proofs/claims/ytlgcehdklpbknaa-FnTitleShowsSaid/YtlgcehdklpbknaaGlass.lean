/- A glass of a title is broken, the glasses of a title are mended: reference and program alike. No condition but that the slices read. -/
import Derived.Test.YtlgcehdklpbknaaField
import Derived.Test.YtlgcehdklpbknaaFind
import Derived.Test.YtlgcehdklpbknaaWith
import Derived.Test.YtlgcehdklpbknaaApp
import Derived.Lib.SliceRun
namespace Go.Proofs.Ytlgcehdklpbknaa
open Go Go.RowKit Go.ChangeShapes Go.WideShapes
set_option linter.unusedSimpArgs false
set_option linter.unusedVariables false

def broken (x : TTitle) (d : Int) : TTitle := (x.1, x.2.1, x.2.2.1, d)
def breakR (l : List TTitle) (no : Int) : List TTitle × Int :=
  if (findR l no).2 = 0 then if (l.getD (atK l no) noT).2.2.2 = (l.getD (atK l no) noT).2.2.1 then ([], 6) else (l.set (atK l no) (broken (l.getD (atK l no) noT) ((l.getD (atK l no) noT).2.2.2 + 1)), 0) else ([], (findR l no).2)
def mendR (l : List TTitle) (no : Int) : List TTitle × Int × Int :=
  if (findR l no).2 = 0 then (l.set (atK l no) (broken (l.getD (atK l no) noT) 0), (l.getD (atK l no) noT).2.2.2, 0) else ([], 0, (findR l no).2)
theorem findR_zero {l : List TTitle} {no : Int} (h : (findR l no).2 = 0) : okTitles l = true ∧ atK l no < l.length ∧ (findR l no).1 = ((atK l no : Nat) : Int) := by
  rcases h1 : okTitles l with _ | _
  · rw [findR_bad h1] at h; simp at h
  rcases h2 : inB no 1 9999 with _ | _
  · rw [findR_range h1 h2] at h; simp at h
  rcases h3 : foundB l no with _ | _
  · rw [findR_none h1 h2 h3] at h; simp at h
  exact ⟨rfl, found_lt h3, by rw [findR_some h1 h2 h3]⟩
theorem breakR_len (l : List TTitle) (no : Int) : (breakR l no).1.length ≤ l.length := by
  unfold breakR
  split
  · split
    · simp
    · simp
  · simp
theorem mendR_len (l : List TTitle) (no : Int) : (mendR l no).1.length ≤ l.length := by
  unfold mendR
  split
  · simp
  · simp
theorem breakR_no {l : List TTitle} {no : Int} (h : ¬ (findR l no).2 = 0) : breakR l no = ([], (findR l no).2) := if_neg h
theorem breakR_state {l : List TTitle} {no : Int} {k : Nat} (h : (findR l no).2 = 0) (hk : k = atK l no) (hl : k < l.length) (he : l[k].2.2.2 = l[k].2.2.1) : breakR l no = ([], 6) := by
  subst hk
  simp only [breakR, h, if_true, List.getD_eq_getElem?_getD, List.getElem?_eq_getElem hl, Option.getD_some, he]
theorem breakR_yes {l : List TTitle} {no : Int} {k : Nat} (h : (findR l no).2 = 0) (hk : k = atK l no) (hl : k < l.length) (he : ¬ l[k].2.2.2 = l[k].2.2.1) : breakR l no = (l.set k (broken l[k] (l[k].2.2.2 + 1)), 0) := by
  subst hk
  simp only [breakR, h, if_true, List.getD_eq_getElem?_getD, List.getElem?_eq_getElem hl, Option.getD_some, he, if_false]
theorem mendR_no {l : List TTitle} {no : Int} (h : ¬ (findR l no).2 = 0) : mendR l no = ([], 0, (findR l no).2) := if_neg h
theorem mendR_yes {l : List TTitle} {no : Int} {k : Nat} (h : (findR l no).2 = 0) (hk : k = atK l no) (hl : k < l.length) : mendR l no = (l.set k (broken l[k] 0), l[k].2.2.2, 0) := by
  subst hk
  simp only [mendR, h, if_true, List.getD_eq_getElem?_getD, List.getElem?_eq_getElem hl, Option.getD_some]
/-- The call returns a slice of its own and two numbers; what was there stands. -/
def GivesOwnII {α : Type} (w : World) (E : TypeId) (k : Nat) (enc : α → List Value) (r : List α × Int × Int) (e : Ending) (w' : World) : Prop :=
  ∃ v, e = .returned (.tuple #[v, .int .i64 r.2.1, .int .i64 r.2.2]) ∧ Own w' w.heap.size E k v enc r.1 ∧ Below w.heap.size w w'
theorem GivesOwnII.is {α : Type} {enc : α → List Value} {w wr : World} {E : TypeId} {k : Nat} {r : List α × Int × Int} {c d : Int} {l : List α} {v : Value} (h : r = (l, c, d)) (ho : Own wr w.heap.size E k v enc l) (hb : Below w.heap.size w wr) : GivesOwnII w E k enc r (.returned (.tuple #[v, .int .i64 c, .int .i64 d])) wr := by
  subst h
  exact ⟨_, rfl, ho, hb⟩
theorem GivesOwnII.is_nil {α : Type} {enc : α → List Value} {w : World} {E : TypeId} {k : Nat} {r : List α × Int × Int} {c d : Int} (h : r = ([], c, d)) (wr : World) (hb : Below w.heap.size w wr) : GivesOwnII w E k enc r (.returned (.tuple #[.slice none 0 0, .int .i64 c, .int .i64 d])) wr := by
  subst h
  exact ⟨_, rfl, Own.nil _ _ _ _ _, hb⟩

set_option maxHeartbeats 1000000 in
theorem clone_Titles (w : World) (v : Value) (l : List TTitle) (h : Sl w 4 v eTitle l) (hl : l.length ≤ 1048576) :
    Calls Try.prog 87 #[v] w (GivesOwn w 55 4 eTitle l) := by
  obtain ⟨-, A, c, rfl, -, -, hA⟩ := id h
  obtain ⟨i0, hi, hz0, hz1, hz2⟩ := info_parts info_Title
  have q : ∀ (w : World) (a : Option Addr) (n c n' c' : Nat), (binOp .eql 51 (.slice a n c) (.slice none n' c')).run Try.prog w = .ok (.bool a.isNone) w := fun w a n c n' c' => Go.Lib.run_eql_slice_nil w _ _ a n c n' c' Try.underlying51
  rcases A with _ | ad
  · have hnil : l = [] := by
      rcases l with _ | ⟨y, l⟩
      · rfl
      · obtain ⟨b, o, he, -⟩ := hA 0 y rfl
        cases he
    subst hnil
    go_enter Try.func87, Try.ntmps87
    go_wp2_with fail
    go_ret
    exact ⟨_, rfl, Own.nil _ _ _ _ _, Below.refl _ _⟩
  · clear hA
    go_enter Try.func87, Try.ntmps87
    go_wp2_with (at_builtin; refine wpList_append_sl _ rfl _ _ 51 rfl i0 (.agg #[.int .i64 0, .string ByteArray.empty, .int .i64 0, .int .i64 0]) 40 Try.underlying51 hi hz0 hz1 hz2 rfl (by decide) eTitle_len (by rintro ⟨a, b, c, d⟩ u hu; simp [eTitle] at hu; rcases hu with rfl | rfl | rfl | rfl <;> rfl) _ [] rfl (Own.made0 w w.heap.size 55 4 eTitle (Nat.le_refl _)) _ l rfl (h.alloc _) (by unfold maxLen; simp; omega) (by simp; omega) (by simp) ?_)
    intro v' w1 hown hgr
    have hbel := ((Below.refl w.heap.size w).alloc (Nat.le_refl _) (.cells #[] 55)).grown hgr (by simp) (by intro g hg; simp [Value.ownBlock] at hg; omega)
    go_wp2_with fail
    go_ret
    exact ⟨_, rfl, by simpa using hown, hbel⟩

end Go.Proofs.Ytlgcehdklpbknaa
