/- Titles whose names begin with a text: reference and program alike. No condition but that the slices read. -/
import Derived.Test.YtlgcehdklpbknaaTitle
namespace Go.Proofs.Ytlgcehdklpbknaa
open Go Go.RowKit Go.ChangeShapes Go.WideShapes
set_option linter.unusedSimpArgs false
set_option linter.unusedVariables false

def beginsB (s p : ByteArray) : Bool := decide (p.size ≤ s.size) && ((s.extract 0 p.size).toList == p.toList)
def withTo (l : List TTitle) (p : ByteArray) (k : Nat) : List Int := (List.range k).filterMap fun i => if beginsB (l.getD i noT).2.1 p then some ((i : Nat) : Int) else none
def withR (l : List TTitle) (p : ByteArray) : List Int × Int := if okTitles l then (withTo l p l.length, 0) else ([], 1)
theorem withTo_yes {l : List TTitle} {p : ByteArray} {k : Nat} (hk : k < l.length) (h : beginsB l[k].2.1 p = true) : withTo l p (k + 1) = withTo l p k ++ [(k : Int)] := by
  simp [withTo, List.range_succ, List.filterMap_append, hk, h]
theorem withTo_no {l : List TTitle} {p : ByteArray} {k : Nat} (hk : k < l.length) (h : beginsB l[k].2.1 p = false) : withTo l p (k + 1) = withTo l p k := by
  simp [withTo, List.range_succ, List.filterMap_append, hk, h]
theorem withTo_len (l : List TTitle) (p : ByteArray) (k : Nat) : (withTo l p k).length ≤ k := by
  have := List.length_filterMap_le (fun i => if beginsB (l.getD i noT).2.1 p then some ((i : Nat) : Int) else none) (List.range k)
  simpa [withTo] using this
theorem withR_len (l : List TTitle) (p : ByteArray) : (withR l p).1.length ≤ l.length := by
  unfold withR
  split
  · exact withTo_len _ _ _
  · simp
theorem GivesOwnI.is {α : Type} {enc : α → List Value} {w wr : World} {E : TypeId} {k : Nat} {r : List α × Int} {c : Int} {l : List α} {v : Value} (h : r = (l, c)) (ho : Own wr w.heap.size E k v enc l) (hb : Below w.heap.size w wr) : GivesOwnI w E k enc r (.returned (.tuple #[v, .int .i64 c])) wr := by
  subst h
  exact ⟨_, rfl, ho, hb⟩
theorem GivesOwnI.is_nil {α : Type} {enc : α → List Value} {w : World} {E : TypeId} {k : Nat} {r : List α × Int} {c : Int} (h : r = ([], c)) (wr : World) (hb : Below w.heap.size w wr) : GivesOwnI w E k enc r (.returned (.tuple #[.slice none 0 0, .int .i64 c])) wr := by
  subst h
  exact ⟨_, rfl, Own.nil _ _ _ _ _, hb⟩

theorem prefix_lite (w : World) (s p : ByteArray) (hs : s.size ≤ 9223372036854775807) (hp : p.size ≤ 9223372036854775807) : Calls Try.prog 148 #[.string s, .string p] w fun e w' => e = .returned (.bool (beginsB s p)) ∧ w' = w := by
  by_cases q : p.size ≤ s.size
  · have HE := hd (show beginsB s p = ((s.extract 0 p.size).toList == p.toList) by unfold beginsB; rw [decide_eq_true q, Bool.true_and])
    go_enter Try.func148, Try.ntmps148
    go_wp2_with fail
    go_ret
    exact ⟨by rw [HE.out]; rfl, rfl⟩
  · have HE := hd (show beginsB s p = false by unfold beginsB; rw [decide_eq_false q, Bool.false_and])
    have q' : s.size < p.size := by omega
    clear q
    go_enter Try.func148, Try.ntmps148
    go_wp2_with fail
    go_ret
    exact ⟨by rw [HE.out]; rfl, rfl⟩

theorem prefix_impl (w : World) (s p : ByteArray) (hs : s.size ≤ 9223372036854775807) (hp : p.size ≤ 9223372036854775807) : Calls Try.prog 116 #[.string s, .string p] w fun e w' => e = .returned (.bool (beginsB s p)) ∧ w' = w := by
  go_enter Try.func116, Try.ntmps116
  go_wp2_with (go_at_call 148; refine (prefix_lite _ _ _ hs hp).mono ?_; rintro e w' ⟨rfl, rfl⟩)
  go_ret
  exact ⟨rfl, rfl⟩

theorem isName_le {s : ByteArray} (h : isNameB s = true) : s.size ≤ 12 := by
  simp [isNameB] at h
  exact h.2.1

set_option maxRecDepth 100000 in
set_option maxHeartbeats 4000000 in
theorem with_impl (w : World) (v : Value) (l : List TTitle) (h : Sl w 4 v eTitle l) (p : ByteArray) (hp : p.size ≤ 9223372036854775807) :
    Calls Try.prog 56 #[v, .string p] w (GivesOwnI w 2 1 eI (withR l p)) := by
  have m1 := h.len
  obtain ⟨-, A, cp, rfl, -, -, -⟩ := id h
  rcases h1 : okTitles l with _ | _
  · have HR := hd (show withR l p = ([], 1) by simp [withR, h1])
    go_enter Try.func56, Try.ntmps56
    go_wp2_with fail
    refine (titles_impl _ _ _ h).mono ?_
    rintro e w1 ⟨rfl, hb⟩
    rw [h1]
    go_wp2_with fail
    go_ret2
    exact GivesOwnI.is_nil HR.out _ hb
  have HR := hd (show withR l p = (withTo l p l.length, 0) by simp [withR, h1])
  have z20 := okTitles_len h1
  have HN := hd (fun k (hk : k < l.length) => (okTitleB_bd (okTitles_at h1 k hk)).2.1)
  obtain ⟨i0, hi, hz0, hz1, hz2⟩ := info_parts info_i64
  go_enter Try.func56, Try.ntmps56
  go_wp2_with fail
  refine (titles_impl _ _ _ h).mono ?_
  rintro e w1 ⟨rfl, hb⟩
  rw [h1]
  go_wp2_with fail
  have hown00 := Own.made0 w1 w.heap.size 2 1 eI hb.size
  have hbel00 := hb.alloc hb.size (.cells #[] 2)
  clear hb h1
  go_loopw [6, 15] (fun ov i wr => ∃ k : Nat, k ≤ l.length ∧ i = .int .i64 k ∧ Own wr w.heap.size 2 1 ov eI (withTo l p k) ∧ Below w.heap.size w wr) (fun _ i _ => l.length - (intOf i).toNat)
  case atStart => exact ⟨0, Nat.zero_le _, rfl, hown00, hbel00⟩
  case round =>
    obtain ⟨k, hk, rfl, hown, hbel⟩ := hrel
    clear hown00 hbel00
    have hlen := withTo_len l p k
    by_cases hlt : k < l.length
    · obtain ⟨bb, o, rfl, -, p0, p1, p2, p3⟩ := (h.below hbel).Title_at hlt
      have HS := hd (isName_le (HN.out k hlt))
      have HY := hd (fun q => withTo_yes (p := p) hlt q)
      have HZ := hd (fun q => withTo_no (p := p) hlt q)
      generalize l[k] = x at p0 p1 p2 p3 HY HZ HS
      obtain ⟨a, b, c, d⟩ := x
      dsimp only at p0 p1 p2 p3
      have hbs : b.size ≤ 9223372036854775807 := by have := HS.out; simp only at this; omega
      have hown' := hown.alloc (.cells #[.int .i64 a, .string b, .int .i64 c, .int .i64 d] 55)
      have hbel' := hbel.alloc hbel.size (.cells #[.int .i64 a, .string b, .int .i64 c, .int .i64 d] 55)
      have HO := hd hlen
      generalize withTo l p k = L at hown hown' hlen HY HZ ⊢
      rcases q : beginsB b p with _ | _
      · go_wp2_with fail
        refine (prefix_impl _ _ _ hbs hp).mono ?_
        rintro e w2 ⟨rfl, hw⟩
        rw [← hw] at hown' hbel'
        clear hw
        rw [q]
        go_wp2_with fail
        go_roundw
        case rel => exact ⟨k + 1, by omega, by go_num, by rw [HZ.out q]; exact hown', hbel'⟩
        case measure => simp [intOf]; omega
      · go_wp2_with fail
        refine (prefix_impl _ _ _ hbs hp).mono ?_
        rintro e w2 ⟨rfl, hw⟩
        rw [← hw] at hown' hbel'
        clear hw
        rw [q]
        go_wp2_with (at_builtin; refine wpList_push _ rfl _ _ 25 rfl i0 (.int .i64 0) 8 Try.underlying25 hi hz0 hz1 hz2 rfl (by decide) _ _ (k : Int) rfl (hown'.alloc _) w2.heap.size rfl #[.int .i64 (k : Int)] 2 (heap_alloc_new _ _) rfl rfl (by intro u hu; simp [eI] at hu; subst hu; rfl) (by unfold maxLen; omega) (by omega) (by have := hbel'.size; simp; omega) ?_)
        intro v' w3 hown2 hgr2
        have hbel2 := (hbel'.alloc hbel'.size (.cells #[.int .i64 (k : Int)] 2)).grown hgr2 (by have := hbel'.size; simp; omega) (fun g hg => (hown'.lt g hg).1)
        clear hown hown' hgr2
        go_wp2_with fail
        go_roundw
        case rel => exact ⟨k + 1, by omega, by go_num, by rw [HY.out q]; exact hown2, hbel2⟩
        case measure => simp [intOf]; omega
    · obtain rfl : k = l.length := by omega
      go_wp2_with fail
      go_ret2
      exact GivesOwnI.is HR.out hown hbel

end Go.Proofs.Ytlgcehdklpbknaa
