/- Contracts of the laws' helpers on []Title: a copy, a comparison, marks. No condition but that the slice reads. -/
import Derived.Test.YtklepmeiaiihhaaDoorStrs
namespace Go.Proofs.YtklepmeiaiihhaaDoor
open Go Go.RowKit Go.ChangeShapes Go.WideShapes
set_option linter.unusedSimpArgs false
set_option linter.unusedVariables false

abbrev TTitle := Int × ByteArray × Int × Int
def eTitle (x : TTitle) : List Value := [.int .i64 x.1, .string x.2.1, .int .i64 x.2.2.1, .int .i64 x.2.2.2]
theorem eTitle_len (x : TTitle) : (eTitle x).length = 4 := rfl

theorem Sl.Title_at {w : World} {A : Option Addr} {n c : Nat} {l : List TTitle} (h : Sl w 4 (.slice A n c) eTitle l) {i : Nat} (hi : i < l.length) :
    ∃ b o, A = some ⟨b, o, none⟩ ∧ b < w.heap.size ∧ w.cell? ⟨b, o + i * 4, none⟩ = some (.int .i64 l[i].1) ∧ w.cell? ⟨b, o + i * 4 + 1, none⟩ = some (.string l[i].2.1) ∧ w.cell? ⟨b, o + i * 4 + 2, none⟩ = some (.int .i64 l[i].2.2.1) ∧ w.cell? ⟨b, o + i * 4 + 3, none⟩ = some (.int .i64 l[i].2.2.2) := by
  obtain ⟨b, o, x, hx, hA, hb, hc⟩ := h.at_ hi
  have : x = l[i] := by rw [List.getElem?_eq_getElem hi] at hx; exact (Option.some.inj hx).symm
  subst this
  exact ⟨b, o, hA, hb, hc 0 _ rfl, hc 1 _ rfl, hc 2 _ rfl, hc 3 _ rfl⟩

def okTitle (x : TTitle) : Prop := (-9223372036854775808 ≤ x.1 ∧ x.1 ≤ 9223372036854775807) ∧ x.2.1.size ≤ maxLen ∧ (-9223372036854775808 ≤ x.2.2.1 ∧ x.2.2.1 ≤ 9223372036854775807) ∧ (-9223372036854775808 ≤ x.2.2.2 ∧ x.2.2.2 ≤ 9223372036854775807)

set_option maxHeartbeats 800000 in
theorem eqTitle (w : World) (x y : TTitle) : Calls Tryd.prog 16 #[.agg #[.int .i64 x.1, .string x.2.1, .int .i64 x.2.2.1, .int .i64 x.2.2.2], .agg #[.int .i64 y.1, .string y.2.1, .int .i64 y.2.2.1, .int .i64 y.2.2.2]] w fun e w' => e = .returned (.bool (decide (x = y))) ∧ Below w.heap.size w w' := by
  obtain ⟨a, b, c, d⟩ := x
  obtain ⟨a', b', c', d'⟩ := y
  by_cases hq : a = a'
  case neg =>
    have k2 : (a != a') = true := by simpa using hq
    have H2 := hd hq
    clear hq
    go_enter Tryd.func16, Tryd.ntmps16; go_wp2; go_ret
    refine ⟨by simp [H2.out], ?_⟩
    repeat (first | exact Below.refl _ _ | refine Below.alloc ?_ (by first | (simp; done) | (simp; omega)) _ | refine Below.setCell ?_ (by first | (simp; done) | (simp; omega)) _ | refine Below.drew ?_)
  subst hq
  by_cases hq : b = b'
  case neg =>
    have k2 : (b.toList == b'.toList) = false := beq_eq_false_iff_ne.2 (fun e => hq (bytes_of_toList e))
    have H2 := hd hq
    clear hq
    go_enter Tryd.func16, Tryd.ntmps16; go_wp2; go_ret
    refine ⟨by simp [H2.out], ?_⟩
    repeat (first | exact Below.refl _ _ | refine Below.alloc ?_ (by first | (simp; done) | (simp; omega)) _ | refine Below.setCell ?_ (by first | (simp; done) | (simp; omega)) _ | refine Below.drew ?_)
  subst hq
  by_cases hq : c = c'
  case neg =>
    have k2 : (c != c') = true := by simpa using hq
    have H2 := hd hq
    clear hq
    go_enter Tryd.func16, Tryd.ntmps16; go_wp2; go_ret
    refine ⟨by simp [H2.out], ?_⟩
    repeat (first | exact Below.refl _ _ | refine Below.alloc ?_ (by first | (simp; done) | (simp; omega)) _ | refine Below.setCell ?_ (by first | (simp; done) | (simp; omega)) _ | refine Below.drew ?_)
  subst hq
  by_cases hq : d = d'
  case neg =>
    have k2 : (d != d') = true := by simpa using hq
    have H2 := hd hq
    clear hq
    go_enter Tryd.func16, Tryd.ntmps16; go_wp2; go_ret
    refine ⟨by simp [H2.out], ?_⟩
    repeat (first | exact Below.refl _ _ | refine Below.alloc ?_ (by first | (simp; done) | (simp; omega)) _ | refine Below.setCell ?_ (by first | (simp; done) | (simp; omega)) _ | refine Below.drew ?_)
  subst hq
  go_enter Tryd.func16, Tryd.ntmps16; go_wp2; go_ret
  refine ⟨by simp, ?_⟩
  repeat (first | exact Below.refl _ _ | refine Below.alloc ?_ (by first | (simp; done) | (simp; omega)) _ | refine Below.setCell ?_ (by first | (simp; done) | (simp; omega)) _ | refine Below.drew ?_)

theorem calm_eqTitle (w : World) (x : Ext w) (a b : TTitle) : Calls Tryd.prog 16 #[.agg #[.int .i64 a.1, .string a.2.1, .int .i64 a.2.2.1, .int .i64 a.2.2.2], .agg #[.int .i64 b.1, .string b.2.1, .int .i64 b.2.2.1, .int .i64 b.2.2.2]] (gro w x) fun e w'' => e = .returned (.bool (decide (a = b))) ∧ ∃ y, w'' = gro w y := calm_of (eqTitle _ _ _)
theorem info_Title : (Tryd.prog.info? 26).map (fun i => (i.zero, i.size, i.bytes)) = some (some (.agg #[.int .i64 0, .string ByteArray.empty, .int .i64 0, .int .i64 0]), 4, 40) := by kernel_rfl

def sumTitle (l : List TTitle) : Nat := (l.map fun x => x.2.1.size).sum
theorem sumTitle_snoc (l : List TTitle) (k : Nat) (h : k < l.length) : sumTitle (l.take (k + 1)) = sumTitle (l.take k) + l[k].2.1.size := by
  unfold sumTitle
  rw [List.take_succ_eq_append_getElem h, List.map_append, List.sum_append]
  simp
theorem sumTitle_le (l : List TTitle) (k : Nat) : sumTitle (l.take k) ≤ sumTitle l := by
  have h : sumTitle l = sumTitle (l.take k) + sumTitle (l.drop k) := by
    unfold sumTitle
    rw [← List.sum_append, ← List.map_append, List.take_append_drop]
  omega
def totTitle (l : List TTitle) : Nat := l.length + sumTitle l
def szRTitle (l : List TTitle) (left : Int) : Int := if (totTitle l : Int) ≤ left then left - (totTitle l : Int) else -1
theorem szRTitle_yes {l : List TTitle} {left : Int} (h : (totTitle l : Int) ≤ left) : szRTitle l left = left - (totTitle l : Int) := if_pos h
theorem szRTitle_no {l : List TTitle} {left : Int} (h : left < (totTitle l : Int)) : szRTitle l left = -1 := if_neg (by omega)
theorem szRTitle_part {l : List TTitle} {left : Int} {k : Nat} (h : left < (l.length : Int) + (sumTitle (l.take k) : Int)) : szRTitle l left = -1 := by
  refine szRTitle_no ?_
  have := sumTitle_le l k
  unfold totTitle
  omega
theorem szRTitle_all {l : List TTitle} {left : Int} {k : Nat} (hk : ¬ k < l.length) (h : (l.length : Int) + (sumTitle (l.take k) : Int) ≤ left) : left - (l.length : Int) - (sumTitle (l.take k) : Int) = szRTitle l left := by
  rw [List.take_of_length_le (by omega)] at h ⊢
  rw [szRTitle_yes (by unfold totTitle; omega)]
  unfold totTitle
  omega
/-- the marks from k on -/
def marksTitle (k n : Nat) : List TTitle := (List.range n).map fun (i : Nat) => (((k + 4 * i : Nat) : Int), markB (k + 4 * i + 1), ((k + 4 * i + 1 + 1 : Nat) : Int), ((k + 4 * i + 1 + 1 + 1 : Nat) : Int))
theorem marksTitle_len (k n : Nat) : (marksTitle k n).length = n := by simp [marksTitle]
theorem marksTitle_get (k n i : Nat) (h : i < (marksTitle k n).length) : (marksTitle k n)[i] = (((k + 4 * i : Nat) : Int), markB (k + 4 * i + 1), ((k + 4 * i + 1 + 1 : Nat) : Int), ((k + 4 * i + 1 + 1 + 1 : Nat) : Int)) := by simp [marksTitle]
end Go.Proofs.YtklepmeiaiihhaaDoor
