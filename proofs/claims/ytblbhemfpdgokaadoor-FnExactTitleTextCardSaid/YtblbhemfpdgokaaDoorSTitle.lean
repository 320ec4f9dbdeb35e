/- Contracts of the laws' helpers on []Title: a copy, a comparison, marks. No condition but that the slice reads. -/
import Derived.Test.YtblbhemfpdgokaaDoorStrs
namespace Go.Proofs.YtblbhemfpdgokaaDoor
open Go Go.RowKit Go.ChangeShapes Go.WideShapes
set_option linter.unusedSimpArgs false
set_option linter.unusedVariables false

abbrev TTitle := Int × ByteArray × Int × Int
def eTitle (x : TTitle) : List Value := [.int .i64 x.1, .string x.2.1, .int .i64 x.2.2.1, .int .i64 x.2.2.2]
theorem eTitle_len (x : TTitle) : (eTitle x).length = 4 := rfl

theorem Sl.Title_at {w : World} {A : Option Addr} {n c : Nat} {l : List TTitle} (h : Sl w 4 (.slice A n c) eTitle l) {i : Nat} (hi : i < l.length) :
    ∃ b o, A = some ⟨b, o, none⟩ ∧ b < w.heap.size ∧ w.cell? ⟨b, o + i * 4, none⟩ = some (.int .i64 l[i].1) ∧ w.cell? ⟨b, o + i * 4 + 1, none⟩ = some (.string l[i].2.1) ∧ w.cell? ⟨b, o + i * 4 + 2, none⟩ = some (.int .i64 l[i].2.2.1) ∧ w.cell? ⟨b, o + i * 4 + 3, none⟩ = some (.int .i64 l[i].2.2.2) := by
  obtain ⟨b, o, x, hx, hA, hb, hc⟩ := h.at_ hi
  have : x = l[i] := by rw [List.getElem?_eq_getElem hi] at hx; exact (Option.some.inj hx).symm
  subst this
  exact ⟨b, o, hA, hb, hc 0 _ rfl, hc 1 _ rfl, hc 2 _ rfl, hc 3 _ rfl⟩

def okTitle (x : TTitle) : Prop := (-9223372036854775808 ≤ x.1 ∧ x.1 ≤ 9223372036854775807) ∧ x.2.1.size ≤ maxLen ∧ (-9223372036854775808 ≤ x.2.2.1 ∧ x.2.2.1 ≤ 9223372036854775807) ∧ (-9223372036854775808 ≤ x.2.2.2 ∧ x.2.2.2 ≤ 9223372036854775807)

section
variable {H : Type} {enc : TypeId × Value → H} {w : World} {base : Nat} {spare : Nat → Bool} {held : Bool}
set_option maxRecDepth 100000 in
theorem trod_Title (n : Nat) (cs : List Value) (y : DataW H × List MemPlace) (h : DataW.trod enc Tryd.prog w base spare held n 23 cs = some y) : ∃ x : TTitle, cs = eTitle x ∧ okTitle x := by
  obtain ⟨hlen, hf⟩ := struct_cells Tryd.underlying23 (by kernel_rfl) (by kernel_rfl) h
  obtain ⟨v0, n0, y0, hv0, ht0⟩ := hf 0 _ rfl
  obtain ⟨x0, e0, -, wf0⟩ := DataW.trod_int Tryd.underlying2 ht0
  simp at e0
  subst e0
  obtain ⟨v1, n1, y1, hv1, ht1⟩ := hf 1 _ rfl
  obtain ⟨x1, e1, -, wf1⟩ := DataW.trod_string Tryd.underlying9 ht1
  simp at e1
  subst e1
  obtain ⟨v2, n2, y2, hv2, ht2⟩ := hf 2 _ rfl
  obtain ⟨x2, e2, -, wf2⟩ := DataW.trod_int Tryd.underlying2 ht2
  simp at e2
  subst e2
  obtain ⟨v3, n3, y3, hv3, ht3⟩ := hf 3 _ rfl
  obtain ⟨x3, e3, -, wf3⟩ := DataW.trod_int Tryd.underlying2 ht3
  simp at e3
  subst e3
  refine ⟨(x0, x1, x2, x3), ?_, i64_range wf0, wf1, i64_range wf2, i64_range wf3⟩
  have hsz : cs.length = 4 := hlen
  match cs, hsz with
  | [c0, c1, c2, c3], _ =>
    simp at hv0 hv1 hv2 hv3
    subst hv0 hv1 hv2 hv3
    rfl
end
section
variable {H : Type} {enc : TypeId × Value → H} {w : World} {base : Nat} {spare : Nat → Bool} {held : Bool}
set_option maxRecDepth 100000 in
theorem agg_of_Title {r : Reach} {b0 : Nat} {v : Value} {d : DataW H} {p : List MemPlace} (hv : Value.okWide Tryd.prog w r b0 23 v) (h : DataW.Trod enc Tryd.prog w base spare held 23 v d p) :
    ∃ x : TTitle, v = .agg (eTitle x).toArray ∧ okTitle x := by
  obtain ⟨cs, rfl, -⟩ := okWide_struct Tryd.underlying23 hv
  obtain ⟨fuel, hf⟩ := h
  obtain ⟨x, hx, hg⟩ := trod_Title _ _ _ hf
  exact ⟨x, by rw [← hx]; simp [Value.cells], hg⟩
end

set_option maxHeartbeats 400000 in
theorem toTitle (w : World) (a : Int) (b : ByteArray) (c : Int) (d : Int) : Calls Tryd.prog 9 #[.agg #[.int .i64 a, .string b, .int .i64 c, .int .i64 d]] w fun e w' => e = .returned (.agg #[.int .i64 a, .string b, .int .i64 c, .int .i64 d]) ∧ Below w.heap.size w w' := by
  go_enter Tryd.func9, Tryd.ntmps9
  go_wp2
  refine bodyPost_ret (v := .agg #[.int .i64 a, .string b, .int .i64 c, .int .i64 d]) (by simp [results, Tryd.results9, go_sem]) rfl ⟨rfl, ?_⟩
  repeat (first | exact Below.refl _ _ | refine Below.alloc ?_ (by first | (simp; done) | (simp; omega)) _ | refine Below.setCell ?_ (by first | (simp; done) | (simp; omega)) _ | refine Below.drew ?_)

theorem info_Title : (Tryd.prog.info? 26).map (fun i => (i.zero, i.size, i.bytes)) = some (some (.agg #[.int .i64 0, .string ByteArray.empty, .int .i64 0, .int .i64 0]), 4, 40) := by kernel_rfl

theorem szTitle_yes (w : World) (a : Int) (b : ByteArray) (c : Int) (d : Int) (left : Int) (hm : b.size ≤ 9223372036854775807) (h0 : 0 ≤ left) (h1 : left ≤ 1048576) (hle : (b.size : Int) ≤ left) :
    Calls Tryd.prog 7 #[.agg #[.int .i64 a, .string b, .int .i64 c, .int .i64 d], .int .i64 left] w fun e w' => e = .returned (.int .i64 (left - (b.size : Int))) ∧ Below w.heap.size w w' := by
  go_enter Tryd.func7, Tryd.ntmps7
  go_wp2_with fail
  go_ret
  exact ⟨rfl, (Below.refl _ _).alloc (Nat.le_refl _) _⟩

theorem szTitle_no (w : World) (a : Int) (b : ByteArray) (c : Int) (d : Int) (left : Int) (hm : b.size ≤ 9223372036854775807) (h0 : 0 ≤ left) (h1 : left ≤ 1048576) (hle : left < (b.size : Int)) :
    Calls Tryd.prog 7 #[.agg #[.int .i64 a, .string b, .int .i64 c, .int .i64 d], .int .i64 left] w fun e w' => e = .returned (.int .i64 (-1)) ∧ Below w.heap.size w w' := by
  go_enter Tryd.func7, Tryd.ntmps7
  go_wp2_with fail
  go_ret
  exact ⟨rfl, (Below.refl _ _).alloc (Nat.le_refl _) _⟩

def sumTitle (l : List TTitle) : Nat := (l.map fun x => x.2.1.size).sum
theorem sumTitle_snoc (l : List TTitle) (k : Nat) (h : k < l.length) : sumTitle (l.take (k + 1)) = sumTitle (l.take k) + l[k].2.1.size := by
  unfold sumTitle
  rw [List.take_succ_eq_append_getElem h, List.map_append, List.sum_append]
  simp
theorem sumTitle_le (l : List TTitle) (k : Nat) : sumTitle (l.take k) ≤ sumTitle l := by
  have h : sumTitle l = sumTitle (l.take k) + sumTitle (l.drop k) := by
    unfold sumTitle
    rw [← List.sum_append, ← List.map_append, List.take_append_drop]
  omega
def totTitle (l : List TTitle) : Nat := l.length + sumTitle l
def szRTitle (l : List TTitle) (left : Int) : Int := if (totTitle l : Int) ≤ left then left - (totTitle l : Int) else -1
theorem szRTitle_yes {l : List TTitle} {left : Int} (h : (totTitle l : Int) ≤ left) : szRTitle l left = left - (totTitle l : Int) := if_pos h
theorem szRTitle_no {l : List TTitle} {left : Int} (h : left < (totTitle l : Int)) : szRTitle l left = -1 := if_neg (by omega)
theorem szRTitle_part {l : List TTitle} {left : Int} {k : Nat} (h : left < (l.length : Int) + (sumTitle (l.take k) : Int)) : szRTitle l left = -1 := by
  refine szRTitle_no ?_
  have := sumTitle_le l k
  unfold totTitle
  omega
theorem szRTitle_all {l : List TTitle} {left : Int} {k : Nat} (hk : ¬ k < l.length) (h : (l.length : Int) + (sumTitle (l.take k) : Int) ≤ left) : left - (l.length : Int) - (sumTitle (l.take k) : Int) = szRTitle l left := by
  rw [List.take_of_length_le (by omega)] at h ⊢
  rw [szRTitle_yes (by unfold totTitle; omega)]
  unfold totTitle
  omega
/-- the marks from k on -/
def marksTitle (k n : Nat) : List TTitle := (List.range n).map fun (i : Nat) => (((k + 4 * i : Nat) : Int), markB (k + 4 * i + 1), ((k + 4 * i + 1 + 1 : Nat) : Int), ((k + 4 * i + 1 + 1 + 1 : Nat) : Int))
theorem marksTitle_len (k n : Nat) : (marksTitle k n).length = n := by simp [marksTitle]
theorem marksTitle_get (k n i : Nat) (h : i < (marksTitle k n).length) : (marksTitle k n)[i] = (((k + 4 * i : Nat) : Int), markB (k + 4 * i + 1), ((k + 4 * i + 1 + 1 : Nat) : Int), ((k + 4 * i + 1 + 1 + 1 : Nat) : Int)) := by simp [marksTitle]
end Go.Proofs.YtblbhemfpdgokaaDoor
