/- Contracts of the laws' helpers on []Entry: a copy, a comparison, marks. No condition but that the slice reads. -/
import Derived.Test.YtfgbjfhhkbdimaaStrs
namespace Go.Proofs.Ytfgbjfhhkbdimaa
open Go Go.RowKit Go.ChangeShapes Go.WideShapes
set_option linter.unusedSimpArgs false
set_option linter.unusedVariables false

abbrev TEntry := Int × ByteArray × Int
def eEntry (x : TEntry) : List Value := [.int .i64 x.1, .string x.2.1, .int .i64 x.2.2]
theorem eEntry_len (x : TEntry) : (eEntry x).length = 3 := rfl

theorem Sl.Entry_at {w : World} {A : Option Addr} {n c : Nat} {l : List TEntry} (h : Sl w 3 (.slice A n c) eEntry l) {i : Nat} (hi : i < l.length) :
    ∃ b o, A = some ⟨b, o, none⟩ ∧ b < w.heap.size ∧ w.cell? ⟨b, o + i * 3, none⟩ = some (.int .i64 l[i].1) ∧ w.cell? ⟨b, o + i * 3 + 1, none⟩ = some (.string l[i].2.1) ∧ w.cell? ⟨b, o + i * 3 + 2, none⟩ = some (.int .i64 l[i].2.2) := by
  obtain ⟨b, o, x, hx, hA, hb, hc⟩ := h.at_ hi
  have : x = l[i] := by rw [List.getElem?_eq_getElem hi] at hx; exact (Option.some.inj hx).symm
  subst this
  exact ⟨b, o, hA, hb, hc 0 _ rfl, hc 1 _ rfl, hc 2 _ rfl⟩

def okEntry (x : TEntry) : Prop := (-9223372036854775808 ≤ x.1 ∧ x.1 ≤ 9223372036854775807) ∧ x.2.1.size ≤ maxLen ∧ (-9223372036854775808 ≤ x.2.2 ∧ x.2.2 ≤ 9223372036854775807)

section
variable {H : Type} {enc : TypeId × Value → H} {w : World} {base : Nat} {spare : Nat → Bool} {held : Bool}
set_option maxRecDepth 100000 in
theorem trod_Entry (n : Nat) (cs : List Value) (y : DataW H × List MemPlace) (h : DataW.trod enc Try.prog w base spare held n 31 cs = some y) : ∃ x : TEntry, cs = eEntry x ∧ okEntry x := by
  obtain ⟨hlen, hf⟩ := struct_cells Try.underlying31 (by kernel_rfl) (by kernel_rfl) h
  obtain ⟨v0, n0, y0, hv0, ht0⟩ := hf 0 _ rfl
  obtain ⟨x0, e0, -, wf0⟩ := DataW.trod_int Try.underlying2 ht0
  simp at e0
  subst e0
  obtain ⟨v1, n1, y1, hv1, ht1⟩ := hf 1 _ rfl
  obtain ⟨x1, e1, -, wf1⟩ := DataW.trod_string Try.underlying9 ht1
  simp at e1
  subst e1
  obtain ⟨v2, n2, y2, hv2, ht2⟩ := hf 2 _ rfl
  obtain ⟨x2, e2, -, wf2⟩ := DataW.trod_int Try.underlying2 ht2
  simp at e2
  subst e2
  refine ⟨(x0, x1, x2), ?_, i64_range wf0, wf1, i64_range wf2⟩
  have hsz : cs.length = 3 := hlen
  match cs, hsz with
  | [c0, c1, c2], _ =>
    simp at hv0 hv1 hv2
    subst hv0 hv1 hv2
    rfl
end
section
variable {H : Type} {enc : TypeId × Value → H} {w : World} {base : Nat} {spare : Nat → Bool} {held : Bool}
set_option maxRecDepth 100000 in
theorem agg_of_Entry {r : Reach} {b0 : Nat} {v : Value} {d : DataW H} {p : List MemPlace} (hv : Value.okWide Try.prog w r b0 31 v) (h : DataW.Trod enc Try.prog w base spare held 31 v d p) :
    ∃ x : TEntry, v = .agg (eEntry x).toArray ∧ okEntry x := by
  obtain ⟨cs, rfl, -⟩ := okWide_struct Try.underlying31 hv
  obtain ⟨fuel, hf⟩ := h
  obtain ⟨x, hx, hg⟩ := trod_Entry _ _ _ hf
  exact ⟨x, by rw [← hx]; simp [Value.cells], hg⟩
end

set_option maxHeartbeats 400000 in
theorem toEntry (w : World) (a : Int) (b : ByteArray) (c : Int) : Calls Try.prog 24 #[.agg #[.int .i64 a, .string b, .int .i64 c]] w fun e w' => e = .returned (.agg #[.int .i64 a, .string b, .int .i64 c]) ∧ Below w.heap.size w w' := by
  go_enter Try.func24, Try.ntmps24
  go_wp2
  refine bodyPost_ret (v := .agg #[.int .i64 a, .string b, .int .i64 c]) (by simp [results, Try.results24, go_sem]) rfl ⟨rfl, ?_⟩
  repeat (first | exact Below.refl _ _ | refine Below.alloc ?_ (by first | (simp; done) | (simp; omega)) _ | refine Below.setCell ?_ (by first | (simp; done) | (simp; omega)) _ | refine Below.drew ?_)

theorem info_Entry : (Try.prog.info? 34).map (fun i => (i.zero, i.size, i.bytes)) = some (some (.agg #[.int .i64 0, .string ByteArray.empty, .int .i64 0]), 3, 32) := by kernel_rfl

theorem szEntry_yes (w : World) (a : Int) (b : ByteArray) (c : Int) (left : Int) (hm : b.size ≤ 9223372036854775807) (h0 : 0 ≤ left) (h1 : left ≤ 1048576) (hle : (b.size : Int) ≤ left) :
    Calls Try.prog 22 #[.agg #[.int .i64 a, .string b, .int .i64 c], .int .i64 left] w fun e w' => e = .returned (.int .i64 (left - (b.size : Int))) ∧ Below w.heap.size w w' := by
  go_enter Try.func22, Try.ntmps22
  go_wp2_with fail
  go_ret
  exact ⟨rfl, (Below.refl _ _).alloc (Nat.le_refl _) _⟩

theorem szEntry_no (w : World) (a : Int) (b : ByteArray) (c : Int) (left : Int) (hm : b.size ≤ 9223372036854775807) (h0 : 0 ≤ left) (h1 : left ≤ 1048576) (hle : left < (b.size : Int)) :
    Calls Try.prog 22 #[.agg #[.int .i64 a, .string b, .int .i64 c], .int .i64 left] w fun e w' => e = .returned (.int .i64 (-1)) ∧ Below w.heap.size w w' := by
  go_enter Try.func22, Try.ntmps22
  go_wp2_with fail
  go_ret
  exact ⟨rfl, (Below.refl _ _).alloc (Nat.le_refl _) _⟩

def sumEntry (l : List TEntry) : Nat := (l.map fun x => x.2.1.size).sum
theorem sumEntry_snoc (l : List TEntry) (k : Nat) (h : k < l.length) : sumEntry (l.take (k + 1)) = sumEntry (l.take k) + l[k].2.1.size := by
  unfold sumEntry
  rw [List.take_succ_eq_append_getElem h, List.map_append, List.sum_append]
  simp
theorem sumEntry_le (l : List TEntry) (k : Nat) : sumEntry (l.take k) ≤ sumEntry l := by
  have h : sumEntry l = sumEntry (l.take k) + sumEntry (l.drop k) := by
    unfold sumEntry
    rw [← List.sum_append, ← List.map_append, List.take_append_drop]
  omega
def totEntry (l : List TEntry) : Nat := l.length + sumEntry l
def szREntry (l : List TEntry) (left : Int) : Int := if (totEntry l : Int) ≤ left then left - (totEntry l : Int) else -1
theorem szREntry_yes {l : List TEntry} {left : Int} (h : (totEntry l : Int) ≤ left) : szREntry l left = left - (totEntry l : Int) := if_pos h
theorem szREntry_no {l : List TEntry} {left : Int} (h : left < (totEntry l : Int)) : szREntry l left = -1 := if_neg (by omega)
theorem szREntry_part {l : List TEntry} {left : Int} {k : Nat} (h : left < (l.length : Int) + (sumEntry (l.take k) : Int)) : szREntry l left = -1 := by
  refine szREntry_no ?_
  have := sumEntry_le l k
  unfold totEntry
  omega
theorem szREntry_all {l : List TEntry} {left : Int} {k : Nat} (hk : ¬ k < l.length) (h : (l.length : Int) + (sumEntry (l.take k) : Int) ≤ left) : left - (l.length : Int) - (sumEntry (l.take k) : Int) = szREntry l left := by
  rw [List.take_of_length_le (by omega)] at h ⊢
  rw [szREntry_yes (by unfold totEntry; omega)]
  unfold totEntry
  omega
/-- the marks from k on -/
def marksEntry (k n : Nat) : List TEntry := (List.range n).map fun (i : Nat) => (((k + 3 * i : Nat) : Int), markB (k + 3 * i + 1), ((k + 3 * i + 1 + 1 : Nat) : Int))
theorem marksEntry_len (k n : Nat) : (marksEntry k n).length = n := by simp [marksEntry]
theorem marksEntry_get (k n i : Nat) (h : i < (marksEntry k n).length) : (marksEntry k n)[i] = (((k + 3 * i : Nat) : Int), markB (k + 3 * i + 1), ((k + 3 * i + 1 + 1 : Nat) : Int)) := by simp [marksEntry]
end Go.Proofs.Ytfgbjfhhkbdimaa
