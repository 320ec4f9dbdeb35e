/- LogOf: the reference's function and the program's. No condition but the library's table. -/
import Derived.Test.YtfldalhojebblaaGreatDoorLogP
import Derived.Lib.AppendStr
namespace Go.Proofs.YtfldalhojebblaaGreatDoor
open Go Go.RowKit Go.ChangeShapes Go.WideShapes
set_option linter.unusedSimpArgs false
set_option linter.unusedVariables false

theorem flatMap_eU (l : List UInt8) : l.flatMap eU = l.map fun b => Value.int .u8 (b.toNat : Int) := by
  induction l with
  | nil => rfl
  | cons x l ih => simp [List.flatMap_cons, eU, ih]
theorem own_str {w : World} {B E : Nat} {v : Value} {L : List UInt8} {s : ByteArray} (h : w.ownsRow B E 1 v (L.length + s.size) (L.flatMap eU ++ Lib.strCells s)) : Own w B E 1 v eU (L ++ s.data.toList) := by
  unfold Own
  have e1 : (L ++ s.data.toList).length = L.length + s.size := by rw [List.length_append, Array.length_toList]; rfl
  rw [e1, List.flatMap_append, flatMap_eU s.data.toList]
  exact h
set_option maxHeartbeats 1000000 in
theorem line_spec (w : World) (st : Int) (hst : 0 ≤ st ∧ st ≤ 65518) (g o : Nat) (x : TEntry) (p0 : w.cell? ⟨g, o, none⟩ = some (.int .i64 x.1)) (p1 : w.cell? ⟨g, o + 1, none⟩ = some (.string x.2.1)) (p2 : w.cell? ⟨g, o + 2, none⟩ = some (.int .i64 x.2.2)) (h : okEntryB x = true) :
    Calls Tryz.prog 64 #[.int .i64 st, .pointer (some ⟨g, o, none⟩)] w fun e w' => e = .returned (.string (lineS st x)) ∧ Below w.heap.size w w' := by
  obtain ⟨a, b, c⟩ := x
  have H1 := hd (words_spec w g o a b c p0 p1 p2 h)
  have hw := words_size h
  have s1 := decS_size (n := st) (by omega)
  have H2 := hd (fun w : World => dec_spec w st (by omega))
  have HE := hd (show lineS st (a, b, c) = wordsS a b c ++ ⟨#[32]⟩ ++ decS st ++ ⟨#[10]⟩ from rfl)
  clear p0 p1 p2 h
  go_enter Tryz.func64, Tryz.ntmps64
  go_wp2_with fail
  refine H1.out.mono ?_
  rintro e w1 ⟨rfl, hb1⟩
  go_wp2_with fail
  refine (H2.out _).mono ?_
  rintro e w2 ⟨rfl, hb2⟩
  have hb3 := below_step hb1 hb2
  go_wp2_with fail
  go_ret
  exact ⟨by rw [HE.out]; rfl, hb3⟩
theorem rise_of {l : List TEntry} {k : Nat} (hk : ¬ k < l.length) (h : ∀ j, j < k → dayBad l j = false) : daysRise l = true := allTo_true fun i hi => by rw [h i (by omega)]; rfl
theorem rise_bad {l : List TEntry} {k : Nat} (hk : k < l.length) (h : dayBad l k = true) : daysRise l = false := allTo_false hk (by rw [h]; rfl)
theorem dayBad_at {l : List TEntry} {m : Nat} (h : m + 1 < l.length) : dayBad l (m + 1) = decide (l[m + 1].1 < l[m].1) := by
  unfold dayBad
  simp [h, show m < l.length by omega]
theorem any_bad_of {l : List TEntry} {k : Nat} (hk : k < l.length) (h : okEntryB l[k] = false) : (l.any fun x => !okEntryB x) = true := any_of_hit _ l k hk (by rw [h]; rfl)
theorem any_next {l : List TEntry} {k : Nat} (hk : k < l.length) (h0 : ((l.take k).any fun x => !okEntryB x) = false) (h : okEntryB l[k] = true) : ((l.take (k + 1)).any fun x => !okEntryB x) = false := any_take_snoc _ l k hk h0 (by rw [h]; rfl)
theorem bad_next {l : List TEntry} {k : Nat} (h0 : ∀ j, j < k → dayBad l j = false) (h : dayBad l k = false) : ∀ j, j < k + 1 → dayBad l j = false := fun j hj => by
  by_cases e : j = k
  · exact e ▸ h
  · exact h0 j (by omega)
theorem bad_zero (l : List TEntry) : ∀ j, j < 1 → dayBad l j = false := fun j hj => by
  obtain rfl : j = 0 := (by omega)
  unfold dayBad
  rfl
def GivesLog (w : World) (r : ByteArray × Int) (e : Ending) (w' : World) : Prop := e = .returned (.tuple #[.string r.1, .int .i64 r.2]) ∧ Below w.heap.size w w'
end Go.Proofs.YtfldalhojebblaaGreatDoor
