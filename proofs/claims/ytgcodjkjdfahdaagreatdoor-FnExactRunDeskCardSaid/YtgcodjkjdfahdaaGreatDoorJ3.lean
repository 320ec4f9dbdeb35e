/- Texts of the claim, joined: each says at its head what it proves. No condition. -/
import Derived.Test.YtgcodjkjdfahdaaGreatDoorRows
import Derived.Test.YtgcodjkjdfahdaaGreatDoorJ1
/- Contracts of the helpers on []int64: toInt64S copies, eqInt64S compares, markInt64S overwrites, heldInt64S looks whether the marks stand. No condition but that the slice reads. -/
namespace Go.Proofs.YtgcodjkjdfahdaaGreatDoor
open Go Go.RowKit
set_option linter.unusedSimpArgs false
set_option linter.unusedVariables false

def eI (x : Int) : List Value := [.int .i64 x]
theorem eI_len (x : Int) : (eI x).length = 1 := rfl
theorem info_i64 : (Tryz.prog.info? 2).map (fun i => (i.zero, i.size, i.bytes)) = some (some (.int .i64 0), 1, 8) := by kernel_rfl

/-- The call returns a slice of its own that reads as l; what was there stands. -/
def GivesOwn {α : Type} (w : World) (E : TypeId) (k : Nat) (enc : α → List Value) (l : List α) (e : Ending) (w' : World) : Prop :=
  ∃ v, e = .returned v ∧ Own w' w.heap.size E k v enc l ∧ Below w.heap.size w w'

theorem Sl.int_at {w : World} {A : Option Addr} {n c : Nat} {l : List Int} (h : Sl w 1 (.slice A n c) eI l) {i : Nat} (hi : i < l.length) :
    ∃ b o, A = some ⟨b, o, none⟩ ∧ b < w.heap.size ∧ w.cell? ⟨b, o + i, none⟩ = some (.int .i64 l[i]) := by
  obtain ⟨b, o, x, hx, hA, hb, hc⟩ := h.at_ hi
  have : x = l[i] := by rw [List.getElem?_eq_getElem hi] at hx; exact (Option.some.inj hx).symm
  subst this
  exact ⟨b, o, hA, hb, by simpa using hc 0 _ rfl⟩

/-- the marks from k on -/
def marks (k : Int) (n : Nat) : List Int := (List.range n).map fun (i : Nat) => k + (i : Int)
/-! ### sums, and one place of a list -/
def sumI (l : List Int) : Int := l.foldl (fun s x => wrap64 (s + x)) 0
theorem sumI_snoc (l : List Int) (k : Nat) (h : k < l.length) : sumI (l.take (k + 1)) = wrap64 (sumI (l.take k) + l[k]) := by
  unfold sumI
  rw [List.take_succ_eq_append_getElem h, List.foldl_append]
  rfl
theorem flatMap_set1 (l : List Int) (i : Nat) (x : Int) : (l.set i x).flatMap eI = (l.flatMap eI).set i (.int .i64 x) := by
  induction l generalizing i with
  | nil => simp
  | cons y l ih =>
    cases i with
    | zero => simp [eI]
    | succ i => simp [List.flatMap_cons, eI, ih]
theorem Own.set1 {w : World} {B E g n cap : Nat} {l : List Int} (h : Own w B E 1 (.slice (some ⟨g, 0, none⟩) n cap) eI l) (i : Nat) (x : Int) :
    Own (w.setCell ⟨g, i, none⟩ (.int .i64 x)) B E 1 (.slice (some ⟨g, 0, none⟩) n cap) eI (l.set i x) := by
  have hn : n = l.length := by
    rcases h.form with ⟨hv, -⟩ | ⟨g', cap', hv, -⟩
    · cases hv
    · injection hv
  subst hn
  have h1 := (World.ownsRow.stored h i (.int .i64 x)).1
  unfold Own
  rw [flatMap_set1, List.length_set]
  exact h1
theorem sum_spec (w : World) (v : Value) (l : List Int) (h : Sl w 1 v eI l) : Calls Tryz.prog 168 #[v] w fun e w' => e = .returned (.int .i64 (sumI l)) ∧ w' = w := by
  have m1 := h.len
  obtain ⟨-, A, c, rfl, -, -, -⟩ := id h
  go_enter Tryz.func168, Tryz.ntmps168
  go_wp2_with fail
  go_loop [3, 4] (fun s i => ∃ k : Nat, k ≤ l.length ∧ i = .int .i64 k ∧ s = .int .i64 (sumI (l.take k))) (fun _ i => l.length - (intOf i).toNat)
  case atStart => exact ⟨0, Nat.zero_le _, rfl, rfl⟩
  case round =>
    obtain ⟨k, hk, rfl, rfl⟩ := hrel
    by_cases hlt : k < l.length
    · have HS := hd (sumI_snoc l k hlt)
      obtain ⟨b, o, rfl, -, hc⟩ := h.int_at hlt
      go_wp2_with fail
      go_round
      case rel => exact ⟨k + 1, by omega, by go_num, by rw [HS.out]⟩
      case measure => simp [intOf]; omega
    · go_wp2_with fail
      go_ret
      exact ⟨by show Ending.returned (.int .i64 (sumI (l.take k))) = _; rw [List.take_of_length_le (by omega)], rfl⟩
theorem sum_impl (w : World) (v : Value) (l : List Int) (h : Sl w 1 v eI l) : Calls Tryz.prog 86 #[v] w fun e w' => e = .returned (.int .i64 (sumI l)) ∧ w' = w := by
  have m1 := h.len
  obtain ⟨-, A, c, rfl, -, -, -⟩ := id h
  go_enter Tryz.func86, Tryz.ntmps86
  go_wp2_with fail
  go_loop [3, 8] (fun s i => ∃ k : Nat, k ≤ l.length ∧ i = .int .i64 k ∧ s = .int .i64 (sumI (l.take k))) (fun _ i => l.length - (intOf i).toNat)
  case atStart => exact ⟨0, Nat.zero_le _, rfl, rfl⟩
  case round =>
    obtain ⟨k, hk, rfl, rfl⟩ := hrel
    by_cases hlt : k < l.length
    · have HS := hd (sumI_snoc l k hlt)
      obtain ⟨b, o, rfl, -, hc⟩ := h.int_at hlt
      go_wp2_with fail
      go_round
      case rel => exact ⟨k + 1, by omega, by go_num, by rw [HS.out]⟩
      case measure => simp [intOf]; omega
    · go_wp2_with fail
      go_ret
      exact ⟨by show Ending.returned (.int .i64 (sumI (l.take k))) = _; rw [List.take_of_length_le (by omega)], rfl⟩
end Go.Proofs.YtgcodjkjdfahdaaGreatDoor
