/- Lemmas for the claim (the walks of its functions and their plain laws), joined. No condition. -/
import Derived.Test.YtgcodjkjdfahdaaGreatDoorRows
import Derived.Test.YtgcodjkjdfahdaaGreatDoorJ1
namespace Go.Proofs.YtgcodjkjdfahdaaGreatDoor
open Go Go.RowKit
set_option linter.unusedSimpArgs false
set_option linter.unusedVariables false
def eI (x : Int) : List Value := [.int .i64 x]
theorem eI_len (x : Int) : (eI x).length = 1 := rfl
theorem info_i64 : (Tryz.prog.info? 2).map (fun i => (i.zero, i.size, i.bytes)) = some (some (.int .i64 0), 1, 8) := by kernel_rfl
def GivesOwn {α : Type} (w : World) (E : TypeId) (k : Nat) (enc : α → List Value) (l : List α) (e : Ending) (w' : World) : Prop :=
  ∃ v, e = .returned v ∧ Own w' w.heap.size E k v enc l ∧ Below w.heap.size w w'
theorem Sl.int_at {w : World} {A : Option Addr} {n c : Nat} {l : List Int} (h : Sl w 1 (.slice A n c) eI l) {i : Nat} (hi : i < l.length) :
    ∃ b o, A = some ⟨b, o, none⟩ ∧ b < w.heap.size ∧ w.cell? ⟨b, o + i, none⟩ = some (.int .i64 l[i]) := by
  obtain ⟨b, o, x, hx, hA, hb, hc⟩ := h.at_ hi
  have : x = l[i] := by rw [List.getElem?_eq_getElem hi] at hx; exact (Option.some.inj hx).symm
  subst this
  exact ⟨b, o, hA, hb, by simpa using hc 0 _ rfl⟩
def CopyTo {α : Type} (w : World) (E : TypeId) (k : Nat) (v : Value) (n : Nat) (enc : α → List Value) (l : List α) (j : Nat) (wr : World) : Prop :=
  ∃ ys, wr.ownsRow w.heap.size E k v n ys ∧ ys.take (j * k) = (l.take j).flatMap enc ∧ Below w.heap.size w wr
def marks (k : Int) (n : Nat) : List Int := (List.range n).map fun (i : Nat) => k + (i : Int)
def MarkTo {α : Type} (w : World) (B : Nat) (E : TypeId) (k : Nat) (v : Value) (n : Nat) (enc : α → List Value) (l : List α) (j : Nat) (wr : World) : Prop :=
  ∃ ys, wr.ownsRow B E k v n ys ∧ ys.take (j * k) = (l.take j).flatMap enc ∧ w.grownBy wr v.ownBlock
def sumI (l : List Int) : Int := l.foldl (fun s x => wrap64 (s + x)) 0
theorem sumI_snoc (l : List Int) (k : Nat) (h : k < l.length) : sumI (l.take (k + 1)) = wrap64 (sumI (l.take k) + l[k]) := by
  unfold sumI
  rw [List.take_succ_eq_append_getElem h, List.foldl_append]
  rfl
theorem sum_spec (w : World) (v : Value) (l : List Int) (h : Sl w 1 v eI l) : Calls Tryz.prog 168 #[v] w fun e w' => e = .returned (.int .i64 (sumI l)) ∧ w' = w := by
  have m1 := h.len
  obtain ⟨-, A, c, rfl, -, -, -⟩ := id h
  go_enter Tryz.func168, Tryz.ntmps168
  go_wp2_with fail
  go_loop [3, 4] (fun s i => ∃ k : Nat, k ≤ l.length ∧ i = .int .i64 k ∧ s = .int .i64 (sumI (l.take k))) (fun _ i => l.length - (intOf i).toNat)
  case atStart => exact ⟨0, Nat.zero_le _, rfl, rfl⟩
  case round =>
    obtain ⟨k, hk, rfl, rfl⟩ := hrel
    by_cases hlt : k < l.length
    · have HS := hd (sumI_snoc l k hlt)
      obtain ⟨b, o, rfl, -, hc⟩ := h.int_at hlt
      go_wp2_with fail
      go_round
      case rel => exact ⟨k + 1, by omega, by go_num, by rw [HS.out]⟩
      case measure => simp [intOf]; omega
    · go_wp2_with fail
      go_ret
      exact ⟨by show Ending.returned (.int .i64 (sumI (l.take k))) = _; rw [List.take_of_length_le (by omega)], rfl⟩
theorem sum_impl (w : World) (v : Value) (l : List Int) (h : Sl w 1 v eI l) : Calls Tryz.prog 86 #[v] w fun e w' => e = .returned (.int .i64 (sumI l)) ∧ w' = w := by
  have m1 := h.len
  obtain ⟨-, A, c, rfl, -, -, -⟩ := id h
  go_enter Tryz.func86, Tryz.ntmps86
  go_wp2_with fail
  go_loop [3, 8] (fun s i => ∃ k : Nat, k ≤ l.length ∧ i = .int .i64 k ∧ s = .int .i64 (sumI (l.take k))) (fun _ i => l.length - (intOf i).toNat)
  case atStart => exact ⟨0, Nat.zero_le _, rfl, rfl⟩
  case round =>
    obtain ⟨k, hk, rfl, rfl⟩ := hrel
    by_cases hlt : k < l.length
    · have HS := hd (sumI_snoc l k hlt)
      obtain ⟨b, o, rfl, -, hc⟩ := h.int_at hlt
      go_wp2_with fail
      go_round
      case rel => exact ⟨k + 1, by omega, by go_num, by rw [HS.out]⟩
      case measure => simp [intOf]; omega
    · go_wp2_with fail
      go_ret
      exact ⟨by show Ending.returned (.int .i64 (sumI (l.take k))) = _; rw [List.take_of_length_le (by omega)], rfl⟩
end Go.Proofs.YtgcodjkjdfahdaaGreatDoor
