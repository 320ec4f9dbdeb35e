/- Helper of the laws about properties: a2Has. No condition but that the slice reads. -/
import Derived.Test.YtlgcehdklpbknaaA2
namespace Go.Proofs.Ytlgcehdklpbknaa
open Go Go.RowKit Go.ChangeShapes Go.WideShapes
set_option linter.unusedSimpArgs false
set_option linter.unusedVariables false
def isIn (l : List Int) (x : Int) : Bool := l.any fun y => x == y
theorem isIn_snoc (l : List Int) (x : Int) (k : Nat) (hk : k < l.length) : isIn (l.take (k + 1)) x = (isIn (l.take k) x || (x == l[k])) := by
  unfold isIn
  rw [List.take_succ_eq_append_getElem hk, List.any_append]
  simp
theorem isIn_hit {l : List Int} {x : Int} {k : Nat} (hk : k < l.length) (h : (x == l[k]) = true) : isIn l x = true := by
  unfold isIn
  rw [List.any_eq_true]
  exact ⟨l[k], List.getElem_mem _, h⟩
theorem a2in (w : World) (v : Value) (l : List Int) (h : Sl w 1 v eI l) (x : Int) :
    Calls Try.prog 20 #[v, .int .i64 x] w fun e w' => e = .returned (.bool (isIn l x)) ∧ w' = w := by
  have m1 := h.len
  obtain ⟨-, A, c, rfl, -, -, -⟩ := id h
  go_enter Try.func20, Try.ntmps20
  go_wp2_with fail
  go_loop [5] (fun i => ∃ k : Nat, k ≤ l.length ∧ i = .int .i64 k ∧ Hid (isIn (l.take k) x = false)) (fun i => l.length - (intOf i).toNat)
  case atStart => exact ⟨0, Nat.zero_le _, rfl, hd rfl⟩
  case round =>
    obtain ⟨k, hk, rfl, HT⟩ := hrel
    by_cases hlt : k < l.length
    · obtain ⟨b, o, rfl, hb, hc⟩ := h.int_at hlt
      have HS := hd (isIn_snoc l x k hlt)
      have HH := hd (fun q => isIn_hit (x := x) hlt q)
      generalize l[k] = y at hc HS HH
      rcases hp : (x == y) with _ | _
      · have hp' : (y == x) = false := by rw [← hp]; exact Bool.eq_iff_iff.2 (by simp; exact eq_comm)
        have HT' := hd (HS.out.trans (show _ = false by simp [HT.out, hp]))
        clear hp
        go_wp2_with fail
        go_round
        case rel => exact ⟨k + 1, by omega, by go_num, HT'⟩
        case measure => simp [intOf]; omega
      · have hp' : (y == x) = true := by rw [← hp]; exact Bool.eq_iff_iff.2 (by simp; exact eq_comm)
        have HE := hd (HH.out hp)
        clear hp
        go_wp2_with fail
        go_ret
        exact ⟨by rw [HE.out]; rfl, rfl⟩
    · have HE := hd (show isIn l x = false by have := HT.out; rwa [List.take_of_length_le (by omega)] at this)
      go_wp2_with fail
      go_ret
      exact ⟨by rw [HE.out]; rfl, rfl⟩
end Go.Proofs.Ytlgcehdklpbknaa
