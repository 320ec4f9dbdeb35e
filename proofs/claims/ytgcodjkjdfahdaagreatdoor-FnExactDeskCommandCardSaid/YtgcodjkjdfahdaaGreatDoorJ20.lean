/- Lemmas for the claim (the walks of its functions and their plain laws), joined. No condition. -/
import Derived.Test.YtgcodjkjdfahdaaGreatDoorJ15
import Derived.Test.YtgcodjkjdfahdaaGreatDoorJ5
import Derived.IntWalk
namespace Go.Proofs.YtgcodjkjdfahdaaGreatDoor
open Go Go.RowKit Go.ChangeShapes Go.WideShapes
set_option linter.unusedSimpArgs false
set_option linter.unusedVariables false
theorem handC_yes {t a b c d : Int} (h1 : a ≤ t) (h2 : t < a + b) : handC t (a, b, c, d) = c := by unfold handC; rw [if_pos ⟨h1, h2⟩]
theorem handC_no {t a b c d : Int} (h : ¬ (a ≤ t ∧ t < a + b)) : handC t (a, b, c, d) = 0 := by unfold handC; rw [if_neg h]
theorem max_if (s x : Int) : (if s < x then x else s) = max s x := by split <;> omega
theorem handsL_all (t : Int) (l : List TCue) (k : Nat) (hk : l.length ≤ k) : handsL t (l.take k) = handsL t l := by rw [List.take_of_length_le hk]
theorem bd_take {l : List TCue} (h : ∀ x ∈ l, bdCue x) (k : Nat) : ∀ x ∈ l.take k, bdCue x := fun x hx => h x (List.mem_of_mem_take hx)
theorem hands_take_bd {l : List TCue} (h : ∀ x ∈ l, bdCue x) (hl : l.length ≤ 6) (t : Int) (k : Nat) : 0 ≤ handsL t (l.take k) ∧ handsL t (l.take k) ≤ 24 := by
  have h1 := handsL_bd (bd_take h k) t
  have h2 : (l.take k).length ≤ 6 := by rw [List.length_take]; omega
  omega
set_option maxRecDepth 100000 in
set_option maxHeartbeats 2000000 in
theorem hands_impl (w : World) (v : Value) (l : List TCue) (h : Sl w 4 v eCue l) (hb : ∀ x ∈ l, bdCue x) (hl : l.length ≤ 6) (t : Int) :
    Calls Tryz.prog 197 #[v, .int .i64 t] w fun e w' => e = .returned (.int .i64 (handsL t l)) ∧ Below w.heap.size w w' := by
  obtain ⟨-, A, c, rfl, -, -, -⟩ := id h
  have HB := hd hb
  have HBT := hd (hands_take_bd hb hl t)
  clear hb
  go_enter Tryz.func197, Tryz.ntmps197
  go_wp2_with fail
  go_loopw [5, 10] (fun sv iv wr => ∃ k : Nat, k ≤ l.length ∧ iv = .int .i64 k ∧ sv = .int .i64 (handsL t (l.take k)) ∧ Below w.heap.size w wr) (fun _ iv _ => l.length - (intOf iv).toNat)
  case atStart => exact ⟨0, Nat.zero_le _, rfl, rfl, Below.refl _ _⟩
  case round =>
    obtain ⟨k, hk, rfl, rfl, hbel⟩ := hrel
    by_cases hlt : k < l.length
    · have HS := hd (handsL_take t l k hlt)
      obtain ⟨s1, s2⟩ := HBT.out k
      obtain ⟨⟨a1, a2⟩, ⟨b1, b2⟩, c1, c2⟩ := HB.out _ (List.getElem_mem hlt)
      obtain ⟨bb, o, rfl, -, p0, p1, p2, p3⟩ := (h.below hbel).Cue_at hlt
      generalize l[k] = x at p0 p1 p2 p3 HS a1 a2 b1 b2 c1 c2
      obtain ⟨xa, xb, xc, xd⟩ := x
      dsimp only at p0 p1 p2 p3 a1 a2 b1 b2 c1 c2
      have hbel' := hbel.alloc hbel.size (.cells #[.int .i64 xa, .int .i64 xb, .int .i64 xc, .int .i64 xd] 92)
      generalize handsL t (l.take k) = s at s1 s2 HS ⊢
      by_cases h1 : xa ≤ t
      · by_cases h2 : t < xa + xb
        · replace HS := hd (HS.out.trans (by rw [handC_yes h1 h2]))
          go_wp2_with fail
          go_roundw
          case rel => exact ⟨k + 1, by omega, by go_num, by rw [HS.out], hbel'⟩
          case measure => simp [intOf]; omega
        · replace HS := hd (HS.out.trans (by rw [handC_no (by omega), Int.add_zero]))
          have h2' : xa + xb ≤ t := by omega
          go_wp2_with fail
          go_roundw
          case rel => exact ⟨k + 1, by omega, by go_num, by rw [HS.out], hbel'⟩
          case measure => simp [intOf]; omega
      · replace HS := hd (HS.out.trans (by rw [handC_no (by omega), Int.add_zero]))
        have h1' : t < xa := by omega
        go_wp2_with fail
        go_roundw
        case rel => exact ⟨k + 1, by omega, by go_num, by rw [HS.out], hbel'⟩
        case measure => simp [intOf]; omega
    · have HE := hd (handsL_all t l k (by omega))
      go_wp2_with fail
      go_ret
      exact ⟨by show Ending.returned (.int .i64 (handsL t (l.take k))) = _; rw [HE.out], hbel⟩
theorem max_spec (w : World) (a b : Int) : Calls Tryz.prog 261 #[.int .i64 a, .int .i64 b] w fun e w' => e = .returned (.int .i64 (max a b)) ∧ w' = w := by
  by_cases h : b < a
  · have HR := hd (show max a b = a by omega)
    go_enter Tryz.func261, Tryz.ntmps261
    go_wp2_with fail
    go_ret
    exact ⟨by rw [HR.out]; rfl, rfl⟩
  · have HR := hd (show max a b = b by omega)
    have h' : a ≤ b := by omega
    go_enter Tryz.func261, Tryz.ntmps261
    go_wp2_with fail
    go_ret
    exact ⟨by rw [HR.out]; rfl, rfl⟩
set_option maxRecDepth 100000 in
set_option maxHeartbeats 2000000 in
theorem most_impl (w : World) (v : Value) (l : List TCue) (h : Sl w 4 v eCue l) (hb : ∀ x ∈ l, bdCue x) (hl : l.length ≤ 6) :
    Calls Tryz.prog 139 #[v] w fun e w' => e = .returned (.int .i64 (mostL l)) ∧ Below w.heap.size w w' := by
  obtain ⟨-, A, c, rfl, -, -, -⟩ := id h
  have HB := hd hb
  have HBT := hd (fun k => mostTo_bd (m := l.take k) hb hl)
  clear hb
  go_enter Tryz.func139, Tryz.ntmps139
  go_wp2_with fail
  go_loopw [3, 8] (fun sv iv wr => ∃ k : Nat, k ≤ l.length ∧ iv = .int .i64 k ∧ sv = .int .i64 (mostTo l (l.take k)) ∧ Below w.heap.size w wr) (fun _ iv _ => l.length - (intOf iv).toNat)
  case atStart => exact ⟨0, Nat.zero_le _, rfl, rfl, Below.refl _ _⟩
  case round =>
    obtain ⟨k, hk, rfl, rfl, hbel⟩ := hrel
    by_cases hlt : k < l.length
    · have HS := hd (mostTo_take l k hlt)
      obtain ⟨bb, o, hA, -, p0, p1, p2, p3⟩ := (h.below hbel).Cue_at hlt
      subst hA
      generalize l[k] = x at p0 p1 p2 p3 HS
      obtain ⟨xa, xb, xc, xd⟩ := x
      dsimp only at p0 p1 p2 p3
      have hbel' := hbel.alloc hbel.size (.cells #[.int .i64 xa, .int .i64 xb, .int .i64 xc, .int .i64 xd] 92)
      generalize mostTo l (l.take k) = s at HS ⊢
      go_wp2_with fail
      refine (hands_impl _ _ l (h.below hbel') HB.out hl _).mono ?_
      rintro e w2 ⟨rfl, hb2⟩
      have hbel2 := below_step hbel' hb2
      clear hb2 hbel'
      go_wp2_with fail
      go_roundw
      case rel => exact ⟨k + 1, by omega, by go_num, by rw [HS.out, ← max_if], hbel2⟩
      case measure => simp [intOf]; omega
    · have HE := hd (show mostTo l (l.take k) = mostL l by unfold mostL; rw [List.take_of_length_le (by omega)])
      go_wp2_with fail
      go_ret
      exact ⟨by show Ending.returned (.int .i64 (mostTo l (l.take k))) = _; rw [HE.out], hbel⟩
end Go.Proofs.YtgcodjkjdfahdaaGreatDoor
