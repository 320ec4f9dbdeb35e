/- Helpers of the laws about properties: f6big, f6ints, f6sum. A []byte parameter read as bytes. -/
import Derived.Test.YtlgcehdklpbknaaBase
import Derived.Test.YtlgcehdklpbknaaDecS
import Derived.BigQuiet
namespace Go.Proofs.Ytlgcehdklpbknaa
open Go Go.RowKit Go.ChangeShapes Go.WideShapes
set_option linter.unusedSimpArgs false
set_option linter.unusedVariables false
def toU (l : List Int) : List UInt8 := l.map fun x => UInt8.ofNat x.toNat
theorem Sl.bytes {w : World} {v : Value} {l : List Int} (h : Sl w 1 v eB l) (hr : ∀ x ∈ l, 0 ≤ x ∧ x ≤ 255) : Sl w 1 v eU (toU l) := by
  obtain ⟨h1, A, c, h2, h3, h4, h5⟩ := h
  refine ⟨by simpa [toU] using h1, A, c, by simpa [toU] using h2, by simpa [toU] using h3, h4, fun i y hy => ?_⟩
  simp only [toU, List.getElem?_map, Option.map_eq_some_iff] at hy
  obtain ⟨x, hx, rfl⟩ := hy
  obtain ⟨b, o, hA, hb, hc⟩ := h5 i x hx
  refine ⟨b, o, hA, hb, fun j u hu => hc j u ?_⟩
  obtain ⟨x0, x1⟩ := hr x (List.mem_of_getElem? hx)
  have : ((UInt8.ofNat x.toNat).toNat : Int) = x := by
    rw [UInt8.toNat_ofNat']
    omega
  simp only [eU, this] at hu
  exact hu
theorem toU_len (l : List Int) : (toU l).length = l.length := by simp [toU]
theorem f6big (w : World) (v : Value) (l : List UInt8) (h : Sl w 1 v eU l) : Calls Try.prog 42 #[v] w fun e w' => e = .returned (.bool (decide (4096 < l.length))) ∧ w' = w := by
  have m1 := h.len
  obtain ⟨A, c, rfl⟩ := h.isSlice
  by_cases hb : 4096 < l.length
  · go_enter Try.func42, Try.ntmps42
    go_wp2_with fail
    go_ret
    exact ⟨by congr 2; simp; omega, rfl⟩
  · go_enter Try.func42, Try.ntmps42
    go_wp2_with fail
    go_ret
    exact ⟨by congr 2; simp; omega, rfl⟩
set_option maxHeartbeats 400000 in
theorem f6ints (w : World) (v1 v2 : Value) (l1 l2 : List Int) (h1 : Sl w 1 v1 eI l1) (h2 : Sl w 1 v2 eI l2) :
    Calls Try.prog 51 #[v1, v2] w fun e w' => e = .returned (.bool (decide (l1 = l2))) ∧ ∃ n, w' = w.drewN n := by
  have m1 := h1.len
  have m2 := h2.len
  obtain ⟨-, A1, c1, rfl, -, -, -⟩ := id h1
  obtain ⟨-, A2, c2, rfl, -, -, -⟩ := id h2
  by_cases hlen : l1.length = l2.length
  · have hb : (((l1.length : Nat) : Int) != ((l2.length : Nat) : Int)) = false := by simp [hlen]
    have HL := hd hlen
    clear hlen
    go_enter Try.func51, Try.ntmps51
    go_wp2
    go_loopw [5] (fun i wr => ∃ k : Nat, k ≤ l1.length ∧ i = .int .i64 k ∧ (∃ d, wr = w.drewN d) ∧ Hid (l1.take k = l2.take k)) (fun i _ => l1.length - (intOf i).toNat)
    case atStart => exact ⟨0, Nat.zero_le _, rfl, ⟨0, rfl⟩, hd (by simp)⟩
    case round =>
      obtain ⟨k, hk, rfl, ⟨d, rfl⟩, HT⟩ := hrel
      by_cases hlt : k < l1.length
      · have hlt2 : k < l2.length := HL.out ▸ hlt
        obtain ⟨a1, o1, rfl, -, hc1⟩ := h1.int_at hlt
        obtain ⟨a2, o2, rfl, -, hc2⟩ := h2.int_at hlt2
        go_wp2
        go_quiet (fail)
        go_wp2
        · have hne : (l1[k] != l2[k]) = true := by assumption
          go_ret
          refine ⟨?_, d + nq, by first | rfl | exact World.drewN_drewN _ _ _⟩
          have : l1 ≠ l2 := by rintro rfl; simp at hne
          simp [this]
        · have heq : (l1[k] != l2[k]) = false := by assumption
          go_roundw
          case rel => exact ⟨k + 1, by omega, by go_num, ⟨_, rfl⟩, hd (by rw [List.take_succ_eq_append_getElem hlt, List.take_succ_eq_append_getElem hlt2, HT.out]; simp at heq; rw [heq])⟩
          case measure => simp [intOf]; omega
      · go_wp2
        go_ret
        refine ⟨?_, _, rfl⟩
        have h3 := HT.out
        rw [List.take_of_length_le (by omega), List.take_of_length_le (by have := HL.out; omega)] at h3
        simp [h3]
  · have hb : (((l1.length : Nat) : Int) != ((l2.length : Nat) : Int)) = true := by simp; omega
    have HL := hd hlen
    clear hlen
    go_enter Try.func51, Try.ntmps51
    go_wp2
    go_ret
    refine ⟨?_, 0, rfl⟩
    have : l1 ≠ l2 := by rintro rfl; exact HL.out rfl
    simp [this]

theorem f6sum (w : World) (v : Value) (l : List Int) (h : Sl w 1 v eI l) : Calls Try.prog 52 #[v] w fun e w' => e = .returned (.int .i64 (sumI l)) ∧ w' = w := by
  have m1 := h.len
  obtain ⟨-, A, c, rfl, -, -, -⟩ := id h
  go_enter Try.func52, Try.ntmps52
  go_wp2_with fail
  go_loop [3, 4] (fun s i => ∃ k : Nat, k ≤ l.length ∧ i = .int .i64 k ∧ s = .int .i64 (sumI (l.take k))) (fun _ i => l.length - (intOf i).toNat)
  case atStart => exact ⟨0, Nat.zero_le _, rfl, rfl⟩
  case round =>
    obtain ⟨k, hk, rfl, rfl⟩ := hrel
    by_cases hlt : k < l.length
    · have HS := hd (sumI_snoc l k hlt)
      obtain ⟨b, o, rfl, -, hc⟩ := h.int_at hlt
      go_wp2_with fail
      go_round
      case rel => exact ⟨k + 1, by omega, by go_num, by rw [HS.out]⟩
      case measure => simp [intOf]; omega
    · go_wp2_with fail
      go_ret
      exact ⟨by show Ending.returned (.int .i64 (sumI (l.take k))) = _; rw [List.take_of_length_le (by omega)], rfl⟩
end Go.Proofs.Ytlgcehdklpbknaa
