/- Contracts of the helpers on []int64: toInt64S copies, eqInt64S compares, markInt64S overwrites, heldInt64S looks whether the marks stand. No condition but that the slice reads. -/
import Derived.Test.YtlgcehdklpbknaaRows
import Derived.Test.YtlgcehdklpbknaaMem
namespace Go.Proofs.Ytlgcehdklpbknaa
open Go Go.RowKit
set_option linter.unusedSimpArgs false
set_option linter.unusedVariables false

def eI (x : Int) : List Value := [.int .i64 x]
theorem eI_len (x : Int) : (eI x).length = 1 := rfl
theorem info_i64 : (Try.prog.info? 2).map (fun i => (i.zero, i.size, i.bytes)) = some (some (.int .i64 0), 1, 8) := by kernel_rfl

/-- The call returns a slice of its own that reads as l; what was there stands. -/
def GivesOwn {α : Type} (w : World) (E : TypeId) (k : Nat) (enc : α → List Value) (l : List α) (e : Ending) (w' : World) : Prop :=
  ∃ v, e = .returned v ∧ Own w' w.heap.size E k v enc l ∧ Below w.heap.size w w'

theorem Sl.int_at {w : World} {A : Option Addr} {n c : Nat} {l : List Int} (h : Sl w 1 (.slice A n c) eI l) {i : Nat} (hi : i < l.length) :
    ∃ b o, A = some ⟨b, o, none⟩ ∧ b < w.heap.size ∧ w.cell? ⟨b, o + i, none⟩ = some (.int .i64 l[i]) := by
  obtain ⟨b, o, x, hx, hA, hb, hc⟩ := h.at_ hi
  have : x = l[i] := by rw [List.getElem?_eq_getElem hi] at hx; exact (Option.some.inj hx).symm
  subst this
  exact ⟨b, o, hA, hb, by simpa using hc 0 _ rfl⟩

set_option maxHeartbeats 400000 in
theorem eqInts (w : World) (v1 v2 : Value) (l1 l2 : List Int) (h1 : Sl w 1 v1 eI l1) (h2 : Sl w 1 v2 eI l2) :
    Calls Try.prog 40 #[v1, v2] w fun e w' => e = .returned (.bool (decide (l1 = l2))) ∧ ∃ n, w' = w.drewN n := by
  have m1 := h1.len
  have m2 := h2.len
  obtain ⟨-, A1, c1, rfl, -, -, -⟩ := id h1
  obtain ⟨-, A2, c2, rfl, -, -, -⟩ := id h2
  by_cases hlen : l1.length = l2.length
  · have hb : (((l1.length : Nat) : Int) != ((l2.length : Nat) : Int)) = false := by simp [hlen]
    have HL := hd hlen
    clear hlen
    go_enter Try.func40, Try.ntmps40
    go_wp2
    go_loopw [5] (fun i wr => ∃ k : Nat, k ≤ l1.length ∧ i = .int .i64 k ∧ (∃ d, wr = w.drewN d) ∧ Hid (l1.take k = l2.take k)) (fun i _ => l1.length - (intOf i).toNat)
    case atStart => exact ⟨0, Nat.zero_le _, rfl, ⟨0, rfl⟩, hd (by simp)⟩
    case round =>
      obtain ⟨k, hk, rfl, ⟨d, rfl⟩, HT⟩ := hrel
      by_cases hlt : k < l1.length
      · have hlt2 : k < l2.length := HL.out ▸ hlt
        obtain ⟨a1, o1, rfl, -, hc1⟩ := h1.int_at hlt
        obtain ⟨a2, o2, rfl, -, hc2⟩ := h2.int_at hlt2
        go_wp2
        go_quiet (fail)
        go_wp2
        · have hne : (l1[k] != l2[k]) = true := by assumption
          go_ret
          refine ⟨?_, d + nq, by first | rfl | exact World.drewN_drewN _ _ _⟩
          have : l1 ≠ l2 := by rintro rfl; simp at hne
          simp [this]
        · have heq : (l1[k] != l2[k]) = false := by assumption
          go_roundw
          case rel => exact ⟨k + 1, by omega, by go_num, ⟨_, rfl⟩, hd (by rw [List.take_succ_eq_append_getElem hlt, List.take_succ_eq_append_getElem hlt2, HT.out]; simp at heq; rw [heq])⟩
          case measure => simp [intOf]; omega
      · go_wp2
        go_ret
        refine ⟨?_, _, rfl⟩
        have h3 := HT.out
        rw [List.take_of_length_le (by omega), List.take_of_length_le (by have := HL.out; omega)] at h3
        simp [h3]
  · have hb : (((l1.length : Nat) : Int) != ((l2.length : Nat) : Int)) = true := by simp; omega
    have HL := hd hlen
    clear hlen
    go_enter Try.func40, Try.ntmps40
    go_wp2
    go_ret
    refine ⟨?_, 0, rfl⟩
    have : l1 ≠ l2 := by rintro rfl; exact HL.out rfl
    simp [this]

/-- What a copy has done after j rounds. -/
def CopyTo {α : Type} (w : World) (E : TypeId) (k : Nat) (v : Value) (n : Nat) (enc : α → List Value) (l : List α) (j : Nat) (wr : World) : Prop :=
  ∃ ys, wr.ownsRow w.heap.size E k v n ys ∧ ys.take (j * k) = (l.take j).flatMap enc ∧ Below w.heap.size w wr

set_option maxHeartbeats 400000 in
theorem toInts (w : World) (v : Value) (l : List Int) (h : Sl w 1 v eI l) (hl : l.length ≤ 1048576) :
    Calls Try.prog 37 #[v] w (GivesOwn w 2 1 eI l) := by
  obtain ⟨-, A, c, rfl, -, -, -⟩ := id h
  obtain ⟨i0, hi, hz0, hz1, hz2⟩ := info_parts info_i64
  go_enter Try.func37, Try.ntmps37
  go_wp2_with (first | (at_make; refine wpList_make_full _ rfl _ _ 25 rfl w.heap.size 2 i0 (.int .i64 0) 1 Try.underlying25 hi hz0 hz1 .i64 .i64 _ _ l.length rfl rfl rfl rfl (by rw [hz2]; omega) (by unfold maxLen; omega) (Nat.le_refl _) ?_))
  intro w1 hown hgr
  have H0 : CopyTo w 2 1 (.slice (some ⟨w.heap.size, 0, none⟩) l.length l.length) l.length eI l 0 w1 := ⟨_, hown, by simp, below_of_grown hgr (Nat.le_refl _) (by simp)⟩
  clear hown hgr hi hz0 hz1 hz2
  go_wp2
  go_loopw [4] (fun i wr => ∃ k : Nat, k ≤ l.length ∧ i = .int .i64 k ∧ CopyTo w 2 1 (.slice (some ⟨w.heap.size, 0, none⟩) l.length l.length) l.length eI l k wr) (fun i _ => l.length - (intOf i).toNat)
  case atStart => exact ⟨0, Nat.zero_le _, rfl, H0⟩
  case round =>
    obtain ⟨k, hk, rfl, H⟩ := hrel
    clear H0
    by_cases hlt : k < l.length
    · obtain ⟨ys, hown, hys, hbel⟩ := H
      obtain ⟨b, o, rfl, hb, hc⟩ := (h.below hbel).int_at hlt
      have hky : k < ys.length := by rw [hown.1]; omega
      have hcell := hown.cellAt k (by omega)
      rw [List.getElem?_eq_getElem hky] at hcell
      have hfr := hown.frozenAt k
      go_wp2
      go_roundw
      case rel =>
        have hst := hown.stored k (.int .i64 l[k])
        refine ⟨k + 1, by omega, by go_num, _, hst.1, ?_, ?_⟩
        · rw [Nat.mul_one] at hys ⊢
          rw [take_set_snoc hys hky, flatMap_snoc _ _ _ hlt]
          rfl
        · exact hbel.setCell (Nat.le_refl _) _
      case measure => simp [intOf]; omega
    · go_wp2
      go_ret
      obtain ⟨ys, hown, hys, hbel⟩ := H
      have hkl : k = l.length := by omega
      refine ⟨_, rfl, ?_, hbel⟩
      unfold Own
      have e1 : ys = l.flatMap eI := by
        rw [hkl, List.take_of_length_le (by rw [hown.1]; exact Nat.le_refl _), List.take_length] at hys
        exact hys
      rw [← e1]
      exact hown

/-- the marks from k on -/
def marks (k : Int) (n : Nat) : List Int := (List.range n).map fun (i : Nat) => k + (i : Int)
theorem marks_len (k : Int) (n : Nat) : (marks k n).length = n := by simp [marks]
theorem marks_succ (k : Int) (n : Nat) : marks k (n + 1) = marks k n ++ [k + n] := by simp [marks, List.range_succ]
theorem marks_get (k : Int) (n i : Nat) (h : i < (marks k n).length) : (marks k n)[i] = k + i := by simp [marks]

/-- What marking has done after j rounds. -/
def MarkTo {α : Type} (w : World) (B : Nat) (E : TypeId) (k : Nat) (v : Value) (n : Nat) (enc : α → List Value) (l : List α) (j : Nat) (wr : World) : Prop :=
  ∃ ys, wr.ownsRow B E k v n ys ∧ ys.take (j * k) = (l.take j).flatMap enc ∧ w.grownBy wr v.ownBlock

set_option maxHeartbeats 400000 in
theorem markInts (w : World) (B : Nat) (E : TypeId) (v : Value) (l : List Int) (h : Own w B E 1 v eI l) (k : Int) (h0 : 0 ≤ k) (hk : k + l.length ≤ 4611686018427387904) :
    Calls Try.prog 58 #[v, .int .i64 k] w fun e w' => e = .returned (.int .i64 (k + l.length)) ∧ Own w' B E 1 v eI (marks k l.length) ∧ w.grownBy w' v.ownBlock := by
  have hfin : ∀ wr, MarkTo w B E 1 v l.length eI (marks k l.length) l.length wr → Own wr B E 1 v eI (marks k l.length) ∧ w.grownBy wr v.ownBlock := by
    rintro wr ⟨ys, hown, hys, hgr⟩
    refine ⟨?_, hgr⟩
    unfold Own
    rw [marks_len]
    have e1 : ys = (marks k l.length).flatMap eI := by
      rw [List.take_of_length_le (by rw [hown.1]; exact Nat.le_refl _)] at hys
      rw [hys]
      have := marks_len k l.length
      rw [List.take_of_length_le (by omega)]
    rw [← e1]
    exact hown
  have H0 : MarkTo w B E 1 v l.length eI (marks k l.length) 0 w := ⟨_, h, by simp, World.grownBy.refl _ _⟩
  have HF := hd hfin
  clear hfin
  rcases h.form with ⟨rfl, rfl⟩ | ⟨g, cap, rfl, hBg, hgw, hlc, hcm⟩
  · go_enter Try.func58, Try.ntmps58
    go_wp2
    go_loopw [1, 5] (fun kk i wr => wr = w ∧ kk = .int .i64 k ∧ i = .int .i64 0) (fun _ _ _ => 0)
    case atStart => exact ⟨rfl, rfl, rfl⟩
    case round =>
      obtain ⟨rfl, rfl, rfl⟩ := hrel
      go_wp2
      go_ret
      exact ⟨by simp, HF.out _ H0⟩
  · have hlen := h.1
    go_enter Try.func58, Try.ntmps58
    go_wp2
    go_loopw [1, 5] (fun kk i wr => ∃ j : Nat, j ≤ l.length ∧ i = .int .i64 j ∧ kk = .int .i64 (k + j) ∧ MarkTo w B E 1 (.slice (some ⟨g, 0, none⟩) l.length cap) l.length eI (marks k l.length) j wr) (fun _ i _ => l.length - (intOf i).toNat)
    case atStart => exact ⟨0, Nat.zero_le _, rfl, by simp, H0⟩
    case round =>
      obtain ⟨j, hj, rfl, rfl, H⟩ := hrel
      clear H0
      by_cases hlt : j < l.length
      · obtain ⟨ys, hown, hys, hgr⟩ := H
        have hky : j < ys.length := by rw [hown.1]; omega
        have hcell := hown.cellAt j (by omega)
        rw [List.getElem?_eq_getElem hky] at hcell
        have hfr := hown.frozenAt j
        go_wp2
        go_roundw
        case rel =>
          have hst := hown.stored j (.int .i64 (k + j))
          refine ⟨j + 1, by omega, by go_num, by go_num, _, hst.1, ?_, grownBy_trans hgr hst.2⟩
          have hjm : j < (marks k l.length).length := by rw [marks_len]; exact hlt
          rw [Nat.mul_one] at hys ⊢
          rw [take_set_snoc hys hky, flatMap_snoc _ _ _ hjm, marks_get]
          rfl
        case measure => simp [intOf]; omega
      · go_wp2
        go_ret
        have hjl : j = l.length := by omega
        subst hjl
        exact ⟨rfl, HF.out _ H⟩

set_option maxHeartbeats 400000 in
theorem heldInts (w : World) (v : Value) (k : Int) (n : Nat) (h : Sl w 1 v eI (marks k n)) (h0 : 0 ≤ k) (hk : k + n ≤ 4611686018427387904) :
    Calls Try.prog 59 #[v, .int .i64 k] w fun e w' => e = .returned (.int .i64 (k + n)) ∧ w' = w := by
  have hlen := marks_len k n
  obtain ⟨-, A, c, hv, -, -, -⟩ := id h
  rw [hlen] at hv
  subst hv
  have HL := hd hlen
  clear hlen
  go_enter Try.func59, Try.ntmps59
  go_wp2
  go_loop [1, 5] (fun kk i => ∃ j : Nat, j ≤ n ∧ i = .int .i64 j ∧ kk = .int .i64 (k + j)) (fun _ i => n - (intOf i).toNat)
  case atStart => exact ⟨0, Nat.zero_le _, rfl, by simp⟩
  case round =>
    obtain ⟨j, hj, rfl, rfl⟩ := hrel
    by_cases hlt : j < n
    · obtain ⟨b, o, rfl, hb, hc⟩ := h.int_at (i := j) (by rw [HL.out]; exact hlt)
      rw [marks_get] at hc
      go_wp2
      go_round
      case rel => exact ⟨j + 1, by omega, by go_num, by go_num⟩
      case measure => simp [intOf]; omega
    · go_wp2
      go_ret
      have hjl : j = n := by omega
      subst hjl
      exact ⟨rfl, rfl⟩


/-! ### sums, and one place of a list -/
def sumI (l : List Int) : Int := l.foldl (fun s x => wrap64 (s + x)) 0
theorem sumI_snoc (l : List Int) (k : Nat) (h : k < l.length) : sumI (l.take (k + 1)) = wrap64 (sumI (l.take k) + l[k]) := by
  unfold sumI
  rw [List.take_succ_eq_append_getElem h, List.foldl_append]
  rfl
theorem flatMap_set1 (l : List Int) (i : Nat) (x : Int) : (l.set i x).flatMap eI = (l.flatMap eI).set i (.int .i64 x) := by
  induction l generalizing i with
  | nil => simp
  | cons y l ih =>
    cases i with
    | zero => simp [eI]
    | succ i => simp [List.flatMap_cons, eI, ih]
theorem Own.set1 {w : World} {B E g n cap : Nat} {l : List Int} (h : Own w B E 1 (.slice (some ⟨g, 0, none⟩) n cap) eI l) (i : Nat) (x : Int) :
    Own (w.setCell ⟨g, i, none⟩ (.int .i64 x)) B E 1 (.slice (some ⟨g, 0, none⟩) n cap) eI (l.set i x) := by
  have hn : n = l.length := by
    rcases h.form with ⟨hv, -⟩ | ⟨g', cap', hv, -⟩
    · cases hv
    · injection hv
  subst hn
  have h1 := (World.ownsRow.stored h i (.int .i64 x)).1
  unfold Own
  rw [flatMap_set1, List.length_set]
  exact h1
theorem Own.cell1 {w : World} {B E g n cap : Nat} {l : List Int} (h : Own w B E 1 (.slice (some ⟨g, 0, none⟩) n cap) eI l) (i : Nat) (hi : i < l.length) :
    w.cell? ⟨g, i, none⟩ = some (.int .i64 l[i]) ∧ w.frozen? ⟨g, i, none⟩ = false := by
  have hn : n = l.length := by
    rcases h.form with ⟨hv, -⟩ | ⟨g', cap', hv, -⟩
    · cases hv
    · injection hv
  subst hn
  refine ⟨?_, World.ownsRow.frozenAt h i⟩
  rw [World.ownsRow.cellAt h i (by omega)]
  have := flatMap_at eI 1 eI_len l i l[i] (List.getElem?_eq_getElem hi) 0 (by omega)
  simpa [eI] using this

theorem sum_impl (w : World) (v : Value) (l : List Int) (h : Sl w 1 v eI l) : Calls Try.prog 72 #[v] w fun e w' => e = .returned (.int .i64 (sumI l)) ∧ w' = w := by
  have m1 := h.len
  obtain ⟨-, A, c, rfl, -, -, -⟩ := id h
  go_enter Try.func72, Try.ntmps72
  go_wp2_with fail
  go_loop [3, 8] (fun s i => ∃ k : Nat, k ≤ l.length ∧ i = .int .i64 k ∧ s = .int .i64 (sumI (l.take k))) (fun _ i => l.length - (intOf i).toNat)
  case atStart => exact ⟨0, Nat.zero_le _, rfl, rfl⟩
  case round =>
    obtain ⟨k, hk, rfl, rfl⟩ := hrel
    by_cases hlt : k < l.length
    · have HS := hd (sumI_snoc l k hlt)
      obtain ⟨b, o, rfl, -, hc⟩ := h.int_at hlt
      go_wp2_with fail
      go_round
      case rel => exact ⟨k + 1, by omega, by go_num, by rw [HS.out]⟩
      case measure => simp [intOf]; omega
    · go_wp2_with fail
      go_ret
      exact ⟨by show Ending.returned (.int .i64 (sumI (l.take k))) = _; rw [List.take_of_length_le (by omega)], rfl⟩
end Go.Proofs.Ytlgcehdklpbknaa
