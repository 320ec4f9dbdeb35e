/- What is read of a text that must be a log: the program's logCode, the reference's l27Code and l27What. No condition but that the library's table, its two errors and its search variable lie as they are laid. -/
import Derived.Test.YtiofpmmbgohnhaaDoorLChk
namespace Go.Proofs.YtiofpmmbgohnhaaDoor
open Go Go.RowKit Go.ChangeShapes Go.WideShapes
set_option linter.unusedSimpArgs false
set_option linter.unusedVariables false
def lc (s : ByteArray) : Int := if s.size ≤ 4000 then (if (readL s).at_ = s.size then 0 else 8) else 5
def eL (s : ByteArray) : List TEntry := if lc s = 0 then (readL s).l else []
theorem eL_good {s : ByteArray} (h : lc s = 0) : eL s = (readL s).l := by unfold eL; rw [if_pos h]
theorem eL_bad {s : ByteArray} (h : ¬ lc s = 0) : eL s = [] := by unfold eL; rw [if_neg h]
theorem lc_size {s : ByteArray} (h : lc s = 0) : s.size ≤ 4000 := by
  by_cases hz : s.size ≤ 4000
  · exact hz
  · unfold lc at h; rw [if_neg hz] at h; cases h
theorem eL_len (s : ByteArray) : (eL s).length ≤ 4000 := by
  by_cases h : lc s = 0
  · rw [eL_good h]; have := readL_len s; have := lc_size h; omega
  · rw [eL_bad h]; exact Nat.zero_le _
theorem eL_ok (s : ByteArray) : ∀ x ∈ eL s, okEntryB x = true := by
  by_cases h : lc s = 0
  · rw [eL_good h]; exact readL_ok s
  · rw [eL_bad h]; intro x hx; cases hx
def GivesCode (w : World) (s : ByteArray) (e : Ending) (w' : World) : Prop :=
  ∃ v st n, e = .returned (.tuple #[.agg #[v, .int .i64 st, .int .i64 n], .int .i64 (lc s)]) ∧ Own w' w.heap.size 38 3 v eEntry (eL s) ∧ (lc s = 0 → st = (readL s).st) ∧ (0 ≤ st ∧ st ≤ 65518) ∧ (0 ≤ n ∧ n ≤ 1048576) ∧ Below w.heap.size w w'
set_option maxRecDepth 100000 in
set_option maxHeartbeats 4000000 in
theorem code_impl (w : World) (s : ByteArray) (hs : s.size ≤ 1048576) (hsh : Shop w) :
    Calls Tryd.prog 59 #[.string s] w (GivesCode w s) := by
  obtain ⟨-, -, -, X0, hz0, hb0⟩ := new3 w (.slice none 0 0) (.int .i64 0) (.int .i64 0) 87
  have HSH := hd (hsh.below hb0)
  clear hsh
  by_cases hz : s.size ≤ 4000
  case neg =>
    have HC := hd (show lc s = 5 by unfold lc; rw [if_neg hz])
    have hz' : 4000 < s.size := by omega
    go_enter Tryd.func59, Tryd.ntmps59
    go_wp2_with fail
    have c0 := (new3 w (.slice none 0 0) (.int .i64 0) (.int .i64 0) 87)
    generalize w.alloc (.cells #[.slice none 0 0, .int .i64 0, .int .i64 0] 87) = Z at c0 hb0 ⊢
    have BZ := hb0
    refine bodyPost_ret (v := .tuple #[.agg #[.slice none 0 0, .int .i64 0, .int .i64 0], .int .i64 5]) ?_ rfl ?_
    · refine (results_cell_tmp Tryd.results59 _ _ _).trans ?_
      show (((loadVar 87 ⟨w.heap.size, 0, none⟩).run Tryd.prog Z).andThen fun v w₂ => Result.ok (Value.tuple #[v, Value.int .i64 5]) w₂) = _
      rw [load_reading Z _ _ _ _ ⟨_, _, _, rfl⟩ c0.1 c0.2.1 c0.2.2.1]
      rfl
    exact ⟨_, _, _, by rw [HC.out], by rw [eL_bad (by rw [HC.out]; decide)]; exact Own.nil _ _ _ _ _, fun h => (by rw [HC.out] at h; cases h), by decide, by decide, BZ⟩
  have hat := readL_at s
  go_enter Tryd.func59, Tryd.ntmps59
  go_wp2_with fail
  generalize w.alloc (.cells #[.slice none 0 0, .int .i64 0, .int .i64 0] 87) = W0 at hb0 hz0 X0 HSH ⊢
  refine (readLog_impl _ _ hs HSH.out).mono ?_
  rintro e w1 ⟨v, rfl, O, B⟩
  obtain ⟨A, cc, rfl⟩ := O.isSlice
  have X1 := X0.below B
  have B1 := below_step hb0 B
  obtain ⟨t0, t1, t2, -, hz2, hb2⟩ := new3 w1 (.slice A (readL s).l.length cc) (.int .i64 (readL s).st) (.int .i64 ((readL s).at_ : Int)) 87
  have X2 := X1.below hb2
  have B2 := below_step B1 hb2
  have O2 := O.below hb2 (Nat.le_refl _)
  have HST := hd (readL_st s)
  clear X0 X1 O B B1 hb2
  by_cases ha : (readL s).at_ = s.size
  case neg =>
    have HC := hd (show lc s = 8 by unfold lc; rw [if_pos hz, if_neg ha])
    have ha' : (readL s).at_ < s.size := by omega
    clear ha
    obtain ⟨x0, ⟨d0, d1, d2, b0, b1, b2⟩, g0, g1, g2⟩ := X2
    go_wp2_with fail
    have FC := cells3 (w1.alloc (.cells #[.slice A (readL s).l.length cc, .int .i64 (readL s).st, .int .i64 ((readL s).at_ : Int)] 87)) w.heap.size (.slice none 0 0) (.int .i64 0) (.int .i64 0) _ _ _ b0 b1 b2
    have BZ := box3_below B2 (Nat.le_refl _) (.slice none 0 0) (.int .i64 0) (.int .i64 0)
    generalize ((((w1.alloc (.cells #[.slice A (readL s).l.length cc, .int .i64 (readL s).st, .int .i64 ((readL s).at_ : Int)] 87)).setCell ⟨w.heap.size, 0, none⟩ (.slice none 0 0)).setCell ⟨w.heap.size, 1, none⟩ (.int .i64 0)).setCell ⟨w.heap.size, 2, none⟩ (.int .i64 0)) = Z at FC BZ ⊢
    obtain ⟨e0, e1, e2⟩ := FC
    refine bodyPost_ret (v := .tuple #[.agg #[.slice none 0 0, .int .i64 0, .int .i64 0], .int .i64 8]) ?_ rfl ?_
    · refine (results_cell_tmp Tryd.results59 _ _ _).trans ?_
      show (((loadVar 87 ⟨w.heap.size, 0, none⟩).run Tryd.prog Z).andThen fun v w₂ => Result.ok (Value.tuple #[v, Value.int .i64 8]) w₂) = _
      rw [load_reading Z _ _ _ _ ⟨_, _, _, rfl⟩ e0 e1 e2]
      rfl
    exact ⟨_, _, _, by rw [HC.out], by rw [eL_bad (by rw [HC.out]; decide)]; exact Own.nil _ _ _ _ _, fun h => (by rw [HC.out] at h; cases h), by decide, by decide, BZ⟩
  have HC := hd (show lc s = 0 by unfold lc; rw [if_pos hz, if_pos ha])
  have HEL := hd (eL_good HC.out)
  have ha' : ¬ (readL s).at_ < s.size := by omega
  have hatz : (readL s).at_ ≤ 1048576 := by omega
  clear ha
  obtain ⟨x0, ⟨d0, d1, d2, b0, b1, b2⟩, g0, g1, g2⟩ := X2
  go_wp2_with fail
  have FC := cells3 (w1.alloc (.cells #[.slice A (readL s).l.length cc, .int .i64 (readL s).st, .int .i64 ((readL s).at_ : Int)] 87)) w.heap.size (.slice A (readL s).l.length cc) (.int .i64 (readL s).st) (.int .i64 ((readL s).at_ : Int)) _ _ _ b0 b1 b2
  have BZ := box3_below B2 (Nat.le_refl _) (.slice A (readL s).l.length cc) (.int .i64 (readL s).st) (.int .i64 ((readL s).at_ : Int))
  have OZ := (own_box3 (O2.base (show w.heap.size + 1 ≤ W0.heap.size by omega)) (Nat.lt_succ_self _) (.slice A (readL s).l.length cc) (.int .i64 (readL s).st) (.int .i64 ((readL s).at_ : Int))).base (Nat.le_succ w.heap.size)
  generalize ((((w1.alloc (.cells #[.slice A (readL s).l.length cc, .int .i64 (readL s).st, .int .i64 ((readL s).at_ : Int)] 87)).setCell ⟨w.heap.size, 0, none⟩ (.slice A (readL s).l.length cc)).setCell ⟨w.heap.size, 1, none⟩ (.int .i64 (readL s).st)).setCell ⟨w.heap.size, 2, none⟩ (.int .i64 ((readL s).at_ : Int))) = Z at FC BZ OZ ⊢
  obtain ⟨e0, e1, e2⟩ := FC
  refine bodyPost_ret (v := .tuple #[.agg #[.slice A (readL s).l.length cc, .int .i64 (readL s).st, .int .i64 ((readL s).at_ : Int)], .int .i64 0]) ?_ rfl ?_
  · refine (results_cell_tmp Tryd.results59 _ _ _).trans ?_
    show (((loadVar 87 ⟨w.heap.size, 0, none⟩).run Tryd.prog Z).andThen fun v w₂ => Result.ok (Value.tuple #[v, Value.int .i64 0]) w₂) = _
    rw [load_reading Z _ _ _ _ ⟨_, _, _, rfl⟩ e0 e1 e2]
    rfl
  exact ⟨_, _, _, by rw [HC.out], by rw [HEL.out]; exact OZ, fun _ => rfl, HST.out, by omega, BZ⟩
set_option maxRecDepth 100000 in
set_option maxHeartbeats 4000000 in
theorem code_spec (w : World) (s : ByteArray) (hs : s.size ≤ 1048576) :
    Calls Tryd.prog 71 #[.string s] w fun e w' => ∃ g, e = .returned (.tuple #[.pointer (some ⟨g, 0, none⟩), .int .i64 (lc s)]) ∧ (lc s = 0 → Reader w s (readL s) g w') ∧ Below w.heap.size w w' := by
  by_cases hz : s.size ≤ 4000
  case neg =>
    have HC := hd (show lc s = 5 by unfold lc; rw [if_neg hz])
    have hz' : 4000 < s.size := by omega
    go_enter Tryd.func71, Tryd.ntmps71
    go_wp2_with fail
    go_ret2
    exact ⟨w.heap.size, by rw [HC.out]; rfl, fun h => (by rw [HC.out] at h; cases h), (Below.refl _ _).alloc (Nat.le_refl _) _⟩
  have hat := readL_at s
  go_enter Tryd.func71, Tryd.ntmps71
  go_wp2_with fail
  refine (read_spec _ _ hs).mono ?_
  rintro e w1 ⟨g, rfl, hr⟩
  have HRD := hd hr
  obtain ⟨v, ⟨r0, ⟨c0, c1, c2, c3⟩, -⟩, O, hg, B⟩ := hr
  by_cases ha : (readL s).at_ = s.size
  case neg =>
    have HC := hd (show lc s = 8 by unfold lc; rw [if_pos hz, if_neg ha])
    have ka : ((((readL s).at_ : Nat) : Int) != ((s.size : Nat) : Int)) = true := by simp; omega
    go_wp2_with fail
    go_ret2
    exact ⟨g, by rw [HC.out]; rfl, fun h => (by rw [HC.out] at h; cases h), B⟩
  have HC := hd (show lc s = 0 by unfold lc; rw [if_pos hz, if_pos ha])
  have ka : ((((readL s).at_ : Nat) : Int) != ((s.size : Nat) : Int)) = false := by simp; omega
  clear ha
  go_wp2_with fail
  go_ret2
  exact ⟨g, by rw [HC.out]; rfl, fun _ => HRD.out, B⟩
def lw (s t : ByteArray) : Int := if lc s = 0 then (if isNameB t = true then 0 else 2) else lc s
theorem lw_good {s t : ByteArray} (h : lw s t = 0) : lc s = 0 ∧ isNameB t = true := by
  unfold lw at h
  by_cases hc : lc s = 0
  · rw [if_pos hc] at h
    by_cases ht : isNameB t = true
    · exact ⟨hc, ht⟩
    · rw [if_neg ht] at h; cases h
  · rw [if_neg hc] at h; exact absurd h hc
end Go.Proofs.YtiofpmmbgohnhaaDoor
