/- Texts of the claim, joined: each says at its head what it proves. No condition. -/
import Derived.Test.YtgcodjkjdfahdaaGreatDoorJ17
import Derived.Test.YtgcodjkjdfahdaaGreatDoorJ4
/- A log read whole: the reference's l27Read and l27Code, the program's logCode. No condition but that the library's table, its two errors and its search variable lie as they are laid. -/
namespace Go.Proofs.YtgcodjkjdfahdaaGreatDoor
open Go Go.RowKit Go.ChangeShapes Go.WideShapes
set_option linter.unusedSimpArgs false
set_option linter.unusedVariables false
theorem rs_new (w : World) (s : ByteArray) (v : Value) (T : TypeId) : Rs (w.alloc (.cells #[.string s, .int .i64 0, .int .i64 0, v] T)) w.heap.size s v 0 0 := by
  have g0 : (w.alloc (.cells #[.string s, .int .i64 0, .int .i64 0, v] T)).heap[w.heap.size]? = some (.cells #[.string s, .int .i64 0, .int .i64 0, v] T (0, 0)) := heap_alloc_new w _
  exact ⟨by simp, ⟨cell_of_row _ _ 0 _ _ (0, 0) g0, cell_of_row _ _ 1 _ _ (0, 0) g0, cell_of_row _ _ 2 _ _ (0, 0) g0, cell_of_row _ _ 3 _ _ (0, 0) g0⟩, free_in g0 1, free_in g0 2, free_in g0 3⟩
/-- a reader of the reference, what it has read -/
def Reader (w : World) (s : ByteArray) (T : LS) (g : Nat) (w' : World) : Prop :=
  ∃ v, Rs w' g s v T.st T.at_ ∧ Own w' w.heap.size 130 3 v eEntry T.l ∧ w.heap.size ≤ g ∧ Below w.heap.size w w'
set_option maxRecDepth 100000 in
set_option maxHeartbeats 4000000 in
theorem read_spec (w : World) (s : ByteArray) (hs : s.size ≤ 1048576) :
    Calls Tryz.prog 157 #[.string s] w fun e w' => ∃ g, e = .returned (.pointer (some ⟨g, 0, none⟩)) ∧ Reader w s (readL s) g w' := by
  have O0 := (Own.made0 w w.heap.size 130 3 eEntry (Nat.le_refl _)).alloc (.cells #[.string s, .int .i64 0, .int .i64 0, .slice (some ⟨w.heap.size, 0, none⟩) 0 0] 192)
  have R0 := rs_new (w.alloc (.cells #[] 130)) s (.slice (some ⟨w.heap.size, 0, none⟩) 0 0) 192
  have hz : (w.alloc (.cells #[] 130)).heap.size = w.heap.size + 1 := by simp
  have B0 := ((Below.refl w.heap.size w).alloc (Nat.le_refl _) (.cells #[] 130)).alloc (show w.heap.size ≤ (w.alloc (.cells #[] 130)).heap.size by omega) (.cells #[.string s, .int .i64 0, .int .i64 0, .slice (some ⟨w.heap.size, 0, none⟩) 0 0] 192)
  rw [hz] at R0
  go_enter Tryz.func157, Tryz.ntmps157
  go_wp2_with fail
  generalize (w.alloc (.cells #[] 130)).alloc (.cells #[.string s, .int .i64 0, .int .i64 0, .slice (some ⟨w.heap.size, 0, none⟩) 0 0] 192) = W1 at O0 R0 B0 ⊢
  go_loopw [9] (fun _ wr => ∃ (T : LS) (v : Value), Hid (OnWay s T) ∧ (T.at_ ≤ s.size ∧ T.l.length ≤ T.at_ ∧ 0 ≤ T.st ∧ T.st ≤ 65518) ∧ Rs wr (w.heap.size + 1) s v T.st T.at_ ∧ Own wr w.heap.size 130 3 v eEntry T.l ∧ (v.ownBlock = none ∨ v.ownBlock ≠ some (w.heap.size + 1)) ∧ Below w.heap.size w wr) (fun _ wr => s.size - (intOf ((wr.cell? ⟨w.heap.size + 1, 1, none⟩).getD undef)).toNat)
  case atStart => exact ⟨startL, _, hd (onWay_start s), ⟨Nat.zero_le _, Nat.le_refl _, by decide, by decide⟩, R0, O0, .inr (by intro e; simp [Value.ownBlock] at e), B0⟩
  case round =>
    obtain ⟨T, v, HOW, ⟨q1, q2, q3, q4⟩, R, O, hne, B⟩ := hrel
    clear R0 O0 B0 hz
    have HMZ := hd R.2.1.2.1
    go_wp2_with fail
    refine (line_log _ s hs w.heap.size (w.heap.size + 1) T v HOW q1 q2 q3 q4 R O hne (Nat.le_succ _)).mono ?_
    rintro e w2 ⟨T', v', hr, R2, O2, hne2, B2⟩
    have B3 := B.trans B2
    rcases hr with ⟨hn, rfl⟩ | ⟨⟨hn, rfl⟩, rfl⟩
    · have HOW2 := hd (onWay_next HOW.out hn)
      obtain ⟨a1, a2⟩ := nextL_at hn
      obtain ⟨-, b1, b2, ⟨b3, b4⟩, -⟩ := HOW2.out
      clear R O hne B B2 hn
      go_wp2_with fail
      go_roundw
      case rel => exact ⟨T', v', HOW2, ⟨b1, b2, b3, b4⟩, R2, O2, hne2, B3⟩
      case measure =>
        rw [R2.2.1.2.1, HMZ.out]
        simp [intOf]
        omega
    · have HE := hd (onWay_end HOW.out hn)
      clear R O hne B B2 hn HMZ
      go_wp2_with fail
      go_ret
      exact ⟨w.heap.size + 1, rfl, v', by rw [HE.out]; exact R2, by rw [HE.out]; exact O2, Nat.le_succ _, B3⟩
end Go.Proofs.YtgcodjkjdfahdaaGreatDoor

/- CheckLog and RecoverLog: the reference's functions and the program's. No condition but that the library's table, its two errors and its search variable lie as they are laid. -/
namespace Go.Proofs.YtgcodjkjdfahdaaGreatDoor
open Go Go.RowKit Go.ChangeShapes Go.WideShapes
set_option linter.unusedSimpArgs false
set_option linter.unusedVariables false
theorem readL_at (s : ByteArray) : (readL s).at_ ≤ s.size := (onWay_readL s).2.1
theorem readL_st (s : ByteArray) : 0 ≤ (readL s).st ∧ (readL s).st ≤ 65518 := (onWay_readL s).2.2.2.1
theorem readL_len (s : ByteArray) : (readL s).l.length ≤ s.size := Nat.le_trans (onWay_readL s).2.2.1 (readL_at s)
theorem readL_ok (s : ByteArray) : ∀ x ∈ (readL s).l, okEntryB x = true := (onWay_readL s).2.2.2.2
end Go.Proofs.YtgcodjkjdfahdaaGreatDoor

/- What is read of a text that must be a log: the program's logCode, the reference's l27Code and l27What. No condition but that the library's table, its two errors and its search variable lie as they are laid. -/
namespace Go.Proofs.YtgcodjkjdfahdaaGreatDoor
open Go Go.RowKit Go.ChangeShapes Go.WideShapes
set_option linter.unusedSimpArgs false
set_option linter.unusedVariables false
def lc (s : ByteArray) : Int := if s.size ≤ 4000 then (if (readL s).at_ = s.size then 0 else 8) else 5
def eL (s : ByteArray) : List TEntry := if lc s = 0 then (readL s).l else []
theorem eL_good {s : ByteArray} (h : lc s = 0) : eL s = (readL s).l := by unfold eL; rw [if_pos h]
theorem eL_bad {s : ByteArray} (h : ¬ lc s = 0) : eL s = [] := by unfold eL; rw [if_neg h]
theorem lc_size {s : ByteArray} (h : lc s = 0) : s.size ≤ 4000 := by
  by_cases hz : s.size ≤ 4000
  · exact hz
  · unfold lc at h; rw [if_neg hz] at h; cases h
theorem eL_len (s : ByteArray) : (eL s).length ≤ 4000 := by
  by_cases h : lc s = 0
  · rw [eL_good h]; have := readL_len s; have := lc_size h; omega
  · rw [eL_bad h]; exact Nat.zero_le _
def GivesCode (w : World) (s : ByteArray) (e : Ending) (w' : World) : Prop :=
  ∃ v st n, e = .returned (.tuple #[.agg #[v, .int .i64 st, .int .i64 n], .int .i64 (lc s)]) ∧ Own w' w.heap.size 130 3 v eEntry (eL s) ∧ (lc s = 0 → st = (readL s).st) ∧ (0 ≤ st ∧ st ≤ 65518) ∧ (0 ≤ n ∧ n ≤ 1048576) ∧ Below w.heap.size w w'
set_option maxRecDepth 100000 in
set_option maxHeartbeats 4000000 in
theorem code_impl (w : World) (s : ByteArray) (hs : s.size ≤ 1048576) (hsh : Shop w) :
    Calls Tryz.prog 124 #[.string s] w (GivesCode w s) := by
  obtain ⟨-, -, -, X0, hz0, hb0⟩ := new3 w (.slice none 0 0) (.int .i64 0) (.int .i64 0) 135
  have HSH := hd (hsh.below hb0)
  clear hsh
  by_cases hz : s.size ≤ 4000
  case neg =>
    have HC := hd (show lc s = 5 by unfold lc; rw [if_neg hz])
    have hz' : 4000 < s.size := by omega
    go_enter Tryz.func124, Tryz.ntmps124
    go_wp2_with fail
    have c0 := (new3 w (.slice none 0 0) (.int .i64 0) (.int .i64 0) 135)
    generalize w.alloc (.cells #[.slice none 0 0, .int .i64 0, .int .i64 0] 135) = Z at c0 hb0 ⊢
    have BZ := hb0
    refine bodyPost_ret (v := .tuple #[.agg #[.slice none 0 0, .int .i64 0, .int .i64 0], .int .i64 5]) ?_ rfl ?_
    · refine (results_cell_tmp Tryz.results124 _ _ _).trans ?_
      show (((loadVar 135 ⟨w.heap.size, 0, none⟩).run Tryz.prog Z).andThen fun v w₂ => Result.ok (Value.tuple #[v, Value.int .i64 5]) w₂) = _
      rw [load_reading Z _ _ _ _ ⟨_, _, _, rfl⟩ c0.1 c0.2.1 c0.2.2.1]
      rfl
    exact ⟨_, _, _, by rw [HC.out], by rw [eL_bad (by rw [HC.out]; decide)]; exact Own.nil _ _ _ _ _, fun h => (by rw [HC.out] at h; cases h), by decide, by decide, BZ⟩
  have hat := readL_at s
  go_enter Tryz.func124, Tryz.ntmps124
  go_wp2_with fail
  generalize w.alloc (.cells #[.slice none 0 0, .int .i64 0, .int .i64 0] 135) = W0 at hb0 hz0 X0 HSH ⊢
  refine (readLog_impl _ _ hs HSH.out).mono ?_
  rintro e w1 ⟨v, rfl, O, B⟩
  obtain ⟨A, cc, rfl⟩ := O.isSlice
  have X1 := X0.below B
  have B1 := below_step hb0 B
  obtain ⟨t0, t1, t2, -, hz2, hb2⟩ := new3 w1 (.slice A (readL s).l.length cc) (.int .i64 (readL s).st) (.int .i64 ((readL s).at_ : Int)) 135
  have X2 := X1.below hb2
  have B2 := below_step B1 hb2
  have O2 := O.below hb2 (Nat.le_refl _)
  have HST := hd (readL_st s)
  clear X0 X1 O B B1 hb2
  by_cases ha : (readL s).at_ = s.size
  case neg =>
    have HC := hd (show lc s = 8 by unfold lc; rw [if_pos hz, if_neg ha])
    have ha' : (readL s).at_ < s.size := by omega
    clear ha
    obtain ⟨x0, ⟨d0, d1, d2, b0, b1, b2⟩, g0, g1, g2⟩ := X2
    go_wp2_with fail
    have FC := cells3 (w1.alloc (.cells #[.slice A (readL s).l.length cc, .int .i64 (readL s).st, .int .i64 ((readL s).at_ : Int)] 135)) w.heap.size (.slice none 0 0) (.int .i64 0) (.int .i64 0) _ _ _ b0 b1 b2
    have BZ := box3_below B2 (Nat.le_refl _) (.slice none 0 0) (.int .i64 0) (.int .i64 0)
    generalize ((((w1.alloc (.cells #[.slice A (readL s).l.length cc, .int .i64 (readL s).st, .int .i64 ((readL s).at_ : Int)] 135)).setCell ⟨w.heap.size, 0, none⟩ (.slice none 0 0)).setCell ⟨w.heap.size, 1, none⟩ (.int .i64 0)).setCell ⟨w.heap.size, 2, none⟩ (.int .i64 0)) = Z at FC BZ ⊢
    obtain ⟨e0, e1, e2⟩ := FC
    refine bodyPost_ret (v := .tuple #[.agg #[.slice none 0 0, .int .i64 0, .int .i64 0], .int .i64 8]) ?_ rfl ?_
    · refine (results_cell_tmp Tryz.results124 _ _ _).trans ?_
      show (((loadVar 135 ⟨w.heap.size, 0, none⟩).run Tryz.prog Z).andThen fun v w₂ => Result.ok (Value.tuple #[v, Value.int .i64 8]) w₂) = _
      rw [load_reading Z _ _ _ _ ⟨_, _, _, rfl⟩ e0 e1 e2]
      rfl
    exact ⟨_, _, _, by rw [HC.out], by rw [eL_bad (by rw [HC.out]; decide)]; exact Own.nil _ _ _ _ _, fun h => (by rw [HC.out] at h; cases h), by decide, by decide, BZ⟩
  have HC := hd (show lc s = 0 by unfold lc; rw [if_pos hz, if_pos ha])
  have HEL := hd (eL_good HC.out)
  have ha' : ¬ (readL s).at_ < s.size := by omega
  have hatz : (readL s).at_ ≤ 1048576 := by omega
  clear ha
  obtain ⟨x0, ⟨d0, d1, d2, b0, b1, b2⟩, g0, g1, g2⟩ := X2
  go_wp2_with fail
  have FC := cells3 (w1.alloc (.cells #[.slice A (readL s).l.length cc, .int .i64 (readL s).st, .int .i64 ((readL s).at_ : Int)] 135)) w.heap.size (.slice A (readL s).l.length cc) (.int .i64 (readL s).st) (.int .i64 ((readL s).at_ : Int)) _ _ _ b0 b1 b2
  have BZ := box3_below B2 (Nat.le_refl _) (.slice A (readL s).l.length cc) (.int .i64 (readL s).st) (.int .i64 ((readL s).at_ : Int))
  have OZ := (own_box3 (O2.base (show w.heap.size + 1 ≤ W0.heap.size by omega)) (Nat.lt_succ_self _) (.slice A (readL s).l.length cc) (.int .i64 (readL s).st) (.int .i64 ((readL s).at_ : Int))).base (Nat.le_succ w.heap.size)
  generalize ((((w1.alloc (.cells #[.slice A (readL s).l.length cc, .int .i64 (readL s).st, .int .i64 ((readL s).at_ : Int)] 135)).setCell ⟨w.heap.size, 0, none⟩ (.slice A (readL s).l.length cc)).setCell ⟨w.heap.size, 1, none⟩ (.int .i64 (readL s).st)).setCell ⟨w.heap.size, 2, none⟩ (.int .i64 ((readL s).at_ : Int))) = Z at FC BZ OZ ⊢
  obtain ⟨e0, e1, e2⟩ := FC
  refine bodyPost_ret (v := .tuple #[.agg #[.slice A (readL s).l.length cc, .int .i64 (readL s).st, .int .i64 ((readL s).at_ : Int)], .int .i64 0]) ?_ rfl ?_
  · refine (results_cell_tmp Tryz.results124 _ _ _).trans ?_
    show (((loadVar 135 ⟨w.heap.size, 0, none⟩).run Tryz.prog Z).andThen fun v w₂ => Result.ok (Value.tuple #[v, Value.int .i64 0]) w₂) = _
    rw [load_reading Z _ _ _ _ ⟨_, _, _, rfl⟩ e0 e1 e2]
    rfl
  exact ⟨_, _, _, by rw [HC.out], by rw [HEL.out]; exact OZ, fun _ => rfl, HST.out, by omega, BZ⟩
set_option maxRecDepth 100000 in
set_option maxHeartbeats 4000000 in
theorem code_spec (w : World) (s : ByteArray) (hs : s.size ≤ 1048576) :
    Calls Tryz.prog 89 #[.string s] w fun e w' => ∃ g, e = .returned (.tuple #[.pointer (some ⟨g, 0, none⟩), .int .i64 (lc s)]) ∧ (lc s = 0 → Reader w s (readL s) g w') ∧ Below w.heap.size w w' := by
  by_cases hz : s.size ≤ 4000
  case neg =>
    have HC := hd (show lc s = 5 by unfold lc; rw [if_neg hz])
    have hz' : 4000 < s.size := by omega
    go_enter Tryz.func89, Tryz.ntmps89
    go_wp2_with fail
    go_ret2
    exact ⟨w.heap.size, by rw [HC.out]; rfl, fun h => (by rw [HC.out] at h; cases h), (Below.refl _ _).alloc (Nat.le_refl _) _⟩
  have hat := readL_at s
  go_enter Tryz.func89, Tryz.ntmps89
  go_wp2_with fail
  refine (read_spec _ _ hs).mono ?_
  rintro e w1 ⟨g, rfl, hr⟩
  have HRD := hd hr
  obtain ⟨v, ⟨r0, ⟨c0, c1, c2, c3⟩, -⟩, O, hg, B⟩ := hr
  by_cases ha : (readL s).at_ = s.size
  case neg =>
    have HC := hd (show lc s = 8 by unfold lc; rw [if_pos hz, if_neg ha])
    have ka : ((((readL s).at_ : Nat) : Int) != ((s.size : Nat) : Int)) = true := by simp; omega
    go_wp2_with fail
    go_ret2
    exact ⟨g, by rw [HC.out]; rfl, fun h => (by rw [HC.out] at h; cases h), B⟩
  have HC := hd (show lc s = 0 by unfold lc; rw [if_pos hz, if_pos ha])
  have ka : ((((readL s).at_ : Nat) : Int) != ((s.size : Nat) : Int)) = false := by simp; omega
  clear ha
  go_wp2_with fail
  go_ret2
  exact ⟨g, by rw [HC.out]; rfl, fun _ => HRD.out, B⟩
def lw (s t : ByteArray) : Int := if lc s = 0 then (if isNameB t = true then 0 else 2) else lc s
end Go.Proofs.YtgcodjkjdfahdaaGreatDoor

/- Valid desks and the text of a desk: the reference's functions and the program's. No condition but that the library's table, its two errors and its search variable lie as they are laid. -/
namespace Go.Proofs.YtgcodjkjdfahdaaGreatDoor
open Go Go.RowKit Go.ChangeShapes Go.WideShapes
set_option linter.unusedSimpArgs false
set_option linter.unusedVariables false
def lettersB (s : ByteArray) : Bool := allTo (fun i => smallN (s.get! i).toNat) s.size
def okMotB (s : ByteArray) : Bool := lettersB s && inB s.size 1 24
theorem letters_bad {s : ByteArray} {k : Nat} (hk : k < s.size) (h : smallN (s.get! k).toNat = false) : okMotB s = false := by
  unfold okMotB lettersB
  rw [allTo_false hk h]
  rfl
theorem letters_all {s : ByteArray} (h : ∀ i, i < s.size → smallN (s.get! i).toNat = true) : okMotB s = inB s.size 1 24 := by
  unfold okMotB lettersB
  rw [allTo_true h]
  rfl
def okCueB (x : TCue) : Bool := inB x.1 0 10000 && (inB x.2.1 1 1000 && (inB x.2.2.1 1 4 && inB x.2.2.2 0 6))
def okCues (l : List TCue) : Bool := !(l.any fun x => !okCueB x) && decide (l.length ≤ 6)
theorem okCues_long {l : List TCue} (h : ¬ l.length ≤ 6) : okCues l = false := by simp [okCues, h]
theorem okCues_bad {l : List TCue} {k : Nat} (hk : k < l.length) (h : okCueB l[k] = false) : okCues l = false := by
  unfold okCues
  rw [any_of_hit (fun x => !okCueB x) l k hk (by simp [h])]
  rfl
theorem okCues_all {l : List TCue} (h : l.any (fun x => !okCueB x) = false) : okCues l = decide (l.length ≤ 6) := by
  unfold okCues
  rw [h]
  rfl
set_option maxRecDepth 100000 in
set_option maxHeartbeats 1000000 in
theorem mot_spec (w : World) (s : ByteArray) (hs : s.size ≤ 1048576) : Calls Tryz.prog 90 #[.string s] w fun e w' => e = .returned (.bool (okMotB s)) ∧ w' = w := by
  go_enter Tryz.func90, Tryz.ntmps90
  go_wp2_with fail
  go_loop [3] (fun i => ∃ k : Nat, k ≤ s.size ∧ i = .int .i64 k ∧ Hid (∀ j, j < k → smallN (s.get! j).toNat = true)) (fun i => s.size - (intOf i).toNat)
  case atStart => exact ⟨0, Nat.zero_le _, rfl, hd (fun j hj => absurd hj (Nat.not_lt_zero _))⟩
  case round =>
    obtain ⟨k, hk, rfl, HT⟩ := hrel
    by_cases hlt : k < s.size
    · have GK := hd (get_bang s k hlt)
      rcases h3 : smallN (s.get! k).toNat with _ | _
      · have HR := hd (letters_bad hlt h3)
        rw [GK.out] at h3
        rcases small_cases h3 with q | q
        all_goals
          clear h3
          go_wp2_with fail
          go_ret
          exact ⟨by rw [HR.out]; rfl, rfl⟩
      · have HN := hd (show ∀ j, j < k + 1 → smallN (s.get! j).toNat = true from fun j hj => by
          by_cases e : j = k
          · subst e; exact h3
          · exact HT.out j (by omega))
        rw [GK.out] at h3
        obtain ⟨q1, q2⟩ := small_true h3
        clear h3
        go_wp2_with fail
        go_round
        case rel => exact ⟨k + 1, by omega, by go_num, HN⟩
        case measure => simp [intOf]; omega
    · obtain rfl : k = s.size := by omega
      have HR := hd (letters_all HT.out)
      go_wp2_with fail
      refine (in_spec _ _ _ _).mono ?_
      rintro e w' ⟨rfl, hw⟩
      have hw := hw.symm
      subst hw
      go_wp2_with fail
      go_ret
      exact ⟨by rw [HR.out]; rfl, rfl⟩
set_option maxRecDepth 100000 in
set_option maxHeartbeats 1000000 in
theorem letters_impl (w : World) (s : ByteArray) (hs : s.size ≤ 1048576) : Calls Tryz.prog 120 #[.string s, .int .i64 24] w fun e w' => e = .returned (.bool (okMotB s)) ∧ w' = w := by
  go_enter Tryz.func120, Tryz.ntmps120
  go_wp2_with fail
  go_loop [5] (fun i => ∃ k : Nat, k ≤ s.size ∧ i = .int .i64 k ∧ Hid (∀ j, j < k → smallN (s.get! j).toNat = true)) (fun i => s.size - (intOf i).toNat)
  case atStart => exact ⟨0, Nat.zero_le _, rfl, hd (fun j hj => absurd hj (Nat.not_lt_zero _))⟩
  case round =>
    obtain ⟨k, hk, rfl, HT⟩ := hrel
    by_cases hlt : k < s.size
    · have GK := hd (get_bang s k hlt)
      rcases h3 : smallN (s.get! k).toNat with _ | _
      · have HR := hd (letters_bad hlt h3)
        rw [GK.out] at h3
        rcases small_cases h3 with q | q
        all_goals
          clear h3
          go_wp2_with fail
          go_ret
          exact ⟨by rw [HR.out]; rfl, rfl⟩
      · have HN := hd (show ∀ j, j < k + 1 → smallN (s.get! j).toNat = true from fun j hj => by
          by_cases e : j = k
          · subst e; exact h3
          · exact HT.out j (by omega))
        rw [GK.out] at h3
        obtain ⟨q1, q2⟩ := small_true h3
        clear h3
        go_wp2_with fail
        go_round
        case rel => exact ⟨k + 1, by omega, by go_num, HN⟩
        case measure => simp [intOf]; omega
    · obtain rfl : k = s.size := by omega
      have HR := hd (letters_all HT.out)
      by_cases h1 : 1 ≤ s.size
      case neg =>
        have HI := hd (show inB (s.size : Int) 1 24 = false from decide_eq_false (by omega))
        have hz : s.size = 0 := by omega
        have hz' : (s.size : Int) < 1 := by omega
        go_wp2_with fail
        go_ret
        exact ⟨by rw [HR.out, HI.out]; rfl, rfl⟩
      have HI := hd (show inB (s.size : Int) 1 24 = decide ((s.size : Int) ≤ 24) from decide_eq_decide.2 (by omega))
      go_wp2_with fail
      go_ret
      exact ⟨by rw [HR.out, HI.out]; rfl, rfl⟩
theorem mot_impl (w : World) (s : ByteArray) (hs : s.size ≤ 1048576) : Calls Tryz.prog 58 #[.string s] w fun e w' => e = .returned (.bool (okMotB s)) ∧ w' = w := by
  go_enter Tryz.func58, Tryz.ntmps58
  go_wp2_with fail
  refine (letters_impl _ _ hs).mono ?_
  rintro e w' ⟨rfl, hw⟩
  have hw := hw.symm
  subst hw
  go_wp2_with fail
  go_ret
  exact ⟨rfl, rfl⟩
set_option maxRecDepth 100000 in
set_option maxHeartbeats 2000000 in
theorem cuePred (w : World) (a b c d : Int) : Calls Tryz.prog 122 #[.agg #[.int .i64 a, .int .i64 b, .int .i64 c, .int .i64 d]] w fun e w' => e = .returned (.bool (!okCueB (a, b, c, d))) ∧ Below w.heap.size w w' := by
  rcases h1 : inB a 0 10000 with _ | _
  · go_enter Tryz.func122, Tryz.ntmps122
    go_wp2_with (go_at_call 67; refine (in_impl _ _ _ _).mono ?_; rintro e w1 ⟨rfl, hw⟩; have hw := hw.symm; subst hw)
    go_ret
    exact ⟨by simp [okCueB, h1], (Below.refl _ _).alloc (Nat.le_refl _) _⟩
  rcases h2 : inB b 1 1000 with _ | _
  · go_enter Tryz.func122, Tryz.ntmps122
    go_wp2_with (go_at_call 67; refine (in_impl _ _ _ _).mono ?_; rintro e w1 ⟨rfl, hw⟩; have hw := hw.symm; subst hw)
    go_ret
    exact ⟨by simp [okCueB, h1, h2], (Below.refl _ _).alloc (Nat.le_refl _) _⟩
  rcases h3 : inB c 1 4 with _ | _
  · go_enter Tryz.func122, Tryz.ntmps122
    go_wp2_with (go_at_call 67; refine (in_impl _ _ _ _).mono ?_; rintro e w1 ⟨rfl, hw⟩; have hw := hw.symm; subst hw)
    go_ret
    exact ⟨by simp [okCueB, h1, h2, h3], (Below.refl _ _).alloc (Nat.le_refl _) _⟩
  rcases h4 : inB d 0 6 with _ | _
  · go_enter Tryz.func122, Tryz.ntmps122
    go_wp2_with (go_at_call 67; refine (in_impl _ _ _ _).mono ?_; rintro e w1 ⟨rfl, hw⟩; have hw := hw.symm; subst hw)
    go_ret
    exact ⟨by simp [okCueB, h1, h2, h3, h4], (Below.refl _ _).alloc (Nat.le_refl _) _⟩
  go_enter Tryz.func122, Tryz.ntmps122
  go_wp2_with (go_at_call 67; refine (in_impl _ _ _ _).mono ?_; rintro e w1 ⟨rfl, hw⟩; have hw := hw.symm; subst hw)
  go_ret
  exact ⟨by simp [okCueB, h1, h2, h3, h4], (Below.refl _ _).alloc (Nat.le_refl _) _⟩
set_option maxHeartbeats 1000000 in
theorem index_cues (w : World) (v : Value) (l : List TCue) (h : Sl w 4 v eCue l) :
    Calls Tryz.prog 188 #[v, .func (.func 122) #[] #[]] w fun e w' => e = .returned (.int .i64 (idxGo (fun x => !okCueB x) l 0)) ∧ Below w.heap.size w w' := by
  have m1 := h.len
  obtain ⟨-, A, c, rfl, -, -, -⟩ := id h
  go_enter Tryz.func188, Tryz.ntmps188
  go_wp2_with fail
  go_loopw [8] (fun i wr => ∃ k : Nat, k ≤ l.length ∧ i = .int .i64 k ∧ Below w.heap.size w wr ∧ Hid (idxGo (fun x => !okCueB x) (l.drop k) k = idxGo (fun x => !okCueB x) l 0)) (fun i _ => l.length - (intOf i).toNat)
  case atStart => exact ⟨0, Nat.zero_le _, rfl, Below.refl _ _, hd (by simp)⟩
  case round =>
    obtain ⟨k, hk, rfl, hbel, HT⟩ := hrel
    by_cases hlt : k < l.length
    · obtain ⟨b, o, rfl, hb, p0, p1, p2, p3⟩ := (h.below hbel).Cue_at hlt
      have HS := hd (HT.out.symm.trans (idxGo_drop (fun x => !okCueB x) l k k hlt))
      generalize l[k] = x at p0 p1 p2 p3 HS
      obtain ⟨xa, xb, xc, xd⟩ := x
      dsimp only at p0 p1 p2 p3
      rcases hp : !okCueB (xa, xb, xc, xd) with _ | _
      · go_wp2_with fail
        refine (cuePred _ _ _ _ _).mono ?_
        rintro e w2 ⟨rfl, hb2⟩
        have hbel2 := below_step hbel hb2
        rw [hp]
        go_wp2_with fail
        go_roundw
        case rel => exact ⟨k + 1, by omega, by go_num, hbel2, hd (by have := HS.out; rw [hp] at this; exact this.symm)⟩
        case measure => simp [intOf]; omega
      · go_wp2_with fail
        refine (cuePred _ _ _ _ _).mono ?_
        rintro e w2 ⟨rfl, hb2⟩
        have hbel2 := below_step hbel hb2
        rw [hp]
        go_wp2_with fail
        go_ret
        exact ⟨by rw [HS.out, hp]; rfl, hbel2⟩
    · go_wp2_with fail
      go_ret
      exact ⟨by rw [← HT.out, List.drop_of_length_le (by omega)]; rfl, hbel⟩
theorem contains_cues (w : World) (v : Value) (l : List TCue) (h : Sl w 4 v eCue l) :
    Calls Tryz.prog 121 #[v, .func (.func 122) #[] #[]] w fun e w' => e = .returned (.bool (l.any (fun x => !okCueB x))) ∧ Below w.heap.size w w' := by
  rw [← idxGo_nonneg (fun x => !okCueB x) l 0 (by omega)]
  go_enter Tryz.func121, Tryz.ntmps121
  go_wp2_with fail
  refine (index_cues _ _ _ h).mono ?_
  rintro e w' ⟨rfl, hb⟩
  go_wp2_with fail
  go_ret
  exact ⟨rfl, hb⟩
theorem cues_impl (w : World) (v : Value) (l : List TCue) (h : Sl w 4 v eCue l) :
    Calls Tryz.prog 59 #[v] w fun e w' => e = .returned (.bool (okCues l)) ∧ Below w.heap.size w w' := by
  have m1 := h.len
  obtain ⟨A, c, rfl⟩ := h.sliceD
  by_cases hz : l.length ≤ 6
  case neg =>
    have HR := hd (okCues_long hz)
    have hz' : 6 < l.length := by omega
    go_enter Tryz.func59, Tryz.ntmps59
    go_wp2_with fail
    go_ret
    exact ⟨by rw [HR.out]; rfl, Below.refl _ _⟩
  have HR := hd (show okCues l = !(l.any fun x => !okCueB x) by unfold okCues; rw [decide_eq_true hz, Bool.and_true])
  go_enter Tryz.func59, Tryz.ntmps59
  go_wp2_with fail
  refine (contains_cues _ _ _ h).mono ?_
  rintro e w1 ⟨rfl, hb⟩
  rcases q : (l.any fun x => !okCueB x) with _ | _
  all_goals
    go_wp2_with fail
    go_ret
    exact ⟨by rw [HR.out, q]; rfl, hb⟩
set_option maxRecDepth 100000 in
set_option maxHeartbeats 4000000 in
theorem cues_spec (w : World) (v : Value) (l : List TCue) (h : Sl w 4 v eCue l) :
    Calls Tryz.prog 91 #[v] w fun e w' => e = .returned (.bool (okCues l)) ∧ Below w.heap.size w w' := by
  have m1 := h.len
  obtain ⟨A, cc, rfl⟩ := h.sliceD
  go_enter Tryz.func91, Tryz.ntmps91
  go_wp2_with fail
  go_loopw [3] (fun i wr => ∃ k : Nat, k ≤ l.length ∧ i = .int .i64 k ∧ Below w.heap.size w wr ∧ Hid (∀ j (hj : j < l.length), j < k → okCueB l[j] = true)) (fun i _ => l.length - (intOf i).toNat)
  case atStart => exact ⟨0, Nat.zero_le _, rfl, Below.refl _ _, hd (fun j _ hj => absurd hj (Nat.not_lt_zero _))⟩
  case round =>
    obtain ⟨k, hk, rfl, hbel, HT⟩ := hrel
    by_cases hlt : k < l.length
    · obtain ⟨bb, o, rfl, -, p0, p1, p2, p3⟩ := (h.below hbel).Cue_at hlt
      have HB := hd (fun hx => okCues_bad hlt hx)
      have HN := hd (fun (hx : okCueB l[k] = true) => (show ∀ j (hj : j < l.length), j < k + 1 → okCueB l[j] = true from fun j hj hj2 => by
        by_cases e : j = k
        · subst e; exact hx
        · exact HT.out j hj (by omega)))
      generalize l[k] = x at p0 p1 p2 p3 HB HN
      obtain ⟨a, b, c, d⟩ := x
      dsimp only at p0 p1 p2 p3
      have hbel' := hbel.alloc hbel.size (.cells #[.int .i64 a, .int .i64 b, .int .i64 c, .int .i64 d] 92)
      rcases h1 : inB a 0 10000 with _ | _
      · have HE := hd (HB.out (by simp [okCueB, h1]))
        clear HB HN
        go_wp2_with (go_at_call 158; refine (in_spec _ _ _ _).mono ?_; rintro e w1 ⟨rfl, hw⟩; have hw := hw.symm; subst hw)
        go_ret
        exact ⟨by rw [HE.out]; rfl, hbel'⟩
      rcases h2 : inB b 1 1000 with _ | _
      · have HE := hd (HB.out (by simp [okCueB, h1, h2]))
        clear HB HN
        go_wp2_with (go_at_call 158; refine (in_spec _ _ _ _).mono ?_; rintro e w1 ⟨rfl, hw⟩; have hw := hw.symm; subst hw)
        go_ret
        exact ⟨by rw [HE.out]; rfl, hbel'⟩
      rcases h3 : inB c 1 4 with _ | _
      · have HE := hd (HB.out (by simp [okCueB, h1, h2, h3]))
        clear HB HN
        go_wp2_with (go_at_call 158; refine (in_spec _ _ _ _).mono ?_; rintro e w1 ⟨rfl, hw⟩; have hw := hw.symm; subst hw)
        go_ret
        exact ⟨by rw [HE.out]; rfl, hbel'⟩
      rcases h4 : inB d 0 6 with _ | _
      · have HE := hd (HB.out (by simp [okCueB, h1, h2, h3, h4]))
        clear HB HN
        go_wp2_with (go_at_call 158; refine (in_spec _ _ _ _).mono ?_; rintro e w1 ⟨rfl, hw⟩; have hw := hw.symm; subst hw)
        go_ret
        exact ⟨by rw [HE.out]; rfl, hbel'⟩
      have HE := hd (HN.out (by simp [okCueB, h1, h2, h3, h4]))
      clear HB HN
      go_wp2_with (go_at_call 158; refine (in_spec _ _ _ _).mono ?_; rintro e w1 ⟨rfl, hw⟩; have hw := hw.symm; subst hw)
      go_roundw
      case rel => exact ⟨k + 1, by omega, by go_num, hbel', HE⟩
      case measure => simp [intOf]; omega
    · obtain rfl : k = l.length := by omega
      have HE := hd (okCues_all (l := l) (by
        rw [List.any_eq_false]
        intro x hx
        obtain ⟨j, hj, rfl⟩ := List.getElem_of_mem hx
        simp [HT.out j hj hj]))
      have HE2 := hd (show okCues l = decide ((l.length : Int) ≤ 6) by rw [HE.out]; exact decide_eq_decide.2 (by omega))
      go_wp2_with fail
      go_ret
      exact ⟨by rw [HE2.out]; rfl, hbel⟩
set_option maxRecDepth 100000 in
theorem isLog_impl (w : World) (s : ByteArray) (hs : s.size ≤ 1048576) (hsh : Shop w) :
    Calls Tryz.prog 61 #[.string s] w fun e w' => e = .returned (.bool (decide (lc s = 0))) ∧ Below w.heap.size w w' := by
  go_enter Tryz.func61, Tryz.ntmps61
  go_wp2_with fail
  refine (code_impl _ _ hs hsh).mono ?_
  rintro e w1 ⟨v, st, n, rfl, O, -, -, -, B⟩
  obtain ⟨A, cc, rfl⟩ := O.isSlice
  have B2 := hd (B.alloc B.size (.cells #[.slice A (eL s).length cc, .int .i64 st, .int .i64 n] 135))
  have HX := hd (show ((lc s == 0) : Bool) = decide (lc s = 0) by rw [Bool.eq_iff_iff]; simp)
  clear O B
  go_wp2_with fail
  go_ret
  exact ⟨by rw [← HX.out]; rfl, B2.out⟩
def okDeskB (p : ByteArray) (C : List TCue) (T : List TTitle) (q : ByteArray) : Bool := okMotB p && (okCues C && (okTitles T && decide (lc q = 0)))
/-- the four cells of a desk -/
def DeskAt (W : World) (g : Nat) (p : ByteArray) (v1 v2 : Value) (q : ByteArray) : Prop := g < W.heap.size ∧ W.cell? ⟨g, 0, none⟩ = some (.string p) ∧ W.cell? ⟨g, 1, none⟩ = some v1 ∧ W.cell? ⟨g, 2, none⟩ = some v2 ∧ W.cell? ⟨g, 3, none⟩ = some (.string q)
theorem DeskAt.below {W W' : World} {g : Nat} {p : ByteArray} {v1 v2 : Value} {q : ByteArray} (h : DeskAt W g p v1 v2 q) (hb : Below W.heap.size W W') : DeskAt W' g p v1 v2 q :=
  ⟨Nat.lt_of_lt_of_le h.1 hb.size, (hb.cell (p := ⟨g, 0, none⟩) h.1).trans h.2.1, (hb.cell (p := ⟨g, 1, none⟩) h.1).trans h.2.2.1, (hb.cell (p := ⟨g, 2, none⟩) h.1).trans h.2.2.2.1, (hb.cell (p := ⟨g, 3, none⟩) h.1).trans h.2.2.2.2⟩
theorem desk_new (w : World) (p : ByteArray) (v1 v2 : Value) (q : ByteArray) (T : TypeId) : DeskAt (w.alloc (.cells #[.string p, v1, v2, .string q] T)) w.heap.size p v1 v2 q :=
  ⟨by simp, new_cell w _ T 0 _ rfl, new_cell w _ T 1 _ rfl, new_cell w _ T 2 _ rfl, new_cell w _ T 3 _ rfl⟩
set_option maxRecDepth 100000 in
set_option maxHeartbeats 8000000 in
theorem deskOk_spec (w : World) (g : Nat) (p q : ByteArray) (v1 v2 : Value) (C : List TCue) (T : List TTitle) (hD : DeskAt w g p v1 v2 q) (hC : Sl w 4 v1 eCue C) (hT : Sl w 4 v2 eTitle T) (hp : p.size ≤ 1048576) (hq : q.size ≤ 1048576) :
    Calls Tryz.prog 35 #[.pointer (some ⟨g, 0, none⟩)] w fun e w' => e = .returned (.bool (okDeskB p C T q)) ∧ Below w.heap.size w w' := by
  obtain ⟨A1, c1, rfl⟩ := hC.sliceD
  obtain ⟨A2, c2, rfl⟩ := hT.sliceD
  obtain ⟨d0, d1, d2, d3, d4⟩ := id hD
  go_enter Tryz.func35, Tryz.ntmps35
  go_wp2_with fail
  refine (code_spec _ _ hq).mono ?_
  rintro e w1 ⟨gr, rfl, -, B1⟩
  obtain ⟨-, x1, x2, x3, x4⟩ := hD.below B1
  obtain ⟨x, hx⟩ : ∃ x, lc q = x := ⟨_, rfl⟩
  rw [hx]
  have HX := hd hx
  clear hx d0 d1 d2 d3 d4
  rcases hm : okMotB p with _ | _
  · have HR := hd (show okDeskB p C T q = false by unfold okDeskB; rw [hm]; rfl)
    go_wp2_with fail
    refine (mot_spec _ _ hp).mono ?_
    rintro e ww ⟨rfl, hw⟩
    have hw := hw.symm
    subst hw
    rw [hm]
    go_wp2_with fail
    go_ret
    exact ⟨by rw [HR.out]; rfl, B1⟩
  go_wp2_with fail
  refine (mot_spec _ _ hp).mono ?_
  rintro e ww ⟨rfl, hw⟩
  have hw := hw.symm
  subst hw
  rw [hm]
  go_wp2_with fail
  rcases hc : okCues C with _ | _
  · have HR := hd (show okDeskB p C T q = false by unfold okDeskB; rw [hm, hc]; rfl)
    refine (cues_spec _ _ _ (hC.below B1)).mono ?_
    rintro e w2 ⟨rfl, hb2⟩
    rw [hc]
    go_wp2_with fail
    go_ret
    exact ⟨by rw [HR.out]; rfl, below_step B1 hb2⟩
  refine (cues_spec _ _ _ (hC.below B1)).mono ?_
  rintro e w2 ⟨rfl, hb2⟩
  rw [hc]
  have B2 := below_step B1 hb2
  obtain ⟨-, y1, y2, y3, y4⟩ := hD.below B2
  clear x1 x2 x3 x4
  go_wp2_with fail
  rcases ht : okTitles T with _ | _
  · have HR := hd (show okDeskB p C T q = false by unfold okDeskB; rw [hm, hc, ht]; rfl)
    refine (titles_spec0 _ _ _ (hT.below B2)).mono ?_
    rintro e w3 ⟨rfl, hb3⟩
    rw [ht]
    go_wp2_with fail
    go_ret
    exact ⟨by rw [HR.out]; rfl, below_step B2 hb3⟩
  refine (titles_spec0 _ _ _ (hT.below B2)).mono ?_
  rintro e w3 ⟨rfl, hb3⟩
  rw [ht]
  have B3 := below_step B2 hb3
  have HR := hd (show okDeskB p C T q = (x == 0) by unfold okDeskB; rw [hm, hc, ht, HX.out, Bool.eq_iff_iff]; simp)
  clear y1 y2 y3 y4
  go_wp2_with fail
  go_ret
  exact ⟨by rw [HR.out]; rfl, B3⟩
set_option maxRecDepth 100000 in
set_option maxHeartbeats 8000000 in
theorem desk_impl (w : World) (p q : ByteArray) (v1 v2 : Value) (C : List TCue) (T : List TTitle) (hC : Sl w 4 v1 eCue C) (hT : Sl w 4 v2 eTitle T) (hp : p.size ≤ 1048576) (hq : q.size ≤ 1048576) (hsh : Shop w) :
    Calls Tryz.prog 28 #[.agg #[.string p, v1, v2, .string q]] w fun e w' => e = .returned (.bool (okDeskB p C T q)) ∧ Below w.heap.size w w' := by
  obtain ⟨A1, c1, rfl⟩ := hC.sliceD
  obtain ⟨A2, c2, rfl⟩ := hT.sliceD
  have hD := desk_new w p (.slice A1 C.length c1) (.slice A2 T.length c2) q 29
  have B1 := (Below.refl w.heap.size w).alloc (Nat.le_refl _) (.cells #[.string p, .slice A1 C.length c1, .slice A2 T.length c2, .string q] 29)
  have HSH := hd (hsh.below B1)
  clear hsh
  go_enter Tryz.func28, Tryz.ntmps28
  go_wp2_with fail
  generalize w.alloc (.cells #[.string p, .slice A1 C.length c1, .slice A2 T.length c2, .string q] 29) = w1 at hD B1 HSH ⊢
  obtain ⟨-, x1, x2, x3, x4⟩ := id hD
  rcases hm : okMotB p with _ | _
  · have HR := hd (show okDeskB p C T q = false by unfold okDeskB; rw [hm]; rfl)
    refine (mot_impl _ _ hp).mono ?_
    rintro e ww ⟨rfl, hw⟩
    have hw := hw.symm
    subst hw
    rw [hm]
    go_wp2_with fail
    go_ret
    exact ⟨by rw [HR.out]; rfl, B1⟩
  refine (mot_impl _ _ hp).mono ?_
  rintro e ww ⟨rfl, hw⟩
  have hw := hw.symm
  subst hw
  rw [hm]
  go_wp2_with fail
  rcases hc : okCues C with _ | _
  · have HR := hd (show okDeskB p C T q = false by unfold okDeskB; rw [hm, hc]; rfl)
    refine (cues_impl _ _ _ (hC.below B1)).mono ?_
    rintro e w2 ⟨rfl, hb2⟩
    rw [hc]
    go_wp2_with fail
    go_ret
    exact ⟨by rw [HR.out]; rfl, below_step B1 hb2⟩
  refine (cues_impl _ _ _ (hC.below B1)).mono ?_
  rintro e w2 ⟨rfl, hb2⟩
  rw [hc]
  have B2 := below_step B1 hb2
  obtain ⟨-, y1, y2, y3, y4⟩ := hD.below hb2
  clear x1 x2 x3 x4
  go_wp2_with fail
  rcases ht : okTitles T with _ | _
  · have HR := hd (show okDeskB p C T q = false by unfold okDeskB; rw [hm, hc, ht]; rfl)
    refine (titles_impl _ _ _ (hT.below B2)).mono ?_
    rintro e w3 ⟨rfl, hb3⟩
    rw [ht]
    go_wp2_with fail
    go_ret
    exact ⟨by rw [HR.out]; rfl, below_step B2 hb3⟩
  refine (titles_impl _ _ _ (hT.below B2)).mono ?_
  rintro e w3 ⟨rfl, hb3⟩
  rw [ht]
  have B3 := below_step B2 hb3
  have HR := hd (show okDeskB p C T q = decide (lc q = 0) by unfold okDeskB; rw [hm, hc, ht]; rfl)
  obtain ⟨-, z1, z2, z3, z4⟩ := hD.below (below_step hb2 hb3)
  clear y1 y2 y3 y4
  go_wp2_with fail
  refine (isLog_impl _ _ hq (HSH.out.below (below_step hb2 hb3))).mono ?_
  rintro e w4 ⟨rfl, hb4⟩
  go_wp2_with fail
  go_ret
  exact ⟨by rw [HR.out]; rfl, below_step B3 hb4⟩
set_option maxRecDepth 100000 in
theorem desk_spec (w : World) (p q : ByteArray) (v1 v2 : Value) (C : List TCue) (T : List TTitle) (hC : Sl w 4 v1 eCue C) (hT : Sl w 4 v2 eTitle T) (hp : p.size ≤ 1048576) (hq : q.size ≤ 1048576) :
    Calls Tryz.prog 10 #[.agg #[.string p, v1, v2, .string q]] w fun e w' => e = .returned (.bool (okDeskB p C T q)) ∧ Below w.heap.size w w' := by
  obtain ⟨A1, c1, rfl⟩ := hC.sliceD
  obtain ⟨A2, c2, rfl⟩ := hT.sliceD
  have hD := desk_new w p (.slice A1 C.length c1) (.slice A2 T.length c2) q 29
  have B1 := (Below.refl w.heap.size w).alloc (Nat.le_refl _) (.cells #[.string p, .slice A1 C.length c1, .slice A2 T.length c2, .string q] 29)
  go_enter Tryz.func10, Tryz.ntmps10
  go_wp2_with fail
  refine (deskOk_spec _ w.heap.size p q _ _ C T hD (hC.below B1) (hT.below B1) hp hq).mono ?_
  rintro e w2 ⟨rfl, hb2⟩
  go_wp2_with fail
  go_ret
  exact ⟨rfl, below_step B1 hb2⟩
end Go.Proofs.YtgcodjkjdfahdaaGreatDoor

/- EntriesOf and ValuesOf: the reference's functions and the program's. No condition but that the library's table, its two errors and its search variable lie as they are laid. -/
namespace Go.Proofs.YtgcodjkjdfahdaaGreatDoor
open Go Go.RowKit Go.ChangeShapes Go.WideShapes
set_option linter.unusedSimpArgs false
set_option linter.unusedVariables false
def valTo (l : List TEntry) (t : ByteArray) (k : Nat) : List Int := ((l.take k).filter fun x => decide (x.2.1 = t)).map fun x => x.2.2
theorem valTo_len (l : List TEntry) (t : ByteArray) (k : Nat) : (valTo l t k).length ≤ k := by
  unfold valTo
  rw [List.length_map]
  exact Nat.le_trans (List.length_filter_le ..) (List.length_take_le ..)
theorem valTo_yes {l : List TEntry} {t : ByteArray} {k : Nat} (hk : k < l.length) (h : l[k].2.1 = t) : valTo l t (k + 1) = valTo l t k ++ [l[k].2.2] := by
  unfold valTo
  rw [List.take_succ_eq_append_getElem hk, List.filter_append, List.map_append]
  simp [h]
theorem valTo_no {l : List TEntry} {t : ByteArray} {k : Nat} (hk : k < l.length) (h : ¬ l[k].2.1 = t) : valTo l t (k + 1) = valTo l t k := by
  unfold valTo
  rw [List.take_succ_eq_append_getElem hk, List.filter_append, List.map_append]
  simp [h]
def valR (s t : ByteArray) : List Int × Int := if lw s t = 0 then (valTo (readL s).l t (readL s).l.length, 0) else ([], lw s t)
theorem entry_bd {s : ByteArray} {k : Nat} (hk : k < (readL s).l.length) : (0 ≤ (readL s).l[k].1 ∧ (readL s).l[k].1 ≤ 100000) ∧ (readL s).l[k].2.1.size ≤ 12 ∧ (-1000000 ≤ (readL s).l[k].2.2 ∧ (readL s).l[k].2.2 ≤ 1000000) := by
  have h := readL_ok s _ (List.getElem_mem hk)
  obtain ⟨h1, h2, h3⟩ := okEntryB_bd h
  exact ⟨h1, name_size h2, h3⟩
set_option maxRecDepth 100000 in
set_option maxHeartbeats 4000000 in
theorem val_impl (w : World) (s t : ByteArray) (hs : s.size ≤ 1048576) (ht : t.size ≤ 9223372036854775807) (hsh : Shop w) :
    Calls Tryz.prog 85 #[.string s, .string t] w (GivesOwnI w 2 1 eI (valR s t)) := by
  obtain ⟨i0, hi, hz0, hz1, hz2⟩ := info_parts info_i64
  go_enter Tryz.func85, Tryz.ntmps85
  go_wp2_with fail
  refine (code_impl _ _ hs hsh).mono ?_
  rintro e w1 ⟨v, st, n, rfl, O, -, ⟨s1, s2⟩, ⟨n1, n2⟩, B⟩
  obtain ⟨A, cc, rfl⟩ := O.isSlice
  have hle := eL_len s
  obtain ⟨t0, t1, t2, -, hz2', hb2⟩ := new3 w1 (.slice A (eL s).length cc) (.int .i64 st) (.int .i64 n) 135
  have O2 := O.below hb2 (Nat.le_refl _)
  have B2 := below_step B hb2
  have hgs : w1.heap.size < (w1.alloc (.cells #[.slice A (eL s).length cc, .int .i64 st, .int .i64 n] 135)).heap.size := by omega
  clear O B hb2
  by_cases hc : lc s = 0
  case neg =>
    have hw : lw s t = lc s := by unfold lw; rw [if_neg hc]
    have HR := hd (show valR s t = ([], lc s) by unfold valR; rw [hw, if_neg hc])
    obtain ⟨x, hx⟩ : ∃ x, lc s = x := ⟨_, rfl⟩
    rw [hx] at hc HR ⊢
    have kc : (x != 0) = true := by simpa using hc
    have kd : (x == 0) = false := by simpa using hc
    have HB2 := hd B2
    clear hc hx hw B2 O2
    go_wp2_with fail
    go_ret2
    exact ⟨_, by rw [HR.out]; rfl, by rw [HR.out]; exact Own.nil _ _ _ _ _, HB2.out⟩
  rw [hc]
  have HC := hd hc
  have HEL := hd (eL_good hc)
  clear hc
  rcases hn : isNameB t with _ | _
  · have hw : lw s t = 2 := by unfold lw; rw [if_pos HC.out, hn]; rfl
    have HR := hd (show valR s t = ([], 2) by unfold valR; rw [hw]; rfl)
    have HB2 := hd B2
    clear hw B2 O2
    go_wp2_with fail
    refine (name_impl _ _).mono ?_
    rintro e w2 ⟨rfl, hw⟩
    have hw := hw.symm
    subst hw
    rw [hn]
    go_wp2_with fail
    go_ret2
    exact ⟨_, by rw [HR.out]; rfl, by rw [HR.out]; exact Own.nil _ _ _ _ _, HB2.out⟩
  have hw : lw s t = 0 := by unfold lw; rw [if_pos HC.out, hn]; rfl
  have HR := hd (show valR s t = (valTo (readL s).l t (readL s).l.length, 0) by unfold valR; rw [if_pos hw])
  clear hw
  rw [HEL.out] at O2 t0 t1 t2 B2 hle hgs hz2' ⊢
  go_wp2_with fail
  refine (name_impl _ _).mono ?_
  rintro e w2 ⟨rfl, hw⟩
  have hw := hw.symm
  subst hw
  rw [hn]
  generalize w1.alloc (.cells #[.slice A (readL s).l.length cc, .int .i64 st, .int .i64 n] 135) = W2 at t0 t1 t2 O2 B2 hgs hz2' ⊢
  clear hz2'
  have SE := O2.sl eEntry_len
  have own0 := Own.made0 W2 W2.heap.size 2 1 eI (Nat.le_refl _)
  have bel0 := (Below.refl W2.heap.size W2).alloc (Nat.le_refl _) (.cells #[] 2)
  have t0' := (bel0.cell (p := ⟨w1.heap.size, 0, none⟩) hgs).trans t0
  go_wp2_with fail
  go_loopw [8, 30] (fun ov iv wr => ∃ k : Nat, k ≤ (readL s).l.length ∧ iv = .int .i64 k ∧ Own wr W2.heap.size 2 1 ov eI (valTo (readL s).l t k) ∧ Below W2.heap.size W2 wr) (fun _ iv _ => (readL s).l.length - (intOf iv).toNat)
  case atStart => exact ⟨0, Nat.zero_le _, rfl, own0, bel0⟩
  case round =>
    obtain ⟨k, hk, rfl, hown, hbel⟩ := hrel
    clear own0 bel0 t0' t0 t1 t2
    have hlen := valTo_len (readL s).l t k
    by_cases hlt : k < (readL s).l.length
    · obtain ⟨bb, o, rfl, -, p0, p1, p2⟩ := (SE.below hbel).Entry_at hlt
      obtain ⟨-, hbz, hb1, hb2⟩ := entry_bd hlt
      have HY := hd (fun q => valTo_yes (t := t) hlt q)
      have HZ := hd (fun q => valTo_no (t := t) hlt q)
      generalize (readL s).l[k] = x at p0 p1 p2 HY HZ hbz hb1 hb2
      obtain ⟨a, b, c⟩ := x
      dsimp only at p0 p1 p2 hbz hb1 hb2
      generalize valTo (readL s).l t k = L at hown hlen HY HZ ⊢
      have hown' := hown.alloc (.cells #[.int .i64 a, .string b, .int .i64 c] 130)
      have hbel' := hbel.alloc hbel.size (.cells #[.int .i64 a, .string b, .int .i64 c] 130)
      by_cases q : b = t
      case neg =>
        have kq : (b.toList == t.toList) = false := beq_eq_false_iff_ne.2 (fun e => q (bytes_of_toList e))
        have HZ' := hd (HZ.out q)
        clear q HY HZ
        go_wp2_with fail
        go_roundw
        case rel => exact ⟨k + 1, by omega, by go_num, by rw [HZ'.out]; exact hown', hbel'⟩
        case measure => simp [intOf]; omega
      have kq : (b.toList == t.toList) = true := by rw [q]; simp
      have HY' := hd (HY.out q)
      have hnew : ((wr.alloc (.cells #[.int .i64 a, .string b, .int .i64 c] 130)).alloc (.cells #[.int .i64 c] 2)).heap[wr.heap.size + 1]? = some (.cells #[.int .i64 c] 2 (0, 0)) := by
        have h := heap_alloc_new (wr.alloc (.cells #[.int .i64 a, .string b, .int .i64 c] 130)) (.cells #[.int .i64 c] 2)
        rwa [show (wr.alloc (.cells #[.int .i64 a, .string b, .int .i64 c] 130)).heap.size = wr.heap.size + 1 by simp] at h
      clear q HY HZ
      go_wp2_with (at_builtin; refine wpList_push _ rfl _ _ 56 rfl i0 (.int .i64 0) 8 Tryz.underlying56 hi hz0 hz1 hz2 rfl (by decide) _ _ (c : Int) rfl (hown'.alloc _) (wr.heap.size + 1) rfl #[.int .i64 c] 2 hnew rfl rfl (by intro u hu; simp [eI] at hu; subst hu; rfl) (by unfold maxLen; omega) (by omega) (by have := hbel.size; simp; omega) ?_)
      intro v' w3 hown2 hgr2
      have hbel2 := (hbel'.alloc hbel'.size (.cells #[.int .i64 c] 2)).grown hgr2 (by have := hbel.size; simp; omega) (fun g hg => (hown'.lt g hg).1)
      clear hown hown' hgr2
      go_wp2_with fail
      go_roundw
      case rel => exact ⟨k + 1, by omega, by go_num, by rw [HY'.out]; exact hown2, hbel2⟩
      case measure => simp [intOf]; omega
    · obtain rfl : k = (readL s).l.length := by omega
      go_wp2_with fail
      go_ret2
      exact ⟨_, by rw [HR.out]; rfl, by rw [HR.out]; exact hown.base B2.size, B2.trans (hbel.mono B2.size)⟩
end Go.Proofs.YtgcodjkjdfahdaaGreatDoor

/- AddEntry: the reference's function and the program's. No condition but that the library's table, its two errors and its search variable lie as they are laid. -/
namespace Go.Proofs.YtgcodjkjdfahdaaGreatDoor
open Go Go.RowKit Go.ChangeShapes Go.WideShapes
set_option linter.unusedSimpArgs false
set_option linter.unusedVariables false
def addG (s : ByteArray) (l : List TEntry) (st : Int) (x : TEntry) : ByteArray × Int :=
  if okEntryB x = true then
    if dayOf l ≤ x.1 then
      if (s ++ lineS (stampN st (wordsE x)) x).size ≤ 4000 then (s ++ lineS (stampN st (wordsE x)) x, 0) else (⟨#[]⟩, 5)
    else (⟨#[]⟩, 6)
  else (⟨#[]⟩, 7)
def addR (s : ByteArray) (x : TEntry) : ByteArray × Int := if lc s = 0 then addG s (readL s).l (readL s).st x else (⟨#[]⟩, lc s)
theorem addG_bad {s : ByteArray} {l : List TEntry} {st : Int} {x : TEntry} (h : okEntryB x = false) : addG s l st x = (⟨#[]⟩, 7) := by unfold addG; rw [if_neg (by rw [h]; decide)]
theorem addG_day {s : ByteArray} {l : List TEntry} {st : Int} {x : TEntry} (h : okEntryB x = true) (hd : ¬ dayOf l ≤ x.1) : addG s l st x = (⟨#[]⟩, 6) := by unfold addG; rw [if_pos h, if_neg hd]
theorem addG_full {s : ByteArray} {l : List TEntry} {st : Int} {x : TEntry} (h : okEntryB x = true) (hd : dayOf l ≤ x.1) (hz : ¬ (s ++ lineS (stampN st (wordsE x)) x).size ≤ 4000) : addG s l st x = (⟨#[]⟩, 5) := by unfold addG; rw [if_pos h, if_pos hd, if_neg hz]
theorem addG_good {s : ByteArray} {l : List TEntry} {st : Int} {x : TEntry} (h : okEntryB x = true) (hd : dayOf l ≤ x.1) (hz : (s ++ lineS (stampN st (wordsE x)) x).size ≤ 4000) : addG s l st x = (s ++ lineS (stampN st (wordsE x)) x, 0) := by unfold addG; rw [if_pos h, if_pos hd, if_pos hz]
set_option maxRecDepth 100000 in
set_option maxHeartbeats 8000000 in
theorem added_impl (w : World) (s : ByteArray) (v : Value) (l : List TEntry) (st n : Int) (a : Int) (b : ByteArray) (c : Int) (hs : s.size ≤ 4000) (hS : Sl w 3 v eEntry l) (q3 : 0 ≤ st) (q4 : st ≤ 65518) (ht : Tab w) :
    Calls Tryz.prog 152 #[.string s, .agg #[v, .int .i64 st, .int .i64 n], .agg #[.int .i64 a, .string b, .int .i64 c]] w fun e w' => e = .returned (.tuple #[.string (addG s l st (a, b, c)).1, .int .i64 (addG s l st (a, b, c)).2]) ∧ Below w.heap.size w w' := by
  have hl := hS.len
  obtain ⟨A, cc, rfl⟩ := hS.isSlice
  obtain ⟨r0, r1, r2, -, hz0, hb0⟩ := new3 w (.slice A l.length cc) (.int .i64 st) (.int .i64 n) 135
  obtain ⟨t0, t1, t2, -, hz1, hb1⟩ := new3 (w.alloc (.cells #[.slice A l.length cc, .int .i64 st, .int .i64 n] 135)) (.int .i64 a) (.string b) (.int .i64 c) 130
  rw [hz0] at t0 t1 t2 hz1
  have hlt0 : w.heap.size < (w.alloc (.cells #[.slice A l.length cc, .int .i64 st, .int .i64 n] 135)).heap.size := by omega
  have s0 := (hb1.cell (p := ⟨w.heap.size, 0, none⟩) hlt0).trans r0
  have s1 := (hb1.cell (p := ⟨w.heap.size, 1, none⟩) hlt0).trans r1
  have B1 := below_step hb0 hb1
  have S1 := hS.below B1
  have HTB := hd (ht.below B1)
  clear r0 r1 r2 hb0 hb1 hS ht hlt0
  go_enter Tryz.func152, Tryz.ntmps152
  go_wp2_with fail
  generalize (w.alloc (.cells #[.slice A l.length cc, .int .i64 st, .int .i64 n] 135)).alloc (.cells #[.int .i64 a, .string b, .int .i64 c] 130) = W1 at t0 t1 t2 s0 s1 hz1 B1 S1 HTB ⊢
  have HTW := hd (show ∀ W, Below W1.heap.size W1 W → (W.cell? ⟨w.heap.size + 1, 0, none⟩ = some (.int .i64 a) ∧ W.cell? ⟨w.heap.size + 1, 1, none⟩ = some (.string b) ∧ W.cell? ⟨w.heap.size + 1, 2, none⟩ = some (.int .i64 c)) ∧ W.cell? ⟨w.heap.size, 0, none⟩ = some (.slice A l.length cc) ∧ W.cell? ⟨w.heap.size, 1, none⟩ = some (.int .i64 st) ∧ Sl W 3 (.slice A l.length cc) eEntry l ∧ Tab W from fun W k => ⟨⟨(k.cell (p := ⟨w.heap.size + 1, 0, none⟩) (show w.heap.size + 1 < W1.heap.size by omega)).trans t0, (k.cell (p := ⟨w.heap.size + 1, 1, none⟩) (show w.heap.size + 1 < W1.heap.size by omega)).trans t1, (k.cell (p := ⟨w.heap.size + 1, 2, none⟩) (show w.heap.size + 1 < W1.heap.size by omega)).trans t2⟩, (k.cell (p := ⟨w.heap.size, 0, none⟩) (show w.heap.size < W1.heap.size by omega)).trans s0, (k.cell (p := ⟨w.heap.size, 1, none⟩) (show w.heap.size < W1.heap.size by omega)).trans s1, S1.below k, HTB.out.below k⟩)
  clear t0 t1 t2 s0 s1 S1 HTB hz1 hz0
  refine (entry_impl _ _ _ _).mono ?_
  rintro e w2 ⟨rfl, K⟩
  rcases he : okEntryB (a, b, c) with _ | _
  · have HE := hd (addG_bad (s := s) (l := l) (st := st) he)
    clear he
    go_wp2_with fail
    go_ret2
    exact ⟨by rw [HE.out]; rfl, below_step B1 K⟩
  have HE := hd he
  have hda := (okEntryB_bd he).1
  clear he
  obtain ⟨⟨t0, t1, t2⟩, s0, s1, S2, -⟩ := HTW.out _ K
  by_cases hm : l.length = 0
  · have HDD := hd (show dayOf l ≤ ((a, b, c) : TEntry).1 by rw [dayOf_nil hm]; exact hda.1)
    have hz : decide ((0 : Int) < ((0 : Nat) : Int)) = false := by decide
    have HTW0 := HTW
    rw [hm] at s0 ⊢
    go_wp2_with fail
    go_quiet (fail)
    replace K := below_drewN K nq
    clear t0 t1 t2 s0 s1 S2
    generalize w2.drewN nq = w6 at K ⊢
    go_wp2_with fail
    have HT6 := hd (show ∀ x : Ext w6, ((gro w6 x).cell? ⟨w.heap.size + 1, 0, none⟩ = some (.int .i64 a) ∧ (gro w6 x).cell? ⟨w.heap.size + 1, 1, none⟩ = some (.string b) ∧ (gro w6 x).cell? ⟨w.heap.size + 1, 2, none⟩ = some (.int .i64 c)) ∧ (gro w6 x).cell? ⟨w.heap.size, 0, none⟩ = some (.slice A l.length cc) ∧ (gro w6 x).cell? ⟨w.heap.size, 1, none⟩ = some (.int .i64 st) ∧ Sl (gro w6 x) 3 (.slice A l.length cc) eEntry l ∧ Tab (gro w6 x) from fun x => HTW0.out _ (below_step K (gro_below x)))
    obtain ⟨σ, hσ⟩ : ∃ σ, stampN st (wordsS a b c) = σ := ⟨_, rfl⟩
    have HSB := hd (show 0 ≤ σ ∧ σ ≤ 65518 by rw [← hσ]; exact stampN_bd _ _)
    obtain ⟨hsb1, hsb2⟩ := HSB.out
    have HSTP := hd (show ∀ x : Ext w6, Calls Tryz.prog 156 #[.int .i64 st, .agg #[.int .i64 a, .string b, .int .i64 c]] (gro w6 x) fun e w' => e = .returned (.int .i64 σ) ∧ ∃ y, w' = gro w6 y from fun x => calm_of (by rw [← hσ]; exact stampOf_impl (gro w6 x) st ⟨q3, q4⟩ a b c HE.out (HT6.out x).2.2.2.2))
    have HSG := hd hσ
    have hls := lineS_size HSB.out HE.out
    have hwz := words_size HE.out
    have hdz := decS_size (n := σ) (by omega)
    obtain ⟨⟨k0, k1, k2⟩, -, k3, -⟩ := HTW0.out _ K
    have g0 := gro_cell k0
    have g1 := gro_cell k1
    have g2 := gro_cell k2
    have g3 := gro_cell k3
    clear hσ k0 k1 k2 k3
    refine wp_region_calm (by kernel_rfl) (by kernel_rfl) ?_
    repeat (first | go_big_quiet_step ((first | (go_at_call 88; exact calm_of (words_impl _ a b c HE.out (HT6.out _).2.2.2.2)) | (go_at_call 156; exact HSTP.out _) | (go_at_call 36; exact calm_of (dec_impl _ _ (by omega) (HT6.out _).2.2.2.2)))) | quiet_step ((first | (go_at_call 88; exact calm_of (words_impl _ a b c HE.out (HT6.out _).2.2.2.2)) | (go_at_call 156; exact HSTP.out _) | (go_at_call 36; exact calm_of (dec_impl _ _ (by omega) (HT6.out _).2.2.2.2)))))
    refine wpQuiet_nil ?_
    rintro w8 ⟨x, rfl⟩
    have hgx := gro_below x
    generalize gro w6 x = w8 at hgx ⊢
    replace K := below_step K hgx
    clear HT6 HSTP g0 g1 g2 g3 hgx
    obtain ⟨out, hout⟩ : ∃ out, s ++ (wordsS a b c ++ ⟨#[32]⟩ ++ decS σ ++ ⟨#[10]⟩) = out := ⟨_, rfl⟩
    have hoz : out.size ≤ 1048576 := by rw [← hout]; simp only [ByteArray.size_append]; show s.size + (_ + 1 + _ + 1) ≤ 1048576; omega
    rw [hout]
    have HO := hd (show s ++ lineS (stampN st (wordsE (a, b, c))) (a, b, c) = out by rw [← hout, ← HSG.out]; rfl)
    clear hout
    by_cases hz : out.size ≤ 4000
    · have HE2 := hd (addG_good (s := s) (l := l) (st := st) HE.out HDD.out (by rw [HO.out]; exact hz))
      go_wp2_with fail
      go_ret2
      exact ⟨by rw [HE2.out, HO.out]; rfl, below_step B1 K⟩
    · have HE2 := hd (addG_full (s := s) (l := l) (st := st) HE.out HDD.out (by rw [HO.out]; exact hz))
      have hz' : 4000 < out.size := by omega
      go_wp2_with fail
      go_ret2
      exact ⟨by rw [HE2.out]; rfl, below_step B1 K⟩
  · have hm1 : l.length = (l.length - 1) + 1 := by omega
    have hdl := dayOf_last hm1
    obtain ⟨bl, ol, hA, hbl, p0, -, -⟩ := S2.Entry_at (show l.length - 1 < l.length by omega)
    rw [← hdl] at p0
    subst hA
    have hlt1 : l.length - 1 < l.length := by omega
    have hkp : 0 < l.length := by omega
    have hz : decide ((0 : Int) < ((l.length : Nat) : Int)) = true := by simp; omega
    clear hdl hm1
    obtain ⟨δ, hδ⟩ : ∃ δ, dayOf l = δ := ⟨_, rfl⟩
    rw [hδ] at p0
    have HDL := hd hδ
    have HTW0 := HTW
    clear hδ
    rcases hday : decide (a < δ) with _ | _
    case true =>
      have HE2 := hd (addG_day (s := s) (l := l) (st := st) HE.out (by rw [HDL.out]; have := of_decide_eq_true hday; show ¬ δ ≤ a; omega))
      go_wp2_with fail
      go_quiet (fail)
      go_wp2_with fail
      go_ret2
      exact ⟨by rw [HE2.out]; rfl, below_step B1 (below_drewN K nq)⟩
    have HDD := hd (show dayOf l ≤ ((a, b, c) : TEntry).1 by rw [HDL.out]; have := of_decide_eq_false hday; show δ ≤ a; omega)
    go_wp2_with fail
    go_quiet (fail)
    replace K := below_drewN K nq
    clear t0 t1 t2 s0 s1 S2 p0
    generalize w2.drewN nq = w6 at K ⊢
    go_wp2_with fail
    have HT6 := hd (show ∀ x : Ext w6, ((gro w6 x).cell? ⟨w.heap.size + 1, 0, none⟩ = some (.int .i64 a) ∧ (gro w6 x).cell? ⟨w.heap.size + 1, 1, none⟩ = some (.string b) ∧ (gro w6 x).cell? ⟨w.heap.size + 1, 2, none⟩ = some (.int .i64 c)) ∧ (gro w6 x).cell? ⟨w.heap.size, 0, none⟩ = some (.slice (some ⟨bl, ol, none⟩) l.length cc) ∧ (gro w6 x).cell? ⟨w.heap.size, 1, none⟩ = some (.int .i64 st) ∧ Sl (gro w6 x) 3 (.slice (some ⟨bl, ol, none⟩) l.length cc) eEntry l ∧ Tab (gro w6 x) from fun x => HTW0.out _ (below_step K (gro_below x)))
    obtain ⟨σ, hσ⟩ : ∃ σ, stampN st (wordsS a b c) = σ := ⟨_, rfl⟩
    have HSB := hd (show 0 ≤ σ ∧ σ ≤ 65518 by rw [← hσ]; exact stampN_bd _ _)
    obtain ⟨hsb1, hsb2⟩ := HSB.out
    have HSTP := hd (show ∀ x : Ext w6, Calls Tryz.prog 156 #[.int .i64 st, .agg #[.int .i64 a, .string b, .int .i64 c]] (gro w6 x) fun e w' => e = .returned (.int .i64 σ) ∧ ∃ y, w' = gro w6 y from fun x => calm_of (by rw [← hσ]; exact stampOf_impl (gro w6 x) st ⟨q3, q4⟩ a b c HE.out (HT6.out x).2.2.2.2))
    have HSG := hd hσ
    have hls := lineS_size HSB.out HE.out
    have hwz := words_size HE.out
    have hdz := decS_size (n := σ) (by omega)
    obtain ⟨⟨k0, k1, k2⟩, -, k3, -⟩ := HTW0.out _ K
    have g0 := gro_cell k0
    have g1 := gro_cell k1
    have g2 := gro_cell k2
    have g3 := gro_cell k3
    clear hσ k0 k1 k2 k3
    refine wp_region_calm (by kernel_rfl) (by kernel_rfl) ?_
    repeat (first | go_big_quiet_step ((first | (go_at_call 88; exact calm_of (words_impl _ a b c HE.out (HT6.out _).2.2.2.2)) | (go_at_call 156; exact HSTP.out _) | (go_at_call 36; exact calm_of (dec_impl _ _ (by omega) (HT6.out _).2.2.2.2)))) | quiet_step ((first | (go_at_call 88; exact calm_of (words_impl _ a b c HE.out (HT6.out _).2.2.2.2)) | (go_at_call 156; exact HSTP.out _) | (go_at_call 36; exact calm_of (dec_impl _ _ (by omega) (HT6.out _).2.2.2.2)))))
    refine wpQuiet_nil ?_
    rintro w8 ⟨x, rfl⟩
    have hgx := gro_below x
    generalize gro w6 x = w8 at hgx ⊢
    replace K := below_step K hgx
    clear HT6 HSTP g0 g1 g2 g3 hgx
    obtain ⟨out, hout⟩ : ∃ out, s ++ (wordsS a b c ++ ⟨#[32]⟩ ++ decS σ ++ ⟨#[10]⟩) = out := ⟨_, rfl⟩
    have hoz : out.size ≤ 1048576 := by rw [← hout]; simp only [ByteArray.size_append]; show s.size + (_ + 1 + _ + 1) ≤ 1048576; omega
    rw [hout]
    have HO := hd (show s ++ lineS (stampN st (wordsE (a, b, c))) (a, b, c) = out by rw [← hout, ← HSG.out]; rfl)
    clear hout
    by_cases hz : out.size ≤ 4000
    · have HE2 := hd (addG_good (s := s) (l := l) (st := st) HE.out HDD.out (by rw [HO.out]; exact hz))
      go_wp2_with fail
      go_ret2
      exact ⟨by rw [HE2.out, HO.out]; rfl, below_step B1 K⟩
    · have HE2 := hd (addG_full (s := s) (l := l) (st := st) HE.out HDD.out (by rw [HO.out]; exact hz))
      have hz' : 4000 < out.size := by omega
      go_wp2_with fail
      go_ret2
      exact ⟨by rw [HE2.out]; rfl, below_step B1 K⟩
set_option maxRecDepth 100000 in
set_option maxHeartbeats 4000000 in
theorem add_impl (w : World) (s : ByteArray) (a : Int) (b : ByteArray) (c : Int) (hs : s.size ≤ 1048576) (hsh : Shop w) :
    Calls Tryz.prog 84 #[.string s, .agg #[.int .i64 a, .string b, .int .i64 c]] w fun e w' => e = .returned (.tuple #[.string (addR s (a, b, c)).1, .int .i64 (addR s (a, b, c)).2]) ∧ Below w.heap.size w w' := by
  obtain ⟨t0, t1, t2, -, hz0, hb0⟩ := new3 w (.int .i64 a) (.string b) (.int .i64 c) 130
  have HSH := hd (hsh.below hb0)
  clear hsh
  go_enter Tryz.func84, Tryz.ntmps84
  go_wp2_with fail
  generalize w.alloc (.cells #[.int .i64 a, .string b, .int .i64 c] 130) = W0 at t0 t1 t2 hz0 hb0 HSH ⊢
  refine (code_impl _ _ hs HSH.out).mono ?_
  rintro e w1 ⟨v, st, n, rfl, O, hst, ⟨s1, s2⟩, ⟨n1, n2⟩, B⟩
  obtain ⟨A, cc, rfl⟩ := O.isSlice
  have hle := eL_len s
  obtain ⟨r0, r1, r2, -, hz2', hb2⟩ := new3 w1 (.slice A (eL s).length cc) (.int .i64 st) (.int .i64 n) 135
  have B1 := below_step hb0 B
  have B2 := below_step B1 hb2
  have O2 := O.below hb2 (Nat.le_refl _)
  have hx0 : w.heap.size < W0.heap.size := by omega
  have hx1 : w.heap.size < w1.heap.size := Nat.lt_of_lt_of_le hx0 B.size
  have u0 := (hb2.cell (p := ⟨w.heap.size, 0, none⟩) hx1).trans ((B.cell (p := ⟨w.heap.size, 0, none⟩) hx0).trans t0)
  have u1 := (hb2.cell (p := ⟨w.heap.size, 1, none⟩) hx1).trans ((B.cell (p := ⟨w.heap.size, 1, none⟩) hx0).trans t1)
  have u2 := (hb2.cell (p := ⟨w.heap.size, 2, none⟩) hx1).trans ((B.cell (p := ⟨w.heap.size, 2, none⟩) hx0).trans t2)
  have SH2 := hd (HSH.out.below (B.trans (hb2.mono B.size)))
  clear O B hb2 hz2' t0 t1 t2 hb0 hz0
  by_cases hc : lc s = 0
  case neg =>
    have HR := hd (show addR s (a, b, c) = (⟨#[]⟩, lc s) by unfold addR; rw [if_neg hc])
    obtain ⟨x, hx⟩ : ∃ x, lc s = x := ⟨_, rfl⟩
    rw [hx] at hc HR ⊢
    have kc : (x != 0) = true := by simpa using hc
    have HB2 := hd B2
    clear hc hx B2 O2 u0 u1 u2 r0 r1 r2
    go_wp2_with fail
    go_ret2
    exact ⟨by rw [HR.out]; rfl, HB2.out⟩
  have HR := hd (show addR s (a, b, c) = addG s (eL s) st (a, b, c) by unfold addR; rw [if_pos hc, eL_good hc, hst hc])
  have hz4 := lc_size hc
  rw [hc]
  clear hc hst
  go_wp2_with fail
  generalize w1.alloc (.cells #[.slice A (eL s).length cc, .int .i64 st, .int .i64 n] 135) = W2 at r0 r1 r2 u0 u1 u2 O2 B2 SH2 ⊢
  refine (added_impl _ s _ (eL s) st n a b c hz4 (O2.sl eEntry_len) s1 s2 SH2.out.1).mono ?_
  rintro e w3 ⟨rfl, hb3⟩
  go_wp2_with fail
  go_ret2
  exact ⟨by rw [HR.out]; rfl, below_step B2 hb3⟩
end Go.Proofs.YtgcodjkjdfahdaaGreatDoor
