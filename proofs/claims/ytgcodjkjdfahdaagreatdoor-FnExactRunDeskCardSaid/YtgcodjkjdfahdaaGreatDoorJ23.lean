/- Texts of the claim, joined: each says at its head what it proves. No condition. -/
import Derived.Test.YtgcodjkjdfahdaaGreatDoorJ22
import Derived.Test.YtgcodjkjdfahdaaGreatDoorJ5
/- What is read of a text that must be a log: the program's logCode, the reference's l27Code and l27What. No condition but that the library's table, its two errors and its search variable lie as they are laid. -/
namespace Go.Proofs.YtgcodjkjdfahdaaGreatDoor
open Go Go.RowKit Go.ChangeShapes Go.WideShapes
set_option linter.unusedSimpArgs false
set_option linter.unusedVariables false
def lc (s : ByteArray) : Int := if s.size ≤ 4000 then (if (readL s).at_ = s.size then 0 else 8) else 5
def eL (s : ByteArray) : List TEntry := if lc s = 0 then (readL s).l else []
theorem eL_good {s : ByteArray} (h : lc s = 0) : eL s = (readL s).l := by unfold eL; rw [if_pos h]
theorem eL_bad {s : ByteArray} (h : ¬ lc s = 0) : eL s = [] := by unfold eL; rw [if_neg h]
theorem lc_size {s : ByteArray} (h : lc s = 0) : s.size ≤ 4000 := by
  by_cases hz : s.size ≤ 4000
  · exact hz
  · unfold lc at h; rw [if_neg hz] at h; cases h
theorem eL_len (s : ByteArray) : (eL s).length ≤ 4000 := by
  by_cases h : lc s = 0
  · rw [eL_good h]; have := readL_len s; have := lc_size h; omega
  · rw [eL_bad h]; exact Nat.zero_le _
def GivesCode (w : World) (s : ByteArray) (e : Ending) (w' : World) : Prop :=
  ∃ v st n, e = .returned (.tuple #[.agg #[v, .int .i64 st, .int .i64 n], .int .i64 (lc s)]) ∧ Own w' w.heap.size 130 3 v eEntry (eL s) ∧ (lc s = 0 → st = (readL s).st) ∧ (0 ≤ st ∧ st ≤ 65518) ∧ (0 ≤ n ∧ n ≤ 1048576) ∧ Below w.heap.size w w'
set_option maxRecDepth 100000 in
set_option maxHeartbeats 4000000 in
theorem code_impl (w : World) (s : ByteArray) (hs : s.size ≤ 1048576) (hsh : Shop w) :
    Calls Tryz.prog 124 #[.string s] w (GivesCode w s) := by
  obtain ⟨-, -, -, X0, hz0, hb0⟩ := new3 w (.slice none 0 0) (.int .i64 0) (.int .i64 0) 135
  have HSH := hd (hsh.below hb0)
  clear hsh
  by_cases hz : s.size ≤ 4000
  case neg =>
    have HC := hd (show lc s = 5 by unfold lc; rw [if_neg hz])
    have hz' : 4000 < s.size := by omega
    go_enter Tryz.func124, Tryz.ntmps124
    go_wp2_with fail
    have c0 := (new3 w (.slice none 0 0) (.int .i64 0) (.int .i64 0) 135)
    generalize w.alloc (.cells #[.slice none 0 0, .int .i64 0, .int .i64 0] 135) = Z at c0 hb0 ⊢
    have BZ := hb0
    refine bodyPost_ret (v := .tuple #[.agg #[.slice none 0 0, .int .i64 0, .int .i64 0], .int .i64 5]) ?_ rfl ?_
    · refine (results_cell_tmp Tryz.results124 _ _ _).trans ?_
      show (((loadVar 135 ⟨w.heap.size, 0, none⟩).run Tryz.prog Z).andThen fun v w₂ => Result.ok (Value.tuple #[v, Value.int .i64 5]) w₂) = _
      rw [load_reading Z _ _ _ _ ⟨_, _, _, rfl⟩ c0.1 c0.2.1 c0.2.2.1]
      rfl
    exact ⟨_, _, _, by rw [HC.out], by rw [eL_bad (by rw [HC.out]; decide)]; exact Own.nil _ _ _ _ _, fun h => (by rw [HC.out] at h; cases h), by decide, by decide, BZ⟩
  have hat := readL_at s
  go_enter Tryz.func124, Tryz.ntmps124
  go_wp2_with fail
  generalize w.alloc (.cells #[.slice none 0 0, .int .i64 0, .int .i64 0] 135) = W0 at hb0 hz0 X0 HSH ⊢
  refine (readLog_impl _ _ hs HSH.out).mono ?_
  rintro e w1 ⟨v, rfl, O, B⟩
  obtain ⟨A, cc, rfl⟩ := O.isSlice
  have X1 := X0.below B
  have B1 := below_step hb0 B
  obtain ⟨t0, t1, t2, -, hz2, hb2⟩ := new3 w1 (.slice A (readL s).l.length cc) (.int .i64 (readL s).st) (.int .i64 ((readL s).at_ : Int)) 135
  have X2 := X1.below hb2
  have B2 := below_step B1 hb2
  have O2 := O.below hb2 (Nat.le_refl _)
  have HST := hd (readL_st s)
  clear X0 X1 O B B1 hb2
  by_cases ha : (readL s).at_ = s.size
  case neg =>
    have HC := hd (show lc s = 8 by unfold lc; rw [if_pos hz, if_neg ha])
    have ha' : (readL s).at_ < s.size := by omega
    clear ha
    obtain ⟨x0, ⟨d0, d1, d2, b0, b1, b2⟩, g0, g1, g2⟩ := X2
    go_wp2_with fail
    have FC := cells3 (w1.alloc (.cells #[.slice A (readL s).l.length cc, .int .i64 (readL s).st, .int .i64 ((readL s).at_ : Int)] 135)) w.heap.size (.slice none 0 0) (.int .i64 0) (.int .i64 0) _ _ _ b0 b1 b2
    have BZ := box3_below B2 (Nat.le_refl _) (.slice none 0 0) (.int .i64 0) (.int .i64 0)
    generalize ((((w1.alloc (.cells #[.slice A (readL s).l.length cc, .int .i64 (readL s).st, .int .i64 ((readL s).at_ : Int)] 135)).setCell ⟨w.heap.size, 0, none⟩ (.slice none 0 0)).setCell ⟨w.heap.size, 1, none⟩ (.int .i64 0)).setCell ⟨w.heap.size, 2, none⟩ (.int .i64 0)) = Z at FC BZ ⊢
    obtain ⟨e0, e1, e2⟩ := FC
    refine bodyPost_ret (v := .tuple #[.agg #[.slice none 0 0, .int .i64 0, .int .i64 0], .int .i64 8]) ?_ rfl ?_
    · refine (results_cell_tmp Tryz.results124 _ _ _).trans ?_
      show (((loadVar 135 ⟨w.heap.size, 0, none⟩).run Tryz.prog Z).andThen fun v w₂ => Result.ok (Value.tuple #[v, Value.int .i64 8]) w₂) = _
      rw [load_reading Z _ _ _ _ ⟨_, _, _, rfl⟩ e0 e1 e2]
      rfl
    exact ⟨_, _, _, by rw [HC.out], by rw [eL_bad (by rw [HC.out]; decide)]; exact Own.nil _ _ _ _ _, fun h => (by rw [HC.out] at h; cases h), by decide, by decide, BZ⟩
  have HC := hd (show lc s = 0 by unfold lc; rw [if_pos hz, if_pos ha])
  have HEL := hd (eL_good HC.out)
  have ha' : ¬ (readL s).at_ < s.size := by omega
  have hatz : (readL s).at_ ≤ 1048576 := by omega
  clear ha
  obtain ⟨x0, ⟨d0, d1, d2, b0, b1, b2⟩, g0, g1, g2⟩ := X2
  go_wp2_with fail
  have FC := cells3 (w1.alloc (.cells #[.slice A (readL s).l.length cc, .int .i64 (readL s).st, .int .i64 ((readL s).at_ : Int)] 135)) w.heap.size (.slice A (readL s).l.length cc) (.int .i64 (readL s).st) (.int .i64 ((readL s).at_ : Int)) _ _ _ b0 b1 b2
  have BZ := box3_below B2 (Nat.le_refl _) (.slice A (readL s).l.length cc) (.int .i64 (readL s).st) (.int .i64 ((readL s).at_ : Int))
  have OZ := (own_box3 (O2.base (show w.heap.size + 1 ≤ W0.heap.size by omega)) (Nat.lt_succ_self _) (.slice A (readL s).l.length cc) (.int .i64 (readL s).st) (.int .i64 ((readL s).at_ : Int))).base (Nat.le_succ w.heap.size)
  generalize ((((w1.alloc (.cells #[.slice A (readL s).l.length cc, .int .i64 (readL s).st, .int .i64 ((readL s).at_ : Int)] 135)).setCell ⟨w.heap.size, 0, none⟩ (.slice A (readL s).l.length cc)).setCell ⟨w.heap.size, 1, none⟩ (.int .i64 (readL s).st)).setCell ⟨w.heap.size, 2, none⟩ (.int .i64 ((readL s).at_ : Int))) = Z at FC BZ OZ ⊢
  obtain ⟨e0, e1, e2⟩ := FC
  refine bodyPost_ret (v := .tuple #[.agg #[.slice A (readL s).l.length cc, .int .i64 (readL s).st, .int .i64 ((readL s).at_ : Int)], .int .i64 0]) ?_ rfl ?_
  · refine (results_cell_tmp Tryz.results124 _ _ _).trans ?_
    show (((loadVar 135 ⟨w.heap.size, 0, none⟩).run Tryz.prog Z).andThen fun v w₂ => Result.ok (Value.tuple #[v, Value.int .i64 0]) w₂) = _
    rw [load_reading Z _ _ _ _ ⟨_, _, _, rfl⟩ e0 e1 e2]
    rfl
  exact ⟨_, _, _, by rw [HC.out], by rw [HEL.out]; exact OZ, fun _ => rfl, HST.out, by omega, BZ⟩
set_option maxRecDepth 100000 in
set_option maxHeartbeats 4000000 in
theorem code_spec (w : World) (s : ByteArray) (hs : s.size ≤ 1048576) :
    Calls Tryz.prog 89 #[.string s] w fun e w' => ∃ g, e = .returned (.tuple #[.pointer (some ⟨g, 0, none⟩), .int .i64 (lc s)]) ∧ (lc s = 0 → Reader w s (readL s) g w') ∧ Below w.heap.size w w' := by
  by_cases hz : s.size ≤ 4000
  case neg =>
    have HC := hd (show lc s = 5 by unfold lc; rw [if_neg hz])
    have hz' : 4000 < s.size := by omega
    go_enter Tryz.func89, Tryz.ntmps89
    go_wp2_with fail
    go_ret2
    exact ⟨w.heap.size, by rw [HC.out]; rfl, fun h => (by rw [HC.out] at h; cases h), (Below.refl _ _).alloc (Nat.le_refl _) _⟩
  have hat := readL_at s
  go_enter Tryz.func89, Tryz.ntmps89
  go_wp2_with fail
  refine (read_spec _ _ hs).mono ?_
  rintro e w1 ⟨g, rfl, hr⟩
  have HRD := hd hr
  obtain ⟨v, ⟨r0, ⟨c0, c1, c2, c3⟩, -⟩, O, hg, B⟩ := hr
  by_cases ha : (readL s).at_ = s.size
  case neg =>
    have HC := hd (show lc s = 8 by unfold lc; rw [if_pos hz, if_neg ha])
    have ka : ((((readL s).at_ : Nat) : Int) != ((s.size : Nat) : Int)) = true := by simp; omega
    go_wp2_with fail
    go_ret2
    exact ⟨g, by rw [HC.out]; rfl, fun h => (by rw [HC.out] at h; cases h), B⟩
  have HC := hd (show lc s = 0 by unfold lc; rw [if_pos hz, if_pos ha])
  have ka : ((((readL s).at_ : Nat) : Int) != ((s.size : Nat) : Int)) = false := by simp; omega
  clear ha
  go_wp2_with fail
  go_ret2
  exact ⟨g, by rw [HC.out]; rfl, fun _ => HRD.out, B⟩
def lw (s t : ByteArray) : Int := if lc s = 0 then (if isNameB t = true then 0 else 2) else lc s
theorem lw_good {s t : ByteArray} (h : lw s t = 0) : lc s = 0 ∧ isNameB t = true := by
  unfold lw at h
  by_cases hc : lc s = 0
  · rw [if_pos hc] at h
    by_cases ht : isNameB t = true
    · exact ⟨hc, ht⟩
    · rw [if_neg ht] at h; cases h
  · rw [if_neg hc] at h; exact absurd h hc
set_option maxRecDepth 100000 in
theorem what_spec (w : World) (s t : ByteArray) (hs : s.size ≤ 1048576) :
    Calls Tryz.prog 227 #[.string s, .string t] w fun e w' => ∃ g, e = .returned (.tuple #[.pointer (some ⟨g, 0, none⟩), .int .i64 (lw s t)]) ∧ (lw s t = 0 → Reader w s (readL s) g w') ∧ Below w.heap.size w w' := by
  go_enter Tryz.func227, Tryz.ntmps227
  go_wp2_with fail
  refine (code_spec _ _ hs).mono ?_
  rintro e w1 ⟨g, rfl, hr, B⟩
  have HRD := hd hr
  clear hr
  by_cases hc : lc s = 0
  case neg =>
    have HW := hd (show lw s t = lc s by unfold lw; rw [if_neg hc])
    have HC := hd hc
    obtain ⟨x, hx⟩ : ∃ x, lc s = x := ⟨_, rfl⟩
    rw [hx] at hc HW ⊢
    have kc : (x == 0) = false := by simpa using hc
    go_wp2_with fail
    go_ret2
    exact ⟨g, by rw [HW.out]; rfl, fun h => absurd (lw_good h).1 HC.out, B⟩
  rw [hc]
  have HC := hd hc
  clear hc
  rcases ht : isNameB t with _ | _
  · have HW := hd (show lw s t = 2 by unfold lw; rw [if_pos HC.out, ht]; rfl)
    go_wp2_with fail
    refine (name_spec _ _).mono ?_
    rintro e w2 ⟨rfl, hw⟩
    have hw := hw.symm
    subst hw
    rw [ht]
    go_wp2_with fail
    go_ret2
    exact ⟨g, by rw [HW.out]; rfl, fun h => (by rw [HW.out] at h; cases h), B⟩
  · have HW := hd (show lw s t = 0 by unfold lw; rw [if_pos HC.out, ht]; rfl)
    go_wp2_with fail
    refine (name_spec _ _).mono ?_
    rintro e w2 ⟨rfl, hw⟩
    have hw := hw.symm
    subst hw
    rw [ht]
    go_wp2_with fail
    go_ret2
    exact ⟨g, by rw [HW.out]; rfl, fun _ => HRD.out HC.out, B⟩
end Go.Proofs.YtgcodjkjdfahdaaGreatDoor

/- Valid desks and the text of a desk: the reference's functions and the program's. No condition but that the library's table, its two errors and its search variable lie as they are laid. -/
namespace Go.Proofs.YtgcodjkjdfahdaaGreatDoor
open Go Go.RowKit Go.ChangeShapes Go.WideShapes
set_option linter.unusedSimpArgs false
set_option linter.unusedVariables false
def lettersB (s : ByteArray) : Bool := allTo (fun i => smallN (s.get! i).toNat) s.size
def okMotB (s : ByteArray) : Bool := lettersB s && inB s.size 1 24
theorem letters_bad {s : ByteArray} {k : Nat} (hk : k < s.size) (h : smallN (s.get! k).toNat = false) : okMotB s = false := by
  unfold okMotB lettersB
  rw [allTo_false hk h]
  rfl
theorem letters_all {s : ByteArray} (h : ∀ i, i < s.size → smallN (s.get! i).toNat = true) : okMotB s = inB s.size 1 24 := by
  unfold okMotB lettersB
  rw [allTo_true h]
  rfl
def okCueB (x : TCue) : Bool := inB x.1 0 10000 && (inB x.2.1 1 1000 && (inB x.2.2.1 1 4 && inB x.2.2.2 0 6))
def okCues (l : List TCue) : Bool := !(l.any fun x => !okCueB x) && decide (l.length ≤ 6)
theorem okCues_long {l : List TCue} (h : ¬ l.length ≤ 6) : okCues l = false := by simp [okCues, h]
theorem okCues_bad {l : List TCue} {k : Nat} (hk : k < l.length) (h : okCueB l[k] = false) : okCues l = false := by
  unfold okCues
  rw [any_of_hit (fun x => !okCueB x) l k hk (by simp [h])]
  rfl
theorem okCues_all {l : List TCue} (h : l.any (fun x => !okCueB x) = false) : okCues l = decide (l.length ≤ 6) := by
  unfold okCues
  rw [h]
  rfl
set_option maxRecDepth 100000 in
set_option maxHeartbeats 1000000 in
theorem mot_spec (w : World) (s : ByteArray) (hs : s.size ≤ 1048576) : Calls Tryz.prog 90 #[.string s] w fun e w' => e = .returned (.bool (okMotB s)) ∧ w' = w := by
  go_enter Tryz.func90, Tryz.ntmps90
  go_wp2_with fail
  go_loop [3] (fun i => ∃ k : Nat, k ≤ s.size ∧ i = .int .i64 k ∧ Hid (∀ j, j < k → smallN (s.get! j).toNat = true)) (fun i => s.size - (intOf i).toNat)
  case atStart => exact ⟨0, Nat.zero_le _, rfl, hd (fun j hj => absurd hj (Nat.not_lt_zero _))⟩
  case round =>
    obtain ⟨k, hk, rfl, HT⟩ := hrel
    by_cases hlt : k < s.size
    · have GK := hd (get_bang s k hlt)
      rcases h3 : smallN (s.get! k).toNat with _ | _
      · have HR := hd (letters_bad hlt h3)
        rw [GK.out] at h3
        rcases small_cases h3 with q | q
        all_goals
          clear h3
          go_wp2_with fail
          go_ret
          exact ⟨by rw [HR.out]; rfl, rfl⟩
      · have HN := hd (show ∀ j, j < k + 1 → smallN (s.get! j).toNat = true from fun j hj => by
          by_cases e : j = k
          · subst e; exact h3
          · exact HT.out j (by omega))
        rw [GK.out] at h3
        obtain ⟨q1, q2⟩ := small_true h3
        clear h3
        go_wp2_with fail
        go_round
        case rel => exact ⟨k + 1, by omega, by go_num, HN⟩
        case measure => simp [intOf]; omega
    · obtain rfl : k = s.size := by omega
      have HR := hd (letters_all HT.out)
      go_wp2_with fail
      refine (in_spec _ _ _ _).mono ?_
      rintro e w' ⟨rfl, hw⟩
      have hw := hw.symm
      subst hw
      go_wp2_with fail
      go_ret
      exact ⟨by rw [HR.out]; rfl, rfl⟩
set_option maxRecDepth 100000 in
set_option maxHeartbeats 1000000 in
theorem letters_impl (w : World) (s : ByteArray) (hs : s.size ≤ 1048576) : Calls Tryz.prog 120 #[.string s, .int .i64 24] w fun e w' => e = .returned (.bool (okMotB s)) ∧ w' = w := by
  go_enter Tryz.func120, Tryz.ntmps120
  go_wp2_with fail
  go_loop [5] (fun i => ∃ k : Nat, k ≤ s.size ∧ i = .int .i64 k ∧ Hid (∀ j, j < k → smallN (s.get! j).toNat = true)) (fun i => s.size - (intOf i).toNat)
  case atStart => exact ⟨0, Nat.zero_le _, rfl, hd (fun j hj => absurd hj (Nat.not_lt_zero _))⟩
  case round =>
    obtain ⟨k, hk, rfl, HT⟩ := hrel
    by_cases hlt : k < s.size
    · have GK := hd (get_bang s k hlt)
      rcases h3 : smallN (s.get! k).toNat with _ | _
      · have HR := hd (letters_bad hlt h3)
        rw [GK.out] at h3
        rcases small_cases h3 with q | q
        all_goals
          clear h3
          go_wp2_with fail
          go_ret
          exact ⟨by rw [HR.out]; rfl, rfl⟩
      · have HN := hd (show ∀ j, j < k + 1 → smallN (s.get! j).toNat = true from fun j hj => by
          by_cases e : j = k
          · subst e; exact h3
          · exact HT.out j (by omega))
        rw [GK.out] at h3
        obtain ⟨q1, q2⟩ := small_true h3
        clear h3
        go_wp2_with fail
        go_round
        case rel => exact ⟨k + 1, by omega, by go_num, HN⟩
        case measure => simp [intOf]; omega
    · obtain rfl : k = s.size := by omega
      have HR := hd (letters_all HT.out)
      by_cases h1 : 1 ≤ s.size
      case neg =>
        have HI := hd (show inB (s.size : Int) 1 24 = false from decide_eq_false (by omega))
        have hz : s.size = 0 := by omega
        have hz' : (s.size : Int) < 1 := by omega
        go_wp2_with fail
        go_ret
        exact ⟨by rw [HR.out, HI.out]; rfl, rfl⟩
      have HI := hd (show inB (s.size : Int) 1 24 = decide ((s.size : Int) ≤ 24) from decide_eq_decide.2 (by omega))
      go_wp2_with fail
      go_ret
      exact ⟨by rw [HR.out, HI.out]; rfl, rfl⟩
theorem mot_impl (w : World) (s : ByteArray) (hs : s.size ≤ 1048576) : Calls Tryz.prog 58 #[.string s] w fun e w' => e = .returned (.bool (okMotB s)) ∧ w' = w := by
  go_enter Tryz.func58, Tryz.ntmps58
  go_wp2_with fail
  refine (letters_impl _ _ hs).mono ?_
  rintro e w' ⟨rfl, hw⟩
  have hw := hw.symm
  subst hw
  go_wp2_with fail
  go_ret
  exact ⟨rfl, rfl⟩
set_option maxRecDepth 100000 in
set_option maxHeartbeats 2000000 in
theorem cuePred (w : World) (a b c d : Int) : Calls Tryz.prog 122 #[.agg #[.int .i64 a, .int .i64 b, .int .i64 c, .int .i64 d]] w fun e w' => e = .returned (.bool (!okCueB (a, b, c, d))) ∧ Below w.heap.size w w' := by
  rcases h1 : inB a 0 10000 with _ | _
  · go_enter Tryz.func122, Tryz.ntmps122
    go_wp2_with (go_at_call 67; refine (in_impl _ _ _ _).mono ?_; rintro e w1 ⟨rfl, hw⟩; have hw := hw.symm; subst hw)
    go_ret
    exact ⟨by simp [okCueB, h1], (Below.refl _ _).alloc (Nat.le_refl _) _⟩
  rcases h2 : inB b 1 1000 with _ | _
  · go_enter Tryz.func122, Tryz.ntmps122
    go_wp2_with (go_at_call 67; refine (in_impl _ _ _ _).mono ?_; rintro e w1 ⟨rfl, hw⟩; have hw := hw.symm; subst hw)
    go_ret
    exact ⟨by simp [okCueB, h1, h2], (Below.refl _ _).alloc (Nat.le_refl _) _⟩
  rcases h3 : inB c 1 4 with _ | _
  · go_enter Tryz.func122, Tryz.ntmps122
    go_wp2_with (go_at_call 67; refine (in_impl _ _ _ _).mono ?_; rintro e w1 ⟨rfl, hw⟩; have hw := hw.symm; subst hw)
    go_ret
    exact ⟨by simp [okCueB, h1, h2, h3], (Below.refl _ _).alloc (Nat.le_refl _) _⟩
  rcases h4 : inB d 0 6 with _ | _
  · go_enter Tryz.func122, Tryz.ntmps122
    go_wp2_with (go_at_call 67; refine (in_impl _ _ _ _).mono ?_; rintro e w1 ⟨rfl, hw⟩; have hw := hw.symm; subst hw)
    go_ret
    exact ⟨by simp [okCueB, h1, h2, h3, h4], (Below.refl _ _).alloc (Nat.le_refl _) _⟩
  go_enter Tryz.func122, Tryz.ntmps122
  go_wp2_with (go_at_call 67; refine (in_impl _ _ _ _).mono ?_; rintro e w1 ⟨rfl, hw⟩; have hw := hw.symm; subst hw)
  go_ret
  exact ⟨by simp [okCueB, h1, h2, h3, h4], (Below.refl _ _).alloc (Nat.le_refl _) _⟩
set_option maxHeartbeats 1000000 in
theorem index_cues (w : World) (v : Value) (l : List TCue) (h : Sl w 4 v eCue l) :
    Calls Tryz.prog 188 #[v, .func (.func 122) #[] #[]] w fun e w' => e = .returned (.int .i64 (idxGo (fun x => !okCueB x) l 0)) ∧ Below w.heap.size w w' := by
  have m1 := h.len
  obtain ⟨-, A, c, rfl, -, -, -⟩ := id h
  go_enter Tryz.func188, Tryz.ntmps188
  go_wp2_with fail
  go_loopw [8] (fun i wr => ∃ k : Nat, k ≤ l.length ∧ i = .int .i64 k ∧ Below w.heap.size w wr ∧ Hid (idxGo (fun x => !okCueB x) (l.drop k) k = idxGo (fun x => !okCueB x) l 0)) (fun i _ => l.length - (intOf i).toNat)
  case atStart => exact ⟨0, Nat.zero_le _, rfl, Below.refl _ _, hd (by simp)⟩
  case round =>
    obtain ⟨k, hk, rfl, hbel, HT⟩ := hrel
    by_cases hlt : k < l.length
    · obtain ⟨b, o, rfl, hb, p0, p1, p2, p3⟩ := (h.below hbel).Cue_at hlt
      have HS := hd (HT.out.symm.trans (idxGo_drop (fun x => !okCueB x) l k k hlt))
      generalize l[k] = x at p0 p1 p2 p3 HS
      obtain ⟨xa, xb, xc, xd⟩ := x
      dsimp only at p0 p1 p2 p3
      rcases hp : !okCueB (xa, xb, xc, xd) with _ | _
      · go_wp2_with fail
        refine (cuePred _ _ _ _ _).mono ?_
        rintro e w2 ⟨rfl, hb2⟩
        have hbel2 := below_step hbel hb2
        rw [hp]
        go_wp2_with fail
        go_roundw
        case rel => exact ⟨k + 1, by omega, by go_num, hbel2, hd (by have := HS.out; rw [hp] at this; exact this.symm)⟩
        case measure => simp [intOf]; omega
      · go_wp2_with fail
        refine (cuePred _ _ _ _ _).mono ?_
        rintro e w2 ⟨rfl, hb2⟩
        have hbel2 := below_step hbel hb2
        rw [hp]
        go_wp2_with fail
        go_ret
        exact ⟨by rw [HS.out, hp]; rfl, hbel2⟩
    · go_wp2_with fail
      go_ret
      exact ⟨by rw [← HT.out, List.drop_of_length_le (by omega)]; rfl, hbel⟩
theorem contains_cues (w : World) (v : Value) (l : List TCue) (h : Sl w 4 v eCue l) :
    Calls Tryz.prog 121 #[v, .func (.func 122) #[] #[]] w fun e w' => e = .returned (.bool (l.any (fun x => !okCueB x))) ∧ Below w.heap.size w w' := by
  rw [← idxGo_nonneg (fun x => !okCueB x) l 0 (by omega)]
  go_enter Tryz.func121, Tryz.ntmps121
  go_wp2_with fail
  refine (index_cues _ _ _ h).mono ?_
  rintro e w' ⟨rfl, hb⟩
  go_wp2_with fail
  go_ret
  exact ⟨rfl, hb⟩
theorem cues_impl (w : World) (v : Value) (l : List TCue) (h : Sl w 4 v eCue l) :
    Calls Tryz.prog 59 #[v] w fun e w' => e = .returned (.bool (okCues l)) ∧ Below w.heap.size w w' := by
  have m1 := h.len
  obtain ⟨A, c, rfl⟩ := h.sliceD
  by_cases hz : l.length ≤ 6
  case neg =>
    have HR := hd (okCues_long hz)
    have hz' : 6 < l.length := by omega
    go_enter Tryz.func59, Tryz.ntmps59
    go_wp2_with fail
    go_ret
    exact ⟨by rw [HR.out]; rfl, Below.refl _ _⟩
  have HR := hd (show okCues l = !(l.any fun x => !okCueB x) by unfold okCues; rw [decide_eq_true hz, Bool.and_true])
  go_enter Tryz.func59, Tryz.ntmps59
  go_wp2_with fail
  refine (contains_cues _ _ _ h).mono ?_
  rintro e w1 ⟨rfl, hb⟩
  rcases q : (l.any fun x => !okCueB x) with _ | _
  all_goals
    go_wp2_with fail
    go_ret
    exact ⟨by rw [HR.out, q]; rfl, hb⟩
set_option maxRecDepth 100000 in
set_option maxHeartbeats 4000000 in
theorem cues_spec (w : World) (v : Value) (l : List TCue) (h : Sl w 4 v eCue l) :
    Calls Tryz.prog 91 #[v] w fun e w' => e = .returned (.bool (okCues l)) ∧ Below w.heap.size w w' := by
  have m1 := h.len
  obtain ⟨A, cc, rfl⟩ := h.sliceD
  go_enter Tryz.func91, Tryz.ntmps91
  go_wp2_with fail
  go_loopw [3] (fun i wr => ∃ k : Nat, k ≤ l.length ∧ i = .int .i64 k ∧ Below w.heap.size w wr ∧ Hid (∀ j (hj : j < l.length), j < k → okCueB l[j] = true)) (fun i _ => l.length - (intOf i).toNat)
  case atStart => exact ⟨0, Nat.zero_le _, rfl, Below.refl _ _, hd (fun j _ hj => absurd hj (Nat.not_lt_zero _))⟩
  case round =>
    obtain ⟨k, hk, rfl, hbel, HT⟩ := hrel
    by_cases hlt : k < l.length
    · obtain ⟨bb, o, rfl, -, p0, p1, p2, p3⟩ := (h.below hbel).Cue_at hlt
      have HB := hd (fun hx => okCues_bad hlt hx)
      have HN := hd (fun (hx : okCueB l[k] = true) => (show ∀ j (hj : j < l.length), j < k + 1 → okCueB l[j] = true from fun j hj hj2 => by
        by_cases e : j = k
        · subst e; exact hx
        · exact HT.out j hj (by omega)))
      generalize l[k] = x at p0 p1 p2 p3 HB HN
      obtain ⟨a, b, c, d⟩ := x
      dsimp only at p0 p1 p2 p3
      have hbel' := hbel.alloc hbel.size (.cells #[.int .i64 a, .int .i64 b, .int .i64 c, .int .i64 d] 92)
      rcases h1 : inB a 0 10000 with _ | _
      · have HE := hd (HB.out (by simp [okCueB, h1]))
        clear HB HN
        go_wp2_with (go_at_call 158; refine (in_spec _ _ _ _).mono ?_; rintro e w1 ⟨rfl, hw⟩; have hw := hw.symm; subst hw)
        go_ret
        exact ⟨by rw [HE.out]; rfl, hbel'⟩
      rcases h2 : inB b 1 1000 with _ | _
      · have HE := hd (HB.out (by simp [okCueB, h1, h2]))
        clear HB HN
        go_wp2_with (go_at_call 158; refine (in_spec _ _ _ _).mono ?_; rintro e w1 ⟨rfl, hw⟩; have hw := hw.symm; subst hw)
        go_ret
        exact ⟨by rw [HE.out]; rfl, hbel'⟩
      rcases h3 : inB c 1 4 with _ | _
      · have HE := hd (HB.out (by simp [okCueB, h1, h2, h3]))
        clear HB HN
        go_wp2_with (go_at_call 158; refine (in_spec _ _ _ _).mono ?_; rintro e w1 ⟨rfl, hw⟩; have hw := hw.symm; subst hw)
        go_ret
        exact ⟨by rw [HE.out]; rfl, hbel'⟩
      rcases h4 : inB d 0 6 with _ | _
      · have HE := hd (HB.out (by simp [okCueB, h1, h2, h3, h4]))
        clear HB HN
        go_wp2_with (go_at_call 158; refine (in_spec _ _ _ _).mono ?_; rintro e w1 ⟨rfl, hw⟩; have hw := hw.symm; subst hw)
        go_ret
        exact ⟨by rw [HE.out]; rfl, hbel'⟩
      have HE := hd (HN.out (by simp [okCueB, h1, h2, h3, h4]))
      clear HB HN
      go_wp2_with (go_at_call 158; refine (in_spec _ _ _ _).mono ?_; rintro e w1 ⟨rfl, hw⟩; have hw := hw.symm; subst hw)
      go_roundw
      case rel => exact ⟨k + 1, by omega, by go_num, hbel', HE⟩
      case measure => simp [intOf]; omega
    · obtain rfl : k = l.length := by omega
      have HE := hd (okCues_all (l := l) (by
        rw [List.any_eq_false]
        intro x hx
        obtain ⟨j, hj, rfl⟩ := List.getElem_of_mem hx
        simp [HT.out j hj hj]))
      have HE2 := hd (show okCues l = decide ((l.length : Int) ≤ 6) by rw [HE.out]; exact decide_eq_decide.2 (by omega))
      go_wp2_with fail
      go_ret
      exact ⟨by rw [HE2.out]; rfl, hbel⟩
set_option maxRecDepth 100000 in
theorem isLog_impl (w : World) (s : ByteArray) (hs : s.size ≤ 1048576) (hsh : Shop w) :
    Calls Tryz.prog 61 #[.string s] w fun e w' => e = .returned (.bool (decide (lc s = 0))) ∧ Below w.heap.size w w' := by
  go_enter Tryz.func61, Tryz.ntmps61
  go_wp2_with fail
  refine (code_impl _ _ hs hsh).mono ?_
  rintro e w1 ⟨v, st, n, rfl, O, -, -, -, B⟩
  obtain ⟨A, cc, rfl⟩ := O.isSlice
  have B2 := hd (B.alloc B.size (.cells #[.slice A (eL s).length cc, .int .i64 st, .int .i64 n] 135))
  have HX := hd (show ((lc s == 0) : Bool) = decide (lc s = 0) by rw [Bool.eq_iff_iff]; simp)
  clear O B
  go_wp2_with fail
  go_ret
  exact ⟨by rw [← HX.out]; rfl, B2.out⟩
def okDeskB (p : ByteArray) (C : List TCue) (T : List TTitle) (q : ByteArray) : Bool := okMotB p && (okCues C && (okTitles T && decide (lc q = 0)))
/-- the four cells of a desk -/
def DeskAt (W : World) (g : Nat) (p : ByteArray) (v1 v2 : Value) (q : ByteArray) : Prop := g < W.heap.size ∧ W.cell? ⟨g, 0, none⟩ = some (.string p) ∧ W.cell? ⟨g, 1, none⟩ = some v1 ∧ W.cell? ⟨g, 2, none⟩ = some v2 ∧ W.cell? ⟨g, 3, none⟩ = some (.string q)
theorem DeskAt.below {W W' : World} {g : Nat} {p : ByteArray} {v1 v2 : Value} {q : ByteArray} (h : DeskAt W g p v1 v2 q) (hb : Below W.heap.size W W') : DeskAt W' g p v1 v2 q :=
  ⟨Nat.lt_of_lt_of_le h.1 hb.size, (hb.cell (p := ⟨g, 0, none⟩) h.1).trans h.2.1, (hb.cell (p := ⟨g, 1, none⟩) h.1).trans h.2.2.1, (hb.cell (p := ⟨g, 2, none⟩) h.1).trans h.2.2.2.1, (hb.cell (p := ⟨g, 3, none⟩) h.1).trans h.2.2.2.2⟩
theorem desk_new (w : World) (p : ByteArray) (v1 v2 : Value) (q : ByteArray) (T : TypeId) : DeskAt (w.alloc (.cells #[.string p, v1, v2, .string q] T)) w.heap.size p v1 v2 q :=
  ⟨by simp, new_cell w _ T 0 _ rfl, new_cell w _ T 1 _ rfl, new_cell w _ T 2 _ rfl, new_cell w _ T 3 _ rfl⟩
set_option maxRecDepth 100000 in
set_option maxHeartbeats 8000000 in
theorem desk_impl (w : World) (p q : ByteArray) (v1 v2 : Value) (C : List TCue) (T : List TTitle) (hC : Sl w 4 v1 eCue C) (hT : Sl w 4 v2 eTitle T) (hp : p.size ≤ 1048576) (hq : q.size ≤ 1048576) (hsh : Shop w) :
    Calls Tryz.prog 28 #[.agg #[.string p, v1, v2, .string q]] w fun e w' => e = .returned (.bool (okDeskB p C T q)) ∧ Below w.heap.size w w' := by
  obtain ⟨A1, c1, rfl⟩ := hC.sliceD
  obtain ⟨A2, c2, rfl⟩ := hT.sliceD
  have hD := desk_new w p (.slice A1 C.length c1) (.slice A2 T.length c2) q 29
  have B1 := (Below.refl w.heap.size w).alloc (Nat.le_refl _) (.cells #[.string p, .slice A1 C.length c1, .slice A2 T.length c2, .string q] 29)
  have HSH := hd (hsh.below B1)
  clear hsh
  go_enter Tryz.func28, Tryz.ntmps28
  go_wp2_with fail
  generalize w.alloc (.cells #[.string p, .slice A1 C.length c1, .slice A2 T.length c2, .string q] 29) = w1 at hD B1 HSH ⊢
  obtain ⟨-, x1, x2, x3, x4⟩ := id hD
  rcases hm : okMotB p with _ | _
  · have HR := hd (show okDeskB p C T q = false by unfold okDeskB; rw [hm]; rfl)
    refine (mot_impl _ _ hp).mono ?_
    rintro e ww ⟨rfl, hw⟩
    have hw := hw.symm
    subst hw
    rw [hm]
    go_wp2_with fail
    go_ret
    exact ⟨by rw [HR.out]; rfl, B1⟩
  refine (mot_impl _ _ hp).mono ?_
  rintro e ww ⟨rfl, hw⟩
  have hw := hw.symm
  subst hw
  rw [hm]
  go_wp2_with fail
  rcases hc : okCues C with _ | _
  · have HR := hd (show okDeskB p C T q = false by unfold okDeskB; rw [hm, hc]; rfl)
    refine (cues_impl _ _ _ (hC.below B1)).mono ?_
    rintro e w2 ⟨rfl, hb2⟩
    rw [hc]
    go_wp2_with fail
    go_ret
    exact ⟨by rw [HR.out]; rfl, below_step B1 hb2⟩
  refine (cues_impl _ _ _ (hC.below B1)).mono ?_
  rintro e w2 ⟨rfl, hb2⟩
  rw [hc]
  have B2 := below_step B1 hb2
  obtain ⟨-, y1, y2, y3, y4⟩ := hD.below hb2
  clear x1 x2 x3 x4
  go_wp2_with fail
  rcases ht : okTitles T with _ | _
  · have HR := hd (show okDeskB p C T q = false by unfold okDeskB; rw [hm, hc, ht]; rfl)
    refine (titles_impl _ _ _ (hT.below B2)).mono ?_
    rintro e w3 ⟨rfl, hb3⟩
    rw [ht]
    go_wp2_with fail
    go_ret
    exact ⟨by rw [HR.out]; rfl, below_step B2 hb3⟩
  refine (titles_impl _ _ _ (hT.below B2)).mono ?_
  rintro e w3 ⟨rfl, hb3⟩
  rw [ht]
  have B3 := below_step B2 hb3
  have HR := hd (show okDeskB p C T q = decide (lc q = 0) by unfold okDeskB; rw [hm, hc, ht]; rfl)
  obtain ⟨-, z1, z2, z3, z4⟩ := hD.below (below_step hb2 hb3)
  clear y1 y2 y3 y4
  go_wp2_with fail
  refine (isLog_impl _ _ hq (HSH.out.below (below_step hb2 hb3))).mono ?_
  rintro e w4 ⟨rfl, hb4⟩
  go_wp2_with fail
  go_ret
  exact ⟨by rw [HR.out]; rfl, below_step B3 hb4⟩
end Go.Proofs.YtgcodjkjdfahdaaGreatDoor

/- The text of a desk: the reference's function and the program's. No condition but that the library's table, its two errors and its search variable lie as they are laid. -/
namespace Go.Proofs.YtgcodjkjdfahdaaGreatDoor
open Go Go.RowKit Go.ChangeShapes Go.WideShapes
set_option linter.unusedSimpArgs false
set_option linter.unusedVariables false
def deskS (p : ByteArray) (C : List TCue) (T : List TTitle) : ByteArray :=
  ⟨#[100, 105, 115, 99, 32]⟩ ++ p ++ ⟨#[44, 32]⟩ ++ decS (C.length : Int) ++ ⟨#[32, 99, 117, 101, 115, 44, 32]⟩ ++ decS (T.length : Int) ++ ⟨#[32, 116, 105, 116, 108, 101, 115]⟩
def textD (p : ByteArray) (C : List TCue) (T : List TTitle) (q : ByteArray) : ByteArray := if okDeskB p C T q = true then deskS p C T else ⟨#[]⟩
theorem okDesk_bd {p : ByteArray} {C : List TCue} {T : List TTitle} {q : ByteArray} (h : okDeskB p C T q = true) : p.size ≤ 24 ∧ C.length ≤ 6 ∧ T.length ≤ 20 := by
  unfold okDeskB okMotB okCues at h
  simp only [Bool.and_eq_true, decide_eq_true_eq] at h
  obtain ⟨⟨-, h1⟩, ⟨-, h2⟩, h3, -⟩ := h
  have := inB_true h1
  have := okTitles_len h3
  exact ⟨by omega, h2, this⟩
set_option maxRecDepth 100000 in
set_option maxHeartbeats 8000000 in
theorem l28Text_spec (w : World) (g : Nat) (p q : ByteArray) (v1 v2 : Value) (C : List TCue) (T : List TTitle) (hD : DeskAt w g p v1 v2 q) (hC : Sl w 4 v1 eCue C) (hT : Sl w 4 v2 eTitle T) (hb : p.size ≤ 24 ∧ C.length ≤ 6 ∧ T.length ≤ 20) :
    Calls Tryz.prog 222 #[.pointer (some ⟨g, 0, none⟩)] w fun e w' => e = .returned (.string (deskS p C T)) ∧ Below w.heap.size w w' := by
  obtain ⟨A1, c1, rfl⟩ := hC.sliceD
  obtain ⟨A2, c2, rfl⟩ := hT.sliceD
  obtain ⟨d0, d1, d2, d3, d4⟩ := id hD
  obtain ⟨b1, b2, b3⟩ := hb
  have s1 := decS_size (n := (C.length : Int)) (by omega)
  have s2 := decS_size (n := (T.length : Int)) (by omega)
  have g1 := gro_cell d1
  have g2 := gro_cell d2
  have g3 := gro_cell d3
  clear d1 d2 d3 d4 hC hT hD
  go_enter Tryz.func222, Tryz.ntmps222
  go_wp2_with fail
  refine wp_region_calm (by kernel_rfl) (by kernel_rfl) ?_
  repeat (first | go_big_quiet_step ((go_at_call 167; exact calm_of (dec_spec _ _ (by omega)))) | quiet_step ((go_at_call 167; exact calm_of (dec_spec _ _ (by omega)))))
  refine wpQuiet_nil ?_
  rintro w2 ⟨x, rfl⟩
  have hb3 := gro_below x
  clear g1 g2 g3
  go_wp2_with fail
  go_ret
  exact ⟨rfl, hb3⟩
set_option maxRecDepth 100000 in
set_option maxHeartbeats 8000000 in
theorem text_impl (w : World) (p q : ByteArray) (v1 v2 : Value) (C : List TCue) (T : List TTitle) (hC : Sl w 4 v1 eCue C) (hT : Sl w 4 v2 eTitle T) (hp : p.size ≤ 1048576) (hq : q.size ≤ 1048576) (hsh : Shop w) :
    Calls Tryz.prog 11 #[.agg #[.string p, v1, v2, .string q]] w fun e w' => e = .returned (.string (textD p C T q)) ∧ Below w.heap.size w w' := by
  obtain ⟨A1, c1, rfl⟩ := hC.sliceD
  obtain ⟨A2, c2, rfl⟩ := hT.sliceD
  have hD := desk_new w p (.slice A1 C.length c1) (.slice A2 T.length c2) q 29
  have B1 := (Below.refl w.heap.size w).alloc (Nat.le_refl _) (.cells #[.string p, .slice A1 C.length c1, .slice A2 T.length c2, .string q] 29)
  have HSH := hd (hsh.below B1)
  clear hsh
  obtain ⟨d0, d1, d2, d3, d4⟩ := id hD
  go_enter Tryz.func11, Tryz.ntmps11
  go_wp2_with fail
  generalize w.alloc (.cells #[.string p, .slice A1 C.length c1, .slice A2 T.length c2, .string q] 29) = w1 at hD B1 HSH d0 d1 d2 d3 d4 ⊢
  refine (desk_impl _ p q _ _ C T (hC.below B1) (hT.below B1) hp hq HSH.out).mono ?_
  rintro e w2 ⟨rfl, hb2⟩
  clear d0 d1 d2 d3 d4
  rcases ho : okDeskB p C T q with _ | _
  · have HR := hd (show textD p C T q = ⟨#[]⟩ by unfold textD; rw [ho]; rfl)
    go_wp2_with fail
    go_ret
    exact ⟨by rw [HR.out]; rfl, below_step B1 hb2⟩
  have HR := hd (show textD p C T q = deskS p C T by unfold textD; rw [if_pos ho])
  obtain ⟨b1, b2, b3⟩ := okDesk_bd ho
  have s1 := decS_size (n := (C.length : Int)) (by omega)
  have s2 := decS_size (n := (T.length : Int)) (by omega)
  obtain ⟨d0, d1, d2, d3, d4⟩ := hD.below hb2
  have g1 := gro_cell d1
  have g2 := gro_cell d2
  have g3 := gro_cell d3
  have HTB := hd (show ∀ x : Ext w2, Tab (gro w2 x) from fun x => (HSH.out.1.below hb2).below (gro_below x))
  clear d1 d2 d3 d4 ho
  go_wp2_with fail
  refine wp_region_calm (by kernel_rfl) (by kernel_rfl) ?_
  repeat (first | go_big_quiet_step ((go_at_call 36; exact calm_of (dec_impl _ _ (by omega) (HTB.out _)))) | quiet_step ((go_at_call 36; exact calm_of (dec_impl _ _ (by omega) (HTB.out _)))))
  refine wpQuiet_nil ?_
  rintro w3 ⟨x, rfl⟩
  have hb3 := gro_below x
  clear g1 g2 g3
  go_wp2_with fail
  go_ret
  exact ⟨by rw [HR.out]; rfl, below_step (below_step B1 hb2) hb3⟩
end Go.Proofs.YtgcodjkjdfahdaaGreatDoor
