/- Valid halls and roads: the reference and the program say of the same halls and roads that they are valid. No condition but that the slices read. -/
import Derived.Test.YtlgcehdklpbknaaRoads
import Derived.Test.YtlgcehdklpbknaaSHall
namespace Go.Proofs.Ytlgcehdklpbknaa
open Go Go.RowKit Go.ChangeShapes Go.WideShapes
set_option linter.unusedSimpArgs false
set_option linter.unusedVariables false

def okHallB (x : THall) : Bool := inB x.2.1 0 365 && (inB x.1 0 x.2.1 && inB x.2.2 0 1000000)
theorem okHall_impl (a b c : Int) : okHallB (a, b, c) = (inB a 0 365 && (inB b a 365 && inB c 0 1000000)) := by
  unfold okHallB inB
  rw [Bool.eq_iff_iff]
  simp
  omega
def daysOk (l : List Int) (n : Nat) : Bool := !(l.any fun x => !inB x 0 30) && decide (l.length = n)
def rowOkAt (R : List (List Int)) (n i : Nat) : Bool := daysOk (R.getD i []) n && ((R.getD i []).getD i 0 == 0)
def rowsOk (R : List (List Int)) (n : Nat) : Bool := allTo (rowOkAt R n) n
def validR (H : List Int) (R : List (List Int)) (n : Nat) : Bool := daysOk H n && (decide (R.length = n) && rowsOk R n)
def okHalls (l : List THall) (H : List Int) (R : List (List Int)) : Bool := !(l.any fun x => !okHallB x) && (decide (l.length ≤ 6) && validR H R l.length)
theorem daysOk_len {l : List Int} {n : Nat} (h : daysOk l n = true) : l.length = n := by simp [daysOk] at h; exact h.2
theorem daysOk_at {l : List Int} {n : Nat} (h : daysOk l n = true) (k : Nat) (hk : k < l.length) : 0 ≤ l[k] ∧ l[k] ≤ 30 := by
  simp only [daysOk, Bool.and_eq_true, Bool.not_eq_true'] at h
  have := List.any_eq_false.1 h.1 l[k] (List.getElem_mem hk)
  exact inB_true (by simpa using this)
theorem rowsOf_getD (L : List TRow) (k : Nat) (h : k < L.length) : (rowsOf L).getD k [] = L[k].2 := by simp [rowsOf, h]
theorem rowsOf_len (L : List TRow) : (rowsOf L).length = L.length := by simp [rowsOf]
theorem rowOk_at {L : List TRow} {n k : Nat} (h : k < L.length) : rowOkAt (rowsOf L) n k = (daysOk L[k].2 n && (L[k].2.getD k 0 == 0)) := by unfold rowOkAt; rw [rowsOf_getD L k h]

theorem pred_roadDay (x : Int) (w : World) : Calls Try.prog 120 #[.int .i64 x] w fun e w' => e = .returned (.bool (!inB x 0 30)) ∧ w' = w := by
  go_enter Try.func120, Try.ntmps120
  go_wp2_with (go_at_call 111; refine (in_impl _ _ _ _).mono ?_; rintro e w' ⟨rfl, rfl⟩)
  go_ret
  exact ⟨rfl, rfl⟩

set_option maxHeartbeats 1000000 in
theorem index_roadDay (w : World) (v : Value) (l : List Int) (h : Sl w 1 v eI l) :
    Calls Try.prog 149 #[v, .func (.func 120) #[] #[]] w fun e w' => e = .returned (.int .i64 (idxGo (fun x : Int => !inB x 0 30) l 0)) ∧ w' = w := by
  have m1 := h.len
  obtain ⟨-, A, c, rfl, -, -, -⟩ := id h
  go_enter Try.func149, Try.ntmps149
  go_wp2_with fail
  go_loop [8] (fun i => ∃ k : Nat, k ≤ l.length ∧ i = .int .i64 k ∧ Hid (idxGo (fun x : Int => !inB x 0 30) (l.drop k) k = idxGo (fun x : Int => !inB x 0 30) l 0)) (fun i => l.length - (intOf i).toNat)
  case atStart => exact ⟨0, Nat.zero_le _, rfl, hd (by simp)⟩
  case round =>
    obtain ⟨k, hk, rfl, HT⟩ := hrel
    by_cases hlt : k < l.length
    · obtain ⟨b, o, rfl, hb, hc⟩ := h.int_at hlt
      have HS := hd (HT.out.symm.trans (idxGo_drop (fun x : Int => !inB x 0 30) l k k hlt))
      generalize l[k] = x at hc HS
      rcases hp : (fun x : Int => !inB x 0 30) x with _ | _
      · go_wp2_with (go_at_call 120; refine (pred_roadDay x _).mono ?_; rintro e w' ⟨rfl, rfl⟩)
        go_round
        case rel => exact ⟨k + 1, by omega, by go_num, hd (by have := HS.out; rw [hp] at this; exact this.symm)⟩
        case measure => simp [intOf]; omega
      · go_wp2_with (go_at_call 120; refine (pred_roadDay x _).mono ?_; rintro e w' ⟨rfl, rfl⟩)
        go_ret
        exact ⟨by rw [HS.out, hp]; rfl, rfl⟩
    · go_wp2_with fail
      go_ret
      exact ⟨by rw [← HT.out, List.drop_of_length_le (by omega)]; rfl, rfl⟩
theorem contains_roadDay (w : World) (v : Value) (l : List Int) (h : Sl w 1 v eI l) :
    Calls Try.prog 121 #[v, .func (.func 120) #[] #[]] w fun e w' => e = .returned (.bool (l.any (fun x : Int => !inB x 0 30))) ∧ w' = w := by
  rw [← idxGo_nonneg (fun x : Int => !inB x 0 30) l 0 (by omega)]
  go_enter Try.func121, Try.ntmps121
  go_wp2_with (go_at_call 149; refine (index_roadDay _ _ _ h).mono ?_; rintro e w' ⟨rfl, rfl⟩)
  go_ret
  exact ⟨rfl, rfl⟩

set_option maxHeartbeats 1000000 in
theorem hallPred (w : World) (a b c : Int) : Calls Try.prog 151 #[.agg #[.int .i64 a, .int .i64 b, .int .i64 c]] w fun e w' => e = .returned (.bool (!okHallB (a, b, c))) ∧ Below w.heap.size w w' := by
  rw [okHall_impl]
  rcases h1 : inB a 0 365 with _ | _
  · go_enter Try.func151, Try.ntmps151
    go_wp2_with (go_at_call 111; refine (in_impl _ _ _ _).mono ?_; rintro e w1 ⟨rfl, hw⟩; have hw := hw.symm; subst hw)
    go_ret
    exact ⟨by simp [h1], (Below.refl _ _).alloc (Nat.le_refl _) _⟩
  rcases h2 : inB b a 365 with _ | _
  · go_enter Try.func151, Try.ntmps151
    go_wp2_with (go_at_call 111; refine (in_impl _ _ _ _).mono ?_; rintro e w1 ⟨rfl, hw⟩; have hw := hw.symm; subst hw)
    go_ret
    exact ⟨by simp [h1, h2], (Below.refl _ _).alloc (Nat.le_refl _) _⟩
  rcases h3 : inB c 0 1000000 with _ | _
  · go_enter Try.func151, Try.ntmps151
    go_wp2_with (go_at_call 111; refine (in_impl _ _ _ _).mono ?_; rintro e w1 ⟨rfl, hw⟩; have hw := hw.symm; subst hw)
    go_ret
    exact ⟨by simp [h1, h2, h3], (Below.refl _ _).alloc (Nat.le_refl _) _⟩
  · go_enter Try.func151, Try.ntmps151
    go_wp2_with (go_at_call 111; refine (in_impl _ _ _ _).mono ?_; rintro e w1 ⟨rfl, hw⟩; have hw := hw.symm; subst hw)
    go_ret
    exact ⟨by simp [h1, h2, h3], (Below.refl _ _).alloc (Nat.le_refl _) _⟩

set_option maxHeartbeats 1000000 in
theorem index_halls (w : World) (v : Value) (l : List THall) (h : Sl w 3 v eHall l) :
    Calls Try.prog 171 #[v, .func (.func 151) #[] #[]] w fun e w' => e = .returned (.int .i64 (idxGo (fun x => !okHallB x) l 0)) ∧ Below w.heap.size w w' := by
  have m1 := h.len
  obtain ⟨-, A, c, rfl, -, -, -⟩ := id h
  go_enter Try.func171, Try.ntmps171
  go_wp2_with fail
  go_loopw [8] (fun i wr => ∃ k : Nat, k ≤ l.length ∧ i = .int .i64 k ∧ Below w.heap.size w wr ∧ Hid (idxGo (fun x => !okHallB x) (l.drop k) k = idxGo (fun x => !okHallB x) l 0)) (fun i _ => l.length - (intOf i).toNat)
  case atStart => exact ⟨0, Nat.zero_le _, rfl, Below.refl _ _, hd (by simp)⟩
  case round =>
    obtain ⟨k, hk, rfl, hbel, HT⟩ := hrel
    by_cases hlt : k < l.length
    · obtain ⟨b, o, rfl, hb, p0, p1, p2⟩ := (h.below hbel).Hall_at hlt
      have HS := hd (HT.out.symm.trans (idxGo_drop (fun x => !okHallB x) l k k hlt))
      generalize l[k] = x at p0 p1 p2 HS
      obtain ⟨xa, xb, xc⟩ := x
      dsimp only at p0 p1 p2
      rcases hp : !okHallB (xa, xb, xc) with _ | _
      · go_wp2_with fail
        refine (hallPred _ _ _ _).mono ?_
        rintro e w2 ⟨rfl, hb2⟩
        have hbel2 := below_step hbel hb2
        rw [hp]
        go_wp2_with fail
        go_roundw
        case rel => exact ⟨k + 1, by omega, by go_num, hbel2, hd (by have := HS.out; rw [hp] at this; exact this.symm)⟩
        case measure => simp [intOf]; omega
      · go_wp2_with fail
        refine (hallPred _ _ _ _).mono ?_
        rintro e w2 ⟨rfl, hb2⟩
        have hbel2 := below_step hbel hb2
        rw [hp]
        go_wp2_with fail
        go_ret
        exact ⟨by rw [HS.out, hp]; rfl, hbel2⟩
    · go_wp2_with fail
      go_ret
      exact ⟨by rw [← HT.out, List.drop_of_length_le (by omega)]; rfl, hbel⟩
theorem contains_halls (w : World) (v : Value) (l : List THall) (h : Sl w 3 v eHall l) :
    Calls Try.prog 150 #[v, .func (.func 151) #[] #[]] w fun e w' => e = .returned (.bool (l.any (fun x => !okHallB x))) ∧ Below w.heap.size w w' := by
  rw [← idxGo_nonneg (fun x => !okHallB x) l 0 (by omega)]
  go_enter Try.func150, Try.ntmps150
  go_wp2_with fail
  refine (index_halls _ _ _ h).mono ?_
  rintro e w' ⟨rfl, hb⟩
  go_wp2_with fail
  go_ret
  exact ⟨rfl, hb⟩

theorem any_len_no {l : List Int} {n : Nat} (h : ¬ l.length = n) : daysOk l n = false := by simp [daysOk, h]
theorem any_bad {l : List Int} {n : Nat} (h : (l.any fun x => !inB x 0 30) = true) : daysOk l n = false := by unfold daysOk; rw [h]; rfl
theorem any_good {l : List Int} {n : Nat} (h : (l.any fun x => !inB x 0 30) = false) (hn : l.length = n) : daysOk l n = true := by unfold daysOk; rw [h]; simp [hn]
set_option maxHeartbeats 2000000 in
theorem valid_impl (w : World) (v1 v2 : Value) (H : List Int) (L : List TRow) (h1 : Sl w 1 v1 eI H) (h2 : SlR w v2 L) (n : Nat) (hn : n ≤ 9223372036854775807) :
    Calls Try.prog 63 #[.agg #[v1, v2], .int .i64 n] w fun e w' => e = .returned (.bool (validR H (rowsOf L) n)) ∧ Below w.heap.size w w' := by
  have m1 := h1.len
  have m2 := h2.len
  obtain ⟨A1, c1, rfl⟩ := h1.slice
  obtain ⟨A2, c2, rfl⟩ := h2.1.slice
  have hb := (Below.refl w.heap.size w).alloc (Nat.le_refl _) (.cells #[.slice A1 H.length c1, .slice A2 L.length c2] 28)
  have s1 := h1.below hb
  have s2 := h2.below hb
  have p0 := new_cell w #[.slice A1 H.length c1, .slice A2 L.length c2] 28 0 _ rfl
  have p1 := new_cell w #[.slice A1 H.length c1, .slice A2 L.length c2] 28 1 _ rfl
  clear h1 h2
  by_cases q1 : H.length = n
  case neg =>
    have HE := hd (show validR H (rowsOf L) n = false by unfold validR; rw [any_len_no q1]; rfl)
    have b1 : (((H.length : Nat) : Int) != (n : Int)) = true := by simp; omega
    clear q1
    go_enter Try.func63, Try.ntmps63
    go_wp2_with fail
    go_ret
    exact ⟨by rw [HE.out]; rfl, hb⟩
  have b1 : (((H.length : Nat) : Int) != (n : Int)) = false := by simp; omega
  have Q1 := hd q1
  clear q1
  by_cases q2 : L.length = n
  case neg =>
    have HE := hd (show validR H (rowsOf L) n = false by unfold validR; rw [rowsOf_len, decide_eq_false q2, Bool.false_and, Bool.and_false])
    have b2 : (((L.length : Nat) : Int) != (n : Int)) = true := by simp; omega
    clear q2
    go_enter Try.func63, Try.ntmps63
    go_wp2_with fail
    go_ret
    exact ⟨by rw [HE.out]; rfl, hb⟩
  have b2 : (((L.length : Nat) : Int) != (n : Int)) = false := by simp; omega
  have Q2 := hd q2
  clear q2
  have HV := hd (show validR H (rowsOf L) n = (daysOk H n && rowsOk (rowsOf L) n) by unfold validR; rw [rowsOf_len, decide_eq_true Q2.out, Bool.true_and])
  go_enter Try.func63, Try.ntmps63
  go_wp2_with fail
  generalize w.alloc (.cells #[.slice A1 H.length c1, .slice A2 L.length c2] 28) = w0 at hb s1 s2 p0 p1 ⊢
  go_loop [23] (fun i => ∃ k : Nat, k ≤ L.length ∧ i = .int .i64 k ∧ Hid (∀ j, j < k → rowOkAt (rowsOf L) n j = true)) (fun i => L.length - (intOf i).toNat)
  case atStart => exact ⟨0, Nat.zero_le _, rfl, hd (by omega)⟩
  case round =>
    obtain ⟨k, hk, rfl, HT⟩ := hrel
    by_cases hlt : k < L.length
    · have HX := hd (rowOk_at (n := n) hlt)
      obtain ⟨b, o, rfl, -, hc, hrow⟩ := s2.row_at hlt
      have HNO : rowOkAt (rowsOf L) n k = false → Hid (validR H (rowsOf L) n = false) := fun h => hd (by rw [HV.out, show rowsOk (rowsOf L) n = false from allTo_false (by have := Q2.out; omega) h, Bool.and_false])
      have HN := hd HNO
      clear HNO
      generalize L[k] = x at hc hrow HX
      obtain ⟨xv, xl⟩ := x
      dsimp only at hc hrow HX
      have mx := hrow.len
      obtain ⟨A3, c3, rfl⟩ := hrow.slice
      by_cases q3 : xl.length = n
      case neg =>
        have HE := HN.out (by rw [HX.out]; unfold daysOk; rw [decide_eq_false q3, Bool.and_false, Bool.false_and])
        have b3 : (((xl.length : Nat) : Int) != (n : Int)) = true := by simp; omega
        clear q3
        go_wp2_with fail
        go_ret
        exact ⟨by rw [HE.out]; rfl, hb⟩
      have b3 : (((xl.length : Nat) : Int) != (n : Int)) = false := by simp; omega
      have hkx : k < xl.length := by have := Q2.out; omega
      have Q3 := hd q3
      clear q3
      rcases q4 : xl.any (fun x => !inB x 0 30) with _ | _
      case true =>
        have HE := HN.out (by rw [HX.out, any_bad q4]; rfl)
        go_wp2_with fail
        refine (contains_roadDay _ _ _ hrow).mono ?_
        rintro e w2 ⟨rfl, hw⟩
        have hw := hw.symm
        subst hw
        simp only [q4]
        go_wp2_with fail
        go_ret
        exact ⟨by rw [HE.out]; rfl, hb⟩
      have HD := hd (any_good q4 Q3.out)
      obtain ⟨b', o', hA3, -, hc3⟩ := hrow.int_at hkx
      have HG := hd (show xl.getD k 0 = xl[k] by simp [hkx])
      subst hA3
      rcases q5 : (xl[k] == 0) with _ | _
      · have HE := HN.out (by rw [HX.out, HD.out, HG.out, q5]; rfl)
        have b5 : (xl[k] != 0) = true := by simp [bne, q5]
        clear q5
        go_wp2_with fail
        refine (contains_roadDay _ _ _ hrow).mono ?_
        rintro e w2 ⟨rfl, hw⟩
        have hw := hw.symm
        subst hw
        simp only [q4]
        go_wp2_with fail
        go_ret
        exact ⟨by rw [HE.out]; rfl, hb⟩
      · have HT' := hd (allTo_step HT.out (show rowOkAt (rowsOf L) n k = true by rw [HX.out, HD.out, HG.out, q5]; rfl))
        have b5 : (xl[k] != 0) = false := by simp [bne, q5]
        clear q5
        go_wp2_with fail
        refine (contains_roadDay _ _ _ hrow).mono ?_
        rintro e w2 ⟨rfl, hw⟩
        have hw := hw.symm
        subst hw
        simp only [q4]
        go_wp2_with fail
        go_round
        case rel => exact ⟨k + 1, by omega, by go_num, HT'⟩
        case measure => simp [intOf]; omega
    · have HE := hd (show validR H (rowsOf L) n = !(H.any fun x => !inB x 0 30) by
        rw [HV.out, show rowsOk (rowsOf L) n = true from allTo_true (fun i hi => HT.out i (by have := Q2.out; omega)), Bool.and_true]
        unfold daysOk
        rw [decide_eq_true Q1.out, Bool.and_true])
      go_wp2_with fail
      refine (contains_roadDay _ _ _ s1).mono ?_
      rintro e w2 ⟨rfl, hw⟩
      have hw := hw.symm
      subst hw
      go_wp2_with fail
      go_ret
      exact ⟨by rw [HE.out]; rfl, hb⟩

set_option maxHeartbeats 1000000 in
theorem halls_impl (w : World) (v : Value) (l : List THall) (h : Sl w 3 v eHall l) (v1 v2 : Value) (H : List Int) (L : List TRow) (h1 : Sl w 1 v1 eI H) (h2 : SlR w v2 L) :
    Calls Try.prog 123 #[v, .agg #[v1, v2]] w fun e w' => e = .returned (.bool (okHalls l H (rowsOf L))) ∧ Below w.heap.size w w' := by
  have m0 := h.len
  obtain ⟨A, c, rfl⟩ := h.slice
  obtain ⟨A1, c1, rfl⟩ := h1.slice
  obtain ⟨A2, c2, rfl⟩ := h2.1.slice
  have hb := (Below.refl w.heap.size w).alloc (Nat.le_refl _) (.cells #[.slice A1 H.length c1, .slice A2 L.length c2] 28)
  have s1 := h1.below hb
  have s2 := h2.below hb
  by_cases q1 : l.length ≤ 6
  case neg =>
    have HE := hd (show okHalls l H (rowsOf L) = false by unfold okHalls; rw [decide_eq_false q1, Bool.false_and, Bool.and_false])
    have b1 : (6 : Int) < (l.length : Int) := by omega
    clear q1
    go_enter Try.func123, Try.ntmps123
    go_wp2_with fail
    go_ret
    exact ⟨by rw [HE.out]; rfl, hb⟩
  have HE := hd (show okHalls l H (rowsOf L) = (!(l.any fun x => !okHallB x) && validR H (rowsOf L) l.length) by unfold okHalls; rw [decide_eq_true q1, Bool.true_and])
  have b1 : (l.length : Int) ≤ 6 := by omega
  clear q1
  rcases q2 : validR H (rowsOf L) l.length with _ | _
  · have HF := hd (show okHalls l H (rowsOf L) = false by rw [HE.out, q2, Bool.and_false])
    go_enter Try.func123, Try.ntmps123
    go_wp2_with fail
    refine (valid_impl _ _ _ _ _ s1 s2 _ (by omega)).mono ?_
    rintro e w1 ⟨rfl, hb1⟩
    have hb2 := below_step hb hb1
    rw [q2]
    go_wp2_with fail
    go_ret
    exact ⟨by rw [HF.out]; rfl, hb2⟩
  · have HF := hd (show okHalls l H (rowsOf L) = !(l.any fun x => !okHallB x) by rw [HE.out, q2, Bool.and_true])
    go_enter Try.func123, Try.ntmps123
    go_wp2_with fail
    refine (valid_impl _ _ _ _ _ s1 s2 _ (by omega)).mono ?_
    rintro e w1 ⟨rfl, hb1⟩
    have hb2 := below_step hb hb1
    rw [q2]
    go_wp2_with fail
    refine (contains_halls _ _ _ (h.below hb2)).mono ?_
    rintro e w3 ⟨rfl, hb3⟩
    have hb4 := below_step hb2 hb3
    go_wp2_with fail
    go_ret
    exact ⟨by rw [HF.out]; rfl, hb4⟩

theorem any_snoc {l : List Int} {k : Nat} (hk : k < l.length) (h : ∀ j (hj : j < l.length), j < k → inB l[j] 0 30 = true) (hx : inB l[k] 0 30 = true) : ∀ j (hj : j < l.length), j < k + 1 → inB l[j] 0 30 = true := by
  intro j hj hjk
  rcases Nat.lt_or_ge j k with q | q
  · exact h j hj q
  · obtain rfl : j = k := by omega
    exact hx
theorem any_none {l : List Int} (h : ∀ j (hj : j < l.length), inB l[j] 0 30 = true) : (l.any fun x => !inB x 0 30) = false := by
  rw [List.any_eq_false]
  intro x hx
  obtain ⟨j, hj, rfl⟩ := List.getElem_of_mem hx
  simp [h j hj]
theorem any_some {l : List Int} {k : Nat} (hk : k < l.length) (h : inB l[k] 0 30 = false) : (l.any fun x => !inB x 0 30) = true := by
  rw [List.any_eq_true]
  exact ⟨l[k], List.getElem_mem hk, by simp [h]⟩
set_option maxHeartbeats 1000000 in
theorem days_spec (w : World) (v : Value) (l : List Int) (h : Sl w 1 v eI l) (n : Nat) :
    Calls Try.prog 122 #[v, .int .i64 n] w fun e w' => e = .returned (.bool (daysOk l n)) ∧ w' = w := by
  have m1 := h.len
  obtain ⟨A, c, rfl⟩ := h.slice
  go_enter Try.func122, Try.ntmps122
  go_wp2_with fail
  go_loop [5] (fun i => ∃ k : Nat, k ≤ l.length ∧ i = .int .i64 k ∧ Hid (∀ j (hj : j < l.length), j < k → inB l[j] 0 30 = true)) (fun i => l.length - (intOf i).toNat)
  case atStart => exact ⟨0, Nat.zero_le _, rfl, hd (by omega)⟩
  case round =>
    obtain ⟨k, hk, rfl, HT⟩ := hrel
    by_cases hlt : k < l.length
    · obtain ⟨b, o, rfl, -, hc⟩ := h.int_at hlt
      rcases q : inB l[k] 0 30 with _ | _
      · have HE := hd (any_bad (n := n) (any_some hlt q))
        go_wp2_with (go_at_call 109; refine (in_spec _ _ _ _).mono ?_; rintro e w2 ⟨rfl, hw⟩; have hw := hw.symm; subst hw)
        go_ret
        exact ⟨by rw [HE.out]; rfl, rfl⟩
      · have HT' := hd (any_snoc hlt HT.out q)
        go_wp2_with (go_at_call 109; refine (in_spec _ _ _ _).mono ?_; rintro e w2 ⟨rfl, hw⟩; have hw := hw.symm; subst hw)
        go_round
        case rel => exact ⟨k + 1, by omega, by go_num, HT'⟩
        case measure => simp [intOf]; omega
    · have HE := hd (show daysOk l n = ((l.length : Int) == (n : Int)) by
        unfold daysOk
        rw [any_none (fun j hj => HT.out j hj (by omega)), Bool.not_false, Bool.true_and, Bool.eq_iff_iff, decide_eq_true_eq, beq_iff_eq]
        omega)
      go_wp2_with fail
      go_ret
      exact ⟨by rw [HE.out]; rfl, rfl⟩
set_option maxHeartbeats 2000000 in
theorem roads_spec (w : World) (g : Nat) (v1 v2 : Value) (p0 : w.cell? ⟨g, 0, none⟩ = some v1) (p1 : w.cell? ⟨g, 1, none⟩ = some v2) (H : List Int) (L : List TRow) (h1 : Sl w 1 v1 eI H) (h2 : SlR w v2 L) (n : Nat) (hn : n ≤ 9223372036854775807) :
    Calls Try.prog 65 #[.pointer (some ⟨g, 0, none⟩), .int .i64 n] w fun e w' => e = .returned (.bool (decide (n ≤ 6) && validR H (rowsOf L) n)) ∧ w' = w := by
  have m1 := h1.len
  have m2 := h2.len
  obtain ⟨A1, c1, rfl⟩ := h1.slice
  obtain ⟨A2, c2, rfl⟩ := h2.1.slice
  by_cases q0 : n ≤ 6
  case neg =>
    have HE := hd (show (decide (n ≤ 6) && validR H (rowsOf L) n) = false by rw [decide_eq_false q0, Bool.false_and])
    have b0 : (6 : Int) < (n : Int) := by omega
    clear q0
    go_enter Try.func65, Try.ntmps65
    go_wp2_with fail
    go_ret
    exact ⟨by rw [HE.out]; rfl, rfl⟩
  have b0 : (n : Int) ≤ 6 := by omega
  have HE0 := hd (show (decide (n ≤ 6) && validR H (rowsOf L) n) = (daysOk H n && (decide (L.length = n) && rowsOk (rowsOf L) n)) by rw [decide_eq_true q0, Bool.true_and]; unfold validR; rw [rowsOf_len])
  clear q0
  rcases q1 : daysOk H n with _ | _
  · have HE := hd (HE0.out.trans (show _ = false by rw [q1, Bool.false_and]))
    go_enter Try.func65, Try.ntmps65
    go_wp2_with (go_at_call 122; refine (days_spec _ _ _ h1 _).mono ?_; rintro e w2 ⟨rfl, hw⟩; have hw := hw.symm; subst hw)
    go_ret
    exact ⟨by rw [HE.out]; rfl, rfl⟩
  by_cases q2 : L.length = n
  case neg =>
    have HE := hd (HE0.out.trans (show _ = false by rw [q1, decide_eq_false q2]; rfl))
    have b2 : (((L.length : Nat) : Int) != (n : Int)) = true := by simp; omega
    clear q2
    go_enter Try.func65, Try.ntmps65
    go_wp2_with (go_at_call 122; refine (days_spec _ _ _ h1 _).mono ?_; rintro e w2 ⟨rfl, hw⟩; have hw := hw.symm; subst hw)
    go_ret
    exact ⟨by rw [HE.out]; rfl, rfl⟩
  have b2 : (((L.length : Nat) : Int) != (n : Int)) = false := by simp; omega
  have Q2 := hd q2
  have HV := hd (HE0.out.trans (show _ = rowsOk (rowsOf L) n by rw [q1, decide_eq_true q2]; rfl))
  clear q2 HE0
  go_enter Try.func65, Try.ntmps65
  go_wp2_with (go_at_call 122; refine (days_spec _ _ _ h1 _).mono ?_; rintro e w2 ⟨rfl, hw⟩; have hw := hw.symm; subst hw)
  clear q1
  go_loop [5] (fun i => ∃ k : Nat, k ≤ n ∧ i = .int .i64 k ∧ Hid (∀ j, j < k → rowOkAt (rowsOf L) n j = true)) (fun i => n - (intOf i).toNat)
  case atStart => exact ⟨0, Nat.zero_le _, rfl, hd (by omega)⟩
  case round =>
    obtain ⟨k, hk, rfl, HT⟩ := hrel
    by_cases hlt : k < n
    · have hltL : k < L.length := by have := Q2.out; omega
      have HX := hd (rowOk_at (n := n) hltL)
      obtain ⟨b, o, rfl, -, hc, hrow⟩ := h2.row_at hltL
      have HN := hd (fun (h : rowOkAt (rowsOf L) n k = false) => HV.out.trans (allTo_false hlt h))
      generalize L[k] = x at hc hrow HX
      obtain ⟨xv, xl⟩ := x
      dsimp only at hc hrow HX
      rcases q4 : daysOk xl n with _ | _
      · have HE := hd (HN.out (by rw [HX.out, q4]; rfl))
        go_wp2_with (go_at_call 122; refine (days_spec _ _ _ hrow _).mono ?_; rintro e w2 ⟨rfl, hw⟩; have hw := hw.symm; subst hw)
        go_ret
        exact ⟨by rw [HE.out]; rfl, rfl⟩
      have hkx : k < xl.length := by have := daysOk_len q4; omega
      obtain ⟨A3, c3, rfl⟩ := hrow.slice
      obtain ⟨b', o', hA3, -, hc3⟩ := hrow.int_at hkx
      have HG := hd (show xl.getD k 0 = xl[k] by simp [hkx])
      subst hA3
      rcases q5 : (xl[k] == 0) with _ | _
      · have HE := hd (HN.out (by rw [HX.out, q4, HG.out, q5]; rfl))
        have b5 : (xl[k] != 0) = true := by simp [bne, q5]
        clear q5
        go_wp2_with (go_at_call 122; refine (days_spec _ _ _ hrow _).mono ?_; rintro e w2 ⟨rfl, hw⟩; have hw := hw.symm; subst hw)
        go_ret
        exact ⟨by rw [HE.out]; rfl, rfl⟩
      · have HT' := hd (allTo_step HT.out (show rowOkAt (rowsOf L) n k = true by rw [HX.out, q4, HG.out, q5]; rfl))
        have b5 : (xl[k] != 0) = false := by simp [bne, q5]
        clear q5
        go_wp2_with (go_at_call 122; refine (days_spec _ _ _ hrow _).mono ?_; rintro e w2 ⟨rfl, hw⟩; have hw := hw.symm; subst hw)
        go_round
        case rel => exact ⟨k + 1, by omega, by go_num, HT'⟩
        case measure => simp [intOf]; omega
    · have HE := hd (HV.out.trans (show rowsOk (rowsOf L) n = true from allTo_true (fun i hi => HT.out i (by omega))))
      go_wp2_with fail
      go_ret
      exact ⟨by rw [HE.out]; rfl, rfl⟩

set_option maxHeartbeats 2000000 in
theorem halls_spec0 (w : World) (v : Value) (l : List THall) (h : Sl w 3 v eHall l) (g : Nat) (v1 v2 : Value) (p0 : w.cell? ⟨g, 0, none⟩ = some v1) (p1 : w.cell? ⟨g, 1, none⟩ = some v2) (H : List Int) (L : List TRow) (h1 : Sl w 1 v1 eI H) (h2 : SlR w v2 L) :
    Calls Try.prog 125 #[v, .pointer (some ⟨g, 0, none⟩)] w fun e w' => e = .returned (.bool (okHalls l H (rowsOf L))) ∧ Below w.heap.size w w' := by
  have m0 := h.len
  obtain ⟨A, c, rfl⟩ := h.slice
  go_enter Try.func125, Try.ntmps125
  go_wp2_with fail
  go_loopw [5] (fun i wr => ∃ k : Nat, k ≤ l.length ∧ i = .int .i64 k ∧ Below w.heap.size w wr ∧ Hid ((l.take k).any (fun x => !okHallB x) = false)) (fun i _ => l.length - (intOf i).toNat)
  case atStart => exact ⟨0, Nat.zero_le _, rfl, Below.refl _ _, hd (by simp)⟩
  case round =>
    obtain ⟨k, hk, rfl, hbel, HT⟩ := hrel
    by_cases hlt : k < l.length
    · obtain ⟨bb, o, rfl, -, r0, r1, r2⟩ := (h.below hbel).Hall_at hlt
      have HN := hd (fun (q : okHallB l[k] = false) => (show okHalls l H (rowsOf L) = false by unfold okHalls; rw [any_of_hit (fun x => !okHallB x) l k hlt (by simp [q])]; rfl))
      have HG := hd (fun (q : okHallB l[k] = true) => any_take_snoc (fun x => !okHallB x) l k hlt HT.out (by simp [q]))
      generalize l[k] = x at r0 r1 r2 HN HG
      obtain ⟨a, b, c⟩ := x
      dsimp only at r0 r1 r2
      have gA := gro_cell r0
      have gB := gro_cell r1
      have gC := gro_cell r2
      rcases q1 : inB b 0 365 with _ | _
      · have HE := hd (HN.out (by simp [okHallB, q1]))
        go_wp2_with fail
        refine wp_region_calm (by kernel_rfl) (by kernel_rfl) ?_
        repeat (first | go_big_quiet_step ((first | (go_at_call 109; exact calm_in_spec _ _ _ _ _))) | quiet_step ((first | (go_at_call 109; exact calm_in_spec _ _ _ _ _))))
        refine wpQuiet_nil ?_
        rintro w1 ⟨xw, rfl⟩
        have hb1 := below_step hbel (gro_below xw)
        go_wp2_with fail
        go_ret
        exact ⟨by rw [HE.out]; rfl, hb1⟩
      rcases q2 : inB a 0 b with _ | _
      · have HE := hd (HN.out (by simp [okHallB, q1, q2]))
        go_wp2_with fail
        refine wp_region_calm (by kernel_rfl) (by kernel_rfl) ?_
        repeat (first | go_big_quiet_step ((first | (go_at_call 109; exact calm_in_spec _ _ _ _ _))) | quiet_step ((first | (go_at_call 109; exact calm_in_spec _ _ _ _ _))))
        refine wpQuiet_nil ?_
        rintro w1 ⟨xw, rfl⟩
        have hb1 := below_step hbel (gro_below xw)
        go_wp2_with fail
        go_ret
        exact ⟨by rw [HE.out]; rfl, hb1⟩
      rcases q3 : inB c 0 1000000 with _ | _
      · have HE := hd (HN.out (by simp [okHallB, q1, q2, q3]))
        go_wp2_with fail
        refine wp_region_calm (by kernel_rfl) (by kernel_rfl) ?_
        repeat (first | go_big_quiet_step ((first | (go_at_call 109; exact calm_in_spec _ _ _ _ _))) | quiet_step ((first | (go_at_call 109; exact calm_in_spec _ _ _ _ _))))
        refine wpQuiet_nil ?_
        rintro w1 ⟨xw, rfl⟩
        have hb1 := below_step hbel (gro_below xw)
        go_wp2_with fail
        go_ret
        exact ⟨by rw [HE.out]; rfl, hb1⟩
      have HT' := hd (HG.out (show okHallB (a, b, c) = true by simp [okHallB, q1, q2, q3]))
      go_wp2_with fail
      refine wp_region_calm (by kernel_rfl) (by kernel_rfl) ?_
      repeat (first | go_big_quiet_step ((first | (go_at_call 109; exact calm_in_spec _ _ _ _ _))) | quiet_step ((first | (go_at_call 109; exact calm_in_spec _ _ _ _ _))))
      refine wpQuiet_nil ?_
      rintro w1 ⟨xw, rfl⟩
      have hb1 := below_step hbel (gro_below xw)
      go_wp2_with fail
      go_roundw
      case rel => exact ⟨k + 1, by omega, by go_num, hb1, HT'⟩
      case measure => simp [intOf]; omega

    · have HE := hd (show okHalls l H (rowsOf L) = (decide (l.length ≤ 6) && validR H (rowsOf L) l.length) by
        have := HT.out
        rw [List.take_of_length_le (by omega)] at this
        unfold okHalls
        rw [this]
        rfl)
      go_wp2_with fail
      refine (roads_spec _ g v1 v2 ((hbel.cell (World.block_lt_of_cell? w _ p0)).trans p0) ((hbel.cell (World.block_lt_of_cell? w _ p1)).trans p1) _ _ (h1.below hbel) (h2.below hbel) _ (by omega)).mono ?_
      rintro e w2 ⟨rfl, hw⟩
      have hw := hw.symm
      subst hw
      go_wp2_with fail
      go_ret
      exact ⟨by rw [HE.out]; rfl, hbel⟩
theorem halls_implR (w : World) (v : Value) (l : List THall) (h : Sl w 3 v eHall l) (v1 v2 : Value) (H : List Int) (L : List TRow) (h1 : Sl w 1 v1 eI H) (h2 : SlR w v2 L) (R : List (List Int)) (hR : rowsOf L = R) :
    Calls Try.prog 123 #[v, .agg #[v1, v2]] w fun e w' => e = .returned (.bool (okHalls l H R)) ∧ Below w.heap.size w w' := by
  subst hR
  exact halls_impl w v l h v1 v2 H L h1 h2

end Go.Proofs.Ytlgcehdklpbknaa
