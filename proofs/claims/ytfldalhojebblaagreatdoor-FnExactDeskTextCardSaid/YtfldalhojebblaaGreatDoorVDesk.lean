/- Valid desks and the text of a desk: the reference's functions and the program's. No condition but that the library's table, its two errors and its search variable lie as they are laid. -/
import Derived.Test.YtfldalhojebblaaGreatDoorLCode
import Derived.Test.YtfldalhojebblaaGreatDoorDesk
namespace Go.Proofs.YtfldalhojebblaaGreatDoor
open Go Go.RowKit Go.ChangeShapes Go.WideShapes
set_option linter.unusedSimpArgs false
set_option linter.unusedVariables false
def lettersB (s : ByteArray) : Bool := allTo (fun i => smallN (s.get! i).toNat) s.size
def okMotB (s : ByteArray) : Bool := lettersB s && inB s.size 1 24
theorem letters_bad {s : ByteArray} {k : Nat} (hk : k < s.size) (h : smallN (s.get! k).toNat = false) : okMotB s = false := by
  unfold okMotB lettersB
  rw [allTo_false hk h]
  rfl
theorem letters_all {s : ByteArray} (h : ∀ i, i < s.size → smallN (s.get! i).toNat = true) : okMotB s = inB s.size 1 24 := by
  unfold okMotB lettersB
  rw [allTo_true h]
  rfl
def okCueB (x : TCue) : Bool := inB x.1 0 10000 && (inB x.2.1 1 1000 && (inB x.2.2.1 1 4 && inB x.2.2.2 0 6))
def okCues (l : List TCue) : Bool := !(l.any fun x => !okCueB x) && decide (l.length ≤ 6)
theorem okCues_long {l : List TCue} (h : ¬ l.length ≤ 6) : okCues l = false := by simp [okCues, h]
theorem okCues_bad {l : List TCue} {k : Nat} (hk : k < l.length) (h : okCueB l[k] = false) : okCues l = false := by
  unfold okCues
  rw [any_of_hit (fun x => !okCueB x) l k hk (by simp [h])]
  rfl
theorem okCues_all {l : List TCue} (h : l.any (fun x => !okCueB x) = false) : okCues l = decide (l.length ≤ 6) := by
  unfold okCues
  rw [h]
  rfl
set_option maxRecDepth 100000 in
set_option maxHeartbeats 1000000 in
theorem mot_spec (w : World) (s : ByteArray) (hs : s.size ≤ 1048576) : Calls Tryz.prog 27 #[.string s] w fun e w' => e = .returned (.bool (okMotB s)) ∧ w' = w := by
  go_enter Tryz.func27, Tryz.ntmps27
  go_wp2_with fail
  go_loop [3] (fun i => ∃ k : Nat, k ≤ s.size ∧ i = .int .i64 k ∧ Hid (∀ j, j < k → smallN (s.get! j).toNat = true)) (fun i => s.size - (intOf i).toNat)
  case atStart => exact ⟨0, Nat.zero_le _, rfl, hd (fun j hj => absurd hj (Nat.not_lt_zero _))⟩
  case round =>
    obtain ⟨k, hk, rfl, HT⟩ := hrel
    by_cases hlt : k < s.size
    · have GK := hd (get_bang s k hlt)
      rcases h3 : smallN (s.get! k).toNat with _ | _
      · have HR := hd (letters_bad hlt h3)
        rw [GK.out] at h3
        rcases small_cases h3 with q | q
        all_goals
          clear h3
          go_wp2_with fail
          go_ret
          exact ⟨by rw [HR.out]; rfl, rfl⟩
      · have HN := hd (show ∀ j, j < k + 1 → smallN (s.get! j).toNat = true from fun j hj => by
          by_cases e : j = k
          · subst e; exact h3
          · exact HT.out j (by omega))
        rw [GK.out] at h3
        obtain ⟨q1, q2⟩ := small_true h3
        clear h3
        go_wp2_with fail
        go_round
        case rel => exact ⟨k + 1, by omega, by go_num, HN⟩
        case measure => simp [intOf]; omega
    · obtain rfl : k = s.size := by omega
      have HR := hd (letters_all HT.out)
      go_wp2_with fail
      refine (in_spec _ _ _ _).mono ?_
      rintro e w' ⟨rfl, hw⟩
      have hw := hw.symm
      subst hw
      go_wp2_with fail
      go_ret
      exact ⟨by rw [HR.out]; rfl, rfl⟩
set_option maxRecDepth 100000 in
set_option maxHeartbeats 1000000 in
theorem letters_impl (w : World) (s : ByteArray) (hs : s.size ≤ 1048576) : Calls Tryz.prog 32 #[.string s, .int .i64 24] w fun e w' => e = .returned (.bool (okMotB s)) ∧ w' = w := by
  go_enter Tryz.func32, Tryz.ntmps32
  go_wp2_with fail
  go_loop [5] (fun i => ∃ k : Nat, k ≤ s.size ∧ i = .int .i64 k ∧ Hid (∀ j, j < k → smallN (s.get! j).toNat = true)) (fun i => s.size - (intOf i).toNat)
  case atStart => exact ⟨0, Nat.zero_le _, rfl, hd (fun j hj => absurd hj (Nat.not_lt_zero _))⟩
  case round =>
    obtain ⟨k, hk, rfl, HT⟩ := hrel
    by_cases hlt : k < s.size
    · have GK := hd (get_bang s k hlt)
      rcases h3 : smallN (s.get! k).toNat with _ | _
      · have HR := hd (letters_bad hlt h3)
        rw [GK.out] at h3
        rcases small_cases h3 with q | q
        all_goals
          clear h3
          go_wp2_with fail
          go_ret
          exact ⟨by rw [HR.out]; rfl, rfl⟩
      · have HN := hd (show ∀ j, j < k + 1 → smallN (s.get! j).toNat = true from fun j hj => by
          by_cases e : j = k
          · subst e; exact h3
          · exact HT.out j (by omega))
        rw [GK.out] at h3
        obtain ⟨q1, q2⟩ := small_true h3
        clear h3
        go_wp2_with fail
        go_round
        case rel => exact ⟨k + 1, by omega, by go_num, HN⟩
        case measure => simp [intOf]; omega
    · obtain rfl : k = s.size := by omega
      have HR := hd (letters_all HT.out)
      by_cases h1 : 1 ≤ s.size
      case neg =>
        have HI := hd (show inB (s.size : Int) 1 24 = false from decide_eq_false (by omega))
        have hz : s.size = 0 := by omega
        have hz' : (s.size : Int) < 1 := by omega
        go_wp2_with fail
        go_ret
        exact ⟨by rw [HR.out, HI.out]; rfl, rfl⟩
      have HI := hd (show inB (s.size : Int) 1 24 = decide ((s.size : Int) ≤ 24) from decide_eq_decide.2 (by omega))
      go_wp2_with fail
      go_ret
      exact ⟨by rw [HR.out, HI.out]; rfl, rfl⟩
theorem mot_impl (w : World) (s : ByteArray) (hs : s.size ≤ 1048576) : Calls Tryz.prog 17 #[.string s] w fun e w' => e = .returned (.bool (okMotB s)) ∧ w' = w := by
  go_enter Tryz.func17, Tryz.ntmps17
  go_wp2_with fail
  refine (letters_impl _ _ hs).mono ?_
  rintro e w' ⟨rfl, hw⟩
  have hw := hw.symm
  subst hw
  go_wp2_with fail
  go_ret
  exact ⟨rfl, rfl⟩
set_option maxRecDepth 100000 in
set_option maxHeartbeats 2000000 in
theorem cuePred (w : World) (a b c d : Int) : Calls Tryz.prog 34 #[.agg #[.int .i64 a, .int .i64 b, .int .i64 c, .int .i64 d]] w fun e w' => e = .returned (.bool (!okCueB (a, b, c, d))) ∧ Below w.heap.size w w' := by
  rcases h1 : inB a 0 10000 with _ | _
  · go_enter Tryz.func34, Tryz.ntmps34
    go_wp2_with (go_at_call 35; refine (in_impl _ _ _ _).mono ?_; rintro e w1 ⟨rfl, hw⟩; have hw := hw.symm; subst hw)
    go_ret
    exact ⟨by simp [okCueB, h1], (Below.refl _ _).alloc (Nat.le_refl _) _⟩
  rcases h2 : inB b 1 1000 with _ | _
  · go_enter Tryz.func34, Tryz.ntmps34
    go_wp2_with (go_at_call 35; refine (in_impl _ _ _ _).mono ?_; rintro e w1 ⟨rfl, hw⟩; have hw := hw.symm; subst hw)
    go_ret
    exact ⟨by simp [okCueB, h1, h2], (Below.refl _ _).alloc (Nat.le_refl _) _⟩
  rcases h3 : inB c 1 4 with _ | _
  · go_enter Tryz.func34, Tryz.ntmps34
    go_wp2_with (go_at_call 35; refine (in_impl _ _ _ _).mono ?_; rintro e w1 ⟨rfl, hw⟩; have hw := hw.symm; subst hw)
    go_ret
    exact ⟨by simp [okCueB, h1, h2, h3], (Below.refl _ _).alloc (Nat.le_refl _) _⟩
  rcases h4 : inB d 0 6 with _ | _
  · go_enter Tryz.func34, Tryz.ntmps34
    go_wp2_with (go_at_call 35; refine (in_impl _ _ _ _).mono ?_; rintro e w1 ⟨rfl, hw⟩; have hw := hw.symm; subst hw)
    go_ret
    exact ⟨by simp [okCueB, h1, h2, h3, h4], (Below.refl _ _).alloc (Nat.le_refl _) _⟩
  go_enter Tryz.func34, Tryz.ntmps34
  go_wp2_with (go_at_call 35; refine (in_impl _ _ _ _).mono ?_; rintro e w1 ⟨rfl, hw⟩; have hw := hw.symm; subst hw)
  go_ret
  exact ⟨by simp [okCueB, h1, h2, h3, h4], (Below.refl _ _).alloc (Nat.le_refl _) _⟩
set_option maxHeartbeats 1000000 in
theorem index_cues (w : World) (v : Value) (l : List TCue) (h : Sl w 4 v eCue l) :
    Calls Tryz.prog 45 #[v, .func (.func 34) #[] #[]] w fun e w' => e = .returned (.int .i64 (idxGo (fun x => !okCueB x) l 0)) ∧ Below w.heap.size w w' := by
  have m1 := h.len
  obtain ⟨-, A, c, rfl, -, -, -⟩ := id h
  go_enter Tryz.func45, Tryz.ntmps45
  go_wp2_with fail
  go_loopw [8] (fun i wr => ∃ k : Nat, k ≤ l.length ∧ i = .int .i64 k ∧ Below w.heap.size w wr ∧ Hid (idxGo (fun x => !okCueB x) (l.drop k) k = idxGo (fun x => !okCueB x) l 0)) (fun i _ => l.length - (intOf i).toNat)
  case atStart => exact ⟨0, Nat.zero_le _, rfl, Below.refl _ _, hd (by simp)⟩
  case round =>
    obtain ⟨k, hk, rfl, hbel, HT⟩ := hrel
    by_cases hlt : k < l.length
    · obtain ⟨b, o, rfl, hb, p0, p1, p2, p3⟩ := (h.below hbel).Cue_at hlt
      have HS := hd (HT.out.symm.trans (idxGo_drop (fun x => !okCueB x) l k k hlt))
      generalize l[k] = x at p0 p1 p2 p3 HS
      obtain ⟨xa, xb, xc, xd⟩ := x
      dsimp only at p0 p1 p2 p3
      rcases hp : !okCueB (xa, xb, xc, xd) with _ | _
      · go_wp2_with fail
        refine (cuePred _ _ _ _ _).mono ?_
        rintro e w2 ⟨rfl, hb2⟩
        have hbel2 := below_step hbel hb2
        rw [hp]
        go_wp2_with fail
        go_roundw
        case rel => exact ⟨k + 1, by omega, by go_num, hbel2, hd (by have := HS.out; rw [hp] at this; exact this.symm)⟩
        case measure => simp [intOf]; omega
      · go_wp2_with fail
        refine (cuePred _ _ _ _ _).mono ?_
        rintro e w2 ⟨rfl, hb2⟩
        have hbel2 := below_step hbel hb2
        rw [hp]
        go_wp2_with fail
        go_ret
        exact ⟨by rw [HS.out, hp]; rfl, hbel2⟩
    · go_wp2_with fail
      go_ret
      exact ⟨by rw [← HT.out, List.drop_of_length_le (by omega)]; rfl, hbel⟩
theorem contains_cues (w : World) (v : Value) (l : List TCue) (h : Sl w 4 v eCue l) :
    Calls Tryz.prog 33 #[v, .func (.func 34) #[] #[]] w fun e w' => e = .returned (.bool (l.any (fun x => !okCueB x))) ∧ Below w.heap.size w w' := by
  rw [← idxGo_nonneg (fun x => !okCueB x) l 0 (by omega)]
  go_enter Tryz.func33, Tryz.ntmps33
  go_wp2_with fail
  refine (index_cues _ _ _ h).mono ?_
  rintro e w' ⟨rfl, hb⟩
  go_wp2_with fail
  go_ret
  exact ⟨rfl, hb⟩
theorem cues_impl (w : World) (v : Value) (l : List TCue) (h : Sl w 4 v eCue l) :
    Calls Tryz.prog 18 #[v] w fun e w' => e = .returned (.bool (okCues l)) ∧ Below w.heap.size w w' := by
  have m1 := h.len
  obtain ⟨A, c, rfl⟩ := h.sliceD
  by_cases hz : l.length ≤ 6
  case neg =>
    have HR := hd (okCues_long hz)
    have hz' : 6 < l.length := by omega
    go_enter Tryz.func18, Tryz.ntmps18
    go_wp2_with fail
    go_ret
    exact ⟨by rw [HR.out]; rfl, Below.refl _ _⟩
  have HR := hd (show okCues l = !(l.any fun x => !okCueB x) by unfold okCues; rw [decide_eq_true hz, Bool.and_true])
  go_enter Tryz.func18, Tryz.ntmps18
  go_wp2_with fail
  refine (contains_cues _ _ _ h).mono ?_
  rintro e w1 ⟨rfl, hb⟩
  rcases q : (l.any fun x => !okCueB x) with _ | _
  all_goals
    go_wp2_with fail
    go_ret
    exact ⟨by rw [HR.out, q]; rfl, hb⟩
set_option maxRecDepth 100000 in
set_option maxHeartbeats 4000000 in
theorem cues_spec (w : World) (v : Value) (l : List TCue) (h : Sl w 4 v eCue l) :
    Calls Tryz.prog 28 #[v] w fun e w' => e = .returned (.bool (okCues l)) ∧ Below w.heap.size w w' := by
  have m1 := h.len
  obtain ⟨A, cc, rfl⟩ := h.sliceD
  go_enter Tryz.func28, Tryz.ntmps28
  go_wp2_with fail
  go_loopw [3] (fun i wr => ∃ k : Nat, k ≤ l.length ∧ i = .int .i64 k ∧ Below w.heap.size w wr ∧ Hid (∀ j (hj : j < l.length), j < k → okCueB l[j] = true)) (fun i _ => l.length - (intOf i).toNat)
  case atStart => exact ⟨0, Nat.zero_le _, rfl, Below.refl _ _, hd (fun j _ hj => absurd hj (Nat.not_lt_zero _))⟩
  case round =>
    obtain ⟨k, hk, rfl, hbel, HT⟩ := hrel
    by_cases hlt : k < l.length
    · obtain ⟨bb, o, rfl, -, p0, p1, p2, p3⟩ := (h.below hbel).Cue_at hlt
      have HB := hd (fun hx => okCues_bad hlt hx)
      have HN := hd (fun (hx : okCueB l[k] = true) => (show ∀ j (hj : j < l.length), j < k + 1 → okCueB l[j] = true from fun j hj hj2 => by
        by_cases e : j = k
        · subst e; exact hx
        · exact HT.out j hj (by omega)))
      generalize l[k] = x at p0 p1 p2 p3 HB HN
      obtain ⟨a, b, c, d⟩ := x
      dsimp only at p0 p1 p2 p3
      have hbel' := hbel.alloc hbel.size (.cells #[.int .i64 a, .int .i64 b, .int .i64 c, .int .i64 d] 56)
      rcases h1 : inB a 0 10000 with _ | _
      · have HE := hd (HB.out (by simp [okCueB, h1]))
        clear HB HN
        go_wp2_with (go_at_call 43; refine (in_spec _ _ _ _).mono ?_; rintro e w1 ⟨rfl, hw⟩; have hw := hw.symm; subst hw)
        go_ret
        exact ⟨by rw [HE.out]; rfl, hbel'⟩
      rcases h2 : inB b 1 1000 with _ | _
      · have HE := hd (HB.out (by simp [okCueB, h1, h2]))
        clear HB HN
        go_wp2_with (go_at_call 43; refine (in_spec _ _ _ _).mono ?_; rintro e w1 ⟨rfl, hw⟩; have hw := hw.symm; subst hw)
        go_ret
        exact ⟨by rw [HE.out]; rfl, hbel'⟩
      rcases h3 : inB c 1 4 with _ | _
      · have HE := hd (HB.out (by simp [okCueB, h1, h2, h3]))
        clear HB HN
        go_wp2_with (go_at_call 43; refine (in_spec _ _ _ _).mono ?_; rintro e w1 ⟨rfl, hw⟩; have hw := hw.symm; subst hw)
        go_ret
        exact ⟨by rw [HE.out]; rfl, hbel'⟩
      rcases h4 : inB d 0 6 with _ | _
      · have HE := hd (HB.out (by simp [okCueB, h1, h2, h3, h4]))
        clear HB HN
        go_wp2_with (go_at_call 43; refine (in_spec _ _ _ _).mono ?_; rintro e w1 ⟨rfl, hw⟩; have hw := hw.symm; subst hw)
        go_ret
        exact ⟨by rw [HE.out]; rfl, hbel'⟩
      have HE := hd (HN.out (by simp [okCueB, h1, h2, h3, h4]))
      clear HB HN
      go_wp2_with (go_at_call 43; refine (in_spec _ _ _ _).mono ?_; rintro e w1 ⟨rfl, hw⟩; have hw := hw.symm; subst hw)
      go_roundw
      case rel => exact ⟨k + 1, by omega, by go_num, hbel', HE⟩
      case measure => simp [intOf]; omega
    · obtain rfl : k = l.length := by omega
      have HE := hd (okCues_all (l := l) (by
        rw [List.any_eq_false]
        intro x hx
        obtain ⟨j, hj, rfl⟩ := List.getElem_of_mem hx
        simp [HT.out j hj hj]))
      have HE2 := hd (show okCues l = decide ((l.length : Int) ≤ 6) by rw [HE.out]; exact decide_eq_decide.2 (by omega))
      go_wp2_with fail
      go_ret
      exact ⟨by rw [HE2.out]; rfl, hbel⟩
set_option maxRecDepth 100000 in
theorem isLog_impl (w : World) (s : ByteArray) (hs : s.size ≤ 1048576) (hsh : Shop w) :
    Calls Tryz.prog 20 #[.string s] w fun e w' => e = .returned (.bool (decide (lc s = 0))) ∧ Below w.heap.size w w' := by
  go_enter Tryz.func20, Tryz.ntmps20
  go_wp2_with fail
  refine (code_impl _ _ hs hsh).mono ?_
  rintro e w1 ⟨v, st, n, rfl, O, -, -, -, B⟩
  obtain ⟨A, cc, rfl⟩ := O.isSlice
  have B2 := hd (B.alloc B.size (.cells #[.slice A (eL s).length cc, .int .i64 st, .int .i64 n] 68))
  have HX := hd (show ((lc s == 0) : Bool) = decide (lc s = 0) by rw [Bool.eq_iff_iff]; simp)
  clear O B
  go_wp2_with fail
  go_ret
  exact ⟨by rw [← HX.out]; rfl, B2.out⟩
def okDeskB (p : ByteArray) (C : List TCue) (T : List TTitle) (q : ByteArray) : Bool := okMotB p && (okCues C && (okTitles T && decide (lc q = 0)))
/-- the four cells of a desk -/
def DeskAt (W : World) (g : Nat) (p : ByteArray) (v1 v2 : Value) (q : ByteArray) : Prop := g < W.heap.size ∧ W.cell? ⟨g, 0, none⟩ = some (.string p) ∧ W.cell? ⟨g, 1, none⟩ = some v1 ∧ W.cell? ⟨g, 2, none⟩ = some v2 ∧ W.cell? ⟨g, 3, none⟩ = some (.string q)
theorem DeskAt.below {W W' : World} {g : Nat} {p : ByteArray} {v1 v2 : Value} {q : ByteArray} (h : DeskAt W g p v1 v2 q) (hb : Below W.heap.size W W') : DeskAt W' g p v1 v2 q :=
  ⟨Nat.lt_of_lt_of_le h.1 hb.size, (hb.cell (p := ⟨g, 0, none⟩) h.1).trans h.2.1, (hb.cell (p := ⟨g, 1, none⟩) h.1).trans h.2.2.1, (hb.cell (p := ⟨g, 2, none⟩) h.1).trans h.2.2.2.1, (hb.cell (p := ⟨g, 3, none⟩) h.1).trans h.2.2.2.2⟩
theorem desk_new (w : World) (p : ByteArray) (v1 v2 : Value) (q : ByteArray) (T : TypeId) : DeskAt (w.alloc (.cells #[.string p, v1, v2, .string q] T)) w.heap.size p v1 v2 q :=
  ⟨by simp, new_cell w _ T 0 _ rfl, new_cell w _ T 1 _ rfl, new_cell w _ T 2 _ rfl, new_cell w _ T 3 _ rfl⟩
set_option maxRecDepth 100000 in
set_option maxHeartbeats 8000000 in
theorem deskOk_spec (w : World) (g : Nat) (p q : ByteArray) (v1 v2 : Value) (C : List TCue) (T : List TTitle) (hD : DeskAt w g p v1 v2 q) (hC : Sl w 4 v1 eCue C) (hT : Sl w 4 v2 eTitle T) (hp : p.size ≤ 1048576) (hq : q.size ≤ 1048576) :
    Calls Tryz.prog 14 #[.pointer (some ⟨g, 0, none⟩)] w fun e w' => e = .returned (.bool (okDeskB p C T q)) ∧ Below w.heap.size w w' := by
  obtain ⟨A1, c1, rfl⟩ := hC.sliceD
  obtain ⟨A2, c2, rfl⟩ := hT.sliceD
  obtain ⟨d0, d1, d2, d3, d4⟩ := id hD
  go_enter Tryz.func14, Tryz.ntmps14
  go_wp2_with fail
  refine (code_spec _ _ hq).mono ?_
  rintro e w1 ⟨gr, rfl, -, B1⟩
  obtain ⟨-, x1, x2, x3, x4⟩ := hD.below B1
  obtain ⟨x, hx⟩ : ∃ x, lc q = x := ⟨_, rfl⟩
  rw [hx]
  have HX := hd hx
  clear hx d0 d1 d2 d3 d4
  rcases hm : okMotB p with _ | _
  · have HR := hd (show okDeskB p C T q = false by unfold okDeskB; rw [hm]; rfl)
    go_wp2_with fail
    refine (mot_spec _ _ hp).mono ?_
    rintro e ww ⟨rfl, hw⟩
    have hw := hw.symm
    subst hw
    rw [hm]
    go_wp2_with fail
    go_ret
    exact ⟨by rw [HR.out]; rfl, B1⟩
  go_wp2_with fail
  refine (mot_spec _ _ hp).mono ?_
  rintro e ww ⟨rfl, hw⟩
  have hw := hw.symm
  subst hw
  rw [hm]
  go_wp2_with fail
  rcases hc : okCues C with _ | _
  · have HR := hd (show okDeskB p C T q = false by unfold okDeskB; rw [hm, hc]; rfl)
    refine (cues_spec _ _ _ (hC.below B1)).mono ?_
    rintro e w2 ⟨rfl, hb2⟩
    rw [hc]
    go_wp2_with fail
    go_ret
    exact ⟨by rw [HR.out]; rfl, below_step B1 hb2⟩
  refine (cues_spec _ _ _ (hC.below B1)).mono ?_
  rintro e w2 ⟨rfl, hb2⟩
  rw [hc]
  have B2 := below_step B1 hb2
  obtain ⟨-, y1, y2, y3, y4⟩ := hD.below B2
  clear x1 x2 x3 x4
  go_wp2_with fail
  rcases ht : okTitles T with _ | _
  · have HR := hd (show okDeskB p C T q = false by unfold okDeskB; rw [hm, hc, ht]; rfl)
    refine (titles_spec0 _ _ _ (hT.below B2)).mono ?_
    rintro e w3 ⟨rfl, hb3⟩
    rw [ht]
    go_wp2_with fail
    go_ret
    exact ⟨by rw [HR.out]; rfl, below_step B2 hb3⟩
  refine (titles_spec0 _ _ _ (hT.below B2)).mono ?_
  rintro e w3 ⟨rfl, hb3⟩
  rw [ht]
  have B3 := below_step B2 hb3
  have HR := hd (show okDeskB p C T q = (x == 0) by unfold okDeskB; rw [hm, hc, ht, HX.out, Bool.eq_iff_iff]; simp)
  clear y1 y2 y3 y4
  go_wp2_with fail
  go_ret
  exact ⟨by rw [HR.out]; rfl, B3⟩
set_option maxRecDepth 100000 in
set_option maxHeartbeats 8000000 in
theorem desk_impl (w : World) (p q : ByteArray) (v1 v2 : Value) (C : List TCue) (T : List TTitle) (hC : Sl w 4 v1 eCue C) (hT : Sl w 4 v2 eTitle T) (hp : p.size ≤ 1048576) (hq : q.size ≤ 1048576) (hsh : Shop w) :
    Calls Tryz.prog 8 #[.agg #[.string p, v1, v2, .string q]] w fun e w' => e = .returned (.bool (okDeskB p C T q)) ∧ Below w.heap.size w w' := by
  obtain ⟨A1, c1, rfl⟩ := hC.sliceD
  obtain ⟨A2, c2, rfl⟩ := hT.sliceD
  have hD := desk_new w p (.slice A1 C.length c1) (.slice A2 T.length c2) q 31
  have B1 := (Below.refl w.heap.size w).alloc (Nat.le_refl _) (.cells #[.string p, .slice A1 C.length c1, .slice A2 T.length c2, .string q] 31)
  have HSH := hd (hsh.below B1)
  clear hsh
  go_enter Tryz.func8, Tryz.ntmps8
  go_wp2_with fail
  generalize w.alloc (.cells #[.string p, .slice A1 C.length c1, .slice A2 T.length c2, .string q] 31) = w1 at hD B1 HSH ⊢
  obtain ⟨-, x1, x2, x3, x4⟩ := id hD
  rcases hm : okMotB p with _ | _
  · have HR := hd (show okDeskB p C T q = false by unfold okDeskB; rw [hm]; rfl)
    refine (mot_impl _ _ hp).mono ?_
    rintro e ww ⟨rfl, hw⟩
    have hw := hw.symm
    subst hw
    rw [hm]
    go_wp2_with fail
    go_ret
    exact ⟨by rw [HR.out]; rfl, B1⟩
  refine (mot_impl _ _ hp).mono ?_
  rintro e ww ⟨rfl, hw⟩
  have hw := hw.symm
  subst hw
  rw [hm]
  go_wp2_with fail
  rcases hc : okCues C with _ | _
  · have HR := hd (show okDeskB p C T q = false by unfold okDeskB; rw [hm, hc]; rfl)
    refine (cues_impl _ _ _ (hC.below B1)).mono ?_
    rintro e w2 ⟨rfl, hb2⟩
    rw [hc]
    go_wp2_with fail
    go_ret
    exact ⟨by rw [HR.out]; rfl, below_step B1 hb2⟩
  refine (cues_impl _ _ _ (hC.below B1)).mono ?_
  rintro e w2 ⟨rfl, hb2⟩
  rw [hc]
  have B2 := below_step B1 hb2
  obtain ⟨-, y1, y2, y3, y4⟩ := hD.below hb2
  clear x1 x2 x3 x4
  go_wp2_with fail
  rcases ht : okTitles T with _ | _
  · have HR := hd (show okDeskB p C T q = false by unfold okDeskB; rw [hm, hc, ht]; rfl)
    refine (titles_impl _ _ _ (hT.below B2)).mono ?_
    rintro e w3 ⟨rfl, hb3⟩
    rw [ht]
    go_wp2_with fail
    go_ret
    exact ⟨by rw [HR.out]; rfl, below_step B2 hb3⟩
  refine (titles_impl _ _ _ (hT.below B2)).mono ?_
  rintro e w3 ⟨rfl, hb3⟩
  rw [ht]
  have B3 := below_step B2 hb3
  have HR := hd (show okDeskB p C T q = decide (lc q = 0) by unfold okDeskB; rw [hm, hc, ht]; rfl)
  obtain ⟨-, z1, z2, z3, z4⟩ := hD.below (below_step hb2 hb3)
  clear y1 y2 y3 y4
  go_wp2_with fail
  refine (isLog_impl _ _ hq (HSH.out.below (below_step hb2 hb3))).mono ?_
  rintro e w4 ⟨rfl, hb4⟩
  go_wp2_with fail
  go_ret
  exact ⟨by rw [HR.out]; rfl, below_step B3 hb4⟩
set_option maxRecDepth 100000 in
theorem desk_spec (w : World) (p q : ByteArray) (v1 v2 : Value) (C : List TCue) (T : List TTitle) (hC : Sl w 4 v1 eCue C) (hT : Sl w 4 v2 eTitle T) (hp : p.size ≤ 1048576) (hq : q.size ≤ 1048576) :
    Calls Tryz.prog 6 #[.agg #[.string p, v1, v2, .string q]] w fun e w' => e = .returned (.bool (okDeskB p C T q)) ∧ Below w.heap.size w w' := by
  obtain ⟨A1, c1, rfl⟩ := hC.sliceD
  obtain ⟨A2, c2, rfl⟩ := hT.sliceD
  have hD := desk_new w p (.slice A1 C.length c1) (.slice A2 T.length c2) q 31
  have B1 := (Below.refl w.heap.size w).alloc (Nat.le_refl _) (.cells #[.string p, .slice A1 C.length c1, .slice A2 T.length c2, .string q] 31)
  go_enter Tryz.func6, Tryz.ntmps6
  go_wp2_with fail
  refine (deskOk_spec _ w.heap.size p q _ _ C T hD (hC.below B1) (hT.below B1) hp hq).mono ?_
  rintro e w2 ⟨rfl, hb2⟩
  go_wp2_with fail
  go_ret
  exact ⟨rfl, below_step B1 hb2⟩
end Go.Proofs.YtfldalhojebblaaGreatDoor
