/- Lemmas for the claim (the walks of its functions and their plain laws), joined. No condition. -/
import Derived.Test.YtgcodjkjdfahdaaGreatDoorJ25
import Derived.Test.YtgcodjkjdfahdaaGreatDoorJ15
namespace Go.Proofs.YtgcodjkjdfahdaaGreatDoor
open Go Go.RowKit Go.ChangeShapes Go.WideShapes
set_option linter.unusedSimpArgs false
set_option linter.unusedVariables false
def lettersB (s : ByteArray) : Bool := allTo (fun i => smallN (s.get! i).toNat) s.size
def okMotB (s : ByteArray) : Bool := lettersB s && inB s.size 1 24
theorem letters_bad {s : ByteArray} {k : Nat} (hk : k < s.size) (h : smallN (s.get! k).toNat = false) : okMotB s = false := by
  unfold okMotB lettersB
  rw [allTo_false hk h]
  rfl
theorem letters_all {s : ByteArray} (h : ∀ i, i < s.size → smallN (s.get! i).toNat = true) : okMotB s = inB s.size 1 24 := by
  unfold okMotB lettersB
  rw [allTo_true h]
  rfl
def okCueB (x : TCue) : Bool := inB x.1 0 10000 && (inB x.2.1 1 1000 && (inB x.2.2.1 1 4 && inB x.2.2.2 0 6))
def okCues (l : List TCue) : Bool := !(l.any fun x => !okCueB x) && decide (l.length ≤ 6)
theorem okCues_long {l : List TCue} (h : ¬ l.length ≤ 6) : okCues l = false := by simp [okCues, h]
theorem okCues_bad {l : List TCue} {k : Nat} (hk : k < l.length) (h : okCueB l[k] = false) : okCues l = false := by
  unfold okCues
  rw [any_of_hit (fun x => !okCueB x) l k hk (by simp [h])]
  rfl
theorem okCues_all {l : List TCue} (h : l.any (fun x => !okCueB x) = false) : okCues l = decide (l.length ≤ 6) := by
  unfold okCues
  rw [h]
  rfl
set_option maxRecDepth 100000 in
set_option maxHeartbeats 1000000 in
theorem mot_spec (w : World) (s : ByteArray) (hs : s.size ≤ 1048576) : Calls Tryz.prog 90 #[.string s] w fun e w' => e = .returned (.bool (okMotB s)) ∧ w' = w := by
  go_enter Tryz.func90, Tryz.ntmps90
  go_wp2_with fail
  go_loop [3] (fun i => ∃ k : Nat, k ≤ s.size ∧ i = .int .i64 k ∧ Hid (∀ j, j < k → smallN (s.get! j).toNat = true)) (fun i => s.size - (intOf i).toNat)
  case atStart => exact ⟨0, Nat.zero_le _, rfl, hd (fun j hj => absurd hj (Nat.not_lt_zero _))⟩
  case round =>
    obtain ⟨k, hk, rfl, HT⟩ := hrel
    by_cases hlt : k < s.size
    · have GK := hd (get_bang s k hlt)
      rcases h3 : smallN (s.get! k).toNat with _ | _
      · have HR := hd (letters_bad hlt h3)
        rw [GK.out] at h3
        rcases small_cases h3 with q | q
        all_goals
          clear h3
          go_wp2_with fail
          go_ret
          exact ⟨by rw [HR.out]; rfl, rfl⟩
      · have HN := hd (show ∀ j, j < k + 1 → smallN (s.get! j).toNat = true from fun j hj => by
          by_cases e : j = k
          · subst e; exact h3
          · exact HT.out j (by omega))
        rw [GK.out] at h3
        obtain ⟨q1, q2⟩ := small_true h3
        clear h3
        go_wp2_with fail
        go_round
        case rel => exact ⟨k + 1, by omega, by go_num, HN⟩
        case measure => simp [intOf]; omega
    · obtain rfl : k = s.size := by omega
      have HR := hd (letters_all HT.out)
      go_wp2_with fail
      refine (in_spec _ _ _ _).mono ?_
      rintro e w' ⟨rfl, hw⟩
      have hw := hw.symm
      subst hw
      go_wp2_with fail
      go_ret
      exact ⟨by rw [HR.out]; rfl, rfl⟩
set_option maxRecDepth 100000 in
set_option maxHeartbeats 1000000 in
theorem letters_impl (w : World) (s : ByteArray) (hs : s.size ≤ 1048576) : Calls Tryz.prog 120 #[.string s, .int .i64 24] w fun e w' => e = .returned (.bool (okMotB s)) ∧ w' = w := by
  go_enter Tryz.func120, Tryz.ntmps120
  go_wp2_with fail
  go_loop [5] (fun i => ∃ k : Nat, k ≤ s.size ∧ i = .int .i64 k ∧ Hid (∀ j, j < k → smallN (s.get! j).toNat = true)) (fun i => s.size - (intOf i).toNat)
  case atStart => exact ⟨0, Nat.zero_le _, rfl, hd (fun j hj => absurd hj (Nat.not_lt_zero _))⟩
  case round =>
    obtain ⟨k, hk, rfl, HT⟩ := hrel
    by_cases hlt : k < s.size
    · have GK := hd (get_bang s k hlt)
      rcases h3 : smallN (s.get! k).toNat with _ | _
      · have HR := hd (letters_bad hlt h3)
        rw [GK.out] at h3
        rcases small_cases h3 with q | q
        all_goals
          clear h3
          go_wp2_with fail
          go_ret
          exact ⟨by rw [HR.out]; rfl, rfl⟩
      · have HN := hd (show ∀ j, j < k + 1 → smallN (s.get! j).toNat = true from fun j hj => by
          by_cases e : j = k
          · subst e; exact h3
          · exact HT.out j (by omega))
        rw [GK.out] at h3
        obtain ⟨q1, q2⟩ := small_true h3
        clear h3
        go_wp2_with fail
        go_round
        case rel => exact ⟨k + 1, by omega, by go_num, HN⟩
        case measure => simp [intOf]; omega
    · obtain rfl : k = s.size := by omega
      have HR := hd (letters_all HT.out)
      by_cases h1 : 1 ≤ s.size
      case neg =>
        have HI := hd (show inB (s.size : Int) 1 24 = false from decide_eq_false (by omega))
        have hz : s.size = 0 := by omega
        have hz' : (s.size : Int) < 1 := by omega
        go_wp2_with fail
        go_ret
        exact ⟨by rw [HR.out, HI.out]; rfl, rfl⟩
      have HI := hd (show inB (s.size : Int) 1 24 = decide ((s.size : Int) ≤ 24) from decide_eq_decide.2 (by omega))
      go_wp2_with fail
      go_ret
      exact ⟨by rw [HR.out, HI.out]; rfl, rfl⟩
theorem mot_impl (w : World) (s : ByteArray) (hs : s.size ≤ 1048576) : Calls Tryz.prog 58 #[.string s] w fun e w' => e = .returned (.bool (okMotB s)) ∧ w' = w := by
  go_enter Tryz.func58, Tryz.ntmps58
  go_wp2_with fail
  refine (letters_impl _ _ hs).mono ?_
  rintro e w' ⟨rfl, hw⟩
  have hw := hw.symm
  subst hw
  go_wp2_with fail
  go_ret
  exact ⟨rfl, rfl⟩
set_option maxRecDepth 100000 in
set_option maxHeartbeats 2000000 in
theorem cuePred (w : World) (a b c d : Int) : Calls Tryz.prog 122 #[.agg #[.int .i64 a, .int .i64 b, .int .i64 c, .int .i64 d]] w fun e w' => e = .returned (.bool (!okCueB (a, b, c, d))) ∧ Below w.heap.size w w' := by
  rcases h1 : inB a 0 10000 with _ | _
  · go_enter Tryz.func122, Tryz.ntmps122
    go_wp2_with (go_at_call 67; refine (in_impl _ _ _ _).mono ?_; rintro e w1 ⟨rfl, hw⟩; have hw := hw.symm; subst hw)
    go_ret
    exact ⟨by simp [okCueB, h1], (Below.refl _ _).alloc (Nat.le_refl _) _⟩
  rcases h2 : inB b 1 1000 with _ | _
  · go_enter Tryz.func122, Tryz.ntmps122
    go_wp2_with (go_at_call 67; refine (in_impl _ _ _ _).mono ?_; rintro e w1 ⟨rfl, hw⟩; have hw := hw.symm; subst hw)
    go_ret
    exact ⟨by simp [okCueB, h1, h2], (Below.refl _ _).alloc (Nat.le_refl _) _⟩
  rcases h3 : inB c 1 4 with _ | _
  · go_enter Tryz.func122, Tryz.ntmps122
    go_wp2_with (go_at_call 67; refine (in_impl _ _ _ _).mono ?_; rintro e w1 ⟨rfl, hw⟩; have hw := hw.symm; subst hw)
    go_ret
    exact ⟨by simp [okCueB, h1, h2, h3], (Below.refl _ _).alloc (Nat.le_refl _) _⟩
  rcases h4 : inB d 0 6 with _ | _
  · go_enter Tryz.func122, Tryz.ntmps122
    go_wp2_with (go_at_call 67; refine (in_impl _ _ _ _).mono ?_; rintro e w1 ⟨rfl, hw⟩; have hw := hw.symm; subst hw)
    go_ret
    exact ⟨by simp [okCueB, h1, h2, h3, h4], (Below.refl _ _).alloc (Nat.le_refl _) _⟩
  go_enter Tryz.func122, Tryz.ntmps122
  go_wp2_with (go_at_call 67; refine (in_impl _ _ _ _).mono ?_; rintro e w1 ⟨rfl, hw⟩; have hw := hw.symm; subst hw)
  go_ret
  exact ⟨by simp [okCueB, h1, h2, h3, h4], (Below.refl _ _).alloc (Nat.le_refl _) _⟩
set_option maxHeartbeats 1000000 in
theorem index_cues (w : World) (v : Value) (l : List TCue) (h : Sl w 4 v eCue l) :
    Calls Tryz.prog 188 #[v, .func (.func 122) #[] #[]] w fun e w' => e = .returned (.int .i64 (idxGo (fun x => !okCueB x) l 0)) ∧ Below w.heap.size w w' := by
  have m1 := h.len
  obtain ⟨-, A, c, rfl, -, -, -⟩ := id h
  go_enter Tryz.func188, Tryz.ntmps188
  go_wp2_with fail
  go_loopw [8] (fun i wr => ∃ k : Nat, k ≤ l.length ∧ i = .int .i64 k ∧ Below w.heap.size w wr ∧ Hid (idxGo (fun x => !okCueB x) (l.drop k) k = idxGo (fun x => !okCueB x) l 0)) (fun i _ => l.length - (intOf i).toNat)
  case atStart => exact ⟨0, Nat.zero_le _, rfl, Below.refl _ _, hd (by simp)⟩
  case round =>
    obtain ⟨k, hk, rfl, hbel, HT⟩ := hrel
    by_cases hlt : k < l.length
    · obtain ⟨b, o, rfl, hb, p0, p1, p2, p3⟩ := (h.below hbel).Cue_at hlt
      have HS := hd (HT.out.symm.trans (idxGo_drop (fun x => !okCueB x) l k k hlt))
      generalize l[k] = x at p0 p1 p2 p3 HS
      obtain ⟨xa, xb, xc, xd⟩ := x
      dsimp only at p0 p1 p2 p3
      rcases hp : !okCueB (xa, xb, xc, xd) with _ | _
      · go_wp2_with fail
        refine (cuePred _ _ _ _ _).mono ?_
        rintro e w2 ⟨rfl, hb2⟩
        have hbel2 := below_step hbel hb2
        rw [hp]
        go_wp2_with fail
        go_roundw
        case rel => exact ⟨k + 1, by omega, by go_num, hbel2, hd (by have := HS.out; rw [hp] at this; exact this.symm)⟩
        case measure => simp [intOf]; omega
      · go_wp2_with fail
        refine (cuePred _ _ _ _ _).mono ?_
        rintro e w2 ⟨rfl, hb2⟩
        have hbel2 := below_step hbel hb2
        rw [hp]
        go_wp2_with fail
        go_ret
        exact ⟨by rw [HS.out, hp]; rfl, hbel2⟩
    · go_wp2_with fail
      go_ret
      exact ⟨by rw [← HT.out, List.drop_of_length_le (by omega)]; rfl, hbel⟩
theorem contains_cues (w : World) (v : Value) (l : List TCue) (h : Sl w 4 v eCue l) :
    Calls Tryz.prog 121 #[v, .func (.func 122) #[] #[]] w fun e w' => e = .returned (.bool (l.any (fun x => !okCueB x))) ∧ Below w.heap.size w w' := by
  rw [← idxGo_nonneg (fun x => !okCueB x) l 0 (by omega)]
  go_enter Tryz.func121, Tryz.ntmps121
  go_wp2_with fail
  refine (index_cues _ _ _ h).mono ?_
  rintro e w' ⟨rfl, hb⟩
  go_wp2_with fail
  go_ret
  exact ⟨rfl, hb⟩
theorem cues_impl (w : World) (v : Value) (l : List TCue) (h : Sl w 4 v eCue l) :
    Calls Tryz.prog 59 #[v] w fun e w' => e = .returned (.bool (okCues l)) ∧ Below w.heap.size w w' := by
  have m1 := h.len
  obtain ⟨A, c, rfl⟩ := h.sliceD
  by_cases hz : l.length ≤ 6
  case neg =>
    have HR := hd (okCues_long hz)
    have hz' : 6 < l.length := by omega
    go_enter Tryz.func59, Tryz.ntmps59
    go_wp2_with fail
    go_ret
    exact ⟨by rw [HR.out]; rfl, Below.refl _ _⟩
  have HR := hd (show okCues l = !(l.any fun x => !okCueB x) by unfold okCues; rw [decide_eq_true hz, Bool.and_true])
  go_enter Tryz.func59, Tryz.ntmps59
  go_wp2_with fail
  refine (contains_cues _ _ _ h).mono ?_
  rintro e w1 ⟨rfl, hb⟩
  rcases q : (l.any fun x => !okCueB x) with _ | _
  all_goals
    go_wp2_with fail
    go_ret
    exact ⟨by rw [HR.out, q]; rfl, hb⟩
set_option maxRecDepth 100000 in
set_option maxHeartbeats 4000000 in
theorem cues_spec (w : World) (v : Value) (l : List TCue) (h : Sl w 4 v eCue l) :
    Calls Tryz.prog 91 #[v] w fun e w' => e = .returned (.bool (okCues l)) ∧ Below w.heap.size w w' := by
  have m1 := h.len
  obtain ⟨A, cc, rfl⟩ := h.sliceD
  go_enter Tryz.func91, Tryz.ntmps91
  go_wp2_with fail
  go_loopw [3] (fun i wr => ∃ k : Nat, k ≤ l.length ∧ i = .int .i64 k ∧ Below w.heap.size w wr ∧ Hid (∀ j (hj : j < l.length), j < k → okCueB l[j] = true)) (fun i _ => l.length - (intOf i).toNat)
  case atStart => exact ⟨0, Nat.zero_le _, rfl, Below.refl _ _, hd (fun j _ hj => absurd hj (Nat.not_lt_zero _))⟩
  case round =>
    obtain ⟨k, hk, rfl, hbel, HT⟩ := hrel
    by_cases hlt : k < l.length
    · obtain ⟨bb, o, rfl, -, p0, p1, p2, p3⟩ := (h.below hbel).Cue_at hlt
      have HB := hd (fun hx => okCues_bad hlt hx)
      have HN := hd (fun (hx : okCueB l[k] = true) => (show ∀ j (hj : j < l.length), j < k + 1 → okCueB l[j] = true from fun j hj hj2 => by
        by_cases e : j = k
        · subst e; exact hx
        · exact HT.out j hj (by omega)))
      generalize l[k] = x at p0 p1 p2 p3 HB HN
      obtain ⟨a, b, c, d⟩ := x
      dsimp only at p0 p1 p2 p3
      have hbel' := hbel.alloc hbel.size (.cells #[.int .i64 a, .int .i64 b, .int .i64 c, .int .i64 d] 92)
      rcases h1 : inB a 0 10000 with _ | _
      · have HE := hd (HB.out (by simp [okCueB, h1]))
        clear HB HN
        go_wp2_with (go_at_call 158; refine (in_spec _ _ _ _).mono ?_; rintro e w1 ⟨rfl, hw⟩; have hw := hw.symm; subst hw)
        go_ret
        exact ⟨by rw [HE.out]; rfl, hbel'⟩
      rcases h2 : inB b 1 1000 with _ | _
      · have HE := hd (HB.out (by simp [okCueB, h1, h2]))
        clear HB HN
        go_wp2_with (go_at_call 158; refine (in_spec _ _ _ _).mono ?_; rintro e w1 ⟨rfl, hw⟩; have hw := hw.symm; subst hw)
        go_ret
        exact ⟨by rw [HE.out]; rfl, hbel'⟩
      rcases h3 : inB c 1 4 with _ | _
      · have HE := hd (HB.out (by simp [okCueB, h1, h2, h3]))
        clear HB HN
        go_wp2_with (go_at_call 158; refine (in_spec _ _ _ _).mono ?_; rintro e w1 ⟨rfl, hw⟩; have hw := hw.symm; subst hw)
        go_ret
        exact ⟨by rw [HE.out]; rfl, hbel'⟩
      rcases h4 : inB d 0 6 with _ | _
      · have HE := hd (HB.out (by simp [okCueB, h1, h2, h3, h4]))
        clear HB HN
        go_wp2_with (go_at_call 158; refine (in_spec _ _ _ _).mono ?_; rintro e w1 ⟨rfl, hw⟩; have hw := hw.symm; subst hw)
        go_ret
        exact ⟨by rw [HE.out]; rfl, hbel'⟩
      have HE := hd (HN.out (by simp [okCueB, h1, h2, h3, h4]))
      clear HB HN
      go_wp2_with (go_at_call 158; refine (in_spec _ _ _ _).mono ?_; rintro e w1 ⟨rfl, hw⟩; have hw := hw.symm; subst hw)
      go_roundw
      case rel => exact ⟨k + 1, by omega, by go_num, hbel', HE⟩
      case measure => simp [intOf]; omega
    · obtain rfl : k = l.length := by omega
      have HE := hd (okCues_all (l := l) (by
        rw [List.any_eq_false]
        intro x hx
        obtain ⟨j, hj, rfl⟩ := List.getElem_of_mem hx
        simp [HT.out j hj hj]))
      have HE2 := hd (show okCues l = decide ((l.length : Int) ≤ 6) by rw [HE.out]; exact decide_eq_decide.2 (by omega))
      go_wp2_with fail
      go_ret
      exact ⟨by rw [HE2.out]; rfl, hbel⟩
set_option maxRecDepth 100000 in
theorem isLog_impl (w : World) (s : ByteArray) (hs : s.size ≤ 1048576) (hsh : Shop w) :
    Calls Tryz.prog 61 #[.string s] w fun e w' => e = .returned (.bool (decide (lc s = 0))) ∧ Below w.heap.size w w' := by
  go_enter Tryz.func61, Tryz.ntmps61
  go_wp2_with fail
  refine (code_impl _ _ hs hsh).mono ?_
  rintro e w1 ⟨v, st, n, rfl, O, -, -, -, B⟩
  obtain ⟨A, cc, rfl⟩ := O.isSlice
  have B2 := hd (B.alloc B.size (.cells #[.slice A (eL s).length cc, .int .i64 st, .int .i64 n] 135))
  have HX := hd (show ((lc s == 0) : Bool) = decide (lc s = 0) by rw [Bool.eq_iff_iff]; simp)
  clear O B
  go_wp2_with fail
  go_ret
  exact ⟨by rw [← HX.out]; rfl, B2.out⟩
def okDeskB (p : ByteArray) (C : List TCue) (T : List TTitle) (q : ByteArray) : Bool := okMotB p && (okCues C && (okTitles T && decide (lc q = 0)))
def DeskAt (W : World) (g : Nat) (p : ByteArray) (v1 v2 : Value) (q : ByteArray) : Prop := g < W.heap.size ∧ W.cell? ⟨g, 0, none⟩ = some (.string p) ∧ W.cell? ⟨g, 1, none⟩ = some v1 ∧ W.cell? ⟨g, 2, none⟩ = some v2 ∧ W.cell? ⟨g, 3, none⟩ = some (.string q)
theorem DeskAt.below {W W' : World} {g : Nat} {p : ByteArray} {v1 v2 : Value} {q : ByteArray} (h : DeskAt W g p v1 v2 q) (hb : Below W.heap.size W W') : DeskAt W' g p v1 v2 q :=
  ⟨Nat.lt_of_lt_of_le h.1 hb.size, (hb.cell (p := ⟨g, 0, none⟩) h.1).trans h.2.1, (hb.cell (p := ⟨g, 1, none⟩) h.1).trans h.2.2.1, (hb.cell (p := ⟨g, 2, none⟩) h.1).trans h.2.2.2.1, (hb.cell (p := ⟨g, 3, none⟩) h.1).trans h.2.2.2.2⟩
theorem desk_new (w : World) (p : ByteArray) (v1 v2 : Value) (q : ByteArray) (T : TypeId) : DeskAt (w.alloc (.cells #[.string p, v1, v2, .string q] T)) w.heap.size p v1 v2 q :=
  ⟨by simp, new_cell w _ T 0 _ rfl, new_cell w _ T 1 _ rfl, new_cell w _ T 2 _ rfl, new_cell w _ T 3 _ rfl⟩
set_option maxRecDepth 100000 in
set_option maxHeartbeats 8000000 in
theorem deskOk_spec (w : World) (g : Nat) (p q : ByteArray) (v1 v2 : Value) (C : List TCue) (T : List TTitle) (hD : DeskAt w g p v1 v2 q) (hC : Sl w 4 v1 eCue C) (hT : Sl w 4 v2 eTitle T) (hp : p.size ≤ 1048576) (hq : q.size ≤ 1048576) :
    Calls Tryz.prog 35 #[.pointer (some ⟨g, 0, none⟩)] w fun e w' => e = .returned (.bool (okDeskB p C T q)) ∧ Below w.heap.size w w' := by
  obtain ⟨A1, c1, rfl⟩ := hC.sliceD
  obtain ⟨A2, c2, rfl⟩ := hT.sliceD
  obtain ⟨d0, d1, d2, d3, d4⟩ := id hD
  go_enter Tryz.func35, Tryz.ntmps35
  go_wp2_with fail
  refine (code_spec _ _ hq).mono ?_
  rintro e w1 ⟨gr, rfl, -, B1⟩
  obtain ⟨-, x1, x2, x3, x4⟩ := hD.below B1
  obtain ⟨x, hx⟩ : ∃ x, lc q = x := ⟨_, rfl⟩
  rw [hx]
  have HX := hd hx
  clear hx d0 d1 d2 d3 d4
  rcases hm : okMotB p with _ | _
  · have HR := hd (show okDeskB p C T q = false by unfold okDeskB; rw [hm]; rfl)
    go_wp2_with fail
    refine (mot_spec _ _ hp).mono ?_
    rintro e ww ⟨rfl, hw⟩
    have hw := hw.symm
    subst hw
    rw [hm]
    go_wp2_with fail
    go_ret
    exact ⟨by rw [HR.out]; rfl, B1⟩
  go_wp2_with fail
  refine (mot_spec _ _ hp).mono ?_
  rintro e ww ⟨rfl, hw⟩
  have hw := hw.symm
  subst hw
  rw [hm]
  go_wp2_with fail
  rcases hc : okCues C with _ | _
  · have HR := hd (show okDeskB p C T q = false by unfold okDeskB; rw [hm, hc]; rfl)
    refine (cues_spec _ _ _ (hC.below B1)).mono ?_
    rintro e w2 ⟨rfl, hb2⟩
    rw [hc]
    go_wp2_with fail
    go_ret
    exact ⟨by rw [HR.out]; rfl, below_step B1 hb2⟩
  refine (cues_spec _ _ _ (hC.below B1)).mono ?_
  rintro e w2 ⟨rfl, hb2⟩
  rw [hc]
  have B2 := below_step B1 hb2
  obtain ⟨-, y1, y2, y3, y4⟩ := hD.below B2
  clear x1 x2 x3 x4
  go_wp2_with fail
  rcases ht : okTitles T with _ | _
  · have HR := hd (show okDeskB p C T q = false by unfold okDeskB; rw [hm, hc, ht]; rfl)
    refine (titles_spec0 _ _ _ (hT.below B2)).mono ?_
    rintro e w3 ⟨rfl, hb3⟩
    rw [ht]
    go_wp2_with fail
    go_ret
    exact ⟨by rw [HR.out]; rfl, below_step B2 hb3⟩
  refine (titles_spec0 _ _ _ (hT.below B2)).mono ?_
  rintro e w3 ⟨rfl, hb3⟩
  rw [ht]
  have B3 := below_step B2 hb3
  have HR := hd (show okDeskB p C T q = (x == 0) by unfold okDeskB; rw [hm, hc, ht, HX.out, Bool.eq_iff_iff]; simp)
  clear y1 y2 y3 y4
  go_wp2_with fail
  go_ret
  exact ⟨by rw [HR.out]; rfl, B3⟩
set_option maxRecDepth 100000 in
set_option maxHeartbeats 8000000 in
theorem desk_impl (w : World) (p q : ByteArray) (v1 v2 : Value) (C : List TCue) (T : List TTitle) (hC : Sl w 4 v1 eCue C) (hT : Sl w 4 v2 eTitle T) (hp : p.size ≤ 1048576) (hq : q.size ≤ 1048576) (hsh : Shop w) :
    Calls Tryz.prog 28 #[.agg #[.string p, v1, v2, .string q]] w fun e w' => e = .returned (.bool (okDeskB p C T q)) ∧ Below w.heap.size w w' := by
  obtain ⟨A1, c1, rfl⟩ := hC.sliceD
  obtain ⟨A2, c2, rfl⟩ := hT.sliceD
  have hD := desk_new w p (.slice A1 C.length c1) (.slice A2 T.length c2) q 29
  have B1 := (Below.refl w.heap.size w).alloc (Nat.le_refl _) (.cells #[.string p, .slice A1 C.length c1, .slice A2 T.length c2, .string q] 29)
  have HSH := hd (hsh.below B1)
  clear hsh
  go_enter Tryz.func28, Tryz.ntmps28
  go_wp2_with fail
  generalize w.alloc (.cells #[.string p, .slice A1 C.length c1, .slice A2 T.length c2, .string q] 29) = w1 at hD B1 HSH ⊢
  obtain ⟨-, x1, x2, x3, x4⟩ := id hD
  rcases hm : okMotB p with _ | _
  · have HR := hd (show okDeskB p C T q = false by unfold okDeskB; rw [hm]; rfl)
    refine (mot_impl _ _ hp).mono ?_
    rintro e ww ⟨rfl, hw⟩
    have hw := hw.symm
    subst hw
    rw [hm]
    go_wp2_with fail
    go_ret
    exact ⟨by rw [HR.out]; rfl, B1⟩
  refine (mot_impl _ _ hp).mono ?_
  rintro e ww ⟨rfl, hw⟩
  have hw := hw.symm
  subst hw
  rw [hm]
  go_wp2_with fail
  rcases hc : okCues C with _ | _
  · have HR := hd (show okDeskB p C T q = false by unfold okDeskB; rw [hm, hc]; rfl)
    refine (cues_impl _ _ _ (hC.below B1)).mono ?_
    rintro e w2 ⟨rfl, hb2⟩
    rw [hc]
    go_wp2_with fail
    go_ret
    exact ⟨by rw [HR.out]; rfl, below_step B1 hb2⟩
  refine (cues_impl _ _ _ (hC.below B1)).mono ?_
  rintro e w2 ⟨rfl, hb2⟩
  rw [hc]
  have B2 := below_step B1 hb2
  obtain ⟨-, y1, y2, y3, y4⟩ := hD.below hb2
  clear x1 x2 x3 x4
  go_wp2_with fail
  rcases ht : okTitles T with _ | _
  · have HR := hd (show okDeskB p C T q = false by unfold okDeskB; rw [hm, hc, ht]; rfl)
    refine (titles_impl _ _ _ (hT.below B2)).mono ?_
    rintro e w3 ⟨rfl, hb3⟩
    rw [ht]
    go_wp2_with fail
    go_ret
    exact ⟨by rw [HR.out]; rfl, below_step B2 hb3⟩
  refine (titles_impl _ _ _ (hT.below B2)).mono ?_
  rintro e w3 ⟨rfl, hb3⟩
  rw [ht]
  have B3 := below_step B2 hb3
  have HR := hd (show okDeskB p C T q = decide (lc q = 0) by unfold okDeskB; rw [hm, hc, ht]; rfl)
  obtain ⟨-, z1, z2, z3, z4⟩ := hD.below (below_step hb2 hb3)
  clear y1 y2 y3 y4
  go_wp2_with fail
  refine (isLog_impl _ _ hq (HSH.out.below (below_step hb2 hb3))).mono ?_
  rintro e w4 ⟨rfl, hb4⟩
  go_wp2_with fail
  go_ret
  exact ⟨by rw [HR.out]; rfl, below_step B3 hb4⟩
end Go.Proofs.YtgcodjkjdfahdaaGreatDoor

namespace Go.Proofs.YtgcodjkjdfahdaaGreatDoor
open Go Go.RowKit Go.ChangeShapes Go.WideShapes
set_option linter.unusedSimpArgs false
set_option linter.unusedVariables false
def valTo (l : List TEntry) (t : ByteArray) (k : Nat) : List Int := ((l.take k).filter fun x => decide (x.2.1 = t)).map fun x => x.2.2
theorem valTo_len (l : List TEntry) (t : ByteArray) (k : Nat) : (valTo l t k).length ≤ k := by
  unfold valTo
  rw [List.length_map]
  exact Nat.le_trans (List.length_filter_le ..) (List.length_take_le ..)
theorem valTo_yes {l : List TEntry} {t : ByteArray} {k : Nat} (hk : k < l.length) (h : l[k].2.1 = t) : valTo l t (k + 1) = valTo l t k ++ [l[k].2.2] := by
  unfold valTo
  rw [List.take_succ_eq_append_getElem hk, List.filter_append, List.map_append]
  simp [h]
theorem valTo_no {l : List TEntry} {t : ByteArray} {k : Nat} (hk : k < l.length) (h : ¬ l[k].2.1 = t) : valTo l t (k + 1) = valTo l t k := by
  unfold valTo
  rw [List.take_succ_eq_append_getElem hk, List.filter_append, List.map_append]
  simp [h]
def valR (s t : ByteArray) : List Int × Int := if lw s t = 0 then (valTo (readL s).l t (readL s).l.length, 0) else ([], lw s t)
theorem entry_bd {s : ByteArray} {k : Nat} (hk : k < (readL s).l.length) : (0 ≤ (readL s).l[k].1 ∧ (readL s).l[k].1 ≤ 100000) ∧ (readL s).l[k].2.1.size ≤ 12 ∧ (-1000000 ≤ (readL s).l[k].2.2 ∧ (readL s).l[k].2.2 ≤ 1000000) := by
  have h := readL_ok s _ (List.getElem_mem hk)
  obtain ⟨h1, h2, h3⟩ := okEntryB_bd h
  exact ⟨h1, name_size h2, h3⟩
set_option maxRecDepth 100000 in
set_option maxHeartbeats 4000000 in
theorem val_spec (w : World) (s t : ByteArray) (hs : s.size ≤ 1048576) (ht : t.size ≤ 9223372036854775807) :
    Calls Tryz.prog 166 #[.string s, .string t] w (GivesOwnI w 2 1 eI (valR s t)) := by
  obtain ⟨i0, hi, hz0, hz1, hz2⟩ := info_parts info_i64
  go_enter Tryz.func166, Tryz.ntmps166
  go_wp2_with fail
  refine (what_spec _ _ _ hs).mono ?_
  rintro e w1 ⟨g, rfl, hr, B⟩
  by_cases hc : lw s t = 0
  case neg =>
    have HR := hd (show valR s t = ([], lw s t) by unfold valR; rw [if_neg hc])
    obtain ⟨x, hx⟩ : ∃ x, lw s t = x := ⟨_, rfl⟩
    rw [hx] at hc HR ⊢
    have kc : (x != 0) = true := by simpa using hc
    clear hr hc hx
    go_wp2_with fail
    go_ret2
    exact ⟨_, by rw [HR.out]; rfl, by rw [HR.out]; exact Own.nil _ _ _ _ _, B⟩
  have HR := hd (show valR s t = (valTo (readL s).l t (readL s).l.length, 0) by unfold valR; rw [if_pos hc])
  have hl4 : (readL s).l.length ≤ 4000 := by have := readL_len s; have := lc_size (lw_good hc).1; omega
  obtain ⟨v, R, O, hg, -⟩ := hr hc
  rw [hc]
  clear hc hr
  obtain ⟨A, cc, rfl⟩ := O.isSlice
  have SE := O.sl eEntry_len
  have HC3 := hd R.2.1.2.2.2
  have r0 := R.1
  have own0 := Own.made0 w1 w1.heap.size 2 1 eI (Nat.le_refl _)
  have bel0 := (Below.refl w1.heap.size w1).alloc (Nat.le_refl _) (.cells #[] 2)
  go_wp2_with fail
  go_loopw [8, 9] (fun ov iv wr => ∃ k : Nat, k ≤ (readL s).l.length ∧ iv = .int .i64 k ∧ Own wr w1.heap.size 2 1 ov eI (valTo (readL s).l t k) ∧ Below w1.heap.size w1 wr) (fun _ iv _ => (readL s).l.length - (intOf iv).toNat)
  case atStart => exact ⟨0, Nat.zero_le _, rfl, own0, bel0⟩
  case round =>
    obtain ⟨k, hk, rfl, hown, hbel⟩ := hrel
    clear own0 bel0
    have c3 := (hbel.cell (p := ⟨g, 3, none⟩) r0).trans HC3.out
    have hlen := valTo_len (readL s).l t k
    by_cases hlt : k < (readL s).l.length
    · obtain ⟨bb, o, rfl, -, p0, p1, p2⟩ := (SE.below hbel).Entry_at hlt
      obtain ⟨-, hbz, hb1, hb2⟩ := entry_bd hlt
      have HY := hd (fun q => valTo_yes (t := t) hlt q)
      have HZ := hd (fun q => valTo_no (t := t) hlt q)
      generalize (readL s).l[k] = x at p0 p1 p2 HY HZ hbz hb1 hb2
      obtain ⟨a, b, c⟩ := x
      dsimp only at p0 p1 p2 hbz hb1 hb2
      generalize valTo (readL s).l t k = L at hown hlen HY HZ ⊢
      by_cases q : b = t
      case neg =>
        have kq : (b.toList == t.toList) = false := beq_eq_false_iff_ne.2 (fun e => q (bytes_of_toList e))
        have HZ' := hd (HZ.out q)
        clear q HY HZ
        go_wp2_with fail
        go_roundw
        case rel => exact ⟨k + 1, by omega, by go_num, by rw [HZ'.out]; exact hown, hbel⟩
        case measure => simp [intOf]; omega
      have kq : (b.toList == t.toList) = true := by rw [q]; simp
      have HY' := hd (HY.out q)
      clear q HY HZ
      have own2 := hown.alloc (.cells #[.int .i64 c] 2)
      go_wp2_with (at_builtin; refine wpList_push _ rfl _ _ 56 rfl i0 (.int .i64 0) 8 Tryz.underlying56 hi hz0 hz1 hz2 rfl (by decide) _ _ (c : Int) rfl own2 wr.heap.size rfl #[.int .i64 c] 2 (heap_alloc_new _ _) rfl rfl (by intro u hu; simp [eI] at hu; subst hu; rfl) (by unfold maxLen; omega) (by omega) (by have := hbel.size; simp; omega) ?_)
      intro v' w3 hown2 hgr2
      have hbel2 := (hbel.alloc hbel.size (.cells #[.int .i64 c] 2)).grown hgr2 (by have := hbel.size; simp; omega) (fun g hg => (hown.lt g hg).1)
      clear hown own2 hgr2
      go_wp2_with fail
      go_roundw
      case rel => exact ⟨k + 1, by omega, by go_num, by rw [HY'.out]; exact hown2, hbel2⟩
      case measure => simp [intOf]; omega
    · obtain rfl : k = (readL s).l.length := by omega
      go_wp2_with fail
      go_ret2
      exact ⟨_, by rw [HR.out]; rfl, by rw [HR.out]; exact hown.base B.size, B.trans (hbel.mono B.size)⟩
set_option maxRecDepth 100000 in
set_option maxHeartbeats 4000000 in
theorem val_impl (w : World) (s t : ByteArray) (hs : s.size ≤ 1048576) (ht : t.size ≤ 9223372036854775807) (hsh : Shop w) :
    Calls Tryz.prog 85 #[.string s, .string t] w (GivesOwnI w 2 1 eI (valR s t)) := by
  obtain ⟨i0, hi, hz0, hz1, hz2⟩ := info_parts info_i64
  go_enter Tryz.func85, Tryz.ntmps85
  go_wp2_with fail
  refine (code_impl _ _ hs hsh).mono ?_
  rintro e w1 ⟨v, st, n, rfl, O, -, ⟨s1, s2⟩, ⟨n1, n2⟩, B⟩
  obtain ⟨A, cc, rfl⟩ := O.isSlice
  have hle := eL_len s
  obtain ⟨t0, t1, t2, -, hz2', hb2⟩ := new3 w1 (.slice A (eL s).length cc) (.int .i64 st) (.int .i64 n) 135
  have O2 := O.below hb2 (Nat.le_refl _)
  have B2 := below_step B hb2
  have hgs : w1.heap.size < (w1.alloc (.cells #[.slice A (eL s).length cc, .int .i64 st, .int .i64 n] 135)).heap.size := by omega
  clear O B hb2
  by_cases hc : lc s = 0
  case neg =>
    have hw : lw s t = lc s := by unfold lw; rw [if_neg hc]
    have HR := hd (show valR s t = ([], lc s) by unfold valR; rw [hw, if_neg hc])
    obtain ⟨x, hx⟩ : ∃ x, lc s = x := ⟨_, rfl⟩
    rw [hx] at hc HR ⊢
    have kc : (x != 0) = true := by simpa using hc
    have kd : (x == 0) = false := by simpa using hc
    have HB2 := hd B2
    clear hc hx hw B2 O2
    go_wp2_with fail
    go_ret2
    exact ⟨_, by rw [HR.out]; rfl, by rw [HR.out]; exact Own.nil _ _ _ _ _, HB2.out⟩
  rw [hc]
  have HC := hd hc
  have HEL := hd (eL_good hc)
  clear hc
  rcases hn : isNameB t with _ | _
  · have hw : lw s t = 2 := by unfold lw; rw [if_pos HC.out, hn]; rfl
    have HR := hd (show valR s t = ([], 2) by unfold valR; rw [hw]; rfl)
    have HB2 := hd B2
    clear hw B2 O2
    go_wp2_with fail
    refine (name_impl _ _).mono ?_
    rintro e w2 ⟨rfl, hw⟩
    have hw := hw.symm
    subst hw
    rw [hn]
    go_wp2_with fail
    go_ret2
    exact ⟨_, by rw [HR.out]; rfl, by rw [HR.out]; exact Own.nil _ _ _ _ _, HB2.out⟩
  have hw : lw s t = 0 := by unfold lw; rw [if_pos HC.out, hn]; rfl
  have HR := hd (show valR s t = (valTo (readL s).l t (readL s).l.length, 0) by unfold valR; rw [if_pos hw])
  clear hw
  rw [HEL.out] at O2 t0 t1 t2 B2 hle hgs hz2' ⊢
  go_wp2_with fail
  refine (name_impl _ _).mono ?_
  rintro e w2 ⟨rfl, hw⟩
  have hw := hw.symm
  subst hw
  rw [hn]
  generalize w1.alloc (.cells #[.slice A (readL s).l.length cc, .int .i64 st, .int .i64 n] 135) = W2 at t0 t1 t2 O2 B2 hgs hz2' ⊢
  clear hz2'
  have SE := O2.sl eEntry_len
  have own0 := Own.made0 W2 W2.heap.size 2 1 eI (Nat.le_refl _)
  have bel0 := (Below.refl W2.heap.size W2).alloc (Nat.le_refl _) (.cells #[] 2)
  have t0' := (bel0.cell (p := ⟨w1.heap.size, 0, none⟩) hgs).trans t0
  go_wp2_with fail
  go_loopw [8, 30] (fun ov iv wr => ∃ k : Nat, k ≤ (readL s).l.length ∧ iv = .int .i64 k ∧ Own wr W2.heap.size 2 1 ov eI (valTo (readL s).l t k) ∧ Below W2.heap.size W2 wr) (fun _ iv _ => (readL s).l.length - (intOf iv).toNat)
  case atStart => exact ⟨0, Nat.zero_le _, rfl, own0, bel0⟩
  case round =>
    obtain ⟨k, hk, rfl, hown, hbel⟩ := hrel
    clear own0 bel0 t0' t0 t1 t2
    have hlen := valTo_len (readL s).l t k
    by_cases hlt : k < (readL s).l.length
    · obtain ⟨bb, o, rfl, -, p0, p1, p2⟩ := (SE.below hbel).Entry_at hlt
      obtain ⟨-, hbz, hb1, hb2⟩ := entry_bd hlt
      have HY := hd (fun q => valTo_yes (t := t) hlt q)
      have HZ := hd (fun q => valTo_no (t := t) hlt q)
      generalize (readL s).l[k] = x at p0 p1 p2 HY HZ hbz hb1 hb2
      obtain ⟨a, b, c⟩ := x
      dsimp only at p0 p1 p2 hbz hb1 hb2
      generalize valTo (readL s).l t k = L at hown hlen HY HZ ⊢
      have hown' := hown.alloc (.cells #[.int .i64 a, .string b, .int .i64 c] 130)
      have hbel' := hbel.alloc hbel.size (.cells #[.int .i64 a, .string b, .int .i64 c] 130)
      by_cases q : b = t
      case neg =>
        have kq : (b.toList == t.toList) = false := beq_eq_false_iff_ne.2 (fun e => q (bytes_of_toList e))
        have HZ' := hd (HZ.out q)
        clear q HY HZ
        go_wp2_with fail
        go_roundw
        case rel => exact ⟨k + 1, by omega, by go_num, by rw [HZ'.out]; exact hown', hbel'⟩
        case measure => simp [intOf]; omega
      have kq : (b.toList == t.toList) = true := by rw [q]; simp
      have HY' := hd (HY.out q)
      have hnew : ((wr.alloc (.cells #[.int .i64 a, .string b, .int .i64 c] 130)).alloc (.cells #[.int .i64 c] 2)).heap[wr.heap.size + 1]? = some (.cells #[.int .i64 c] 2 (0, 0)) := by
        have h := heap_alloc_new (wr.alloc (.cells #[.int .i64 a, .string b, .int .i64 c] 130)) (.cells #[.int .i64 c] 2)
        rwa [show (wr.alloc (.cells #[.int .i64 a, .string b, .int .i64 c] 130)).heap.size = wr.heap.size + 1 by simp] at h
      clear q HY HZ
      go_wp2_with (at_builtin; refine wpList_push _ rfl _ _ 56 rfl i0 (.int .i64 0) 8 Tryz.underlying56 hi hz0 hz1 hz2 rfl (by decide) _ _ (c : Int) rfl (hown'.alloc _) (wr.heap.size + 1) rfl #[.int .i64 c] 2 hnew rfl rfl (by intro u hu; simp [eI] at hu; subst hu; rfl) (by unfold maxLen; omega) (by omega) (by have := hbel.size; simp; omega) ?_)
      intro v' w3 hown2 hgr2
      have hbel2 := (hbel'.alloc hbel'.size (.cells #[.int .i64 c] 2)).grown hgr2 (by have := hbel.size; simp; omega) (fun g hg => (hown'.lt g hg).1)
      clear hown hown' hgr2
      go_wp2_with fail
      go_roundw
      case rel => exact ⟨k + 1, by omega, by go_num, by rw [HY'.out]; exact hown2, hbel2⟩
      case measure => simp [intOf]; omega
    · obtain rfl : k = (readL s).l.length := by omega
      go_wp2_with fail
      go_ret2
      exact ⟨_, by rw [HR.out]; rfl, by rw [HR.out]; exact hown.base B2.size, B2.trans (hbel.mono B2.size)⟩
end Go.Proofs.YtgcodjkjdfahdaaGreatDoor

namespace Go.Proofs.YtgcodjkjdfahdaaGreatDoor
open Go Go.RowKit Go.ChangeShapes Go.WideShapes
set_option linter.unusedSimpArgs false
set_option linter.unusedVariables false
def deskS (p : ByteArray) (C : List TCue) (T : List TTitle) : ByteArray :=
  ⟨#[100, 105, 115, 99, 32]⟩ ++ p ++ ⟨#[44, 32]⟩ ++ decS (C.length : Int) ++ ⟨#[32, 99, 117, 101, 115, 44, 32]⟩ ++ decS (T.length : Int) ++ ⟨#[32, 116, 105, 116, 108, 101, 115]⟩
def textD (p : ByteArray) (C : List TCue) (T : List TTitle) (q : ByteArray) : ByteArray := if okDeskB p C T q = true then deskS p C T else ⟨#[]⟩
theorem okDesk_bd {p : ByteArray} {C : List TCue} {T : List TTitle} {q : ByteArray} (h : okDeskB p C T q = true) : p.size ≤ 24 ∧ C.length ≤ 6 ∧ T.length ≤ 20 := by
  unfold okDeskB okMotB okCues at h
  simp only [Bool.and_eq_true, decide_eq_true_eq] at h
  obtain ⟨⟨-, h1⟩, ⟨-, h2⟩, h3, -⟩ := h
  have := inB_true h1
  have := okTitles_len h3
  exact ⟨by omega, h2, this⟩
set_option maxRecDepth 100000 in
set_option maxHeartbeats 8000000 in
theorem l28Text_spec (w : World) (g : Nat) (p q : ByteArray) (v1 v2 : Value) (C : List TCue) (T : List TTitle) (hD : DeskAt w g p v1 v2 q) (hC : Sl w 4 v1 eCue C) (hT : Sl w 4 v2 eTitle T) (hb : p.size ≤ 24 ∧ C.length ≤ 6 ∧ T.length ≤ 20) :
    Calls Tryz.prog 222 #[.pointer (some ⟨g, 0, none⟩)] w fun e w' => e = .returned (.string (deskS p C T)) ∧ Below w.heap.size w w' := by
  obtain ⟨A1, c1, rfl⟩ := hC.sliceD
  obtain ⟨A2, c2, rfl⟩ := hT.sliceD
  obtain ⟨d0, d1, d2, d3, d4⟩ := id hD
  obtain ⟨b1, b2, b3⟩ := hb
  have s1 := decS_size (n := (C.length : Int)) (by omega)
  have s2 := decS_size (n := (T.length : Int)) (by omega)
  have g1 := gro_cell d1
  have g2 := gro_cell d2
  have g3 := gro_cell d3
  clear d1 d2 d3 d4 hC hT hD
  go_enter Tryz.func222, Tryz.ntmps222
  go_wp2_with fail
  refine wp_region_calm (by kernel_rfl) (by kernel_rfl) ?_
  repeat (first | go_big_quiet_step ((go_at_call 167; exact calm_of (dec_spec _ _ (by omega)))) | quiet_step ((go_at_call 167; exact calm_of (dec_spec _ _ (by omega)))))
  refine wpQuiet_nil ?_
  rintro w2 ⟨x, rfl⟩
  have hb3 := gro_below x
  clear g1 g2 g3
  go_wp2_with fail
  go_ret
  exact ⟨rfl, hb3⟩
set_option maxRecDepth 100000 in
set_option maxHeartbeats 8000000 in
theorem text_impl (w : World) (p q : ByteArray) (v1 v2 : Value) (C : List TCue) (T : List TTitle) (hC : Sl w 4 v1 eCue C) (hT : Sl w 4 v2 eTitle T) (hp : p.size ≤ 1048576) (hq : q.size ≤ 1048576) (hsh : Shop w) :
    Calls Tryz.prog 11 #[.agg #[.string p, v1, v2, .string q]] w fun e w' => e = .returned (.string (textD p C T q)) ∧ Below w.heap.size w w' := by
  obtain ⟨A1, c1, rfl⟩ := hC.sliceD
  obtain ⟨A2, c2, rfl⟩ := hT.sliceD
  have hD := desk_new w p (.slice A1 C.length c1) (.slice A2 T.length c2) q 29
  have B1 := (Below.refl w.heap.size w).alloc (Nat.le_refl _) (.cells #[.string p, .slice A1 C.length c1, .slice A2 T.length c2, .string q] 29)
  have HSH := hd (hsh.below B1)
  clear hsh
  obtain ⟨d0, d1, d2, d3, d4⟩ := id hD
  go_enter Tryz.func11, Tryz.ntmps11
  go_wp2_with fail
  generalize w.alloc (.cells #[.string p, .slice A1 C.length c1, .slice A2 T.length c2, .string q] 29) = w1 at hD B1 HSH d0 d1 d2 d3 d4 ⊢
  refine (desk_impl _ p q _ _ C T (hC.below B1) (hT.below B1) hp hq HSH.out).mono ?_
  rintro e w2 ⟨rfl, hb2⟩
  clear d0 d1 d2 d3 d4
  rcases ho : okDeskB p C T q with _ | _
  · have HR := hd (show textD p C T q = ⟨#[]⟩ by unfold textD; rw [ho]; rfl)
    go_wp2_with fail
    go_ret
    exact ⟨by rw [HR.out]; rfl, below_step B1 hb2⟩
  have HR := hd (show textD p C T q = deskS p C T by unfold textD; rw [if_pos ho])
  obtain ⟨b1, b2, b3⟩ := okDesk_bd ho
  have s1 := decS_size (n := (C.length : Int)) (by omega)
  have s2 := decS_size (n := (T.length : Int)) (by omega)
  obtain ⟨d0, d1, d2, d3, d4⟩ := hD.below hb2
  have g1 := gro_cell d1
  have g2 := gro_cell d2
  have g3 := gro_cell d3
  have HTB := hd (show ∀ x : Ext w2, Tab (gro w2 x) from fun x => (HSH.out.1.below hb2).below (gro_below x))
  clear d1 d2 d3 d4 ho
  go_wp2_with fail
  refine wp_region_calm (by kernel_rfl) (by kernel_rfl) ?_
  repeat (first | go_big_quiet_step ((go_at_call 36; exact calm_of (dec_impl _ _ (by omega) (HTB.out _)))) | quiet_step ((go_at_call 36; exact calm_of (dec_impl _ _ (by omega) (HTB.out _)))))
  refine wpQuiet_nil ?_
  rintro w3 ⟨x, rfl⟩
  have hb3 := gro_below x
  clear g1 g2 g3
  go_wp2_with fail
  go_ret
  exact ⟨by rw [HR.out]; rfl, below_step (below_step B1 hb2) hb3⟩
end Go.Proofs.YtgcodjkjdfahdaaGreatDoor
