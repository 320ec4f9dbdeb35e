/- Tours: the program's TourDays, TourIncome, WaitingDays. No condition but that the slices read. -/
import Derived.Test.YtlgcehdklpbknaaTourI
namespace Go.Proofs.Ytlgcehdklpbknaa
open Go Go.RowKit Go.ChangeShapes Go.WideShapes
set_option linter.unusedSimpArgs false
set_option linter.unusedVariables false

theorem Sl.taken {α : Type} {w : World} {k n c : Nat} {A : Option Addr} {enc : α → List Value} {l : List α} (h : Sl w k (.slice A n c) enc l) (i : Nat) (hi : i ≤ l.length) : Sl w k (.slice A i c) enc (l.take i) := by
  obtain ⟨h1, A', c', hv, hc, hc', h2⟩ := h
  injection hv with e1 e2 e3
  subst e1 e3
  have hl : (l.take i).length = i := by rw [List.length_take]; omega
  refine ⟨by omega, A, c, by rw [hl], by omega, hc', fun j x hx => h2 j x ?_⟩
  have : j < i := by have := (List.getElem?_eq_some_iff.1 hx).1; omega
  rwa [List.getElem?_take_of_lt this] at hx
theorem Sl.cap {α : Type} {w : World} {k n c : Nat} {A : Option Addr} {enc : α → List Value} {l : List α} (h : Sl w k (.slice A n c) enc l) : l.length ≤ c ∧ c ≤ 9223372036854775807 := by
  obtain ⟨h1, A', c', hv, hc, hc', h2⟩ := h
  injection hv with e1 e2 e3
  subst e1 e3
  exact ⟨hc, hc'⟩
def tcode (l : List THall) (H : List Int) (R : List (List Int)) (T : List Int) : Int := if okHalls l H R then if tourOk l.length T then if lateT l H R T then 9 else 0 else 2 else 1
theorem tcode1 {l : List THall} {H : List Int} {R : List (List Int)} {T : List Int} (h : okHalls l H R = false) : tcode l H R T = 1 := by simp [tcode, h]
theorem tcode2 {l : List THall} {H : List Int} {R : List (List Int)} {T : List Int} (h : okHalls l H R = true) (h2 : tourOk l.length T = false) : tcode l H R T = 2 := by simp [tcode, h, h2]
theorem tcode9 {l : List THall} {H : List Int} {R : List (List Int)} {T : List Int} (h : okHalls l H R = true) (h2 : tourOk l.length T = true) (h3 : lateT l H R T = true) : tcode l H R T = 9 := by simp [tcode, h, h2, h3]
theorem tcode0 {l : List THall} {H : List Int} {R : List (List Int)} {T : List Int} (h : okHalls l H R = true) (h2 : tourOk l.length T = true) (h3 : lateT l H R T = false) : tcode l H R T = 0 := by simp [tcode, h, h2, h3]
theorem tcode_zero {l : List THall} {H : List Int} {R : List (List Int)} {T : List Int} (h : tcode l H R T = 0) : okHalls l H R = true ∧ tourOk l.length T = true ∧ lateT l H R T = false := by
  unfold tcode at h
  rcases h1 : okHalls l H R with _ | _
  · simp [h1] at h
  rcases h2 : tourOk l.length T with _ | _
  · simp [h1, h2] at h
  rcases h3 : lateT l H R T with _ | _
  · exact ⟨rfl, rfl, rfl⟩
  · simp [h1, h2, h3] at h
def showsR (l : List THall) (H : List Int) (R : List (List Int)) (T : List Int) : List Int := if tcode l H R T = 0 then showsT l H R startT T else []
def theresR (l : List THall) (H : List Int) (R : List (List Int)) (T : List Int) : List Int := if tcode l H R T = 0 then theresT l H R startT T else []
def GivesTC (w : World) (l : List THall) (H : List Int) (R : List (List Int)) (T : List Int) (e : Ending) (w' : World) : Prop :=
  ∃ v u, e = .returned (.tuple #[v, u, .int .i64 (tcode l H R T)]) ∧ Own w' w.heap.size 2 1 v eI (showsR l H R T) ∧ Own w' w.heap.size 2 1 u eI (theresR l H R T) ∧ Below w.heap.size w w'
theorem GivesTC.no {w w' : World} {l : List THall} {H : List Int} {R : List (List Int)} {T : List Int} {c : Int} (h : tcode l H R T = c) (hc : c ≠ 0) (hb : Below w.heap.size w w') : GivesTC w l H R T (.returned (.tuple #[.slice none 0 0, .slice none 0 0, .int .i64 c])) w' := by
  subst h
  refine ⟨_, _, rfl, ?_, ?_, hb⟩
  · rw [showsR, if_neg hc]; exact Own.nil _ _ _ _ _
  · rw [theresR, if_neg hc]; exact Own.nil _ _ _ _ _

set_option maxRecDepth 100000 in
set_option maxHeartbeats 4000000 in
theorem code_implT (w : World) (v : Value) (l : List THall) (h : Sl w 3 v eHall l) (v1 v2 : Value) (H : List Int) (L : List TRow) (h1 : Sl w 1 v1 eI H) (h2 : SlR w v2 L) (vt : Value) (T : List Int) (ht : Sl w 1 vt eI T) (hTl : T.length ≤ 1048576) :
    Calls Try.prog 69 #[v, .agg #[v1, v2], vt] w (GivesTC w l H (rowsOf L) T) := by
  have m0 := h.len
  have m1 := ht.len
  obtain ⟨A, c, rfl⟩ := h.slice
  obtain ⟨A1, c1, rfl⟩ := h1.slice
  obtain ⟨A2, c2, rfl⟩ := h2.1.slice
  obtain ⟨At, ct, rfl⟩ := ht.slice
  obtain ⟨hct, hcm⟩ := ht.cap
  have hb := (Below.refl w.heap.size w).alloc (Nat.le_refl _) (.cells #[.slice A1 H.length c1, .slice A2 L.length c2] 28)
  have p0 := new_cell w #[.slice A1 H.length c1, .slice A2 L.length c2] 28 0 _ rfl
  have p1 := new_cell w #[.slice A1 H.length c1, .slice A2 L.length c2] 28 1 _ rfl
  have hgz : w.heap.size < (w.alloc (.cells #[.slice A1 H.length c1, .slice A2 L.length c2] 28)).heap.size := by simp
  rcases q1 : okHalls l H (rowsOf L) with _ | _
  · have HE := hd (tcode1 (T := T) q1)
    go_enter Try.func69, Try.ntmps69
    go_wp2_with fail
    refine (halls_impl _ _ _ (h.below hb) _ _ _ _ (h1.below hb) (h2.below hb)).mono ?_
    rintro e w1 ⟨rfl, hb1⟩
    have hb2 := below_step hb hb1
    rw [q1]
    go_wp2_with fail
    go_ret3
    exact GivesTC.no HE.out (by decide) hb2
  have HOK := hd (hallsOk_of q1)
  have z6 := (hallsOk_of q1).six
  have HQ1 := hd q1
  go_enter Try.func69, Try.ntmps69
  go_wp2_with fail
  refine (halls_impl _ _ _ (h.below hb) _ _ _ _ (h1.below hb) (h2.below hb)).mono ?_
  rintro e w1 ⟨rfl, hb1⟩
  have hb2 := below_step hb hb1
  rw [q1]
  have q0' := (hb1.cell (p := ⟨w.heap.size, 0, none⟩) hgz).trans p0
  have q1' := (hb1.cell (p := ⟨w.heap.size, 1, none⟩) hgz).trans p1
  have s0 := h.below hb2
  have s1 := h1.below hb2
  have s2 := h2.below hb2
  have st := ht.below hb2
  clear h h1 h2 ht hb hb1 q1 p0 p1 hgz
  go_wp2_with fail
  go_loop [20] (fun i => ∃ k : Nat, k ≤ T.length ∧ i = .int .i64 k ∧ Hid (∀ j, j < k → tourOkAt l.length T j = true)) (fun i => T.length - (intOf i).toNat)
  case atStart => exact ⟨0, Nat.zero_le _, rfl, hd (by omega)⟩
  case round =>
    obtain ⟨k, hk, rfl, HT⟩ := hrel
    by_cases hlt : k < T.length
    · have HX := hd (show tourOkAt l.length T k = (inB T[k] 0 ((l.length : Int) - 1) && !hasI (T.take k) T[k]) by unfold tourOkAt; rw [show T.getD k 0 = T[k] from by simp [hlt]])
      have HN := hd (fun q => tcode2 HQ1.out (allTo_false (p := tourOkAt l.length T) hlt q))
      have stk := st.taken k (by omega)
      obtain ⟨b, o, rfl, -, hc⟩ := st.int_at hlt
      have hz1 : IntKind.i64.wrap ((l.length : Int) - 1) = (l.length : Int) - 1 := IntWalk.i64_in _ (by omega)
      have hkc : k ≤ ct := by omega
      generalize T[k] = x at hc HX
      rcases r1 : inB x 0 ((l.length : Int) - 1) with _ | _
      · have HE := hd (HN.out (by rw [HX.out, r1]; rfl))
        go_wp2_with (go_at_call 111; refine (in_impl _ _ _ _).mono ?_; rintro e w3 ⟨rfl, hw⟩; have hw := hw.symm; subst hw)
        go_ret3
        exact GivesTC.no HE.out (by decide) hb2
      rcases r2 : hasI (T.take k) x with _ | _
      · have HT' := hd (allTo_step HT.out (show tourOkAt l.length T k = true by rw [HX.out, r1, r2]; rfl))
        go_wp2_with (first | (go_at_call 111; refine (in_impl _ _ _ _).mono ?_; rintro e w3 ⟨rfl, hw⟩; have hw := hw.symm; subst hw) | (go_at_call 70; refine (has_impl _ _ _ stk _).mono ?_; rintro e w3 ⟨rfl, hw⟩; have hw := hw.symm; subst hw))
        go_round
        case rel => exact ⟨k + 1, by omega, by go_num, HT'⟩
        case measure => simp [intOf]; omega
      · have HE := hd (HN.out (by rw [HX.out, r1, r2]; rfl))
        go_wp2_with (first | (go_at_call 111; refine (in_impl _ _ _ _).mono ?_; rintro e w3 ⟨rfl, hw⟩; have hw := hw.symm; subst hw) | (go_at_call 70; refine (has_impl _ _ _ stk _).mono ?_; rintro e w3 ⟨rfl, hw⟩; have hw := hw.symm; subst hw))
        go_ret3
        exact GivesTC.no HE.out (by decide) hb2
    · have htok : tourOk l.length T = true := allTo_true (fun i hi => HT.out i (by omega))
      have HTK := hd htok
      go_wp2_with fail
      refine (days_impl _ _ _ s0 _ _ _ _ s1 s2 _ _ st HOK.out htok hTl).mono ?_
      rintro e w3 (⟨hl, rfl, hb3⟩ | ⟨hl, vd, vu, rfl, OD, OU, hb3⟩)
      · have HE := hd (tcode9 HQ1.out HTK.out hl)
        have hb4 := below_step hb2 hb3
        clear hl htok
        go_wp2_with fail
        go_ret3
        exact GivesTC.no HE.out (by decide) hb4
      · have HE := hd (tcode0 HQ1.out HTK.out hl)
        have hb4 := below_step hb2 hb3
        have HD := hd (show showsR l H (rowsOf L) T = showsT l H (rowsOf L) startT T by unfold showsR; rw [if_pos HE.out])
        have HU := hd (show theresR l H (rowsOf L) T = theresT l H (rowsOf L) startT T by unfold theresR; rw [if_pos HE.out])
        clear hl htok
        go_wp2_with fail
        go_ret3
        exact ⟨_, _, by rw [HE.out]; rfl, by rw [HD.out]; exact OD.base hb2.size, by rw [HU.out]; exact OU.base hb2.size, hb4⟩

end Go.Proofs.Ytlgcehdklpbknaa
