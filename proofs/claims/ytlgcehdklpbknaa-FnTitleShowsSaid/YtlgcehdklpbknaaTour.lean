/- The days of a tour: what both compute, and the program's side. No condition but that the slices read. -/
import Derived.Test.YtlgcehdklpbknaaHalls
import Derived.Test.YtlgcehdklpbknaaApp
import Derived.Deep.RegionLaw
namespace Go.Proofs.Ytlgcehdklpbknaa
open Go Go.RowKit Go.ChangeShapes Go.WideShapes
set_option linter.unusedSimpArgs false
set_option linter.unusedVariables false

/-! ### a number among numbers -/
def hasI (l : List Int) (x : Int) : Bool := l.any fun y => x == y
theorem has_snoc (l : List Int) (x : Int) (k : Nat) (hk : k < l.length) : hasI (l.take (k + 1)) x = (hasI (l.take k) x || (x == l[k])) := by
  unfold hasI
  rw [List.take_succ_eq_append_getElem hk, List.any_append]
  simp
theorem has_hit {l : List Int} {x : Int} {k : Nat} (hk : k < l.length) (h : (x == l[k]) = true) : hasI l x = true := by
  unfold hasI
  rw [List.any_eq_true]
  exact ⟨l[k], List.getElem_mem hk, h⟩

set_option maxHeartbeats 1000000 in
theorem index_int (w : World) (v : Value) (l : List Int) (h : Sl w 1 v eI l) (x : Int) :
    Calls Try.prog 124 #[v, .int .i64 x] w fun e w' => e = .returned (.int .i64 (idxGo (fun y : Int => x == y) l 0)) ∧ w' = w := by
  have m1 := h.len
  obtain ⟨-, A, c, rfl, -, -, -⟩ := id h
  go_enter Try.func124, Try.ntmps124
  go_wp2_with fail
  go_loop [8] (fun i => ∃ k : Nat, k ≤ l.length ∧ i = .int .i64 k ∧ Hid (idxGo (fun y : Int => x == y) (l.drop k) k = idxGo (fun y : Int => x == y) l 0)) (fun i => l.length - (intOf i).toNat)
  case atStart => exact ⟨0, Nat.zero_le _, rfl, hd (by simp)⟩
  case round =>
    obtain ⟨k, hk, rfl, HT⟩ := hrel
    by_cases hlt : k < l.length
    · obtain ⟨b, o, rfl, hb, hc⟩ := h.int_at hlt
      have HS := hd (HT.out.symm.trans (idxGo_drop (fun y : Int => x == y) l k k hlt))
      generalize l[k] = y at hc HS
      rcases hp : (x == y) with _ | _
      · go_wp2_with fail
        go_round
        case rel => exact ⟨k + 1, by omega, by go_num, hd (by have := HS.out; rw [hp] at this; exact this.symm)⟩
        case measure => simp [intOf]; omega
      · go_wp2_with fail
        go_ret
        exact ⟨by rw [HS.out, hp]; rfl, rfl⟩
    · go_wp2_with fail
      go_ret
      exact ⟨by rw [← HT.out, List.drop_of_length_le (by omega)]; rfl, rfl⟩
theorem has_impl (w : World) (v : Value) (l : List Int) (h : Sl w 1 v eI l) (x : Int) :
    Calls Try.prog 70 #[v, .int .i64 x] w fun e w' => e = .returned (.bool (hasI l x)) ∧ w' = w := by
  unfold hasI
  rw [← idxGo_nonneg (fun y : Int => x == y) l 0 (by omega)]
  go_enter Try.func70, Try.ntmps70
  go_wp2_with (go_at_call 124; refine (index_int _ _ _ h _).mono ?_; rintro e w' ⟨rfl, rfl⟩)
  go_ret
  exact ⟨rfl, rfl⟩
set_option maxHeartbeats 1000000 in
theorem has_spec (w : World) (v : Value) (l : List Int) (h : Sl w 1 v eI l) (x : Int) :
    Calls Try.prog 117 #[v, .int .i64 x] w fun e w' => e = .returned (.bool (hasI l x)) ∧ w' = w := by
  have m1 := h.len
  obtain ⟨-, A, c, rfl, -, -, -⟩ := id h
  go_enter Try.func117, Try.ntmps117
  go_wp2_with fail
  go_loop [5] (fun i => ∃ k : Nat, k ≤ l.length ∧ i = .int .i64 k ∧ Hid (hasI (l.take k) x = false)) (fun i => l.length - (intOf i).toNat)
  case atStart => exact ⟨0, Nat.zero_le _, rfl, hd rfl⟩
  case round =>
    obtain ⟨k, hk, rfl, HT⟩ := hrel
    by_cases hlt : k < l.length
    · obtain ⟨b, o, rfl, hb, hc⟩ := h.int_at hlt
      have HS := hd (has_snoc l x k hlt)
      have HH := hd (fun q => has_hit (x := x) hlt q)
      generalize l[k] = y at hc HS HH
      rcases hp : (x == y) with _ | _
      · have hp' : (y == x) = false := by rw [← hp]; exact Bool.eq_iff_iff.2 (by simp; exact eq_comm)
        have HT' := hd (HS.out.trans (show _ = false by simp [HT.out, hp]))
        clear hp
        go_wp2_with fail
        go_round
        case rel => exact ⟨k + 1, by omega, by go_num, HT'⟩
        case measure => simp [intOf]; omega
      · have hp' : (y == x) = true := by rw [← hp]; exact Bool.eq_iff_iff.2 (by simp; exact eq_comm)
        have HE := hd (HH.out hp)
        clear hp
        go_wp2_with fail
        go_ret
        exact ⟨by rw [HE.out]; rfl, rfl⟩
    · have HE := hd (show hasI l x = false by have := HT.out; rwa [List.take_of_length_le (by omega)] at this)
      go_wp2_with fail
      go_ret
      exact ⟨by rw [HE.out]; rfl, rfl⟩

/-! ### a tour, step by step -/
def hallAt (l : List THall) (k : Int) : THall := l.getD k.toNat (0, 0, 0)
def way (H : List Int) (R : List (List Int)) (p k : Int) : Int := if 0 ≤ p then (R.getD p.toNat []).getD k.toNat 0 else H.getD k.toNat 0
/-- where it is, the day on which it can go on, income, waited, late -/
abbrev TS := Int × Int × Int × Int × Bool
def thereT (H : List Int) (R : List (List Int)) (t : TS) (k : Int) : Int := t.2.1 + way H R t.1 k
def showT (l : List THall) (H : List Int) (R : List (List Int)) (t : TS) (k : Int) : Int := max (thereT H R t k) (hallAt l k).1
def nextT (l : List THall) (H : List Int) (R : List (List Int)) (t : TS) (k : Int) : TS :=
  (k, showT l H R t k + 1, t.2.2.1 + (hallAt l k).2.2, t.2.2.2.1 + showT l H R t k - thereT H R t k, t.2.2.2.2 || decide ((hallAt l k).2.1 < showT l H R t k))
def startT : TS := (-1, 0, 0, 0, false)
def runT (l : List THall) (H : List Int) (R : List (List Int)) (t : TS) (tour : List Int) : TS := tour.foldl (nextT l H R) t
def showsT (l : List THall) (H : List Int) (R : List (List Int)) : TS → List Int → List Int
  | _, [] => []
  | t, k :: ks => showT l H R t k :: showsT l H R (nextT l H R t k) ks
def theresT (l : List THall) (H : List Int) (R : List (List Int)) : TS → List Int → List Int
  | _, [] => []
  | t, k :: ks => thereT H R t k :: theresT l H R (nextT l H R t k) ks
theorem runT_snoc (l : List THall) (H : List Int) (R : List (List Int)) (t : TS) (T : List Int) (k : Int) : runT l H R t (T ++ [k]) = nextT l H R (runT l H R t T) k := by
  unfold runT
  rw [List.foldl_append]
  rfl
theorem showsT_snoc (l : List THall) (H : List Int) (R : List (List Int)) (t : TS) (T : List Int) (k : Int) : showsT l H R t (T ++ [k]) = showsT l H R t T ++ [showT l H R (runT l H R t T) k] := by
  induction T generalizing t with
  | nil => rfl
  | cons x T ih => simp only [List.cons_append, showsT, ih]; rfl
theorem theresT_snoc (l : List THall) (H : List Int) (R : List (List Int)) (t : TS) (T : List Int) (k : Int) : theresT l H R t (T ++ [k]) = theresT l H R t T ++ [thereT H R (runT l H R t T) k] := by
  induction T generalizing t with
  | nil => rfl
  | cons x T ih => simp only [List.cons_append, theresT, ih]; rfl
theorem showsT_len (l : List THall) (H : List Int) (R : List (List Int)) (t : TS) (T : List Int) : (showsT l H R t T).length = T.length := by
  induction T generalizing t with
  | nil => rfl
  | cons x T ih => simp [showsT, ih]
theorem theresT_len (l : List THall) (H : List Int) (R : List (List Int)) (t : TS) (T : List Int) : (theresT l H R t T).length = T.length := by
  induction T generalizing t with
  | nil => rfl
  | cons x T ih => simp [theresT, ih]
theorem runT_late (l : List THall) (H : List Int) (R : List (List Int)) (t : TS) (T : List Int) (h : t.2.2.2.2 = true) : (runT l H R t T).2.2.2.2 = true := by
  induction T generalizing t with
  | nil => exact h
  | cons x T ih =>
    refine ih _ ?_
    simp only [nextT, h, Bool.true_or]
theorem runT_take_late {l : List THall} {H : List Int} {R : List (List Int)} {T : List Int} {k : Nat} (h : (runT l H R startT (T.take k)).2.2.2.2 = true) : (runT l H R startT T).2.2.2.2 = true := by
  have := runT_late l H R (runT l H R startT (T.take k)) (T.drop k) h
  rwa [show runT l H R (runT l H R startT (T.take k)) (T.drop k) = runT l H R startT T from by unfold runT; rw [← List.foldl_append, List.take_append_drop]] at this

/-! ### what valid halls give -/
structure HallsOk (l : List THall) (H : List Int) (R : List (List Int)) : Prop where
  six : l.length ≤ 6
  homes : H.length = l.length
  rows : R.length = l.length
  row : ∀ j, j < l.length → (R.getD j []).length = l.length
  home : ∀ k, k < l.length → 0 ≤ H.getD k 0 ∧ H.getD k 0 ≤ 30
  day : ∀ j k, j < l.length → k < l.length → 0 ≤ (R.getD j []).getD k 0 ∧ (R.getD j []).getD k 0 ≤ 30
  hall : ∀ k, k < l.length → (0 ≤ (l.getD k (0, 0, 0)).1 ∧ (l.getD k (0, 0, 0)).1 ≤ (l.getD k (0, 0, 0)).2.1 ∧ (l.getD k (0, 0, 0)).2.1 ≤ 365) ∧ 0 ≤ (l.getD k (0, 0, 0)).2.2 ∧ (l.getD k (0, 0, 0)).2.2 ≤ 1000000
  self : ∀ j, j < l.length → (R.getD j []).getD j 0 = 0
theorem daysOk_get {l : List Int} {n k : Nat} (h : daysOk l n = true) (hk : k < n) : 0 ≤ l.getD k 0 ∧ l.getD k 0 ≤ 30 := by
  have hl := daysOk_len h
  have := daysOk_at h k (by omega)
  rwa [show l.getD k 0 = l[k]'(by omega) from by simp [show k < l.length by omega]]
theorem hallsOk_of {l : List THall} {H : List Int} {R : List (List Int)} (h : okHalls l H R = true) : HallsOk l H R := by
  simp only [okHalls, validR, Bool.and_eq_true, Bool.not_eq_true', decide_eq_true_eq] at h
  obtain ⟨h1, h2, h3, h4, h5⟩ := h
  have hr : ∀ j, j < l.length → daysOk (R.getD j []) l.length = true ∧ ((R.getD j []).getD j 0 == 0) = true := fun j hj => by
    have := allTo_get h5 j hj
    simpa [rowOkAt] using this
  refine ⟨h2, daysOk_len h3, h4, fun j hj => daysOk_len (hr j hj).1, fun k hk => daysOk_get h3 hk, fun j k hj hk => daysOk_get (hr j hj).1 hk, fun k hk => ?_, fun j hj => by simpa using (hr j hj).2⟩
  have := List.any_eq_false.1 h1 l[k] (List.getElem_mem hk)
  rw [show l.getD k (0, 0, 0) = l[k] from by simp [hk]]
  simp only [okHallB, Bool.not_eq_true, Bool.not_eq_false', Bool.and_eq_true] at this
  obtain ⟨q1, q2, q3⟩ := this
  have := inB_true q1
  have := inB_true q2
  have := inB_true q3
  omega
def tourOkAt (n : Nat) (T : List Int) (i : Nat) : Bool := inB (T.getD i 0) 0 ((n : Int) - 1) && !hasI (T.take i) (T.getD i 0)
def tourOk (n : Nat) (T : List Int) : Bool := allTo (tourOkAt n T) T.length
theorem tourOk_at {n : Nat} {T : List Int} (h : tourOk n T = true) (k : Nat) (hk : k < T.length) : ∃ j : Nat, T[k] = (j : Int) ∧ j < n := by
  have := allTo_get h k hk
  simp only [tourOkAt, Bool.and_eq_true] at this
  rw [show T.getD k 0 = T[k] from by simp [hk]] at this
  have := inB_true this.1
  exact ⟨T[k].toNat, by omega, by omega⟩
/-- what holds of a tour after k steps -/
def BdT (l : List THall) (k : Nat) (t : TS) : Prop :=
  (t.1 = -1 ∨ ∃ j : Nat, t.1 = (j : Int) ∧ j < l.length) ∧ (0 ≤ t.2.1 ∧ t.2.1 ≤ 366 + 31 * (k : Int)) ∧ (0 ≤ t.2.2.1 ∧ t.2.2.1 ≤ 1000000 * (k : Int)) ∧ (0 ≤ t.2.2.2.1 ∧ t.2.2.2.1 ≤ 365 * (k : Int))
theorem way_bd {l : List THall} {H : List Int} {R : List (List Int)} (h : HallsOk l H R) {t : TS} {i : Nat} (hb : BdT l i t) {k : Nat} (hk : k < l.length) : 0 ≤ way H R t.1 k ∧ way H R t.1 k ≤ 30 := by
  unfold way
  rcases hb.1 with e | ⟨j, e, hj⟩
  · rw [if_neg (by omega)]
    exact h.home k hk
  · rw [if_pos (by omega), e]
    exact h.day j k hj hk
theorem hallAt_nat (l : List THall) (k : Nat) : hallAt l (k : Int) = l.getD k (0, 0, 0) := rfl
theorem next_bd {l : List THall} {H : List Int} {R : List (List Int)} (h : HallsOk l H R) {t : TS} {i : Nat} (hb : BdT l i t) {k : Nat} (hk : k < l.length) : BdT l (i + 1) (nextT l H R t k) := by
  obtain ⟨w1, w2⟩ := way_bd h hb hk
  obtain ⟨⟨a1, a2, a3⟩, a4, a5⟩ := h.hall k hk
  obtain ⟨-, b1, b2, b3⟩ := hb
  have e : showT l H R t k = max (t.2.1 + way H R t.1 k) (l.getD k (0, 0, 0)).1 := rfl
  have e2 : thereT H R t k = t.2.1 + way H R t.1 k := rfl
  refine ⟨.inr ⟨k, rfl, hk⟩, ?_, ?_, ?_⟩
  · show 0 ≤ showT l H R t k + 1 ∧ _
    show _ ∧ showT l H R t k + 1 ≤ _
    rw [e]
    omega
  · show 0 ≤ t.2.2.1 + (hallAt l k).2.2 ∧ t.2.2.1 + (hallAt l k).2.2 ≤ _
    rw [hallAt_nat]
    omega
  · show 0 ≤ t.2.2.2.1 + showT l H R t k - thereT H R t k ∧ t.2.2.2.1 + showT l H R t k - thereT H R t k ≤ _
    rw [e, e2]
    omega
theorem run_bd {l : List THall} {H : List Int} {R : List (List Int)} (h : HallsOk l H R) {T : List Int} (hT : tourOk l.length T = true) (k : Nat) (hk : k ≤ T.length) : BdT l k (runT l H R startT (T.take k)) := by
  induction k with
  | zero => exact ⟨.inl rfl, by simp [runT, startT], by simp [runT, startT], by simp [runT, startT]⟩
  | succ k ih =>
    obtain ⟨j, e, hj⟩ := tourOk_at hT k (by omega)
    rw [List.take_succ_eq_append_getElem (by omega), runT_snoc, e]
    exact next_bd h (ih (by omega)) hj
theorem run_take {l : List THall} {H : List Int} {R : List (List Int)} {T : List Int} {k j : Nat} (hk : k < T.length) (e : T[k] = (j : Int)) : runT l H R startT (T.take (k + 1)) = nextT l H R (runT l H R startT (T.take k)) j := by
  rw [List.take_succ_eq_append_getElem hk, runT_snoc, e]
theorem shows_take {l : List THall} {H : List Int} {R : List (List Int)} {T : List Int} {k j : Nat} (hk : k < T.length) (e : T[k] = (j : Int)) : showsT l H R startT (T.take (k + 1)) = showsT l H R startT (T.take k) ++ [showT l H R (runT l H R startT (T.take k)) j] := by
  rw [List.take_succ_eq_append_getElem hk, showsT_snoc, e]
theorem theres_take {l : List THall} {H : List Int} {R : List (List Int)} {T : List Int} {k j : Nat} (hk : k < T.length) (e : T[k] = (j : Int)) : theresT l H R startT (T.take (k + 1)) = theresT l H R startT (T.take k) ++ [thereT H R (runT l H R startT (T.take k)) j] := by
  rw [List.take_succ_eq_append_getElem hk, theresT_snoc, e]

end Go.Proofs.Ytlgcehdklpbknaa
