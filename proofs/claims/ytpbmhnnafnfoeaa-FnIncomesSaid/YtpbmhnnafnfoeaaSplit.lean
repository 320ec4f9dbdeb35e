/- An income divided by shares, reference and program alike. No condition but that the slices read. -/
import Derived.Test.YtpbmhnnafnfoeaaSeats
namespace Go.Proofs.Ytpbmhnnafnfoeaa
open Go Go.RowKit Go.ChangeShapes Go.WideShapes
set_option linter.unusedSimpArgs false
set_option linter.unusedVariables false

def lft (l : List Int) (r : Int) : Int := l.foldl (fun r x => r - x) r
theorem lft_snoc (l : List Int) (r : Int) (k : Nat) (h : k < l.length) : lft (l.take (k + 1)) r = lft (l.take k) r - l[k] := by
  unfold lft
  rw [List.take_succ_eq_append_getElem h, List.foldl_append]
  rfl
/-- the parts, rounded down -/
def spOwn (inc : Int) (S : List Int) : List Int := S.map fun s => inc * s / sumI S
def spStep (S : List Int) (st : List Int × Int) (i : Nat) : List Int × Int := if 0 < st.2 ∧ 0 < S.getD i 0 then (st.1.set i (wrap64 (st.1.getD i 0 + 1)), st.2 - 1) else st
def spTo (S : List Int) (st : List Int × Int) : Nat → List Int × Int
  | 0 => st
  | i + 1 => spStep S (spTo S st i) i
def spStart (inc : Int) (S : List Int) : List Int × Int := (spOwn inc S, lft (spOwn inc S) inc)
def spBad (inc : Int) (S : List Int) : Bool := !inB inc 0 10000000 || (decide (30 < S.length) || S.any (fun x => !inB x 0 1000))
/-- what both answer -/
def spR (inc : Int) (S : List Int) : List Int × Int := if spBad inc S then ([], 2) else if sumI S = 0 then ([], 6) else ((spTo S (spStart inc S) S.length).1, 0)

theorem spTo_len (S : List Int) (st : List Int × Int) (n : Nat) : (spTo S st n).1.length = st.1.length := by
  induction n with
  | zero => rfl
  | succ n ih =>
    unfold spTo spStep
    split <;> simp [ih]
theorem spR_len0 (S : List Int) (st : List Int × Int) (i n : Nat) (h : (spTo S st i).2 ≤ 0) (hn : i ≤ n) (hd : ∀ m, spTo S st (i + m) = spTo S st i) : spTo S st n = spTo S st i := by
  have := hd (n - i)
  rwa [show i + (n - i) = n from by omega] at this
theorem spR_len (inc : Int) (S : List Int) : (spR inc S).1.length ≤ S.length := by
  unfold spR
  split
  · simp
  · split
    · simp
    · rw [spTo_len]; simp [spStart, spOwn]
theorem spTo_done (S : List Int) (st : List Int × Int) (i : Nat) (h : (spTo S st i).2 ≤ 0) (n : Nat) : spTo S st (i + n) = spTo S st i := by
  induction n with
  | zero => rfl
  | succ n ih =>
    show spStep S (spTo S st (i + n)) (i + n) = _
    unfold spStep
    rw [ih, if_neg (by omega)]
theorem sumI_bd (S : List Int) (h : S.any (fun x => !inB x 0 1000) = false) : ∀ k, k ≤ S.length → k ≤ 30 → 0 ≤ sumI (S.take k) ∧ sumI (S.take k) ≤ 1000 * k := by
  intro k
  induction k with
  | zero => intro _ _; simp [sumI]
  | succ k ih =>
    intro h1 h2
    obtain ⟨i1, i2⟩ := ih (by omega) (by omega)
    have hx : inB S[k] 0 1000 = true := by
      rw [List.any_eq_false] at h
      have := h S[k] (List.getElem_mem _)
      simpa using this
    obtain ⟨x1, x2⟩ := inB_true hx
    rw [sumI_snoc S k (by omega)]
    have hw : wrap64 (sumI (S.take k) + S[k]) = sumI (S.take k) + S[k] := IntWalk.wrap64_in _ ⟨by omega, by omega⟩
    rw [hw]
    omega
theorem own_bd (inc x a : Int) (h1 : 0 ≤ inc ∧ inc ≤ 10000000) (h2 : 0 ≤ x ∧ x ≤ 1000) (h3 : 1 ≤ a) : (0 ≤ inc * x ∧ inc * x ≤ 10000000000) ∧ 0 ≤ inc * x / a ∧ inc * x / a ≤ 10000000000 := by
  obtain ⟨n, rfl⟩ := Int.eq_ofNat_of_zero_le h1.1
  obtain ⟨m, rfl⟩ := Int.eq_ofNat_of_zero_le h2.1
  have e : n * m ≤ 10000000 * 1000 := Nat.mul_le_mul (by omega) (by omega)
  have e0 : (0 : Int) ≤ (n : Int) * (m : Int) := by have : (0 : Int) ≤ ((n * m : Nat) : Int) := by omega
                                                    simpa using this
  have e1 : (n : Int) * (m : Int) ≤ 10000000000 := by have : ((n * m : Nat) : Int) ≤ 10000000000 := by omega
                                                      simpa using this
  refine ⟨⟨e0, e1⟩, Int.ediv_nonneg e0 (by omega), Int.le_trans (Int.ediv_le_self _ e0) e1⟩
theorem lft_bd (inc : Int) (S : List Int) (h1 : 0 ≤ inc ∧ inc ≤ 10000000) (h : S.any (fun x => !inB x 0 1000) = false) (ha : 1 ≤ sumI S) :
    ∀ k, k ≤ S.length → -(10000000000 * (k : Int)) ≤ lft ((spOwn inc S).take k) inc ∧ lft ((spOwn inc S).take k) inc ≤ 10000000 := by
  intro k
  induction k with
  | zero => intro _; simp [lft]; omega
  | succ k ih =>
    intro hk
    obtain ⟨i1, i2⟩ := ih (by omega)
    have hx : inB S[k] 0 1000 = true := by
      rw [List.any_eq_false] at h
      have := h S[k] (List.getElem_mem _)
      simpa using this
    obtain ⟨-, b1, b2⟩ := own_bd inc S[k] (sumI S) h1 (inB_true hx) ha
    rw [lft_snoc _ _ _ (by simp [spOwn]; omega)]
    have e : (spOwn inc S)[k]'(by simp [spOwn]; omega) = inc * S[k] / sumI S := by simp [spOwn]
    rw [e]
    omega
theorem spTo_le (S : List Int) (st : List Int × Int) (h : st.2 ≤ 10000000) (n : Nat) : (spTo S st n).2 ≤ 10000000 := by
  induction n with
  | zero => exact h
  | succ n ih =>
    unfold spTo spStep
    split
    · simp only; omega
    · exact ih
theorem GivesOwnI.mk {w wr : World} {E : TypeId} {k : Nat} {r : List Int × Int} {c : Int} {l : List Int} {v : Value} (h : r = (l, c)) (ho : Own wr w.heap.size E k v eI l) (hb : Below w.heap.size w wr) : GivesOwnI w E k eI r (.returned (.tuple #[v, .int .i64 c])) wr := by
  subst h
  exact ⟨_, rfl, ho, hb⟩
theorem GivesOwnI.mk_nil {w : World} {E : TypeId} {k : Nat} {r : List Int × Int} {c : Int} (h : r = ([], c)) (wr : World) (hb : Below w.heap.size w wr) : GivesOwnI w E k eI r (.returned (.tuple #[.slice none 0 0, .int .i64 c])) wr := by
  subst h
  exact ⟨_, rfl, Own.nil _ _ _ _ _, hb⟩

set_option maxHeartbeats 4000000 in
theorem split_impl (w : World) (inc : Int) (vS : Value) (S : List Int) (hS : Sl w 1 vS eI S) :
    Calls Try.prog 12 #[.int .i64 inc, vS] w (GivesOwnI w 2 1 eI (spR inc S)) := by
  have m1 := hS.len
  obtain ⟨-, A, c, rfl, -, -, -⟩ := id hS
  rcases h1 : inB inc 0 10000000 with _ | _
  · have HR := hd (show spR inc S = ([], 2) by simp [spR, spBad, h1])
    go_enter Try.func12, Try.ntmps12
    go_wp2_with (first | (go_at_call 21; refine (money_impl _ _).mono ?_; rintro e w1 ⟨rfl, hw⟩; have hw := hw.symm; subst hw))
    go_ret2
    exact GivesOwnI.mk_nil HR.out _ (Below.refl _ _)
  obtain ⟨b1, b2⟩ := inB_true h1
  by_cases h2 : 30 < S.length
  · have HR := hd (show spR inc S = ([], 2) by simp [spR, spBad, h2])
    have z : (30 : Int) < (S.length : Int) := by omega
    go_enter Try.func12, Try.ntmps12
    go_wp2_with (first | (go_at_call 21; refine (money_impl _ _).mono ?_; rintro e w1 ⟨rfl, hw⟩; have hw := hw.symm; subst hw))
    go_ret2
    exact GivesOwnI.mk_nil HR.out _ (Below.refl _ _)
  have z30 : (S.length : Int) ≤ 30 := by omega
  rcases h3 : S.any (fun x : Int => !inB x 0 1000) with _ | _
  case true =>
    have HR := hd (show spR inc S = ([], 2) by simp only [spR, spBad, h3]; simp)
    go_enter Try.func12, Try.ntmps12
    go_wp2_with (first | (go_at_call 21; refine (money_impl _ _).mono ?_; rintro e w1 ⟨rfl, hw⟩; have hw := hw.symm; subst hw))
    refine (contains_share _ _ _ hS).mono ?_
    rintro e w1 ⟨rfl, hw⟩
    obtain rfl : w = w1 := hw.symm
    simp only [h3]
    go_wp2_with fail
    go_ret2
    exact GivesOwnI.mk_nil HR.out _ (Below.refl _ _)
  have hbad : spBad inc S = false := by simp only [spBad, h1, h3]; simp; omega
  by_cases h0 : sumI S = 0
  · have HR := hd (show spR inc S = ([], 6) by unfold spR; rw [hbad, if_neg (by simp), if_pos h0])
    have z0 : (sumI S == 0) = true := by simp [h0]
    clear hbad h0
    go_enter Try.func12, Try.ntmps12
    go_wp2_with (first | (go_at_call 21; refine (money_impl _ _).mono ?_; rintro e w1 ⟨rfl, hw⟩; have hw := hw.symm; subst hw))
    refine (contains_share _ _ _ hS).mono ?_
    rintro e w1 ⟨rfl, hw⟩
    obtain rfl : w = w1 := hw.symm
    simp only [h3]
    go_wp2_with (first | (go_at_call 28; refine (sum_impl _ _ _ hS).mono ?_; rintro e w1 ⟨rfl, rfl⟩))
    go_ret2
    exact GivesOwnI.mk_nil HR.out _ (Below.refl _ _)
  obtain ⟨a1, a2⟩ := sumI_bd S h3 S.length (Nat.le_refl _) (by omega)
  rw [List.take_length] at a1 a2
  have hs1 : 1 ≤ sumI S := by omega
  have hs0 : (sumI S == 0) = false := beq_eq_false_iff_ne.2 (by omega)
  have HR := hd (show spR inc S = ((spTo S (spStart inc S) S.length).1, 0) by unfold spR; rw [hbad, if_neg (by simp), if_neg (by omega)])
  have HLB := hd (lft_bd inc S ⟨b1, b2⟩ h3 hs1)
  have HOB := hd (fun x : Int => fun h => own_bd inc x (sumI S) ⟨b1, b2⟩ h hs1)
  have HIN := hd (show ∀ k (h : k < S.length), 0 ≤ S[k] ∧ S[k] ≤ 1000 from fun k h => by
    have h4 := h3
    rw [List.any_eq_false] at h4
    have := h4 S[k] (List.getElem_mem _)
    exact inB_true (by simpa using this))
  obtain ⟨i0, hi, hz0, hz1, hz2⟩ := info_parts info_i64
  clear hbad
  go_enter Try.func12, Try.ntmps12
  go_wp2_with (first | (go_at_call 21; refine (money_impl _ _).mono ?_; rintro e w1 ⟨rfl, hw⟩; have hw := hw.symm; subst hw))
  refine (contains_share _ _ _ hS).mono ?_
  rintro e w1 ⟨rfl, hw⟩
  obtain rfl : w = w1 := hw.symm
  simp only [h3]
  go_wp2_with fail
  refine (sum_impl _ _ _ hS).mono ?_
  rintro e w1 ⟨rfl, hw⟩
  obtain rfl : w = w1 := hw.symm
  go_wp2_with fail
  have hown00 := Own.made0 w w.heap.size 2 1 eI (Nat.le_refl _)
  have hbel00 := (Below.refl w.heap.size w).alloc (Nat.le_refl _) (.cells #[] 2)
  go_loopw [7, 8, 34] (fun ov lv i wr => ∃ k : Nat, k ≤ S.length ∧ i = .int .i64 k ∧ lv = .int .i64 (lft ((spOwn inc S).take k) inc) ∧ Own wr w.heap.size 2 1 ov eI ((spOwn inc S).take k) ∧ Below w.heap.size w wr) (fun _ _ i _ => S.length - (intOf i).toNat)
  case atStart => exact ⟨0, Nat.zero_le _, rfl, by simp [lft], hown00, hbel00⟩
  case round =>
    obtain ⟨k, hk, rfl, rfl, hown, hbel⟩ := hrel
    clear hown00 hbel00
    have hol : (spOwn inc S).length = S.length := by simp [spOwn]
    by_cases hlt : k < S.length
    · have HF1 := hd (lft_snoc (spOwn inc S) inc k (by omega))
      have HF2 := hd (show (spOwn inc S).take (k + 1) = (spOwn inc S).take k ++ [inc * S[k] / sumI S] by rw [List.take_succ_eq_append_getElem (by omega)]; simp [spOwn])
      have HE := hd (show (spOwn inc S)[k]'(by omega) = inc * S[k] / sumI S by simp [spOwn])
      rw [HE.out] at HF1
      have hxin := HIN.out k hlt
      obtain ⟨b, o, rfl, -, hc⟩ := (hS.below hbel).int_at hlt
      clear HE
      generalize S[k] = x at hc HF1 HF2 hxin
      obtain ⟨⟨q1, q2⟩, q3, q4⟩ := HOB.out x hxin
      obtain ⟨r1, r2⟩ := HLB.out k hk
      have HLEN := hd (show ((spOwn inc S).take k).length = k by rw [List.length_take]; omega)
      have hl30 : ((spOwn inc S).take k).length ≤ 30 := by rw [HLEN.out]; omega
      clear hol
      generalize (spOwn inc S).take k = L at hown HF1 HF2 HLEN r1 r2 hl30 ⊢
      generalize lft L inc = r at HF1 r1 r2 ⊢
      have q5 : -300000000000 ≤ r - inc * x / sumI S := by omega
      have q6 : r - inc * x / sumI S ≤ 10000000 := by omega
      go_wp2_with (first | (at_builtin; refine wpList_push _ rfl _ _ 28 rfl i0 (.int .i64 0) 8 Try.underlying28 hi hz0 hz1 hz2 rfl (by decide) _ _ (inc * x / sumI S) rfl (hown.alloc _) wr.heap.size rfl #[.int .i64 (inc * x / sumI S)] 2 (heap_alloc_new _ _) rfl rfl (by intro u hu; simp [eI] at hu; subst hu; rfl) (by unfold maxLen; omega) (by omega) (by have := hbel.size; simp; omega) ?_))
      intro v' w2 hown' hgr'
      have hbel' := (hbel.alloc hbel.size (.cells #[.int .i64 (inc * x / sumI S)] 2)).grown hgr' (by have := hbel.size; simp; omega) (fun g hg => (hown.lt g hg).1)
      clear hown hgr'
      go_wp2_with fail
      go_roundw
      case rel => exact ⟨k + 1, by omega, by go_num, by rw [HF1.out], by rw [HF2.out]; exact hown', hbel'⟩
      case measure => simp [intOf]; omega
    · obtain rfl : k = S.length := by omega
      have HT : Hid ((spOwn inc S).take S.length = spOwn inc S) := hd (by rw [List.take_of_length_le (by omega)])
      have HL0 : Hid (lft (spOwn inc S) inc ≤ 10000000) := hd (by have := (HLB.out S.length (Nat.le_refl _)).2; rwa [HT.out] at this)
      rw [HT.out] at hown ⊢
      rcases hown.form with ⟨-, hnil⟩ | ⟨g, cap, rfl, -, -, -, -⟩
      · exfalso
        rw [hnil] at hol
        have : S = [] := List.eq_nil_of_length_eq_zero hol.symm
        rw [this] at hs1
        simp [sumI] at hs1
      rw [hol] at hown
      rw [hol]
      have hown0 := hown
      have hbel0 := hbel
      clear hown hbel
      go_wp2_with fail
      go_loopw [8, 53] (fun lv i wr => ∃ k : Nat, k ≤ S.length ∧ i = .int .i64 k ∧ ∃ (os : List Int) (r : Int), Hid ((os, r) = spTo S (spStart inc S) k) ∧ lv = .int .i64 r ∧ r ≤ 10000000 ∧ os.length = S.length ∧ Own wr w.heap.size 2 1 (.slice (some ⟨g, 0, none⟩) S.length cap) eI os ∧ Below w.heap.size w wr) (fun _ i _ => S.length - (intOf i).toNat)
      case atStart => exact ⟨0, Nat.zero_le _, rfl, spOwn inc S, lft (spOwn inc S) inc, hd rfl, rfl, HL0.out, hol, hown0, hbel0⟩
      case round =>
        obtain ⟨k, hk, rfl, os, r, HST, rfl, hr, hosl, hown, hbel⟩ := hrel
        have HOL := hd hosl
        clear hosl
        clear hown0
        by_cases hlt : k < S.length
        · have HX := hd (show S.getD k 0 = S[k] by simp [hlt])
          obtain ⟨b, o, rfl, -, hc⟩ := (hS.below hbel).int_at hlt
          generalize S[k] = x at hc HX
          have hko : k < os.length := by have := HOL.out; omega
          obtain ⟨hcell, hfr⟩ := hown.cell1 k hko
          have HY := hd (show os.getD k 0 = os[k] by simp [hko])
          generalize os[k] = y at hcell HY
          have hgb : w.heap.size ≤ g := (hown.lt g rfl).1
          have HSTEP := hd (show spTo S (spStart inc S) (k + 1) = spStep S (os, r) k by rw [HST.out]; rfl)
          rcases hx0 : decide (0 < x) with _ | _
          · have hxn : x ≤ 0 := by simpa using hx0
            rcases hr0 : decide (0 < r) with _ | _
            · have hrn : r ≤ 0 := by simpa using hr0
              go_wp2_with fail
              go_roundw
              case rel => exact ⟨k + 1, by omega, by go_num, os, r, hd (by rw [HSTEP.out]; unfold spStep; rw [if_neg (by rw [HX.out]; simp only; omega)]), rfl, hr, HOL.out, hown, hbel⟩
              case measure => simp [intOf]; omega
            · have hrp : 0 < r := by simpa using hr0
              go_wp2_with fail
              go_roundw
              case rel => exact ⟨k + 1, by omega, by go_num, os, r, hd (by rw [HSTEP.out]; unfold spStep; rw [if_neg (by rw [HX.out]; simp only; omega)]), rfl, hr, HOL.out, hown, hbel⟩
              case measure => simp [intOf]; omega
          · have hxp : 0 < x := by simpa using hx0
            rcases hr0 : decide (0 < r) with _ | _
            · have hrn : r ≤ 0 := by simpa using hr0
              go_wp2_with fail
              go_roundw
              case rel => exact ⟨k + 1, by omega, by go_num, os, r, hd (by rw [HSTEP.out]; unfold spStep; rw [if_neg (by rw [HX.out]; simp only; omega)]), rfl, hr, HOL.out, hown, hbel⟩
              case measure => simp [intOf]; omega
            · have hrp : 0 < r := by simpa using hr0
              go_wp2_with fail
              go_roundw
              case rel => exact ⟨k + 1, by omega, by go_num, os.set k (wrap64 (y + 1)), r - 1, hd (by rw [HSTEP.out]; unfold spStep; rw [if_pos (by rw [HX.out]; simp only; omega)]; simp only [HY.out]), rfl, by omega, by rw [List.length_set]; exact HOL.out, hown.set1 k _, hbel.setCell hgb _⟩
              case measure => simp [intOf]; omega
        · have HF : Hid ((spTo S (spStart inc S) S.length).1 = os) := hd (by rw [show S.length = k from by omega, ← HST.out])
          rcases hr0 : decide (0 < r) with _ | _
          all_goals
            go_wp2_with fail
            go_ret2
            exact GivesOwnI.mk (l := os) (c := 0) (by rw [HR.out, HF.out]) hown hbel

set_option maxHeartbeats 4000000 in
theorem split_spec (w : World) (inc : Int) (vS : Value) (S : List Int) (hS : Sl w 1 vS eI S) :
    Calls Try.prog 13 #[.int .i64 inc, vS] w (GivesOwnI w 2 1 eI (spR inc S)) := by
  have m1 := hS.len
  obtain ⟨-, A, c, rfl, -, -, -⟩ := id hS
  rcases h1 : inB inc 0 10000000 with _ | _
  · have HR := hd (show spR inc S = ([], 2) by simp [spR, spBad, h1])
    go_enter Try.func13, Try.ntmps13
    go_wp2_with (first | (go_at_call 23; refine (in_spec _ _ _ _).mono ?_; rintro e w1 ⟨rfl, hw⟩; obtain rfl : w = w1 := hw.symm))
    go_ret2
    exact GivesOwnI.mk_nil HR.out _ (Below.refl _ _)
  obtain ⟨b1, b2⟩ := inB_true h1
  go_enter Try.func13, Try.ntmps13
  go_wp2_with (first | (go_at_call 23; refine (in_spec _ _ _ _).mono ?_; rintro e w1 ⟨rfl, hw⟩; obtain rfl : w = w1 := hw.symm))
  go_loop [6] (fun i => ∃ k : Nat, k ≤ S.length ∧ i = .int .i64 k ∧ Hid ((S.take k).any (fun x : Int => !inB x 0 1000) = false)) (fun i => S.length - (intOf i).toNat)
  case atStart => exact ⟨0, Nat.zero_le _, rfl, hd (by simp)⟩
  case round =>
    obtain ⟨k, hk, rfl, HT⟩ := hrel
    by_cases hlt : k < S.length
    · obtain ⟨b, o, rfl, hb, hc⟩ := hS.int_at hlt
      have HH := hd (any_of_hit (fun x : Int => !inB x 0 1000) S k hlt)
      have HN := hd (any_take_snoc (fun x : Int => !inB x 0 1000) S k hlt HT.out)
      generalize S[k] = x at hc HH HN
      rcases hq : inB x 0 1000 with _ | _
      · go_wp2_with (go_at_call 23; refine (in_spec _ _ _ _).mono ?_; rintro e w1 ⟨rfl, hw⟩; obtain rfl : w = w1 := hw.symm)
        go_ret2
        exact GivesOwnI.mk_nil (by have e := HH.out (by simp [hq]); simp only [spR, spBad, e]; simp) _ (Below.refl _ _)
      · go_wp2_with (go_at_call 23; refine (in_spec _ _ _ _).mono ?_; rintro e w1 ⟨rfl, hw⟩; obtain rfl : w = w1 := hw.symm)
        go_round
        case rel => exact ⟨k + 1, by omega, by go_num, hd (HN.out (by simp [hq]))⟩
        case measure => simp [intOf]; omega
    · have h3 : S.any (fun x : Int => !inB x 0 1000) = false := by have := HT.out; rwa [List.take_of_length_le (by omega)] at this
      clear HT
      obtain rfl : k = S.length := by omega
      by_cases h2 : 30 < S.length
      · have HR := hd (show spR inc S = ([], 2) by simp [spR, spBad, h2])
        have z : (30 : Int) < (S.length : Int) := by omega
        clear h3
        go_wp2_with fail
        go_ret2
        exact GivesOwnI.mk_nil HR.out _ (Below.refl _ _)
      have z30 : (S.length : Int) ≤ 30 := by omega
      have hbad : spBad inc S = false := by simp only [spBad, h1, h3]; simp; omega
      by_cases h0 : sumI S = 0
      · have HR := hd (show spR inc S = ([], 6) by unfold spR; rw [hbad, if_neg (by simp), if_pos h0])
        have z0 : (sumI S == 0) = true := by simp [h0]
        clear hbad h0 h3
        go_wp2_with (first | (go_at_call 29; refine (sum_spec _ _ _ hS).mono ?_; rintro e w1 ⟨rfl, rfl⟩))
        go_ret2
        exact GivesOwnI.mk_nil HR.out _ (Below.refl _ _)
      obtain ⟨a1, a2⟩ := sumI_bd S h3 S.length (Nat.le_refl _) (by omega)
      rw [List.take_length] at a1 a2
      have hs1 : 1 ≤ sumI S := by omega
      have hs0 : (sumI S == 0) = false := beq_eq_false_iff_ne.2 (by omega)
      have HR := hd (show spR inc S = ((spTo S (spStart inc S) S.length).1, 0) by unfold spR; rw [hbad, if_neg (by simp), if_neg (by omega)])
      have HLB := hd (lft_bd inc S ⟨b1, b2⟩ h3 hs1)
      have HOB := hd (fun x : Int => fun h => own_bd inc x (sumI S) ⟨b1, b2⟩ h hs1)
      have HIN := hd (show ∀ k (h : k < S.length), 0 ≤ S[k] ∧ S[k] ≤ 1000 from fun k h => by
        have h4 := h3
        rw [List.any_eq_false] at h4
        have := h4 S[k] (List.getElem_mem _)
        exact inB_true (by simpa using this))
      obtain ⟨i0, hi, hz0, hz1, hz2⟩ := info_parts info_i64
      clear hbad
      clear h3
      go_wp2_with fail
      refine (sum_spec _ _ _ hS).mono ?_
      rintro e w1 ⟨rfl, hw⟩
      obtain rfl : w = w1 := hw.symm
      go_wp2_with fail
      have hown00 := Own.made0 w w.heap.size 2 1 eI (Nat.le_refl _)
      have hbel00 := (Below.refl w.heap.size w).alloc (Nat.le_refl _) (.cells #[] 2)
      go_loopw [8, 9, 10] (fun ov lv i wr => ∃ k : Nat, k ≤ S.length ∧ i = .int .i64 k ∧ lv = .int .i64 (lft ((spOwn inc S).take k) inc) ∧ Own wr w.heap.size 2 1 ov eI ((spOwn inc S).take k) ∧ Below w.heap.size w wr) (fun _ _ i _ => S.length - (intOf i).toNat)
      case atStart => exact ⟨0, Nat.zero_le _, rfl, by simp [lft], hown00, hbel00⟩
      case round =>
        obtain ⟨k, hk, rfl, rfl, hown, hbel⟩ := hrel
        clear hown00 hbel00
        have hol : (spOwn inc S).length = S.length := by simp [spOwn]
        by_cases hlt : k < S.length
        · have HF1 := hd (lft_snoc (spOwn inc S) inc k (by omega))
          have HF2 := hd (show (spOwn inc S).take (k + 1) = (spOwn inc S).take k ++ [inc * S[k] / sumI S] by rw [List.take_succ_eq_append_getElem (by omega)]; simp [spOwn])
          have HE := hd (show (spOwn inc S)[k]'(by omega) = inc * S[k] / sumI S by simp [spOwn])
          rw [HE.out] at HF1
          have hxin := HIN.out k hlt
          obtain ⟨b, o, rfl, -, hc⟩ := (hS.below hbel).int_at hlt
          clear HE
          generalize S[k] = x at hc HF1 HF2 hxin
          obtain ⟨⟨q1, q2⟩, q3, q4⟩ := HOB.out x hxin
          obtain ⟨r1, r2⟩ := HLB.out k hk
          have HLEN := hd (show ((spOwn inc S).take k).length = k by rw [List.length_take]; omega)
          have hl30 : ((spOwn inc S).take k).length ≤ 30 := by rw [HLEN.out]; omega
          clear hol
          generalize (spOwn inc S).take k = L at hown HF1 HF2 HLEN r1 r2 hl30 ⊢
          generalize lft L inc = r at HF1 r1 r2 ⊢
          have q5 : -300000000000 ≤ r - inc * x / sumI S := by omega
          have q6 : r - inc * x / sumI S ≤ 10000000 := by omega
          go_wp2_with (first | (at_builtin; refine wpList_push _ rfl _ _ 28 rfl i0 (.int .i64 0) 8 Try.underlying28 hi hz0 hz1 hz2 rfl (by decide) _ _ (inc * x / sumI S) rfl (hown.alloc _) wr.heap.size rfl #[.int .i64 (inc * x / sumI S)] 2 (heap_alloc_new _ _) rfl rfl (by intro u hu; simp [eI] at hu; subst hu; rfl) (by unfold maxLen; omega) (by omega) (by have := hbel.size; simp; omega) ?_))
          intro v' w2 hown' hgr'
          have hbel' := (hbel.alloc hbel.size (.cells #[.int .i64 (inc * x / sumI S)] 2)).grown hgr' (by have := hbel.size; simp; omega) (fun g hg => (hown.lt g hg).1)
          clear hown hgr'
          go_wp2_with fail
          go_roundw
          case rel => exact ⟨k + 1, by omega, by go_num, by rw [HF1.out], by rw [HF2.out]; exact hown', hbel'⟩
          case measure => simp [intOf]; omega
        · obtain rfl : k = S.length := by omega
          have HT : Hid ((spOwn inc S).take S.length = spOwn inc S) := hd (by rw [List.take_of_length_le (by omega)])
          have HL0 : Hid (lft (spOwn inc S) inc ≤ 10000000) := hd (by have := (HLB.out S.length (Nat.le_refl _)).2; rwa [HT.out] at this)
          rw [HT.out] at hown ⊢
          rcases hown.form with ⟨-, hnil⟩ | ⟨g, cap, rfl, -, -, -, -⟩
          · exfalso
            rw [hnil] at hol
            have : S = [] := List.eq_nil_of_length_eq_zero hol.symm
            rw [this] at hs1
            simp [sumI] at hs1
          rw [hol] at hown
          rw [hol]
          have hown0 := hown
          have hbel0 := hbel
          clear hown hbel
          go_wp2_with fail
          go_loopw [9, 12] (fun lv i wr => ∃ k : Nat, k ≤ S.length ∧ i = .int .i64 k ∧ ∃ (os : List Int) (r : Int), Hid ((os, r) = spTo S (spStart inc S) k) ∧ lv = .int .i64 r ∧ r ≤ 10000000 ∧ os.length = S.length ∧ Own wr w.heap.size 2 1 (.slice (some ⟨g, 0, none⟩) S.length cap) eI os ∧ Below w.heap.size w wr) (fun _ i _ => S.length - (intOf i).toNat)
          case atStart => exact ⟨0, Nat.zero_le _, rfl, spOwn inc S, lft (spOwn inc S) inc, hd rfl, rfl, HL0.out, hol, hown0, hbel0⟩
          case round =>
            obtain ⟨k, hk, rfl, os, r, HST, rfl, hr, hosl, hown, hbel⟩ := hrel
            have HOL := hd hosl
            clear hosl
            clear hown0
            by_cases hlt : k < S.length
            · have HX := hd (show S.getD k 0 = S[k] by simp [hlt])
              obtain ⟨b, o, rfl, -, hc⟩ := (hS.below hbel).int_at hlt
              generalize S[k] = x at hc HX
              have hko : k < os.length := by have := HOL.out; omega
              obtain ⟨hcell, hfr⟩ := hown.cell1 k hko
              have HY := hd (show os.getD k 0 = os[k] by simp [hko])
              generalize os[k] = y at hcell HY
              have hgb : w.heap.size ≤ g := (hown.lt g rfl).1
              have HSTEP := hd (show spTo S (spStart inc S) (k + 1) = spStep S (os, r) k by rw [HST.out]; rfl)
              rcases hx0 : decide (0 < x) with _ | _
              · have hxn : x ≤ 0 := by simpa using hx0
                rcases hr0 : decide (0 < r) with _ | _
                · have hrn : r ≤ 0 := by simpa using hr0
                  have hz0 : (spTo S (spStart inc S) k).2 ≤ 0 := by rw [← HST.out]; exact hrn
                  have HF : Hid ((spTo S (spStart inc S) S.length).1 = os) := hd (by rw [spR_len0 S (spStart inc S) k S.length hz0 hk (spTo_done S (spStart inc S) k hz0), ← HST.out])
                  clear hz0
                  go_wp2_with fail
                  go_ret2
                  exact GivesOwnI.mk (l := os) (c := 0) (by rw [HR.out, HF.out]) hown hbel
                · have hrp : 0 < r := by simpa using hr0
                  go_wp2_with fail
                  go_roundw
                  case rel => exact ⟨k + 1, by omega, by go_num, os, r, hd (by rw [HSTEP.out]; unfold spStep; rw [if_neg (by rw [HX.out]; simp only; omega)]), rfl, hr, HOL.out, hown, hbel⟩
                  case measure => simp [intOf]; omega
              · have hxp : 0 < x := by simpa using hx0
                rcases hr0 : decide (0 < r) with _ | _
                · have hrn : r ≤ 0 := by simpa using hr0
                  have hz0 : (spTo S (spStart inc S) k).2 ≤ 0 := by rw [← HST.out]; exact hrn
                  have HF : Hid ((spTo S (spStart inc S) S.length).1 = os) := hd (by rw [spR_len0 S (spStart inc S) k S.length hz0 hk (spTo_done S (spStart inc S) k hz0), ← HST.out])
                  clear hz0
                  go_wp2_with fail
                  go_ret2
                  exact GivesOwnI.mk (l := os) (c := 0) (by rw [HR.out, HF.out]) hown hbel
                · have hrp : 0 < r := by simpa using hr0
                  go_wp2_with fail
                  go_roundw
                  case rel => exact ⟨k + 1, by omega, by go_num, os.set k (wrap64 (y + 1)), r - 1, hd (by rw [HSTEP.out]; unfold spStep; rw [if_pos (by rw [HX.out]; simp only; omega)]; simp only [HY.out]), rfl, by omega, by rw [List.length_set]; exact HOL.out, hown.set1 k _, hbel.setCell hgb _⟩
                  case measure => simp [intOf]; omega
            · have HF : Hid ((spTo S (spStart inc S) S.length).1 = os) := hd (by rw [show S.length = k from by omega, ← HST.out])
              rcases hr0 : decide (0 < r) with _ | _
              all_goals
                go_wp2_with fail
                go_ret2
                exact GivesOwnI.mk (l := os) (c := 0) (by rw [HR.out, HF.out]) hown hbel

end Go.Proofs.Ytpbmhnnafnfoeaa
