/- Prices by seats and incomes by shares, reference and program alike. No condition but that the slices read. -/
import Derived.Test.YtpbmhnnafnfoeaaBase
namespace Go.Proofs.Ytpbmhnnafnfoeaa
open Go Go.RowKit Go.ChangeShapes Go.WideShapes
set_option linter.unusedSimpArgs false
set_option linter.unusedVariables false

theorem pred_money (x : Int) (w : World) : Calls Try.prog 25 #[.int .i64 x] w fun e w' => e = .returned (.bool (!inB x 0 10000000)) ∧ w' = w := by
  go_enter Try.func25, Try.ntmps25
  go_wp2_with (go_at_call 21; refine (money_impl _ _).mono ?_; rintro e w' ⟨rfl, rfl⟩)
  go_ret
  exact ⟨rfl, rfl⟩

set_option maxHeartbeats 1000000 in
theorem index_money (w : World) (v : Value) (l : List Int) (h : Sl w 1 v eI l) :
    Calls Try.prog 31 #[v, .func (.func 25) #[] #[]] w fun e w' => e = .returned (.int .i64 (idxGo (fun x : Int => !inB x 0 10000000) l 0)) ∧ w' = w := by
  have m1 := h.len
  obtain ⟨-, A, c, rfl, -, -, -⟩ := id h
  go_enter Try.func31, Try.ntmps31
  go_wp2_with fail
  go_loop [8] (fun i => ∃ k : Nat, k ≤ l.length ∧ i = .int .i64 k ∧ Hid (idxGo (fun x : Int => !inB x 0 10000000) (l.drop k) k = idxGo (fun x : Int => !inB x 0 10000000) l 0)) (fun i => l.length - (intOf i).toNat)
  case atStart => exact ⟨0, Nat.zero_le _, rfl, hd (by simp)⟩
  case round =>
    obtain ⟨k, hk, rfl, HT⟩ := hrel
    by_cases hlt : k < l.length
    · obtain ⟨b, o, rfl, hb, hc⟩ := h.int_at hlt
      have HS := hd (HT.out.symm.trans (idxGo_drop (fun x : Int => !inB x 0 10000000) l k k hlt))
      generalize l[k] = x at hc HS
      rcases hp : (fun x : Int => !inB x 0 10000000) x with _ | _
      · go_wp2_with (go_at_call 25; refine (pred_money x _).mono ?_; rintro e w' ⟨rfl, rfl⟩)
        go_round
        case rel => exact ⟨k + 1, by omega, by go_num, hd (by have := HS.out; rw [hp] at this; exact this.symm)⟩
        case measure => simp [intOf]; omega
      · go_wp2_with (go_at_call 25; refine (pred_money x _).mono ?_; rintro e w' ⟨rfl, rfl⟩)
        go_ret
        exact ⟨by rw [HS.out, hp]; rfl, rfl⟩
    · go_wp2_with fail
      go_ret
      exact ⟨by rw [← HT.out, List.drop_of_length_le (by omega)]; rfl, rfl⟩
theorem contains_money (w : World) (v : Value) (l : List Int) (h : Sl w 1 v eI l) :
    Calls Try.prog 24 #[v, .func (.func 25) #[] #[]] w fun e w' => e = .returned (.bool (l.any (fun x : Int => !inB x 0 10000000))) ∧ w' = w := by
  rw [← idxGo_nonneg (fun x : Int => !inB x 0 10000000) l 0 (by omega)]
  go_enter Try.func24, Try.ntmps24
  go_wp2_with (go_at_call 31; refine (index_money _ _ _ h).mono ?_; rintro e w' ⟨rfl, rfl⟩)
  go_ret
  exact ⟨rfl, rfl⟩

theorem pred_seats (x : Int) (w : World) : Calls Try.prog 26 #[.int .i64 x] w fun e w' => e = .returned (.bool (!inB x 0 100000)) ∧ w' = w := by
  go_enter Try.func26, Try.ntmps26
  go_wp2_with (go_at_call 22; refine (in_impl _ _ _ _).mono ?_; rintro e w' ⟨rfl, rfl⟩)
  go_ret
  exact ⟨rfl, rfl⟩

set_option maxHeartbeats 1000000 in
theorem index_seats (w : World) (v : Value) (l : List Int) (h : Sl w 1 v eI l) :
    Calls Try.prog 31 #[v, .func (.func 26) #[] #[]] w fun e w' => e = .returned (.int .i64 (idxGo (fun x : Int => !inB x 0 100000) l 0)) ∧ w' = w := by
  have m1 := h.len
  obtain ⟨-, A, c, rfl, -, -, -⟩ := id h
  go_enter Try.func31, Try.ntmps31
  go_wp2_with fail
  go_loop [8] (fun i => ∃ k : Nat, k ≤ l.length ∧ i = .int .i64 k ∧ Hid (idxGo (fun x : Int => !inB x 0 100000) (l.drop k) k = idxGo (fun x : Int => !inB x 0 100000) l 0)) (fun i => l.length - (intOf i).toNat)
  case atStart => exact ⟨0, Nat.zero_le _, rfl, hd (by simp)⟩
  case round =>
    obtain ⟨k, hk, rfl, HT⟩ := hrel
    by_cases hlt : k < l.length
    · obtain ⟨b, o, rfl, hb, hc⟩ := h.int_at hlt
      have HS := hd (HT.out.symm.trans (idxGo_drop (fun x : Int => !inB x 0 100000) l k k hlt))
      generalize l[k] = x at hc HS
      rcases hp : (fun x : Int => !inB x 0 100000) x with _ | _
      · go_wp2_with (go_at_call 26; refine (pred_seats x _).mono ?_; rintro e w' ⟨rfl, rfl⟩)
        go_round
        case rel => exact ⟨k + 1, by omega, by go_num, hd (by have := HS.out; rw [hp] at this; exact this.symm)⟩
        case measure => simp [intOf]; omega
      · go_wp2_with (go_at_call 26; refine (pred_seats x _).mono ?_; rintro e w' ⟨rfl, rfl⟩)
        go_ret
        exact ⟨by rw [HS.out, hp]; rfl, rfl⟩
    · go_wp2_with fail
      go_ret
      exact ⟨by rw [← HT.out, List.drop_of_length_le (by omega)]; rfl, rfl⟩
theorem contains_seats (w : World) (v : Value) (l : List Int) (h : Sl w 1 v eI l) :
    Calls Try.prog 24 #[v, .func (.func 26) #[] #[]] w fun e w' => e = .returned (.bool (l.any (fun x : Int => !inB x 0 100000))) ∧ w' = w := by
  rw [← idxGo_nonneg (fun x : Int => !inB x 0 100000) l 0 (by omega)]
  go_enter Try.func24, Try.ntmps24
  go_wp2_with (go_at_call 31; refine (index_seats _ _ _ h).mono ?_; rintro e w' ⟨rfl, rfl⟩)
  go_ret
  exact ⟨rfl, rfl⟩

theorem pred_share (x : Int) (w : World) : Calls Try.prog 27 #[.int .i64 x] w fun e w' => e = .returned (.bool (!inB x 0 1000)) ∧ w' = w := by
  go_enter Try.func27, Try.ntmps27
  go_wp2_with (go_at_call 22; refine (in_impl _ _ _ _).mono ?_; rintro e w' ⟨rfl, rfl⟩)
  go_ret
  exact ⟨rfl, rfl⟩

set_option maxHeartbeats 1000000 in
theorem index_share (w : World) (v : Value) (l : List Int) (h : Sl w 1 v eI l) :
    Calls Try.prog 31 #[v, .func (.func 27) #[] #[]] w fun e w' => e = .returned (.int .i64 (idxGo (fun x : Int => !inB x 0 1000) l 0)) ∧ w' = w := by
  have m1 := h.len
  obtain ⟨-, A, c, rfl, -, -, -⟩ := id h
  go_enter Try.func31, Try.ntmps31
  go_wp2_with fail
  go_loop [8] (fun i => ∃ k : Nat, k ≤ l.length ∧ i = .int .i64 k ∧ Hid (idxGo (fun x : Int => !inB x 0 1000) (l.drop k) k = idxGo (fun x : Int => !inB x 0 1000) l 0)) (fun i => l.length - (intOf i).toNat)
  case atStart => exact ⟨0, Nat.zero_le _, rfl, hd (by simp)⟩
  case round =>
    obtain ⟨k, hk, rfl, HT⟩ := hrel
    by_cases hlt : k < l.length
    · obtain ⟨b, o, rfl, hb, hc⟩ := h.int_at hlt
      have HS := hd (HT.out.symm.trans (idxGo_drop (fun x : Int => !inB x 0 1000) l k k hlt))
      generalize l[k] = x at hc HS
      rcases hp : (fun x : Int => !inB x 0 1000) x with _ | _
      · go_wp2_with (go_at_call 27; refine (pred_share x _).mono ?_; rintro e w' ⟨rfl, rfl⟩)
        go_round
        case rel => exact ⟨k + 1, by omega, by go_num, hd (by have := HS.out; rw [hp] at this; exact this.symm)⟩
        case measure => simp [intOf]; omega
      · go_wp2_with (go_at_call 27; refine (pred_share x _).mono ?_; rintro e w' ⟨rfl, rfl⟩)
        go_ret
        exact ⟨by rw [HS.out, hp]; rfl, rfl⟩
    · go_wp2_with fail
      go_ret
      exact ⟨by rw [← HT.out, List.drop_of_length_le (by omega)]; rfl, rfl⟩
theorem contains_share (w : World) (v : Value) (l : List Int) (h : Sl w 1 v eI l) :
    Calls Try.prog 24 #[v, .func (.func 27) #[] #[]] w fun e w' => e = .returned (.bool (l.any (fun x : Int => !inB x 0 1000))) ∧ w' = w := by
  rw [← idxGo_nonneg (fun x : Int => !inB x 0 1000) l 0 (by omega)]
  go_enter Try.func24, Try.ntmps24
  go_wp2_with (go_at_call 31; refine (index_share _ _ _ h).mono ?_; rintro e w' ⟨rfl, rfl⟩)
  go_ret
  exact ⟨rfl, rfl⟩

def bsVal (P S : List Int) (i : Nat) : Int := wrap64 (P.getD i 0 * S.getD i 0)
def bsGo (P S : List Int) : Nat → Nat
  | 0 => 0
  | i + 1 => if bsVal P S (bsGo P S i) < bsVal P S i then i else bsGo P S i
theorem bsGo_lt (P S : List Int) (n : Nat) : bsGo P S n = 0 ∨ bsGo P S n < n := by
  induction n with
  | zero => exact .inl rfl
  | succ n ih =>
    unfold bsGo
    split
    · exact .inr (by omega)
    · omega
def bsBad (P S : List Int) : Bool := P.any (fun x => !inB x 0 10000000) || (S.any (fun x => !inB x 0 100000) || (decide (P.length ≠ S.length) || decide (30 < P.length)))
/-- what both answer -/
def bsR (P S : List Int) : Int × Int × Int := if bsBad P S then (0, 0, 2) else if P.length = 0 then (0, 0, 3) else (((bsGo P S P.length : Nat) : Int), bsVal P S (bsGo P S P.length), 0)

set_option maxHeartbeats 2000000 in
theorem bestSeat_impl (w : World) (vP : Value) (P : List Int) (hP : Sl w 1 vP eI P) (vS : Value) (S : List Int) (hS : Sl w 1 vS eI S) :
    Calls Try.prog 9 #[vP, vS] w fun e w' => e = .returned (.tuple #[.int .i64 (bsR P S).1, .int .i64 (bsR P S).2.1, .int .i64 (bsR P S).2.2]) ∧ Below w.heap.size w w' := by
  have m1 := hP.len
  have m2 := hS.len
  obtain ⟨-, A1, c1, rfl, -, -, -⟩ := id hP
  obtain ⟨-, A2, c2, rfl, -, -, -⟩ := id hS
  unfold bsR
  by_cases h30 : 30 < P.length
  · have hbad : bsBad P S = true := by simp [bsBad, h30]
    rw [hbad]
    clear hbad
    have z : (30 : Int) < (P.length : Int) := by omega
    go_enter Try.func9, Try.ntmps9
    go_wp2_with fail
    go_ret3
    exact ⟨rfl, Below.refl _ _⟩
  have z30 : (P.length : Int) ≤ 30 := by omega
  by_cases hlen : P.length = S.length
  case neg =>
    have hbad : bsBad P S = true := by simp [bsBad, hlen]
    rw [hbad]
    clear hbad
    have z : (((S.length : Nat) : Int) != ((P.length : Nat) : Int)) = true := bne_iff_ne.2 (by omega)
    have HL := hd hlen
    clear hlen
    go_enter Try.func9, Try.ntmps9
    go_wp2_with fail
    go_ret3
    exact ⟨rfl, Below.refl _ _⟩
  have z : (((S.length : Nat) : Int) != ((P.length : Nat) : Int)) = false := by simp [hlen]
  have HL := hd hlen
  clear hlen
  rcases h1 : P.any (fun x : Int => !inB x 0 10000000) with _ | _
  case true =>
    have hbad : bsBad P S = true := by simp only [bsBad, h1]; rfl
    rw [hbad]
    clear hbad
    go_enter Try.func9, Try.ntmps9
    go_wp2_with fail
    refine (contains_money _ _ _ hP).mono ?_
    rintro e w1 ⟨rfl, hw⟩
    obtain rfl : w = w1 := hw.symm
    simp only [h1]
    go_wp2_with fail
    go_ret3
    exact ⟨rfl, Below.refl _ _⟩
  rcases h2 : S.any (fun x : Int => !inB x 0 100000) with _ | _
  case true =>
    have hbad : bsBad P S = true := by simp only [bsBad, h1, h2]; rfl
    rw [hbad]
    clear hbad
    go_enter Try.func9, Try.ntmps9
    go_wp2_with fail
    refine (contains_money _ _ _ hP).mono ?_
    rintro e w1 ⟨rfl, hw⟩
    obtain rfl : w = w1 := hw.symm
    simp only [h1]
    go_wp2_with fail
    refine (contains_seats _ _ _ hS).mono ?_
    rintro e w1 ⟨rfl, hw⟩
    obtain rfl : w = w1 := hw.symm
    simp only [h2]
    go_wp2_with fail
    go_ret3
    exact ⟨rfl, Below.refl _ _⟩
  have hbad : bsBad P S = false := by have := HL.out; simp only [bsBad, h1, h2]; simp [this]; omega
  rw [hbad]
  clear hbad
  by_cases h0 : P.length = 0
  · have z0 : (((P.length : Nat) : Int) == 0) = true := by simp [h0]
    have H0 := hd h0
    rw [if_neg (by simp), if_pos h0]
    clear h0
    go_enter Try.func9, Try.ntmps9
    go_wp2_with fail
    refine (contains_money _ _ _ hP).mono ?_
    rintro e w1 ⟨rfl, hw⟩
    obtain rfl : w = w1 := hw.symm
    simp only [h1]
    go_wp2_with fail
    refine (contains_seats _ _ _ hS).mono ?_
    rintro e w1 ⟨rfl, hw⟩
    obtain rfl : w = w1 := hw.symm
    simp only [h2]
    go_wp2_with fail
    go_ret3
    exact ⟨rfl, Below.refl _ _⟩
  · have z0 : (((P.length : Nat) : Int) == 0) = false := beq_eq_false_iff_ne.2 (by omega)
    rw [if_neg (by simp), if_neg h0]
    go_enter Try.func9, Try.ntmps9
    go_wp2_with fail
    refine (contains_money _ _ _ hP).mono ?_
    rintro e w1 ⟨rfl, hw⟩
    obtain rfl : w = w1 := hw.symm
    simp only [h1]
    go_wp2_with fail
    refine (contains_seats _ _ _ hS).mono ?_
    rintro e w1 ⟨rfl, hw⟩
    obtain rfl : w = w1 := hw.symm
    simp only [h2]
    go_wp2_with fail
    go_loopw [7, 32] (fun bb i wr => ∃ k : Nat, 0 ≤ k ∧ k ≤ P.length ∧ i = .int .i64 k ∧ bb = .int .i64 (bsGo P S k : Nat) ∧ Below w.heap.size w wr) (fun _ i _ => P.length - (intOf i).toNat)
    case atStart => exact ⟨0, by omega, by omega, rfl, by simp [bsGo], Below.refl _ _⟩
    case round =>
      obtain ⟨k, hk1, hk, rfl, rfl, hbel⟩ := hrel
      have hbl := bsGo_lt P S k
      have hbP : bsGo P S k < P.length := by omega
      have hbS : bsGo P S k < S.length := by have := HL.out; omega
      obtain ⟨b1, o1, rfl, -, c1'⟩ := (hP.below hbel).int_at hbP
      obtain ⟨b2, o2, rfl, -, c2'⟩ := (hS.below hbel).int_at hbS
      have HV := hd (show bsVal P S (bsGo P S k) = wrap64 (P[bsGo P S k] * S[bsGo P S k]) by simp [bsVal, hbP, hbS])
      have HB := hd (show bsGo P S (k + 1) = if bsVal P S (bsGo P S k) < bsVal P S k then k else bsGo P S k from rfl)
      generalize P[bsGo P S k] = pb at c1' HV
      generalize S[bsGo P S k] = sb at c2' HV
      have g1 := gro_cell c1'
      have g2 := gro_cell c2'
      by_cases hlt : k < P.length
      · have hlS : k < S.length := by have := HL.out; omega
        obtain ⟨b3, o3, hA, -, c3⟩ := (hP.below hbel).int_at hlt
        injection hA with hA
        injection hA with hA1 hA2 _
        subst hA1 hA2
        obtain ⟨b4, o4, hA, -, c4⟩ := (hS.below hbel).int_at hlS
        injection hA with hA
        injection hA with hA1 hA2 _
        subst hA1 hA2
        have HW := hd (show bsVal P S k = wrap64 (P[k] * S[k]) by simp [bsVal, hlt, hlS])
        generalize P[k] = pk at c3 HW
        generalize S[k] = sk at c4 HW
        generalize bsGo P S k = bi at *
        have g3 := gro_cell c3
        have g4 := gro_cell c4
        have z1 : (bi : Int) < (P.length : Int) := by omega
        have z2 : (bi : Int) < (S.length : Int) := by omega
        have z3 : (k : Int) < (S.length : Int) := by omega
        by_cases hgt : wrap64 (pb * sb) < wrap64 (pk * sk)
        · go_wp2_with fail
          refine wp_region_calm (by kernel_rfl) (by kernel_rfl) ?_
          repeat (first | go_big_quiet_step ((fail)) | quiet_step ((fail)))
          refine wpQuiet_nil ?_
          rintro w1 ⟨xw, rfl⟩
          have hb1 := below_step hbel (gro_below xw)
          go_wp2_with fail
          go_roundw
          case rel => exact ⟨k + 1, by omega, by omega, by go_num, by rw [HB.out, HV.out, HW.out, if_pos hgt], hb1⟩
          case measure => simp [intOf]; omega
        · go_wp2_with fail
          refine wp_region_calm (by kernel_rfl) (by kernel_rfl) ?_
          repeat (first | go_big_quiet_step ((fail)) | quiet_step ((fail)))
          refine wpQuiet_nil ?_
          rintro w1 ⟨xw, rfl⟩
          have hb1 := below_step hbel (gro_below xw)
          go_wp2_with fail
          go_roundw
          case rel => exact ⟨k + 1, by omega, by omega, by go_num, by rw [HB.out, HV.out, HW.out, if_neg (by omega)], hb1⟩
          case measure => simp [intOf]; omega
      · have HK := hd (show k = P.length by omega)
        generalize hbi : bsGo P S k = bi at *
        have HBI := hd hbi
        clear hbi
        have z1 : (bi : Int) < (P.length : Int) := by omega
        have z2 : (bi : Int) < (S.length : Int) := by omega
        go_wp2_with fail
        refine wp_region_calm (by kernel_rfl) (by kernel_rfl) ?_
        repeat (first | go_big_quiet_step ((fail)) | quiet_step ((fail)))
        refine wpQuiet_nil ?_
        rintro w1 ⟨xw, rfl⟩
        have hb1 := below_step hbel (gro_below xw)
        go_wp2_with fail
        go_ret3
        exact ⟨by rw [← HK.out, HBI.out, HV.out]; rfl, hb1⟩

set_option maxHeartbeats 2000000 in
theorem bestSeat_spec (w : World) (vP : Value) (P : List Int) (hP : Sl w 1 vP eI P) (vS : Value) (S : List Int) (hS : Sl w 1 vS eI S) :
    Calls Try.prog 10 #[vP, vS] w fun e w' => e = .returned (.tuple #[.int .i64 (bsR P S).1, .int .i64 (bsR P S).2.1, .int .i64 (bsR P S).2.2]) ∧ Below w.heap.size w w' := by
  have m1 := hP.len
  have m2 := hS.len
  obtain ⟨-, A1, c1, rfl, -, -, -⟩ := id hP
  obtain ⟨-, A2, c2, rfl, -, -, -⟩ := id hS
  go_enter Try.func10, Try.ntmps10
  go_wp2_with fail
  go_loop [7] (fun i => ∃ k : Nat, k ≤ P.length ∧ i = .int .i64 k ∧ Hid ((P.take k).any (fun x : Int => !inB x 0 10000000) = false)) (fun i => P.length - (intOf i).toNat)
  case atStart => exact ⟨0, Nat.zero_le _, rfl, hd (by simp)⟩
  case round =>
    obtain ⟨k, hk, rfl, HT⟩ := hrel
    by_cases hlt : k < P.length
    · obtain ⟨b, o, rfl, hb, hc⟩ := hP.int_at hlt
      have HH := hd (any_of_hit (fun x : Int => !inB x 0 10000000) P k hlt)
      have HN := hd (any_take_snoc (fun x : Int => !inB x 0 10000000) P k hlt HT.out)
      generalize P[k] = x at hc HH HN
      rcases hq : inB x 0 10000000 with _ | _
      · go_wp2_with (go_at_call 23; refine (in_spec _ _ _ _).mono ?_; rintro e w' ⟨rfl, rfl⟩)
        go_ret3
        exact ⟨by have e := HH.out (by simp [hq]); have hbad : bsBad P S = true := by simp [bsBad, e]
                  rw [bsR, hbad]; rfl, Below.refl _ _⟩
      · go_wp2_with (go_at_call 23; refine (in_spec _ _ _ _).mono ?_; rintro e w' ⟨rfl, rfl⟩)
        go_round
        case rel => exact ⟨k + 1, by omega, by go_num, hd (HN.out (by simp [hq]))⟩
        case measure => simp [intOf]; omega
    · have HA7 : Hid (P.any (fun x : Int => !inB x 0 10000000) = false) := hd (by have := HT.out; rwa [List.take_of_length_le (by omega)] at this)
      clear HT
      obtain rfl : k = P.length := by omega
      go_wp2_with fail
      go_loop [8] (fun i => ∃ k : Nat, k ≤ S.length ∧ i = .int .i64 k ∧ Hid ((S.take k).any (fun x : Int => !inB x 0 100000) = false)) (fun i => S.length - (intOf i).toNat)
      case atStart => exact ⟨0, Nat.zero_le _, rfl, hd (by simp)⟩
      case round =>
        obtain ⟨k, hk, rfl, HT⟩ := hrel
        by_cases hlt : k < S.length
        · obtain ⟨b, o, rfl, hb, hc⟩ := hS.int_at hlt
          have HH := hd (any_of_hit (fun x : Int => !inB x 0 100000) S k hlt)
          have HN := hd (any_take_snoc (fun x : Int => !inB x 0 100000) S k hlt HT.out)
          generalize S[k] = x at hc HH HN
          rcases hq : inB x 0 100000 with _ | _
          · go_wp2_with (go_at_call 23; refine (in_spec _ _ _ _).mono ?_; rintro e w' ⟨rfl, rfl⟩)
            go_ret3
            exact ⟨by have e := HH.out (by simp [hq]); have hbad : bsBad P S = true := by simp [bsBad, e]
                      rw [bsR, hbad]; rfl, Below.refl _ _⟩
          · go_wp2_with (go_at_call 23; refine (in_spec _ _ _ _).mono ?_; rintro e w' ⟨rfl, rfl⟩)
            go_round
            case rel => exact ⟨k + 1, by omega, by go_num, hd (HN.out (by simp [hq]))⟩
            case measure => simp [intOf]; omega
        · have HA8 : Hid (S.any (fun x : Int => !inB x 0 100000) = false) := hd (by have := HT.out; rwa [List.take_of_length_le (by omega)] at this)
          clear HT
          obtain rfl : k = S.length := by omega
          by_cases hlen : P.length = S.length
          case neg =>
            have hbad : bsBad P S = true := by simp [bsBad, hlen]
            have HB := hd hbad
            have z : (((P.length : Nat) : Int) != ((S.length : Nat) : Int)) = true := bne_iff_ne.2 (by omega)
            clear hbad hlen
            go_wp2_with fail
            go_ret3
            exact ⟨by rw [bsR, HB.out]; rfl, Below.refl _ _⟩
          have z : (((P.length : Nat) : Int) != ((S.length : Nat) : Int)) = false := by simp [hlen]
          have HL := hd hlen
          clear hlen
          by_cases h30 : 30 < P.length
          · have hbad : bsBad P S = true := by simp [bsBad, h30]
            have HB := hd hbad
            have z' : (30 : Int) < (P.length : Int) := by omega
            clear hbad
            go_wp2_with fail
            go_ret3
            exact ⟨by rw [bsR, HB.out]; rfl, Below.refl _ _⟩
          have z30 : (P.length : Int) ≤ 30 := by omega
          have hbad : bsBad P S = false := by have := HL.out; have e1 := HA7.out; have e2 := HA8.out; simp only [bsBad, e1, e2]; simp [this]; omega
          have HB := hd hbad
          clear hbad
          by_cases h0 : P.length = 0
          · have z0 : (((P.length : Nat) : Int) == 0) = true := by simp [h0]
            have H0 := hd h0
            clear h0
            go_wp2_with fail
            go_ret3
            exact ⟨by rw [bsR, HB.out, if_neg (by simp), if_pos H0.out]; rfl, Below.refl _ _⟩
          · have z0 : (((P.length : Nat) : Int) == 0) = false := beq_eq_false_iff_ne.2 (by omega)
            have HR := hd (show bsR P S = (((bsGo P S P.length : Nat) : Int), bsVal P S (bsGo P S P.length), 0) by unfold bsR; rw [HB.out, if_neg (by simp), if_neg h0])
            go_wp2_with fail
            go_loopw [9, 10] (fun bb i wr => ∃ k : Nat, 1 ≤ k ∧ k ≤ P.length ∧ i = .int .i64 k ∧ bb = .int .i64 (bsGo P S k : Nat) ∧ Below w.heap.size w wr) (fun _ i _ => P.length - (intOf i).toNat)
            case atStart => exact ⟨1, by omega, by omega, rfl, by simp [bsGo], Below.refl _ _⟩
            case round =>
              obtain ⟨k, hk1, hk, rfl, rfl, hbel⟩ := hrel
              have hbl := bsGo_lt P S k
              have hbP : bsGo P S k < P.length := by omega
              have hbS : bsGo P S k < S.length := by have := HL.out; omega
              obtain ⟨b1, o1, rfl, -, c1'⟩ := (hP.below hbel).int_at hbP
              obtain ⟨b2, o2, rfl, -, c2'⟩ := (hS.below hbel).int_at hbS
              have HV := hd (show bsVal P S (bsGo P S k) = wrap64 (P[bsGo P S k] * S[bsGo P S k]) by simp [bsVal, hbP, hbS])
              have HB := hd (show bsGo P S (k + 1) = if bsVal P S (bsGo P S k) < bsVal P S k then k else bsGo P S k from rfl)
              generalize P[bsGo P S k] = pb at c1' HV
              generalize S[bsGo P S k] = sb at c2' HV
              have g1 := gro_cell c1'
              have g2 := gro_cell c2'
              by_cases hlt : k < P.length
              · have hlS : k < S.length := by have := HL.out; omega
                obtain ⟨b3, o3, hA, -, c3⟩ := (hP.below hbel).int_at hlt
                injection hA with hA
                injection hA with hA1 hA2 _
                subst hA1 hA2
                obtain ⟨b4, o4, hA, -, c4⟩ := (hS.below hbel).int_at hlS
                injection hA with hA
                injection hA with hA1 hA2 _
                subst hA1 hA2
                have HW := hd (show bsVal P S k = wrap64 (P[k] * S[k]) by simp [bsVal, hlt, hlS])
                generalize P[k] = pk at c3 HW
                generalize S[k] = sk at c4 HW
                generalize bsGo P S k = bi at *
                have g3 := gro_cell c3
                have g4 := gro_cell c4
                have z1 : (bi : Int) < (P.length : Int) := by omega
                have z2 : (bi : Int) < (S.length : Int) := by omega
                have z3 : (k : Int) < (S.length : Int) := by omega
                by_cases hgt : wrap64 (pb * sb) < wrap64 (pk * sk)
                · go_wp2_with fail
                  refine wp_region_calm (by kernel_rfl) (by kernel_rfl) ?_
                  repeat (first | go_big_quiet_step ((fail)) | quiet_step ((fail)))
                  refine wpQuiet_nil ?_
                  rintro w1 ⟨xw, rfl⟩
                  have hb1 := below_step hbel (gro_below xw)
                  go_wp2_with fail
                  go_roundw
                  case rel => exact ⟨k + 1, by omega, by omega, by go_num, by rw [HB.out, HV.out, HW.out, if_pos hgt], hb1⟩
                  case measure => simp [intOf]; omega
                · go_wp2_with fail
                  refine wp_region_calm (by kernel_rfl) (by kernel_rfl) ?_
                  repeat (first | go_big_quiet_step ((fail)) | quiet_step ((fail)))
                  refine wpQuiet_nil ?_
                  rintro w1 ⟨xw, rfl⟩
                  have hb1 := below_step hbel (gro_below xw)
                  go_wp2_with fail
                  go_roundw
                  case rel => exact ⟨k + 1, by omega, by omega, by go_num, by rw [HB.out, HV.out, HW.out, if_neg (by omega)], hb1⟩
                  case measure => simp [intOf]; omega
              · have HK := hd (show k = P.length by omega)
                generalize hbi : bsGo P S k = bi at *
                have HBI := hd hbi
                clear hbi
                have z1 : (bi : Int) < (P.length : Int) := by omega
                have z2 : (bi : Int) < (S.length : Int) := by omega
                go_wp2_with fail
                refine wp_region_calm (by kernel_rfl) (by kernel_rfl) ?_
                repeat (first | go_big_quiet_step ((fail)) | quiet_step ((fail)))
                refine wpQuiet_nil ?_
                rintro w1 ⟨xw, rfl⟩
                have hb1 := below_step hbel (gro_below xw)
                go_wp2_with fail
                go_ret3
                exact ⟨by rw [HR.out, ← HK.out, HBI.out, HV.out]; rfl, hb1⟩

end Go.Proofs.Ytpbmhnnafnfoeaa
