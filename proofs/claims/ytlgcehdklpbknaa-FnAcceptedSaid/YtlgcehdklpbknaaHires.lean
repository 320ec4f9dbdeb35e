/- Hires of a stock: the reference and the program say of the same stocks and lists that they are valid. No condition but that the slices read. -/
import Derived.Test.YtlgcehdklpbknaaSHire
namespace Go.Proofs.Ytlgcehdklpbknaa
open Go Go.RowKit Go.ChangeShapes Go.WideShapes
set_option linter.unusedSimpArgs false
set_option linter.unusedVariables false

theorem wrap_i64 (x : Int) (h : -9223372036854775808 ≤ x ∧ x ≤ 9223372036854775807) : IntKind.i64.wrap x = x := IntWalk.i64_in x h
def isHireB (n : Int) (x : THire) : Bool := inB x.1 0 (n - 1) && (decide (0 ≤ x.2.1) && (decide (x.2.1 < x.2.2) && decide (x.2.2 ≤ 10000)))
def okStock (s : List Int) : Bool := !(s.any (fun x => !inB x 0 100)) && inB s.length 1 20
def okHires (s : List Int) (l : List THire) : Bool := !(l.any fun x => !isHireB s.length x) && (okStock s && decide (l.length ≤ 40))
theorem isHireB_mk {n a b c : Int} (h1 : inB a 0 (n - 1) = true) (h2 : 0 ≤ b) (h3 : b < c) (h4 : c ≤ 10000) : isHireB n (a, b, c) = true := by simp [isHireB, h1, h2, h3, h4]
theorem isHireB_bd {n : Int} {x : THire} (h : isHireB n x = true) : (0 ≤ x.1 ∧ x.1 ≤ n - 1) ∧ 0 ≤ x.2.1 ∧ x.2.1 < x.2.2 ∧ x.2.2 ≤ 10000 := by
  simp only [isHireB, Bool.and_eq_true, decide_eq_true_eq] at h
  exact ⟨inB_true h.1, h.2.1, h.2.2.1, h.2.2.2⟩
theorem okHires_el {s : List Int} {l : List THire} (h : okHires s l = true) : ∀ x ∈ l, isHireB s.length x = true := by
  simp only [okHires, Bool.and_eq_true, Bool.not_eq_true'] at h
  intro x hx
  have := List.any_eq_false.1 h.1 x hx
  simpa using this
theorem okHires_stock {s : List Int} {l : List THire} (h : okHires s l = true) : (∀ x ∈ s, 0 ≤ x ∧ x ≤ 100) ∧ 1 ≤ s.length ∧ s.length ≤ 20 ∧ l.length ≤ 40 := by
  simp only [okHires, okStock, Bool.and_eq_true, Bool.not_eq_true', decide_eq_true_eq] at h
  obtain ⟨-, ⟨h1, h2⟩, h3⟩ := h
  refine ⟨fun x hx => ?_, ?_, ?_, h3⟩
  · have := List.any_eq_false.1 h1 x hx
    exact inB_true (by simpa using this)
  · have := inB_true h2; omega
  · have := inB_true h2; omega

theorem pred_stock (x : Int) (w : World) : Calls Try.prog 136 #[.int .i64 x] w fun e w' => e = .returned (.bool (!inB x 0 100)) ∧ w' = w := by
  go_enter Try.func136, Try.ntmps136
  go_wp2_with (go_at_call 111; refine (in_impl _ _ _ _).mono ?_; rintro e w' ⟨rfl, rfl⟩)
  go_ret
  exact ⟨rfl, rfl⟩

set_option maxHeartbeats 1000000 in
theorem index_stock (w : World) (v : Value) (l : List Int) (h : Sl w 1 v eI l) :
    Calls Try.prog 149 #[v, .func (.func 136) #[] #[]] w fun e w' => e = .returned (.int .i64 (idxGo (fun x : Int => !inB x 0 100) l 0)) ∧ w' = w := by
  have m1 := h.len
  obtain ⟨-, A, c, rfl, -, -, -⟩ := id h
  go_enter Try.func149, Try.ntmps149
  go_wp2_with fail
  go_loop [8] (fun i => ∃ k : Nat, k ≤ l.length ∧ i = .int .i64 k ∧ Hid (idxGo (fun x : Int => !inB x 0 100) (l.drop k) k = idxGo (fun x : Int => !inB x 0 100) l 0)) (fun i => l.length - (intOf i).toNat)
  case atStart => exact ⟨0, Nat.zero_le _, rfl, hd (by simp)⟩
  case round =>
    obtain ⟨k, hk, rfl, HT⟩ := hrel
    by_cases hlt : k < l.length
    · obtain ⟨b, o, rfl, hb, hc⟩ := h.int_at hlt
      have HS := hd (HT.out.symm.trans (idxGo_drop (fun x : Int => !inB x 0 100) l k k hlt))
      generalize l[k] = x at hc HS
      rcases hp : (fun x : Int => !inB x 0 100) x with _ | _
      · go_wp2_with (go_at_call 136; refine (pred_stock x _).mono ?_; rintro e w' ⟨rfl, rfl⟩)
        go_round
        case rel => exact ⟨k + 1, by omega, by go_num, hd (by have := HS.out; rw [hp] at this; exact this.symm)⟩
        case measure => simp [intOf]; omega
      · go_wp2_with (go_at_call 136; refine (pred_stock x _).mono ?_; rintro e w' ⟨rfl, rfl⟩)
        go_ret
        exact ⟨by rw [HS.out, hp]; rfl, rfl⟩
    · go_wp2_with fail
      go_ret
      exact ⟨by rw [← HT.out, List.drop_of_length_le (by omega)]; rfl, rfl⟩
theorem contains_stock (w : World) (v : Value) (l : List Int) (h : Sl w 1 v eI l) :
    Calls Try.prog 121 #[v, .func (.func 136) #[] #[]] w fun e w' => e = .returned (.bool (l.any (fun x : Int => !inB x 0 100))) ∧ w' = w := by
  rw [← idxGo_nonneg (fun x : Int => !inB x 0 100) l 0 (by omega)]
  go_enter Try.func121, Try.ntmps121
  go_wp2_with (go_at_call 149; refine (index_stock _ _ _ h).mono ?_; rintro e w' ⟨rfl, rfl⟩)
  go_ret
  exact ⟨rfl, rfl⟩

set_option maxHeartbeats 1000000 in
theorem isHire_impl (w : World) (A : Option Addr) (n cp : Nat) (hn : n ≤ 9223372036854775807) (a b c : Int) :
    Calls Try.prog 139 #[.slice A n cp, .agg #[.int .i64 a, .int .i64 b, .int .i64 c]] w fun e w' => e = .returned (.bool (isHireB n (a, b, c))) ∧ Below w.heap.size w w' := by
  rcases h1 : inB a 0 ((n : Int) - 1) with _ | _
  · go_enter Try.func139, Try.ntmps139
    go_wp2_with (go_at_call 111; refine (in_impl _ _ _ _).mono ?_; rintro e w1 ⟨rfl, hw⟩; have hw := hw.symm; subst hw)
    go_ret
    refine ⟨by simp [isHireB, h1], ?_⟩
    repeat (first | exact Below.refl _ _ | assumption | refine Below.alloc ?_ (by first | (simp; done) | (simp; omega)) _ | refine Below.setCell ?_ (by first | (simp; done) | (simp; omega)) _ | refine Below.drew ?_)
  rcases h2 : decide (0 ≤ b) with _ | _
  · go_enter Try.func139, Try.ntmps139
    go_wp2_with (go_at_call 111; refine (in_impl _ _ _ _).mono ?_; rintro e w1 ⟨rfl, hw⟩; have hw := hw.symm; subst hw)
    go_ret
    refine ⟨by simp [isHireB, h1, h2], ?_⟩
    repeat (first | exact Below.refl _ _ | assumption | refine Below.alloc ?_ (by first | (simp; done) | (simp; omega)) _ | refine Below.setCell ?_ (by first | (simp; done) | (simp; omega)) _ | refine Below.drew ?_)
  rcases h3 : decide (b < c) with _ | _
  · go_enter Try.func139, Try.ntmps139
    go_wp2_with (go_at_call 111; refine (in_impl _ _ _ _).mono ?_; rintro e w1 ⟨rfl, hw⟩; have hw := hw.symm; subst hw)
    go_ret
    refine ⟨by simp [isHireB, h1, h2, h3], ?_⟩
    repeat (first | exact Below.refl _ _ | assumption | refine Below.alloc ?_ (by first | (simp; done) | (simp; omega)) _ | refine Below.setCell ?_ (by first | (simp; done) | (simp; omega)) _ | refine Below.drew ?_)
  rcases h4 : decide (c ≤ 10000) with _ | _
  · go_enter Try.func139, Try.ntmps139
    go_wp2_with (go_at_call 111; refine (in_impl _ _ _ _).mono ?_; rintro e w1 ⟨rfl, hw⟩; have hw := hw.symm; subst hw)
    go_ret
    refine ⟨by simp [isHireB, h1, h2, h3, h4], ?_⟩
    repeat (first | exact Below.refl _ _ | assumption | refine Below.alloc ?_ (by first | (simp; done) | (simp; omega)) _ | refine Below.setCell ?_ (by first | (simp; done) | (simp; omega)) _ | refine Below.drew ?_)
  · go_enter Try.func139, Try.ntmps139
    go_wp2_with (go_at_call 111; refine (in_impl _ _ _ _).mono ?_; rintro e w1 ⟨rfl, hw⟩; have hw := hw.symm; subst hw)
    go_ret
    refine ⟨by simp [isHireB, h1, h2, h3, h4], ?_⟩
    repeat (first | exact Below.refl _ _ | assumption | refine Below.alloc ?_ (by first | (simp; done) | (simp; omega)) _ | refine Below.setCell ?_ (by first | (simp; done) | (simp; omega)) _ | refine Below.drew ?_)

set_option maxHeartbeats 1000000 in
theorem hirePred (w : World) (g : Nat) (A : Option Addr) (n cp : Nat) (hn : n ≤ 9223372036854775807) (hp : w.cell? ⟨g, 0, none⟩ = some (.slice A n cp)) (a b c : Int) :
    Calls Try.prog 138 #[.agg #[.int .i64 a, .int .i64 b, .int .i64 c], .pointer (some ⟨g, 0, none⟩)] w fun e w' => e = .returned (.bool (!isHireB n (a, b, c))) ∧ Below w.heap.size w w' := by
  have hg : g < w.heap.size := World.block_lt_of_cell? w _ hp
  have hb0 := (Below.refl w.heap.size w).alloc (Nat.le_refl _) (.cells #[.int .i64 a, .int .i64 b, .int .i64 c] 76)
  go_enter Try.func138, Try.ntmps138
  go_wp2_with fail
  refine (isHire_impl _ _ _ _ hn _ _ _).mono ?_
  rintro e w1 ⟨rfl, hb1⟩
  have hb2 := below_step hb0 hb1
  go_wp2_with fail
  go_ret
  exact ⟨rfl, hb2⟩

set_option maxHeartbeats 1000000 in
theorem index_hires (w : World) (v : Value) (l : List THire) (h : Sl w 3 v eHire l) (g : Nat) (A : Option Addr) (n cp : Nat) (hn : n ≤ 9223372036854775807) (hp : w.cell? ⟨g, 0, none⟩ = some (.slice A n cp)) :
    Calls Try.prog 133 #[v, .func (.func 138) #[] #[.pointer (some ⟨g, 0, none⟩)]] w fun e w' => e = .returned (.int .i64 (idxGo (fun x => !isHireB n x) l 0)) ∧ Below w.heap.size w w' := by
  have m1 := h.len
  obtain ⟨-, A', c, rfl, -, -, -⟩ := id h
  go_enter Try.func133, Try.ntmps133
  go_wp2_with fail
  go_loopw [8] (fun i wr => ∃ k : Nat, k ≤ l.length ∧ i = .int .i64 k ∧ Below w.heap.size w wr ∧ Hid (idxGo (fun x => !isHireB n x) (l.drop k) k = idxGo (fun x => !isHireB n x) l 0)) (fun i _ => l.length - (intOf i).toNat)
  case atStart => exact ⟨0, Nat.zero_le _, rfl, Below.refl _ _, hd (by simp)⟩
  case round =>
    obtain ⟨k, hk, rfl, hbel, HT⟩ := hrel
    by_cases hlt : k < l.length
    · obtain ⟨b, o, rfl, hb, p0, p1, p2⟩ := (h.below hbel).Hire_at hlt
      have HS := hd (HT.out.symm.trans (idxGo_drop (fun x => !isHireB n x) l k k hlt))
      generalize l[k] = x at p0 p1 p2 HS
      obtain ⟨xa, xb, xc⟩ := x
      dsimp only at p0 p1 p2
      have hpr := (hbel.cell (World.block_lt_of_cell? w _ hp)).trans hp
      rcases hq : isHireB n (xa, xb, xc) with _ | _
      · go_wp2_with fail
        refine (hirePred _ _ _ _ _ hn hpr _ _ _).mono ?_
        rintro e w1 ⟨rfl, hb1⟩
        have hb2 := below_step hbel hb1
        go_wp2_with fail
        go_ret
        exact ⟨by rw [HS.out, hq]; rfl, hb2⟩
      · go_wp2_with fail
        refine (hirePred _ _ _ _ _ hn hpr _ _ _).mono ?_
        rintro e w1 ⟨rfl, hb1⟩
        have hb2 := below_step hbel hb1
        go_wp2_with fail
        go_roundw
        case rel => exact ⟨k + 1, by omega, by go_num, hb2, hd (by have := HS.out; rw [hq] at this; exact this.symm)⟩
        case measure => simp [intOf]; omega
    · go_wp2_with fail
      go_ret
      exact ⟨by rw [← HT.out, List.drop_of_length_le (by omega)]; rfl, hbel⟩
theorem contains_hires (w : World) (v : Value) (l : List THire) (h : Sl w 3 v eHire l) (g : Nat) (A : Option Addr) (n cp : Nat) (hn : n ≤ 9223372036854775807) (hp : w.cell? ⟨g, 0, none⟩ = some (.slice A n cp)) :
    Calls Try.prog 137 #[v, .func (.func 138) #[] #[.pointer (some ⟨g, 0, none⟩)]] w fun e w' => e = .returned (.bool (l.any fun x => !isHireB n x)) ∧ Below w.heap.size w w' := by
  rw [← idxGo_nonneg (fun x => !isHireB n x) l 0 (by omega)]
  go_enter Try.func137, Try.ntmps137
  go_wp2_with (go_at_call 133; refine (index_hires _ _ _ h _ _ _ _ hn hp).mono ?_; rintro e w1 ⟨rfl, hb⟩)
  go_ret
  exact ⟨rfl, hb⟩

set_option maxHeartbeats 2000000 in
theorem hires_impl (w : World) (vS : Value) (S : List Int) (hS : Sl w 1 vS eI S) (vL : Value) (L : List THire) (hL : Sl w 3 vL eHire L) :
    Calls Try.prog 104 #[vS, vL] w fun e w' => e = .returned (.bool (okHires S L)) ∧ Below w.heap.size w w' := by
  have m1 := hS.len
  have m2 := hL.len
  obtain ⟨-, A1, c1, rfl, -, -, -⟩ := id hS
  obtain ⟨-, A2, c2, rfl, -, -, -⟩ := id hL
  have hb0 := (Below.refl w.heap.size w).alloc (Nat.le_refl _) (.cells #[.slice A1 S.length c1] 25)
  by_cases g1 : 1 ≤ (S.length : Int)
  case neg =>
    have h1 := hd (inB_not (n := (S.length : Int)) (lo := 1) (hi := 20) (by omega))
    go_enter Try.func104, Try.ntmps104
    go_wp2_with fail
    go_ret
    refine ⟨by simp [okHires, okStock, h1.out], ?_⟩
    repeat (first | exact Below.refl _ _ | assumption | refine Below.alloc ?_ (by first | (simp; done) | (simp; omega)) _ | refine Below.setCell ?_ (by first | (simp; done) | (simp; omega)) _ | refine Below.drew ?_)
  by_cases g2 : (S.length : Int) ≤ 20
  case neg =>
    have h1 := hd (inB_not (n := (S.length : Int)) (lo := 1) (hi := 20) (by omega))
    go_enter Try.func104, Try.ntmps104
    go_wp2_with fail
    go_ret
    refine ⟨by simp [okHires, okStock, h1.out], ?_⟩
    repeat (first | exact Below.refl _ _ | assumption | refine Below.alloc ?_ (by first | (simp; done) | (simp; omega)) _ | refine Below.setCell ?_ (by first | (simp; done) | (simp; omega)) _ | refine Below.drew ?_)
  have h1 := hd (inB_mk (n := (S.length : Int)) (lo := 1) (hi := 20) ⟨g1, g2⟩)
  rcases h2 : S.any (fun x : Int => !inB x 0 100) with _ | _
  case true =>
    go_enter Try.func104, Try.ntmps104
    go_wp2_with fail
    refine (contains_stock _ _ _ (hS.alloc _)).mono ?_
    rintro e w1 ⟨rfl, hw⟩
    have hw := hw.symm
    subst hw
    simp only [h2]
    go_wp2_with fail
    go_ret
    refine ⟨by simp only [okHires, okStock, h1.out, h2]; simp, ?_⟩
    repeat (first | exact Below.refl _ _ | assumption | refine Below.alloc ?_ (by first | (simp; done) | (simp; omega)) _ | refine Below.setCell ?_ (by first | (simp; done) | (simp; omega)) _ | refine Below.drew ?_)
  by_cases g3 : (L.length : Int) ≤ 40
  case neg =>
    have h3 : decide (L.length ≤ 40) = false := by simp; omega
    have H3 := hd h3
    clear h3
    go_enter Try.func104, Try.ntmps104
    go_wp2_with fail
    refine (contains_stock _ _ _ (hS.alloc _)).mono ?_
    rintro e w1 ⟨rfl, hw⟩
    have hw := hw.symm
    subst hw
    simp only [h2]
    go_wp2_with fail
    go_ret
    refine ⟨by simp only [okHires, okStock, h1.out, h2, H3.out]; simp, ?_⟩
    repeat (first | exact Below.refl _ _ | assumption | refine Below.alloc ?_ (by first | (simp; done) | (simp; omega)) _ | refine Below.setCell ?_ (by first | (simp; done) | (simp; omega)) _ | refine Below.drew ?_)
  have h3 : decide (L.length ≤ 40) = true := by simp; omega
  have H3 := hd h3
  clear h3
  rcases h4 : L.any (fun x => !isHireB S.length x) with _ | _
  all_goals
    go_enter Try.func104, Try.ntmps104
    go_wp2_with fail
    refine (contains_stock _ _ _ (hS.alloc _)).mono ?_
    rintro e w1 ⟨rfl, hw⟩
    have hw := hw.symm
    subst hw
    simp only [h2]
    go_wp2_with fail
    refine (contains_hires _ _ _ (hL.alloc _) _ _ _ _ m1 (new_cell _ _ _ _ _ rfl)).mono ?_
    rintro e w1 ⟨rfl, hb1⟩
    have hb2 := below_step hb0 hb1
    simp only [h4]
    go_wp2_with fail
    go_ret
    exact ⟨by simp only [okHires, okStock, h1.out, h2, H3.out, h4]; simp, hb2⟩

set_option maxHeartbeats 2000000 in
theorem one_spec (w : World) (n : Nat) (hn : n ≤ 9223372036854775807) (g off : Nat) (a b c : Int) (p0 : w.cell? ⟨g, off, none⟩ = some (.int .i64 a)) (p1 : w.cell? ⟨g, off + 1, none⟩ = some (.int .i64 b)) (p2 : w.cell? ⟨g, off + 2, none⟩ = some (.int .i64 c)) :
    Calls Try.prog 140 #[.int .i64 n, .pointer (some ⟨g, off, none⟩)] w fun e w' => e = .returned (.bool (isHireB n (a, b, c))) ∧ Below w.heap.size w w' := by
  have g0 := gro_cell p0
  have g1 := gro_cell p1
  have g2 := gro_cell p2
  have z : IntKind.i64.wrap ((n : Int) - 1) = (n : Int) - 1 := wrap_i64 _ (by omega)
  rcases h1 : inB a 0 ((n : Int) - 1) with _ | _
  · go_enter Try.func140, Try.ntmps140
    go_wp2_with fail
    refine wp_region_calm (by kernel_rfl) (by kernel_rfl) ?_
    repeat (first | go_big_quiet_step ((first | (go_at_call 109; exact calm_in_spec _ _ _ _ _))) | quiet_step ((first | (go_at_call 109; exact calm_in_spec _ _ _ _ _))))
    refine wpQuiet_nil ?_
    rintro w1 ⟨xw, rfl⟩
    have hb1 := below_step (Below.refl _ _) (gro_below xw)
    go_wp2_with fail
    go_ret
    exact ⟨by simp [isHireB, h1], hb1⟩
  rcases h2 : inB b 0 10000 with _ | _
  · have hf : isHireB n (a, b, c) = false := by
      have := inB_false h2
      simp only [isHireB, Bool.and_eq_false_iff, decide_eq_false_iff_not]
      omega
    have HF := hd hf
    clear hf
    go_enter Try.func140, Try.ntmps140
    go_wp2_with fail
    refine wp_region_calm (by kernel_rfl) (by kernel_rfl) ?_
    repeat (first | go_big_quiet_step ((first | (go_at_call 109; exact calm_in_spec _ _ _ _ _))) | quiet_step ((first | (go_at_call 109; exact calm_in_spec _ _ _ _ _))))
    refine wpQuiet_nil ?_
    rintro w1 ⟨xw, rfl⟩
    have hb1 := below_step (Below.refl _ _) (gro_below xw)
    go_wp2_with fail
    go_ret
    exact ⟨by rw [HF.out]; rfl, hb1⟩
  obtain ⟨b1, b2⟩ := inB_true h2
  have z2 : IntKind.i64.wrap (b + 1) = b + 1 := wrap_i64 _ (by omega)
  rcases h3 : inB c (b + 1) 10000 with _ | _
  · have hf : isHireB n (a, b, c) = false := by
      have := inB_false h3
      simp only [isHireB, Bool.and_eq_false_iff, decide_eq_false_iff_not]
      omega
    have HF := hd hf
    clear hf
    go_enter Try.func140, Try.ntmps140
    go_wp2_with fail
    refine wp_region_calm (by kernel_rfl) (by kernel_rfl) ?_
    repeat (first | go_big_quiet_step ((first | (go_at_call 109; exact calm_in_spec _ _ _ _ _))) | quiet_step ((first | (go_at_call 109; exact calm_in_spec _ _ _ _ _))))
    refine wpQuiet_nil ?_
    rintro w1 ⟨xw, rfl⟩
    have hb1 := below_step (Below.refl _ _) (gro_below xw)
    go_wp2_with fail
    go_ret
    exact ⟨by rw [HF.out]; rfl, hb1⟩
  · have hf : isHireB n (a, b, c) = true := by
      have := inB_true h3
      exact isHireB_mk h1 (by omega) (by omega) (by omega)
    have HF := hd hf
    clear hf
    go_enter Try.func140, Try.ntmps140
    go_wp2_with fail
    refine wp_region_calm (by kernel_rfl) (by kernel_rfl) ?_
    repeat (first | go_big_quiet_step ((first | (go_at_call 109; exact calm_in_spec _ _ _ _ _))) | quiet_step ((first | (go_at_call 109; exact calm_in_spec _ _ _ _ _))))
    refine wpQuiet_nil ?_
    rintro w1 ⟨xw, rfl⟩
    have hb1 := below_step (Below.refl _ _) (gro_below xw)
    go_wp2_with fail
    go_ret
    exact ⟨by rw [HF.out]; rfl, hb1⟩

set_option maxHeartbeats 1000000 in
theorem stock_spec (w : World) (vS : Value) (S : List Int) (hS : Sl w 1 vS eI S) :
    Calls Try.prog 141 #[vS] w fun e w' => e = .returned (.bool (okStock S)) ∧ w' = w := by
  have m1 := hS.len
  obtain ⟨-, A, c, rfl, -, -, -⟩ := id hS
  go_enter Try.func141, Try.ntmps141
  go_wp2_with fail
  go_loop [3] (fun i => ∃ k : Nat, k ≤ S.length ∧ i = .int .i64 k ∧ Hid ((S.take k).any (fun x : Int => !inB x 0 100) = false)) (fun i => S.length - (intOf i).toNat)
  case atStart => exact ⟨0, Nat.zero_le _, rfl, hd (by simp)⟩
  case round =>
    obtain ⟨k, hk, rfl, HT⟩ := hrel
    by_cases hlt : k < S.length
    · obtain ⟨b, o, rfl, hb, hc⟩ := hS.int_at hlt
      have HH := hd (any_of_hit (fun x : Int => !inB x 0 100) S k hlt)
      have HN := hd (any_take_snoc (fun x : Int => !inB x 0 100) S k hlt HT.out)
      generalize S[k] = x at hc HH HN
      rcases hq : inB x 0 100 with _ | _
      · go_wp2_with (go_at_call 109; refine (in_spec _ _ _ _).mono ?_; rintro e w1 ⟨rfl, hw⟩; have hw := hw.symm; subst hw)
        go_ret
        exact ⟨by have e := HH.out (by simp [hq]); simp only [okStock, e]; simp, rfl⟩
      · go_wp2_with (go_at_call 109; refine (in_spec _ _ _ _).mono ?_; rintro e w1 ⟨rfl, hw⟩; have hw := hw.symm; subst hw)
        go_round
        case rel => exact ⟨k + 1, by omega, by go_num, hd (HN.out (by simp [hq]))⟩
        case measure => simp [intOf]; omega
    · have HA : Hid (S.any (fun x : Int => !inB x 0 100) = false) := hd (by have := HT.out; rwa [List.take_of_length_le (by omega)] at this)
      go_wp2_with (go_at_call 109; refine (in_spec _ _ _ _).mono ?_; rintro e w1 ⟨rfl, hw⟩; have hw := hw.symm; subst hw)
      go_ret
      exact ⟨by have e := HA.out; simp only [okStock, e]; simp, rfl⟩

set_option maxHeartbeats 2000000 in
theorem hires_spec0 (w : World) (vS : Value) (S : List Int) (hS : Sl w 1 vS eI S) (vL : Value) (L : List THire) (hL : Sl w 3 vL eHire L) :
    Calls Try.prog 105 #[vS, vL] w fun e w' => e = .returned (.bool (okHires S L)) ∧ Below w.heap.size w w' := by
  have m1 := hS.len
  have m2 := hL.len
  obtain ⟨-, A1, c1, rfl, -, -, -⟩ := id hS
  obtain ⟨-, A2, c2, rfl, -, -, -⟩ := id hL
  go_enter Try.func105, Try.ntmps105
  go_wp2_with fail
  go_loopw [5] (fun i wr => ∃ k : Nat, k ≤ L.length ∧ i = .int .i64 k ∧ Below w.heap.size w wr ∧ Hid ((L.take k).any (fun x => !isHireB S.length x) = false)) (fun i _ => L.length - (intOf i).toNat)
  case atStart => exact ⟨0, Nat.zero_le _, rfl, Below.refl _ _, hd (by simp)⟩
  case round =>
    obtain ⟨k, hk, rfl, hbel, HT⟩ := hrel
    by_cases hlt : k < L.length
    · obtain ⟨b, o, rfl, hb, p0, p1, p2⟩ := (hL.below hbel).Hire_at hlt
      have HH := hd (any_of_hit (fun x => !isHireB S.length x) L k hlt)
      have HN := hd (any_take_snoc (fun x => !isHireB S.length x) L k hlt HT.out)
      generalize L[k] = x at p0 p1 p2 HH HN
      obtain ⟨xa, xb, xc⟩ := x
      dsimp only at p0 p1 p2
      rcases hq : isHireB S.length (xa, xb, xc) with _ | _
      · go_wp2_with fail
        refine (one_spec _ _ m1 _ _ _ _ _ p0 p1 p2).mono ?_
        rintro e w1 ⟨rfl, hb1⟩
        have hb2 := below_step hbel hb1
        go_wp2_with fail
        go_ret
        exact ⟨by have e := HH.out (by simp [hq]); simp only [okHires, e]; simp, hb2⟩
      · go_wp2_with fail
        refine (one_spec _ _ m1 _ _ _ _ _ p0 p1 p2).mono ?_
        rintro e w1 ⟨rfl, hb1⟩
        have hb2 := below_step hbel hb1
        go_wp2_with fail
        go_roundw
        case rel => exact ⟨k + 1, by omega, by go_num, hb2, hd (HN.out (by simp [hq]))⟩
        case measure => simp [intOf]; omega
    · have HA : Hid (L.any (fun x => !isHireB S.length x) = false) := hd (by have := HT.out; rwa [List.take_of_length_le (by omega)] at this)
      have HE := hd (show ((decide ((L.length : Int) ≤ 40)) = decide (L.length ≤ 40)) by simp; omega)
      rcases h1 : okStock S with _ | _
      · go_wp2_with fail
        refine (stock_spec _ _ _ (hS.below hbel)).mono ?_
        rintro e w1 ⟨rfl, hw⟩
        have hw := hw.symm
        subst hw
        go_wp2_with fail
        go_ret
        exact ⟨by have e := HA.out; simp only [okHires, e, h1]; simp, hbel⟩
      · by_cases h40 : (L.length : Int) ≤ 40
        · go_wp2_with fail
          refine (stock_spec _ _ _ (hS.below hbel)).mono ?_
          rintro e w1 ⟨rfl, hw⟩
          have hw := hw.symm
          subst hw
          go_wp2_with fail
          go_ret
          exact ⟨by have e := HA.out; have e2 : L.length ≤ 40 := by omega
                    simp only [okHires, e, h1, e2]; first | (simp; done) | (simp; omega), hbel⟩
        · go_wp2_with fail
          refine (stock_spec _ _ _ (hS.below hbel)).mono ?_
          rintro e w1 ⟨rfl, hw⟩
          have hw := hw.symm
          subst hw
          go_wp2_with fail
          go_ret
          exact ⟨by have e := HA.out; have e2 : ¬ L.length ≤ 40 := by omega
                    simp only [okHires, e, h1, e2]; first | (simp; done) | (simp; omega), hbel⟩
end Go.Proofs.Ytlgcehdklpbknaa
