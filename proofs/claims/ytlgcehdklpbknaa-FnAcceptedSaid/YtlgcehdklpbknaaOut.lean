/- Pieces that are out on a day, and what follows from it; reference and program alike. No condition but that the slices read. -/
import Derived.Test.YtlgcehdklpbknaaHires
namespace Go.Proofs.Ytlgcehdklpbknaa
open Go Go.RowKit Go.ChangeShapes Go.WideShapes
set_option linter.unusedSimpArgs false
set_option linter.unusedVariables false

def outP (item day : Int) (x : THire) : Bool := (x.1 == item) && (decide (x.2.1 ≤ day) && decide (day < x.2.2))
/-- how many of an item are out on a day -/
def outOn (l : List THire) (item day : Int) : Int := ((l.filter (outP item day)).length : Nat)
theorem outOn_snoc (l : List THire) (item day : Int) (k : Nat) (h : k < l.length) : outOn (l.take (k + 1)) item day = if outP item day l[k] then outOn (l.take k) item day + 1 else outOn (l.take k) item day := by
  unfold outOn
  rw [List.take_succ_eq_append_getElem h, List.filter_append]
  by_cases hp : outP item day l[k] = true
  · rw [if_pos hp]; simp [hp]
  · rw [if_neg hp]; simp [hp]
theorem outOn_bd (l : List THire) (item day : Int) : 0 ≤ outOn l item day ∧ outOn l item day ≤ l.length := by
  unfold outOn
  have := List.length_filter_le (outP item day) l
  omega
def Good (l : List THire) : Prop := ∀ x ∈ l, 0 ≤ x.2.1 ∧ x.2.1 < x.2.2 ∧ x.2.2 ≤ 10000
theorem good_of {s : List Int} {l : List THire} (h : okHires s l = true) : Good l := fun x hx => (isHireB_bd (okHires_el h x hx)).2

set_option maxHeartbeats 2000000 in
theorem out_impl (w : World) (v : Value) (l : List THire) (h : Sl w 3 v eHire l) (item day : Int) :
    Calls Try.prog 101 #[v, .int .i64 item, .int .i64 day] w fun e w' => e = .returned (.int .i64 (outOn l item day)) ∧ Below w.heap.size w w' := by
  have m1 := h.len
  obtain ⟨-, A, c, rfl, -, -, -⟩ := id h
  go_enter Try.func101, Try.ntmps101
  go_wp2_with fail
  go_loopw [7, 12] (fun s i wr => ∃ k : Nat, k ≤ l.length ∧ i = .int .i64 k ∧ s = .int .i64 (outOn (l.take k) item day) ∧ Below w.heap.size w wr) (fun _ i _ => l.length - (intOf i).toNat)
  case atStart => exact ⟨0, Nat.zero_le _, rfl, by simp [outOn], Below.refl _ _⟩
  case round =>
    obtain ⟨k, hk, rfl, rfl, hbel⟩ := hrel
    by_cases hlt : k < l.length
    · have HS := hd (outOn_snoc l item day k hlt)
      obtain ⟨n1, n2⟩ := outOn_bd (l.take k) item day
      have n3 : outOn (l.take k) item day ≤ 9223372036854775806 := by have := List.length_take_le k l; omega
      clear n2
      obtain ⟨b, o, rfl, -, p0, p1, p2⟩ := (h.below hbel).Hire_at hlt
      generalize l[k] = x at p0 p1 p2 HS
      generalize outOn (l.take k) item day = s at HS n1 n3 ⊢
      obtain ⟨xa, xb, xc⟩ := x
      dsimp only at p0 p1 p2
      have hbel' := hbel.alloc hbel.size (.cells #[.int .i64 xa, .int .i64 xb, .int .i64 xc] 76)
      rcases q1 : (xa == item) with _ | _
      · go_wp2_with fail
        go_roundw
        case rel => exact ⟨k + 1, by omega, by go_num, by rw [HS.out, if_neg (by simp [outP, q1])], hbel'⟩
        case measure => simp [intOf]; omega
      rcases q2 : decide (xb ≤ day) with _ | _
      · go_wp2_with fail
        go_roundw
        case rel => exact ⟨k + 1, by omega, by go_num, by rw [HS.out, if_neg (by simp [outP, q1, q2])], hbel'⟩
        case measure => simp [intOf]; omega
      rcases q3 : decide (day < xc) with _ | _
      · go_wp2_with fail
        go_roundw
        case rel => exact ⟨k + 1, by omega, by go_num, by rw [HS.out, if_neg (by simp [outP, q1, q2, q3])], hbel'⟩
        case measure => simp [intOf]; omega
      · go_wp2_with fail
        go_roundw
        case rel => exact ⟨k + 1, by omega, by go_num, by rw [HS.out, if_pos (by simp [outP, q1, q2, q3])], hbel'⟩
        case measure => simp [intOf]; omega
    · go_wp2_with fail
      go_ret
      exact ⟨by show Ending.returned (.int .i64 (outOn (l.take k) item day)) = _; rw [List.take_of_length_le (by omega)], hbel⟩

set_option maxHeartbeats 2000000 in
theorem out_spec (w : World) (v : Value) (l : List THire) (h : Sl w 3 v eHire l) (hg : Good l) (item day : Int) :
    Calls Try.prog 103 #[v, .int .i64 item, .int .i64 day] w fun e w' => e = .returned (.int .i64 (outOn l item day)) ∧ Below w.heap.size w w' := by
  have m1 := h.len
  have HG := hd hg
  clear hg
  obtain ⟨-, A, c, rfl, -, -, -⟩ := id h
  go_enter Try.func103, Try.ntmps103
  go_wp2_with fail
  go_loopw [7, 8] (fun s i wr => ∃ k : Nat, k ≤ l.length ∧ i = .int .i64 k ∧ s = .int .i64 (outOn (l.take k) item day) ∧ Below w.heap.size w wr) (fun _ i _ => l.length - (intOf i).toNat)
  case atStart => exact ⟨0, Nat.zero_le _, rfl, by simp [outOn], Below.refl _ _⟩
  case round =>
    obtain ⟨k, hk, rfl, rfl, hbel⟩ := hrel
    by_cases hlt : k < l.length
    · have HS := hd (outOn_snoc l item day k hlt)
      obtain ⟨n1, n2⟩ := outOn_bd (l.take k) item day
      have n3 : outOn (l.take k) item day ≤ 9223372036854775806 := by have := List.length_take_le k l; omega
      clear n2
      obtain ⟨t1, t2, t3⟩ := HG.out l[k] (List.getElem_mem _)
      obtain ⟨b, o, rfl, -, p0, p1, p2⟩ := (h.below hbel).Hire_at hlt
      generalize l[k] = x at p0 p1 p2 HS t1 t2 t3
      generalize outOn (l.take k) item day = s at HS n1 n3 ⊢
      obtain ⟨xa, xb, xc⟩ := x
      dsimp only at p0 p1 p2 t1 t2 t3
      have g0 := gro_cell p0
      have g1 := gro_cell p1
      have g2 := gro_cell p2
      have z : IntKind.i64.wrap (xc - 1) = xc - 1 := wrap_i64 _ (by omega)
      rcases q1 : (xa == item) with _ | _
      · go_wp2_with fail
        refine wp_region_calm (by kernel_rfl) (by kernel_rfl) ?_
        repeat (first | go_big_quiet_step ((first | (go_at_call 109; exact calm_in_spec _ _ _ _ _))) | quiet_step ((first | (go_at_call 109; exact calm_in_spec _ _ _ _ _))))
        refine wpQuiet_nil ?_
        rintro w1 ⟨xw, rfl⟩
        have hb1 := below_step hbel (gro_below xw)
        go_wp2_with fail
        go_roundw
        case rel => exact ⟨k + 1, by omega, by go_num, by rw [HS.out, if_neg (by simp [outP, q1])], hb1⟩
        case measure => simp [intOf]; omega
      rcases q2 : inB day xb (xc - 1) with _ | _
      · go_wp2_with fail
        refine wp_region_calm (by kernel_rfl) (by kernel_rfl) ?_
        repeat (first | go_big_quiet_step ((first | (go_at_call 109; exact calm_in_spec _ _ _ _ _))) | quiet_step ((first | (go_at_call 109; exact calm_in_spec _ _ _ _ _))))
        refine wpQuiet_nil ?_
        rintro w1 ⟨xw, rfl⟩
        have hb1 := below_step hbel (gro_below xw)
        go_wp2_with fail
        go_roundw
        case rel => exact ⟨k + 1, by omega, by go_num, by rw [HS.out, if_neg (by have := inB_false q2; simp [outP, q1]; omega)], hb1⟩
        case measure => simp [intOf]; omega
      · go_wp2_with fail
        refine wp_region_calm (by kernel_rfl) (by kernel_rfl) ?_
        repeat (first | go_big_quiet_step ((first | (go_at_call 109; exact calm_in_spec _ _ _ _ _))) | quiet_step ((first | (go_at_call 109; exact calm_in_spec _ _ _ _ _))))
        refine wpQuiet_nil ?_
        rintro w1 ⟨xw, rfl⟩
        have hb1 := below_step hbel (gro_below xw)
        go_wp2_with fail
        go_roundw
        case rel => exact ⟨k + 1, by omega, by go_num, by rw [HS.out, if_pos (by have := inB_true q2; simp [outP, q1]; omega)], hb1⟩
        case measure => simp [intOf]; omega
    · go_wp2_with fail
      go_ret
      exact ⟨by show Ending.returned (.int .i64 (outOn (l.take k) item day)) = _; rw [List.take_of_length_le (by omega)], hbel⟩

def hCode (S : List Int) (L : List THire) (item day : Int) : Int := if okHires S L then if inB item 0 ((S.length : Int) - 1) then if inB day 0 10000 then 0 else 2 else 2 else 1
def hCode0 (S : List Int) (L : List THire) (item : Int) : Int := if okHires S L then if inB item 0 ((S.length : Int) - 1) then 0 else 2 else 1
set_option maxHeartbeats 1000000 in
theorem hcode_impl (w : World) (vS : Value) (S : List Int) (hS : Sl w 1 vS eI S) (vL : Value) (L : List THire) (hL : Sl w 3 vL eHire L) (item day : Int) :
    Calls Try.prog 92 #[vS, vL, .int .i64 item, .int .i64 day] w fun e w' => e = .returned (.int .i64 (hCode S L item day)) ∧ Below w.heap.size w w' := by
  have m1 := hS.len
  have m2 := hL.len
  obtain ⟨-, A1, c1, rfl, -, -, -⟩ := id hS
  obtain ⟨-, A2, c2, rfl, -, -, -⟩ := id hL
  rcases h1 : okHires S L with _ | _
  · go_enter Try.func92, Try.ntmps92
    go_wp2_with (first | (go_at_call 104; refine (hires_impl _ _ _ hS _ _ hL).mono ?_; rintro e w1 ⟨rfl, hb⟩) | (go_at_call 111; refine (in_impl _ _ _ _).mono ?_; rintro e w1 ⟨rfl, hw⟩; have hw := hw.symm; subst hw))
    go_ret
    exact ⟨by simp [hCode, h1], hb⟩
  rcases h2 : inB item 0 ((S.length : Int) - 1) with _ | _
  · go_enter Try.func92, Try.ntmps92
    go_wp2_with (first | (go_at_call 104; refine (hires_impl _ _ _ hS _ _ hL).mono ?_; rintro e w1 ⟨rfl, hb⟩) | (go_at_call 111; refine (in_impl _ _ _ _).mono ?_; rintro e w1 ⟨rfl, hw⟩; have hw := hw.symm; subst hw))
    go_ret
    exact ⟨by simp [hCode, h1, h2], hb⟩
  rcases h3 : inB day 0 10000 with _ | _
  · go_enter Try.func92, Try.ntmps92
    go_wp2_with (first | (go_at_call 104; refine (hires_impl _ _ _ hS _ _ hL).mono ?_; rintro e w1 ⟨rfl, hb⟩) | (go_at_call 111; refine (in_impl _ _ _ _).mono ?_; rintro e w1 ⟨rfl, hw⟩; have hw := hw.symm; subst hw))
    go_ret
    exact ⟨by simp [hCode, h1, h2, h3], hb⟩
  · go_enter Try.func92, Try.ntmps92
    go_wp2_with (first | (go_at_call 104; refine (hires_impl _ _ _ hS _ _ hL).mono ?_; rintro e w1 ⟨rfl, hb⟩) | (go_at_call 111; refine (in_impl _ _ _ _).mono ?_; rintro e w1 ⟨rfl, hw⟩; have hw := hw.symm; subst hw))
    go_ret
    exact ⟨by simp [hCode, h1, h2, h3], hb⟩
set_option maxHeartbeats 1000000 in
theorem hcode_spec (w : World) (vS : Value) (S : List Int) (hS : Sl w 1 vS eI S) (vL : Value) (L : List THire) (hL : Sl w 3 vL eHire L) (item : Int) :
    Calls Try.prog 90 #[vS, vL, .int .i64 item] w fun e w' => e = .returned (.int .i64 (hCode0 S L item)) ∧ Below w.heap.size w w' := by
  have m1 := hS.len
  have m2 := hL.len
  obtain ⟨-, A1, c1, rfl, -, -, -⟩ := id hS
  obtain ⟨-, A2, c2, rfl, -, -, -⟩ := id hL
  rcases h1 : okHires S L with _ | _
  · go_enter Try.func90, Try.ntmps90
    go_wp2_with (first | (go_at_call 105; refine (hires_spec0 _ _ _ hS _ _ hL).mono ?_; rintro e w1 ⟨rfl, hb⟩) | (go_at_call 109; refine (in_spec _ _ _ _).mono ?_; rintro e w1 ⟨rfl, hw⟩; have hw := hw.symm; subst hw))
    go_ret
    exact ⟨by simp [hCode0, h1], hb⟩
  rcases h2 : inB item 0 ((S.length : Int) - 1) with _ | _
  · go_enter Try.func90, Try.ntmps90
    go_wp2_with (first | (go_at_call 105; refine (hires_spec0 _ _ _ hS _ _ hL).mono ?_; rintro e w1 ⟨rfl, hb⟩) | (go_at_call 109; refine (in_spec _ _ _ _).mono ?_; rintro e w1 ⟨rfl, hw⟩; have hw := hw.symm; subst hw))
    go_ret
    exact ⟨by simp [hCode0, h1, h2], hb⟩
  · go_enter Try.func90, Try.ntmps90
    go_wp2_with (first | (go_at_call 105; refine (hires_spec0 _ _ _ hS _ _ hL).mono ?_; rintro e w1 ⟨rfl, hb⟩) | (go_at_call 109; refine (in_spec _ _ _ _).mono ?_; rintro e w1 ⟨rfl, hw⟩; have hw := hw.symm; subst hw))
    go_ret
    exact ⟨by simp [hCode0, h1, h2], hb⟩

def outR (S : List Int) (L : List THire) (item day : Int) : Int × Int :=
  if okHires S L then if inB item 0 ((S.length : Int) - 1) then if inB day 0 10000 then (outOn L item day, 0) else (0, 2) else (0, 2) else (0, 1)

set_option maxHeartbeats 2000000 in
theorem outOn_impl (w : World) (vS : Value) (S : List Int) (hS : Sl w 1 vS eI S) (vL : Value) (L : List THire) (hL : Sl w 3 vL eHire L) (item day : Int) :
    Calls Try.prog 49 #[vS, vL, .int .i64 item, .int .i64 day] w fun e w' => e = .returned (.tuple #[.int .i64 (outR S L item day).1, .int .i64 (outR S L item day).2]) ∧ Below w.heap.size w w' := by
  have m1 := hS.len
  have m2 := hL.len
  obtain ⟨-, A1, c1, rfl, -, -, -⟩ := id hS
  obtain ⟨-, A2, c2, rfl, -, -, -⟩ := id hL
  unfold outR
  rcases h1 : okHires S L with _ | _
  · have hc : hCode S L item day = 1 := by simp [hCode, h1]
    go_enter Try.func49, Try.ntmps49
    go_wp2_with (first | (go_at_call 92; refine (hcode_impl _ _ _ hS _ _ hL _ _).mono ?_; rintro e w1 ⟨rfl, hb⟩))
    go_ret2
    exact ⟨by simp, hb⟩
  have HO := hd h1
  rcases h2 : inB item 0 ((S.length : Int) - 1) with _ | _
  · have hc : hCode S L item day = 2 := by simp [hCode, h1, h2]
    go_enter Try.func49, Try.ntmps49
    go_wp2_with (first | (go_at_call 92; refine (hcode_impl _ _ _ hS _ _ hL _ _).mono ?_; rintro e w1 ⟨rfl, hb⟩))
    go_ret2
    exact ⟨by simp, hb⟩
  rcases h3 : inB day 0 10000 with _ | _
  · have hc : hCode S L item day = 2 := by simp [hCode, h1, h2, h3]
    go_enter Try.func49, Try.ntmps49
    go_wp2_with (first | (go_at_call 92; refine (hcode_impl _ _ _ hS _ _ hL _ _).mono ?_; rintro e w1 ⟨rfl, hb⟩))
    go_ret2
    exact ⟨by simp, hb⟩
  have hz : inB 0 0 10000 = true := by decide
  have hc : hCode S L item day = 0 := by simp [hCode, h1, h2, h3]
  go_enter Try.func49, Try.ntmps49
  go_wp2_with (first | (go_at_call 92; refine (hcode_impl _ _ _ hS _ _ hL _ _).mono ?_; rintro e w1 ⟨rfl, hb⟩) | (go_at_call 101; refine (out_impl _ _ _ (hL.below hb) _ _).mono ?_; rintro e w2 ⟨rfl, hb2⟩))
  go_ret2
  exact ⟨by simp, below_step hb hb2⟩

set_option maxHeartbeats 2000000 in
theorem outOn_spec (w : World) (vS : Value) (S : List Int) (hS : Sl w 1 vS eI S) (vL : Value) (L : List THire) (hL : Sl w 3 vL eHire L) (item day : Int) :
    Calls Try.prog 50 #[vS, vL, .int .i64 item, .int .i64 day] w fun e w' => e = .returned (.tuple #[.int .i64 (outR S L item day).1, .int .i64 (outR S L item day).2]) ∧ Below w.heap.size w w' := by
  have m1 := hS.len
  have m2 := hL.len
  obtain ⟨-, A1, c1, rfl, -, -, -⟩ := id hS
  obtain ⟨-, A2, c2, rfl, -, -, -⟩ := id hL
  unfold outR
  rcases h1 : okHires S L with _ | _
  · have hc : hCode0 S L item = 1 := by simp [hCode0, h1]
    go_enter Try.func50, Try.ntmps50
    go_wp2_with (first | (go_at_call 90; refine (hcode_spec _ _ _ hS _ _ hL _).mono ?_; rintro e w1 ⟨rfl, hb⟩) | (go_at_call 109; refine (in_spec _ _ _ _).mono ?_; rintro e w1 ⟨rfl, hw⟩; have hw := hw.symm; subst hw))
    go_ret2
    exact ⟨by simp, hb⟩
  have HO := hd h1
  rcases h2 : inB item 0 ((S.length : Int) - 1) with _ | _
  · have hc : hCode0 S L item = 2 := by simp [hCode0, h1, h2]
    go_enter Try.func50, Try.ntmps50
    go_wp2_with (first | (go_at_call 90; refine (hcode_spec _ _ _ hS _ _ hL _).mono ?_; rintro e w1 ⟨rfl, hb⟩) | (go_at_call 109; refine (in_spec _ _ _ _).mono ?_; rintro e w1 ⟨rfl, hw⟩; have hw := hw.symm; subst hw))
    go_ret2
    exact ⟨by simp, hb⟩
  rcases h3 : inB day 0 10000 with _ | _
  · have hc : hCode0 S L item = 0 := by simp [hCode0, h1, h2, h3]
    go_enter Try.func50, Try.ntmps50
    go_wp2_with (first | (go_at_call 90; refine (hcode_spec _ _ _ hS _ _ hL _).mono ?_; rintro e w1 ⟨rfl, hb⟩) | (go_at_call 109; refine (in_spec _ _ _ _).mono ?_; rintro e w1 ⟨rfl, hw⟩; have hw := hw.symm; subst hw))
    go_ret2
    exact ⟨by simp, hb⟩
  have hz : inB 0 0 10000 = true := by decide
  have hc : hCode0 S L item = 0 := by simp [hCode0, h1, h2, h3]
  go_enter Try.func50, Try.ntmps50
  go_wp2_with (first | (go_at_call 90; refine (hcode_spec _ _ _ hS _ _ hL _).mono ?_; rintro e w1 ⟨rfl, hb⟩) | (go_at_call 109; refine (in_spec _ _ _ _).mono ?_; rintro e w1 ⟨rfl, hw⟩; have hw := hw.symm; subst hw) | (go_at_call 103; refine (out_spec _ _ _ (hL.below hb) (good_of HO.out) _ _).mono ?_; rintro e w2 ⟨rfl, hb2⟩))
  go_ret2
  exact ⟨by simp, below_step hb hb2⟩

def mostGo (L : List THire) (item : Int) (l : List THire) : Int := l.foldl (fun m x => if outOn L item x.2.1 > m then outOn L item x.2.1 else m) 0
theorem mostGo_snoc (L : List THire) (item : Int) (l : List THire) (k : Nat) (h : k < l.length) :
    mostGo L item (l.take (k + 1)) = if outOn L item l[k].2.1 > mostGo L item (l.take k) then outOn L item l[k].2.1 else mostGo L item (l.take k) := by
  unfold mostGo
  rw [List.take_succ_eq_append_getElem h, List.foldl_append]
  rfl
def mostR (S : List Int) (L : List THire) (item : Int) : Int × Int :=
  if okHires S L then if inB item 0 ((S.length : Int) - 1) then (mostGo L item L, 0) else (0, 2) else (0, 1)

set_option maxHeartbeats 2000000 in
theorem mostOut_impl (w : World) (vS : Value) (S : List Int) (hS : Sl w 1 vS eI S) (vL : Value) (L : List THire) (hL : Sl w 3 vL eHire L) (item : Int) :
    Calls Try.prog 44 #[vS, vL, .int .i64 item] w fun e w' => e = .returned (.tuple #[.int .i64 (mostR S L item).1, .int .i64 (mostR S L item).2]) ∧ Below w.heap.size w w' := by
  have m1 := hS.len
  have m2 := hL.len
  obtain ⟨-, A1, c1, rfl, -, -, -⟩ := id hS
  obtain ⟨-, A2, c2, rfl, -, -, -⟩ := id hL
  unfold mostR
  rcases h1 : okHires S L with _ | _
  · have hc : hCode S L item 0 = 1 := by simp [hCode, h1]
    go_enter Try.func44, Try.ntmps44
    go_wp2_with (first | (go_at_call 92; refine (hcode_impl _ _ _ hS _ _ hL _ _).mono ?_; rintro e w1 ⟨rfl, hb⟩))
    go_ret2
    exact ⟨by simp, hb⟩
  have HO := hd h1
  rcases h2 : inB item 0 ((S.length : Int) - 1) with _ | _
  · have hc : hCode S L item 0 = 2 := by simp [hCode, h1, h2]
    go_enter Try.func44, Try.ntmps44
    go_wp2_with (first | (go_at_call 92; refine (hcode_impl _ _ _ hS _ _ hL _ _).mono ?_; rintro e w1 ⟨rfl, hb⟩))
    go_ret2
    exact ⟨by simp, hb⟩
  have hz : inB 0 0 10000 = true := by decide
  have hc : hCode S L item 0 = 0 := by simp [hCode, h1, h2, hz]
  go_enter Try.func44, Try.ntmps44
  go_wp2_with (first | (go_at_call 92; refine (hcode_impl _ _ _ hS _ _ hL _ _).mono ?_; rintro e w1 ⟨rfl, hb⟩))
  have HB := hd hb
  clear hb
  go_loopw [9, 21] (fun s i wr => ∃ k : Nat, k ≤ L.length ∧ i = .int .i64 k ∧ s = .int .i64 (mostGo L item (L.take k)) ∧ Below w.heap.size w wr) (fun _ i _ => L.length - (intOf i).toNat)
  case atStart => exact ⟨0, Nat.zero_le _, rfl, by simp [mostGo], HB.out⟩
  case round =>
    obtain ⟨k, hk, rfl, rfl, hbel⟩ := hrel
    by_cases hlt : k < L.length
    · have HS := hd (mostGo_snoc L item L k hlt)
      obtain ⟨b, o, rfl, -, p0, p1, p2⟩ := (hL.below hbel).Hire_at hlt
      generalize L[k] = x at p0 p1 p2 HS
      generalize mostGo L item (L.take k) = s at HS ⊢
      obtain ⟨xa, xb, xc⟩ := x
      dsimp only at p0 p1 p2
      by_cases hgt : s < outOn L item xb
      · skip
        go_wp2_with fail
        refine (out_impl _ _ _ ((hL.below hbel).alloc _) _ _).mono ?_
        rintro e w2 ⟨rfl, hb2⟩
        have hb3 := below_step (hbel.alloc hbel.size _) hb2
        go_wp2
        go_roundw
        case rel => exact ⟨k + 1, by omega, by go_num, by rw [HS.out, if_pos (show outOn L item (xa, xb, xc).2.1 > s from hgt)]; (try rfl), hb3⟩
        case measure => simp [intOf]; omega
      · by_cases heq : outOn L item xb = s
        · have HE := hd heq
          have hle : ¬ outOn L item xb < s := by omega
          clear heq
          go_wp2_with fail
          refine (out_impl _ _ _ ((hL.below hbel).alloc _) _ _).mono ?_
          rintro e w2 ⟨rfl, hb2⟩
          have hb3 := below_step (hbel.alloc hbel.size _) hb2
          go_wp2
          go_roundw
          case rel => exact ⟨k + 1, by omega, by go_num, by rw [HS.out, if_neg (show ¬ outOn L item (xa, xb, xc).2.1 > s from by show ¬ outOn L item xb > s; have := HE.out; omega)]; (try rw [HE.out]); (try rfl), hb3⟩
          case measure => simp [intOf]; omega
        · have hlt2 : outOn L item xb < s := by omega
          clear heq
          go_wp2_with fail
          refine (out_impl _ _ _ ((hL.below hbel).alloc _) _ _).mono ?_
          rintro e w2 ⟨rfl, hb2⟩
          have hb3 := below_step (hbel.alloc hbel.size _) hb2
          go_wp2
          go_roundw
          case rel => exact ⟨k + 1, by omega, by go_num, by rw [HS.out, if_neg (show ¬ outOn L item (xa, xb, xc).2.1 > s from by show ¬ outOn L item xb > s; omega)]; (try rfl), hb3⟩
          case measure => simp [intOf]; omega
    · go_wp2_with fail
      go_ret2
      exact ⟨by show Ending.returned (.tuple #[.int .i64 (mostGo L item (L.take k)), .int .i64 0]) = _; rw [List.take_of_length_le (by omega)]; (try rfl), hbel⟩

set_option maxHeartbeats 2000000 in
theorem mostOut_spec (w : World) (vS : Value) (S : List Int) (hS : Sl w 1 vS eI S) (vL : Value) (L : List THire) (hL : Sl w 3 vL eHire L) (item : Int) :
    Calls Try.prog 45 #[vS, vL, .int .i64 item] w fun e w' => e = .returned (.tuple #[.int .i64 (mostR S L item).1, .int .i64 (mostR S L item).2]) ∧ Below w.heap.size w w' := by
  have m1 := hS.len
  have m2 := hL.len
  obtain ⟨-, A1, c1, rfl, -, -, -⟩ := id hS
  obtain ⟨-, A2, c2, rfl, -, -, -⟩ := id hL
  unfold mostR
  rcases h1 : okHires S L with _ | _
  · have hc : hCode0 S L item = 1 := by simp [hCode0, h1]
    go_enter Try.func45, Try.ntmps45
    go_wp2_with (first | (go_at_call 90; refine (hcode_spec _ _ _ hS _ _ hL _).mono ?_; rintro e w1 ⟨rfl, hb⟩) | (go_at_call 109; refine (in_spec _ _ _ _).mono ?_; rintro e w1 ⟨rfl, hw⟩; have hw := hw.symm; subst hw))
    go_ret2
    exact ⟨by simp, hb⟩
  have HO := hd h1
  rcases h2 : inB item 0 ((S.length : Int) - 1) with _ | _
  · have hc : hCode0 S L item = 2 := by simp [hCode0, h1, h2]
    go_enter Try.func45, Try.ntmps45
    go_wp2_with (first | (go_at_call 90; refine (hcode_spec _ _ _ hS _ _ hL _).mono ?_; rintro e w1 ⟨rfl, hb⟩) | (go_at_call 109; refine (in_spec _ _ _ _).mono ?_; rintro e w1 ⟨rfl, hw⟩; have hw := hw.symm; subst hw))
    go_ret2
    exact ⟨by simp, hb⟩
  have hz : inB 0 0 10000 = true := by decide
  have hc : hCode0 S L item = 0 := by simp [hCode0, h1, h2]
  go_enter Try.func45, Try.ntmps45
  go_wp2_with (first | (go_at_call 90; refine (hcode_spec _ _ _ hS _ _ hL _).mono ?_; rintro e w1 ⟨rfl, hb⟩) | (go_at_call 109; refine (in_spec _ _ _ _).mono ?_; rintro e w1 ⟨rfl, hw⟩; have hw := hw.symm; subst hw))
  have HB := hd hb
  clear hb
  go_loopw [9, 10] (fun s i wr => ∃ k : Nat, k ≤ L.length ∧ i = .int .i64 k ∧ s = .int .i64 (mostGo L item (L.take k)) ∧ Below w.heap.size w wr) (fun _ i _ => L.length - (intOf i).toNat)
  case atStart => exact ⟨0, Nat.zero_le _, rfl, by simp [mostGo], HB.out⟩
  case round =>
    obtain ⟨k, hk, rfl, rfl, hbel⟩ := hrel
    by_cases hlt : k < L.length
    · have HS := hd (mostGo_snoc L item L k hlt)
      obtain ⟨b, o, rfl, -, p0, p1, p2⟩ := (hL.below hbel).Hire_at hlt
      generalize L[k] = x at p0 p1 p2 HS
      generalize mostGo L item (L.take k) = s at HS ⊢
      obtain ⟨xa, xb, xc⟩ := x
      dsimp only at p0 p1 p2
      by_cases hgt : s < outOn L item xb
      · have hle : ¬ outOn L item xb < s := by omega
        go_wp2_with fail
        refine (out_spec _ _ _ (hL.below hbel) (good_of HO.out) _ _).mono ?_
        rintro e w2 ⟨rfl, hb2⟩
        have hb3 := below_step hbel hb2
        go_wp2
        go_roundw
        case rel => exact ⟨k + 1, by omega, by go_num, by rw [HS.out, if_pos (show outOn L item (xa, xb, xc).2.1 > s from hgt)]; (try rfl), hb3⟩
        case measure => simp [intOf]; omega
      · by_cases heq : outOn L item xb = s
        · have HE := hd heq
          have hle : ¬ outOn L item xb < s := by omega
          clear heq
          go_wp2_with fail
          refine (out_spec _ _ _ (hL.below hbel) (good_of HO.out) _ _).mono ?_
          rintro e w2 ⟨rfl, hb2⟩
          have hb3 := below_step hbel hb2
          go_wp2
          go_roundw
          case rel => exact ⟨k + 1, by omega, by go_num, by rw [HS.out, if_neg (show ¬ outOn L item (xa, xb, xc).2.1 > s from by show ¬ outOn L item xb > s; have := HE.out; omega)]; (try rw [HE.out]); (try rfl), hb3⟩
          case measure => simp [intOf]; omega
        · have hlt2 : outOn L item xb < s := by omega
          clear heq
          go_wp2_with fail
          refine (out_spec _ _ _ (hL.below hbel) (good_of HO.out) _ _).mono ?_
          rintro e w2 ⟨rfl, hb2⟩
          have hb3 := below_step hbel hb2
          go_wp2
          go_roundw
          case rel => exact ⟨k + 1, by omega, by go_num, by rw [HS.out, if_neg (show ¬ outOn L item (xa, xb, xc).2.1 > s from by show ¬ outOn L item xb > s; omega)]; (try rfl), hb3⟩
          case measure => simp [intOf]; omega
    · go_wp2_with fail
      go_ret2
      exact ⟨by show Ending.returned (.tuple #[.int .i64 (mostGo L item (L.take k)), .int .i64 0]) = _; rw [List.take_of_length_le (by omega)]; (try rfl), hbel⟩

end Go.Proofs.Ytlgcehdklpbknaa
