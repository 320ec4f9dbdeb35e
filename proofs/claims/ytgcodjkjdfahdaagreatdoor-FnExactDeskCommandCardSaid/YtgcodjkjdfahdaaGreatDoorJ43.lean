/- Lemmas for the claim (the walks of its functions and their plain laws), joined. No condition. -/
import Derived.Test.YtgcodjkjdfahdaaGreatDoorJ34
import Derived.Test.YtgcodjkjdfahdaaGreatDoorJ20
namespace Go.Proofs.YtgcodjkjdfahdaaGreatDoor
open Go Go.RowKit Go.ChangeShapes Go.WideShapes
set_option linter.unusedSimpArgs false
set_option linter.unusedVariables false
set_option maxRecDepth 100000 in
set_option maxHeartbeats 8000000 in
theorem vlamp_spec (w : World) (h c l : Int) : Calls Tryz.prog 260 #[.agg #[.int .i64 h, .int .i64 c, .int .i64 l]] w fun e w' => e = .returned (.bool (lampB h c l)) ∧ Below w.heap.size w w' := by
  have c0 := new_cell w #[.int .i64 h, .int .i64 c, .int .i64 l] 120 0 _ rfl
  have c1 := new_cell w #[.int .i64 h, .int .i64 c, .int .i64 l] 120 1 _ rfl
  have c2 := new_cell w #[.int .i64 h, .int .i64 c, .int .i64 l] 120 2 _ rfl
  have hb0 := (Below.refl w.heap.size w).alloc (Nat.le_refl _) (.cells #[.int .i64 h, .int .i64 c, .int .i64 l] 120)
  rcases h1 : inB h 1 20 with _ | _
  · have HR := hd (show lampB h c l = false by unfold lampB; rw [h1]; rfl)
    go_enter Tryz.func260, Tryz.ntmps260
    go_wp2_with (go_at_call 158; refine (in_spec _ _ _ _).mono ?_; rintro e w1 ⟨rfl, hw⟩; have hw := hw.symm; subst hw)
    go_ret
    exact ⟨by rw [HR.out]; simp [h1], hb0⟩
  rcases h2 : inB c 1 20 with _ | _
  · have HR := hd (show lampB h c l = false by unfold lampB; rw [h1, h2]; rfl)
    go_enter Tryz.func260, Tryz.ntmps260
    go_wp2_with (go_at_call 158; refine (in_spec _ _ _ _).mono ?_; rintro e w1 ⟨rfl, hw⟩; have hw := hw.symm; subst hw)
    go_ret
    exact ⟨by rw [HR.out]; simp [h1, h2], hb0⟩
  have HR := hd (show lampB h c l = inB l 1 100 by unfold lampB; rw [h1, h2]; rfl)
  go_enter Tryz.func260, Tryz.ntmps260
  go_wp2_with (go_at_call 158; refine (in_spec _ _ _ _).mono ?_; rintro e w1 ⟨rfl, hw⟩; have hw := hw.symm; subst hw)
  go_ret
  exact ⟨by rw [HR.out]; simp [h1, h2], hb0⟩
set_option maxRecDepth 100000 in
set_option maxHeartbeats 8000000 in
theorem lampC_spec (w : World) (h c l n : Int) : Calls Tryz.prog 219 #[.agg #[.int .i64 h, .int .i64 c, .int .i64 l], .int .i64 n] w fun e w' => e = .returned (.int .i64 (lampC h c l n)) ∧ Below w.heap.size w w' := by
  have c0 := new_cell w #[.int .i64 h, .int .i64 c, .int .i64 l] 120 0 _ rfl
  have c1 := new_cell w #[.int .i64 h, .int .i64 c, .int .i64 l] 120 1 _ rfl
  have c2 := new_cell w #[.int .i64 h, .int .i64 c, .int .i64 l] 120 2 _ rfl
  have hb0 := (Below.refl w.heap.size w).alloc (Nat.le_refl _) (.cells #[.int .i64 h, .int .i64 c, .int .i64 l] 120)
  rcases h1 : lampB h c l with _ | _
  · have HR := hd (lampC_bad (n := n) h1)
    go_enter Tryz.func219, Tryz.ntmps219
    go_wp2_with fail
    generalize w.alloc (.cells #[.int .i64 h, .int .i64 c, .int .i64 l] 120) = W at hb0 c0 c1 c2 ⊢
    refine (vlamp_spec _ _ _ _).mono ?_
    rintro e w1 ⟨rfl, hb1⟩
    rw [h1]
    have B := below_step hb0 hb1
    clear c0 c1 c2 hb0 hb1
    go_wp2_with fail
    go_ret
    exact ⟨by rw [HR.out]; rfl, B⟩
  rcases h2 : inB n 0 60 with _ | _
  all_goals
    have HR := hd (show lampC h c l n = _ by first | exact lampC_range h1 h2 | exact lampC_good h1 h2)
    go_enter Tryz.func219, Tryz.ntmps219
    go_wp2_with fail
    generalize w.alloc (.cells #[.int .i64 h, .int .i64 c, .int .i64 l] 120) = W at hb0 c0 c1 c2 ⊢
    refine (vlamp_spec _ _ _ _).mono ?_
    rintro e w1 ⟨rfl, hb1⟩
    rw [h1]
    have B := below_step hb0 hb1
    clear c0 c1 c2 hb0 hb1
    go_wp2_with fail
    refine (in_spec _ _ _ _).mono ?_
    rintro e ww ⟨rfl, hw⟩
    have hw := hw.symm
    subst hw
    rw [h2]
    go_wp2_with fail
    go_ret
    exact ⟨by rw [HR.out]; rfl, B⟩
set_option maxRecDepth 100000 in
set_option maxHeartbeats 8000000 in
theorem cool_spec (w : World) (h c l t : Nat) (hc : c ≤ 1000) (ht : t ≤ 1000) : Calls Tryz.prog 221 #[.agg #[.int .i64 (h : Int), .int .i64 (c : Int), .int .i64 (l : Int)], .int .i64 (t : Int), .bool false] w fun e w' => e = .returned (.int .i64 ((t - c : Nat) : Int)) ∧ Below w.heap.size w w' := by
  have c0 := new_cell w #[.int .i64 (h : Int), .int .i64 (c : Int), .int .i64 (l : Int)] 120 0 _ rfl
  have c1 := new_cell w #[.int .i64 (h : Int), .int .i64 (c : Int), .int .i64 (l : Int)] 120 1 _ rfl
  have c2 := new_cell w #[.int .i64 (h : Int), .int .i64 (c : Int), .int .i64 (l : Int)] 120 2 _ rfl
  have hb0 := (Below.refl w.heap.size w).alloc (Nat.le_refl _) (.cells #[.int .i64 (h : Int), .int .i64 (c : Int), .int .i64 (l : Int)] 120)
  have HE := hd (show max 0 ((t : Int) - (c : Int)) = ((t - c : Nat) : Int) by omega)
  have HM := hd (fun w => (max_spec w 0 ((t : Int) - (c : Int))))
  rw [HE.out] at HM
  go_enter Tryz.func221, Tryz.ntmps221
  go_wp2_with fail
  refine (HM.out _).mono ?_
  rintro e ww ⟨rfl, hw⟩
  have hw := hw.symm
  subst hw
  go_wp2_with fail
  go_ret
  exact ⟨rfl, hb0⟩
theorem OwnR.push {W W1 W2 : World} {B : Nat} {u u' vx : Value} {M : List TRow} {r : List Int} {o : Obj} (h : OwnR W B u M) (hB : B ≤ W.heap.size) (hb : Below W.heap.size W W1) (hr : Own W1 W.heap.size 2 1 vx eI r)
    (hg : (W1.alloc o).grownBy W2 u.ownBlock) (ho : Own W2 B 56 1 u' eV (M ++ [(vx, r)])) (hu : u'.ownBlock = u.ownBlock ∨ u'.ownBlock = some (W1.alloc o).heap.size) : OwnR W2 B u' (M ++ [(vx, r)]) := by
  obtain ⟨h1, h2, h3⟩ := h
  obtain ⟨p1, p2⟩ := List.pairwise_cons.1 h3
  have hz : (W1.alloc o).heap.size = W1.heap.size + 1 := by simp
  have hrow : ∀ x ∈ M, Own W2 B 2 1 x.1 eI x.2 := fun x hx =>
    (((h2 x hx).below hb (Nat.le_refl _)).alloc o).grown hg (apart_symm (p1 _ (List.mem_map.2 ⟨x, hx, rfl⟩)))
  have hvu : apart vx.ownBlock u.ownBlock := by
    rcases q : vx.ownBlock with _ | b
    · exact .inl rfl
    · refine .inr fun e => ?_
      have := hr.lt b q
      have := h1.lt b e.symm
      omega
  have hrl : ∀ b ∈ M.map (·.1.ownBlock), ∀ g, b = some g → g < W.heap.size := fun b hb g hg => by
    obtain ⟨x, hx, rfl⟩ := List.mem_map.1 hb
    exact ((h2 x hx).lt g hg).2
  refine ⟨ho, fun x hx => ?_, ?_⟩
  · rcases List.mem_append.1 hx with hx | hx
    · exact hrow x hx
    · rw [List.mem_singleton.1 hx]
      exact ((hr.alloc o).grown hg hvu).base hB
  · rw [List.map_append, List.pairwise_cons]
    have hbs : W.heap.size ≤ W1.heap.size := hb.size
    refine ⟨fun b hb' => ?_, ?_⟩
    · rcases List.mem_append.1 hb' with hb' | hb'
      · rcases hu with hu | hu
        · rw [hu]; exact p1 b hb'
        · rw [hu]
          refine .inr fun e => ?_
          have := hrl b hb' _ e.symm
          omega
      · simp only [List.map_cons, List.map_nil, List.mem_singleton] at hb'
        subst hb'
        rcases hu with hu | hu
        · rw [hu]; exact apart_symm hvu
        · rw [hu]
          refine .inr fun e => ?_
          have := (hr.lt _ e.symm).2
          omega
    · rw [List.pairwise_append]
      refine ⟨p2, by simp, fun a ha b hb' => ?_⟩
      simp only [List.map_cons, List.map_nil, List.mem_singleton] at hb'
      subst hb'
      rcases q : a with _ | c
      · exact .inl rfl
      · refine .inr fun e => ?_
        have := hrl a ha c q
        have := (hr.lt c e.symm).1
        omega
theorem own_row1 (w : World) (B : Nat) (hB : B ≤ w.heap.size) (E : TypeId) (v : Value) (l : List Int) : Own (w.alloc (.cells #[v] E)) B E 1 (.slice (some ⟨w.heap.size, 0, none⟩) 1 1) eV [(v, l)] :=
  ⟨rfl, .inr ⟨w.heap.size, 1, #[v], rfl, hB, heap_alloc_new w _, Nat.le_refl _, by unfold maxLen; decide, rfl, rfl⟩⟩
def TabsTo (h c l : Nat) (M : List TRow) : Prop := ∀ i (hi : i < M.length), M[i].2 = tabB h c l i
theorem TabsTo.push {h c l : Nat} {M : List TRow} (H : TabsTo h c l M) {v : Value} {r : List Int} {k : Nat} (hk : M.length = k) (hr : r = tabB h c l k) : TabsTo h c l (M ++ [(v, r)]) := by
  intro i hi
  by_cases e : i < M.length
  · rw [List.getElem_append_left e]; exact H i e
  · have hi2 : i < M.length + 1 := by simpa using hi
    have : i = M.length := by omega
    subst this
    rw [List.getElem_append_right (Nat.le_refl _)]
    simp only [Nat.sub_self, List.getElem_cons_zero]
    rw [hr, hk]
theorem rows_num {W : World} {v : Value} {A : Option Addr} {nn cc : Nat} {M : List TRow} (T : SlR W (.slice A nn cc) M) {h c l : Nat} (H : TabsTo h c l M) {i : Nat} (hi : i < M.length) {j : Nat} (hj : j < l + 1) :
    ∃ b o rb ro rc, A = some ⟨b, o, none⟩ ∧ W.cell? ⟨b, o + i, none⟩ = some (.slice (some ⟨rb, ro, none⟩) (l + 1) rc) ∧ W.cell? ⟨rb, ro + j, none⟩ = some (.int .i64 ((tabB h c l i).getD j 0)) := by
  obtain ⟨b, o, hA, -, hc, S⟩ := T.row_at hi
  rw [H i hi] at S
  have hl := tabB_len h c l i
  obtain ⟨A2, c2, hv⟩ := S.isSlice
  rw [hv] at S hc
  obtain ⟨rb, ro, hA2, -, hcell⟩ := S.int_at (i := j) (by rw [hl]; exact hj)
  subst hA2
  rw [hl] at hc
  exact ⟨b, o, rb, ro, c2, hA, hc, by rw [hcell, tabB_get _ _ _ _ _ (by rw [hl]; exact hj)]⟩
set_option maxRecDepth 100000 in
set_option maxHeartbeats 40000000 in
theorem table_spec (w : World) (h c l n : Nat) (hh : 1 ≤ h ∧ h ≤ 20) (hc : 1 ≤ c ∧ c ≤ 20) (hl : 1 ≤ l ∧ l ≤ 100) (hn : n ≤ 60) :
    Calls Tryz.prog 220 #[.agg #[.int .i64 (h : Int), .int .i64 (c : Int), .int .i64 (l : Int)], .int .i64 (n : Int)] w fun e w' => ∃ v M, e = .returned v ∧ OwnR w' w.heap.size v M ∧ M.length = n + 1 ∧ TabsTo h c l M ∧ Below w.heap.size w w' := by
  obtain ⟨i0, hi, hz0, hz1, hz2⟩ := info_parts info_i64
  obtain ⟨r0, ri, rz0, rz1, rz2⟩ := info_parts info_row
  have HLA := lamp_new w h c l 120
  have hb0 := (Below.refl w.heap.size w).alloc (Nat.le_refl _) (.cells #[.int .i64 (h : Int), .int .i64 (c : Int), .int .i64 (l : Int)] 120)
  have hz : (w.alloc (.cells #[.int .i64 (h : Int), .int .i64 (c : Int), .int .i64 (l : Int)] 120)).heap.size = w.heap.size + 1 := by simp
  have HZ := hd hz
  have HB0 := hd hb0
  have HL1 := hd (show (l : Int) + 1 = ((l + 1 : Nat) : Int) by omega)
  obtain ⟨hgl, k0, k1, k2⟩ := id HLA
  clear hz hb0
  go_enter Tryz.func220, Tryz.ntmps220
  go_wp2_with (at_make; refine wpList_make_full _ rfl _ _ 56 rfl (w.heap.size + 1) 2 i0 (.int .i64 0) 1 Tryz.underlying56 hi hz0 hz1 .i64 .i64 _ _ (l + 1) rfl rfl HL1.out HL1.out (by rw [hz2]; omega) (by unfold maxLen; omega) (by rw [HZ.out]; exact Nat.le_refl _) ?_)
  intro w1 hR0 hgr
  have hR := kmade_ints _ _ _ _ _ hR0
  generalize hW0 : w.alloc (.cells #[.int .i64 (h : Int), .int .i64 (c : Int), .int .i64 (l : Int)] 120) = W0 at HLA HZ HB0 hgr hR hR0
  clear hW0 k0 k1 k2 hgl hR0
  have hb1 : Below (w.heap.size + 1) W0 w1 := below_of_grown hgr (by rw [HZ.out]; exact Nat.le_refl _) (by simp)
  have hgr1 := (hR.lt (w.heap.size + 1) rfl).2
  have hBw1 : w.heap.size + 1 ≤ w1.heap.size := by have := hb1.size; have := HZ.out; omega
  have hOT := own_row1 w1 (w.heap.size + 1) hBw1 56 (.slice (some ⟨w.heap.size + 1, 0, none⟩) (l + 1) (l + 1)) (List.replicate (l + 1) 0)
  have hR2 := hR.alloc (.cells #[.slice (some ⟨w.heap.size + 1, 0, none⟩) (l + 1) (l + 1)] 56)
  have hb2 := hb1.alloc hBw1 (.cells #[.slice (some ⟨w.heap.size + 1, 0, none⟩) (l + 1) (l + 1)] 56)
  have hOR : OwnR (w1.alloc (.cells #[.slice (some ⟨w.heap.size + 1, 0, none⟩) (l + 1) (l + 1)] 56)) (w.heap.size + 1) (.slice (some ⟨w1.heap.size, 0, none⟩) 1 1) [(.slice (some ⟨w.heap.size + 1, 0, none⟩) (l + 1) (l + 1), List.replicate (l + 1) 0)] := by
    refine ⟨hOT, fun x hx => by rw [List.mem_singleton.1 hx]; exact hR2, ?_⟩
    refine List.pairwise_cons.2 ⟨fun b hb => ?_, by simp⟩
    simp only [List.map_cons, List.map_nil, List.mem_singleton] at hb
    subst hb
    exact .inr fun e => by have e2 : some w1.heap.size = some (w.heap.size + 1) := e; injection e2 with e2; omega
  have hTT : TabsTo h c l [(.slice (some ⟨w.heap.size + 1, 0, none⟩) (l + 1) (l + 1), List.replicate (l + 1) 0)] := fun i hi => by
    have : i = 0 := by simpa using hi
    subst this
    rfl
  have HTT := hd hTT
  have HML := hd (show ([((.slice (some ⟨w.heap.size + 1, 0, none⟩) (l + 1) (l + 1) : Value), List.replicate (l + 1) (0 : Int))] : List TRow).length = 0 + 1 from rfl)
  clear hgr hR hgr1 hOT hR2 hb1 hTT
  go_wp2_with fail
  generalize ([((.slice (some ⟨w.heap.size + 1, 0, none⟩) (l + 1) (l + 1) : Value), List.replicate (l + 1) (0 : Int))] : List TRow) = M0 at hOR HTT HML
  generalize w1.alloc (.cells #[.slice (some ⟨w.heap.size + 1, 0, none⟩) (l + 1) (l + 1)] 56) = W2 at hOR hb2 ⊢
  generalize w1.heap.size = go at hOR ⊢
  have HLW := hd (show ∀ W, Below (w.heap.size + 1) W0 W → LampAt W w.heap.size h c l from fun W hb => HLA.below (by rw [HZ.out]; exact hb))
  clear HLA hBw1
  obtain ⟨gB, hgB⟩ : ∃ gB, w.heap.size + 1 = gB := ⟨_, rfl⟩
  rw [hgB] at hOR hb2 HLW HZ
  have HGB := hd hgB
  have HOR := hd hOR
  have HB2 := hd hb2
  clear hgB hOR hb2
  go_wp2_with fail
  go_loopw [5, 6] (fun ov kv wr => ∃ (k : Nat) (M : List TRow), k ≤ n ∧ kv = .int .i64 ((k : Int) + 1) ∧ OwnR wr gB ov M ∧ M.length = k + 1 ∧ Hid (TabsTo h c l M) ∧ Below gB W0 wr) (fun _ kv _ => n + 1 - (intOf kv).toNat)
  case atStart => exact ⟨0, M0, Nat.zero_le _, rfl, HOR.out, HML.out, HTT, HB2.out⟩
  case round =>
    obtain ⟨k, M, hk, rfl, hOR, hML, HT, hbel⟩ := hrel
    clear HOR HML HTT HB2
    by_cases hlt : k < n
    · as_aux_lemma =>
      have hlt' : (k : Int) + 1 ≤ (n : Int) := by omega
      have HMK := hd hML
      have hzz : gB ≤ wr.heap.size := by have := hbel.size; have := HZ.out; omega
      obtain ⟨NB, hNB⟩ : ∃ NB, NB = wr.heap.size := ⟨_, rfl⟩
      obtain ⟨V, hV⟩ : ∃ V, V = wr := ⟨_, rfl⟩
      have HRW := hd (show ∀ W, Below NB V W → OwnR W gB u5 M from fun W hb => hOR.below (by rw [hNB, hV] at hb; exact hb) (Nat.le_refl _))
      have HBW := hd (show ∀ W, Below NB V W → Below gB W0 W from fun W hb => hbel.trans (by rw [hV] at hb; exact hb.mono (by omega)))
      have HNV := hd (show NB = V.heap.size by rw [hNB, hV])
      have own0 : Own (wr.alloc (.cells #[] 2)) NB 2 1 (.slice (some ⟨wr.heap.size, 0, none⟩) 0 0) eI (burnTo h c l (tabB h c l k) 0) := by rw [hNB]; exact Own.made0 wr wr.heap.size 2 1 eI (Nat.le_refl _)
      have bel0 : Below NB V (wr.alloc (.cells #[] 2)) := by rw [hNB, hV]; exact (Below.refl wr.heap.size wr).alloc (Nat.le_refl _) _
      obtain ⟨AO, cO, hO5⟩ := hOR.1.isSlice
      rw [hML] at hO5
      have HO5 := hd hO5
      have HZG := hd hzz
      clear hNB hV hOR hbel hML hzz
      subst hO5
      go_wp2_with fail
      go_loopw [7, 8] (fun rv tv wr => ∃ t : Nat, t ≤ l + 1 ∧ tv = .int .i64 (t : Int) ∧ Own wr NB 2 1 rv eI (burnTo h c l (tabB h c l k) t) ∧ Below NB V wr) (fun _ tv _ => l + 1 - (intOf tv).toNat)
      case atStart => exact ⟨0, Nat.zero_le _, rfl, own0, bel0⟩
      case round =>
        obtain ⟨t, ht, rfl, hown, hbel⟩ := hrel
        clear own0 bel0
        have hRW := HRW.out _ hbel
        obtain ⟨g0, d0, d1, d2⟩ := HLW.out _ (HBW.out _ hbel)
        have hbl := burnTo_len h c l (tabB h c l k) t
        by_cases htl : t ≤ l
        · as_aux_lemma =>
          have hkM : k < M.length := by have := HMK.out; omega
          obtain ⟨b, o, rb, ro, rc, hA, z0, z1⟩ := rows_num (v := .slice none 0 0) hRW.slr HT.out hkM (show t - c < l + 1 by omega)
          subst hA
          have y1b := tabB_at h c l k (t - c)
          obtain ⟨y1, hy1⟩ : ∃ y1, (tabB h c l k).getD (t - c) 0 = y1 := ⟨_, rfl⟩
          rw [hy1] at z1 y1b
          have HY1 := hd hy1
          have hkw : IntKind.i64.wrap ((k : Int) + 1 - 1) = (k : Int) := by rw [Int.add_sub_cancel]; exact IntWalk.i64_in _ (by omega)
          have hkw2 : IntKind.i64.wrap (k : Int) = (k : Int) := IntWalk.i64_in _ (by omega)
          have hk3 : (k : Int) < (k : Int) + 1 := by omega
          have hk4 : k < k + 1 := by omega
          have htc : (((t - c : Nat) : Int)) < (l : Int) + 1 := by omega
          have htn : t - c < l + 1 := by omega
          have HOW := hd hown
          have HBE := hd hbel
          have HCO := hd (fun w => cool_spec w h c l t (by omega) (by omega))
          have q0 := gro_cell d0
          have q1 := gro_cell d1
          have q2 := gro_cell d2
          have q3 := gro_cell z0
          have q4 := gro_cell z1
          have htl' : (t : Int) ≤ (l : Int) := by omega
          clear hy1 hown hbel hRW z0 z1 hbl
          go_wp2_with fail
          clear d0 d1 d2
          refine wp_region_calm (by kernel_rfl) (by kernel_rfl) ?_
          repeat (first | go_big_quiet_step ((go_at_call 221; exact calm_of (HCO.out _))) | quiet_step ((go_at_call 221; exact calm_of (HCO.out _))))
          refine wpQuiet_nil ?_
          rintro w2 ⟨x, rfl⟩
          have K2 := bel_step HBE.out (Nat.le_of_eq HNV.out) (gro_below x)
          have O2 := HOW.out.below (gro_below x) (Nat.le_refl _)
          clear q0 q1 q2 q3 q4 hkw hkw2 htc htn HOW HBE HCO
          generalize gro wr x = w2 at K2 O2 ⊢
          obtain ⟨-, f0, f1, f2⟩ := HLW.out _ (HBW.out _ K2)
          have hbl := burnTo_len h c l (tabB h c l k) t
          by_cases huh : t + h ≤ l
          · obtain ⟨b2, o2, rb2, ro2, rc2, hA2, z0, z1⟩ := rows_num (v := .slice none 0 0) (HRW.out _ K2).slr HT.out hkM (show t + h < l + 1 by omega)
            injection hA2 with hA2
            injection hA2 with ea eb _
            subst ea eb
            have y2b := tabB_at h c l k (t + h)
            have HX := hd (show burnAt h c l (tabB h c l k) t = max y1 (1 + (tabB h c l k).getD (t + h) 0) by unfold burnAt; rw [if_pos huh, HY1.out, Int.add_comm 1])
            generalize (tabB h c l k).getD (t + h) 0 = y2 at z1 y2b HX
            have hth : (t : Int) + (h : Int) ≤ (l : Int) := by omega
            have hth2 : (t : Int) + (h : Int) < (l : Int) + 1 := by omega
            have hth3 : t + h < l + 1 := by omega
            have hth4 : ((t : Int) + (h : Int)).toNat = t + h := by omega
            have hkw : IntKind.i64.wrap ((k : Int) + 1 - 1) = (k : Int) := by rw [Int.add_sub_cancel]; exact IntWalk.i64_in _ (by omega)
            have hkw2 : IntKind.i64.wrap (k : Int) = (k : Int) := IntWalk.i64_in _ (by omega)
            have hkw3 : IntKind.i64.wrap ((t : Int) + (h : Int)) = (t : Int) + (h : Int) := IntWalk.i64_in _ (by omega)
            have hkw4 : IntKind.i64.wrap (1 + y2) = 1 + y2 := IntWalk.i64_in _ (by omega)
            clear huh
            go_wp2_with fail
            go_quiet ((go_at_call 261; exact Calls.quiet_of_same (max_spec _ _ _)))
            clear z0 z1 hkw hkw2 hkw3 hkw4 f0 f1 f2 hth4
            have O3 := O2.drewN nq
            have K3 := below_drewN K2 nq
            generalize w2.drewN nq = w3 at O3 K3 ⊢
            have HSN := hd (show burnTo h c l (tabB h c l k) (t + 1) = burnTo h c l (tabB h c l k) t ++ [max y1 (1 + y2)] by rw [burnTo_snoc, HX.out])
            have hl2 : (burnTo h c l (tabB h c l k) t).length ≤ 200 := by rw [burnTo_len]; omega
            have HW := hd (Nat.le_trans (Nat.le_of_eq HNV.out) K3.size)
            clear hbl
            go_wp2_with (at_builtin; refine wpList_push_at _ rfl _ _ 56 rfl i0 (.int .i64 0) 8 Tryz.underlying56 hi hz0 hz1 hz2 rfl (by decide) _ _ (max y1 (1 + y2)) rfl (O3.alloc _) w3.heap.size rfl #[.int .i64 (max y1 (1 + y2))] 2 (heap_alloc_new _ _) rfl rfl (by intro u hu; simp [eI] at hu; subst hu; rfl) (by unfold maxLen; omega) (by omega) (by have := HW.out; simp; omega) ?_)
            intro v' w4 hown hgr hat
            have K4 : Below NB V w4 := (K3.alloc HW.out (.cells #[.int .i64 (max y1 (1 + y2))] 2)).grown hgr (by have := HW.out; simp; omega) (fun q hq => (O3.lt q hq).1)
            clear hgr hat O3 K3
            go_wp2_with fail
            go_roundw
            case rel => exact ⟨t + 1, by omega, by go_num, by rw [HSN.out]; exact hown, K4⟩
            case measure => first | (simp [intOf]; done) | (simp [intOf]; omega)
          · have HX := hd (show burnAt h c l (tabB h c l k) t = y1 by unfold burnAt; rw [if_neg huh, HY1.out])
            have hth : (l : Int) < (t : Int) + (h : Int) := by omega
            clear huh
            have HSN := hd (show burnTo h c l (tabB h c l k) (t + 1) = burnTo h c l (tabB h c l k) t ++ [y1] by rw [burnTo_snoc, HX.out])
            have hl2 : (burnTo h c l (tabB h c l k) t).length ≤ 200 := by rw [burnTo_len]; omega
            have HW := hd (Nat.le_trans (Nat.le_of_eq HNV.out) K2.size)
            clear hbl
            go_wp2_with (at_builtin; refine wpList_push_at _ rfl _ _ 56 rfl i0 (.int .i64 0) 8 Tryz.underlying56 hi hz0 hz1 hz2 rfl (by decide) _ _ (y1) rfl (O2.alloc _) w2.heap.size rfl #[.int .i64 (y1)] 2 (heap_alloc_new _ _) rfl rfl (by intro u hu; simp [eI] at hu; subst hu; rfl) (by unfold maxLen; omega) (by omega) (by have := HW.out; simp; omega) ?_)
            intro v' w4 hown hgr hat
            have K4 : Below NB V w4 := (K2.alloc HW.out (.cells #[.int .i64 (y1)] 2)).grown hgr (by have := HW.out; simp; omega) (fun q hq => (O2.lt q hq).1)
            clear hgr hat O2 K2
            go_wp2_with fail
            go_roundw
            case rel => exact ⟨t + 1, by omega, by go_num, by rw [HSN.out]; exact hown, K4⟩
            case measure => first | (simp [intOf]; done) | (simp [intOf]; omega)
        · have hte : t = l + 1 := by omega
          subst hte
          have hlt3 : (l : Int) < ((l + 1 : Nat) : Int) := by omega
          have hlt4 : (l : Int) < (l : Int) + 1 := by omega
          obtain ⟨AR, cR, hv7⟩ := hown.isSlice
          rw [hbl] at hv7
          have HR7 := hd hv7
          obtain ⟨R, hR⟩ : ∃ R, burnTo h c l (tabB h c l k) (l + 1) = R := ⟨_, rfl⟩
          rw [hR] at hown
          have HRR := hd (show R = tabB h c l (k + 1) from hR.symm)
          subst hv7
          have hMl : M.length ≤ 61 := by have := HMK.out; omega
          have HNW := hd (Nat.le_trans (Nat.le_of_eq HNV.out) hbel.size)
          have HGW := hd (show gB ≤ V.heap.size from Nat.le_trans (Nat.le_of_eq HZ.out.symm) (HBW.out V (Below.refl NB V)).size)
          clear hR hbl htl
          go_wp2_with (at_builtin; refine wpList_push_at _ rfl _ _ 219 rfl r0 (.slice none 0 0) 24 Tryz.underlying219 ri rz0 rz1 rz2 rfl (by decide) _ M ((.slice AR (l + 1) cR, R) : TRow) rfl (hRW.1.alloc _) wr.heap.size rfl #[.slice AR (l + 1) cR] 56 (heap_alloc_new _ _) rfl rfl (by intro u hu; simp [eV] at hu; subst hu; rfl) (by unfold maxLen; omega) (by omega) (by have := hbel.size; have := HGW.out; simp; omega) ?_)
          intro v' w4 hown4 hgr hat
          have PU := OwnR.push (W := V) (HRW.out V (Below.refl NB V)) HGW.out (by rw [← HNV.out]; exact hbel) (by rw [← HNV.out]; exact hown) hgr hown4 (by simpa using hat)
          have B4 : Below gB W0 w4 := ((HBW.out _ hbel).alloc (Nat.le_trans HGW.out hbel.size) (.cells #[.slice AR (l + 1) cR] 56)).grown hgr (by have := hbel.size; have := HGW.out; simp; omega) (fun q hq => (hRW.1.lt q hq).1)
          have PT := hd (HT.out.push HMK.out (v := .slice AR (l + 1) cR) HRR.out)
          clear hgr hat hown4 hRW hown hbel d0 d1 d2
          go_wp2_with fail
          go_roundw
          case rel => exact ⟨k + 1, M ++ [(.slice AR (l + 1) cR, R)], by omega, by go_num, PU, by rw [List.length_append, HMK.out]; rfl, PT, B4⟩
          case measure => first | (simp [intOf]; done) | (simp [intOf]; omega)
    · obtain rfl : k = n := by omega
      have hlt3 : (k : Int) < (k : Int) + 1 := by omega
      obtain ⟨AO, cO, hO5⟩ := hOR.1.isSlice
      rw [hML] at hO5
      subst hO5
      have HOR := hd (hOR.base (show w.heap.size ≤ gB by have := HGB.out; omega))
      have HBF := hd (show Below w.heap.size w wr from HB0.out.trans (hbel.mono (by have := HGB.out; omega)))
      have HMK := hd hML
      clear hOR hML hbel
      go_wp2_with fail
      go_ret
      exact ⟨_, M, rfl, HOR.out, HMK.out, HT.out, HBF.out⟩
set_option maxRecDepth 100000 in
set_option maxHeartbeats 40000000 in
theorem lampS_spec (w : World) (h c l n : Int) :
    Calls Tryz.prog 162 #[.agg #[.int .i64 h, .int .i64 c, .int .i64 l], .int .i64 n] w fun e w' => e = .returned (.tuple #[.string (lampR h c l n).1, .int .i64 (lampR h c l n).2]) ∧ Below w.heap.size w w' := by
  have c0 := new_cell w #[.int .i64 h, .int .i64 c, .int .i64 l] 120 0 _ rfl
  have c1 := new_cell w #[.int .i64 h, .int .i64 c, .int .i64 l] 120 1 _ rfl
  have c2 := new_cell w #[.int .i64 h, .int .i64 c, .int .i64 l] 120 2 _ rfl
  have hb0 := (Below.refl w.heap.size w).alloc (Nat.le_refl _) (.cells #[.int .i64 h, .int .i64 c, .int .i64 l] 120)
  by_cases hc : lampC h c l n = 0
  case neg =>
    obtain ⟨k, hcc⟩ : ∃ k, lampC h c l n = k := ⟨_, rfl⟩
    have HR := hd (lampR_bad hcc (by rw [← hcc]; exact hc))
    have kc : (k != 0) = true := by rw [← hcc]; simpa using hc
    have HC := hd hcc
    clear hc hcc
    go_enter Tryz.func162, Tryz.ntmps162
    go_wp2_with fail
    generalize w.alloc (.cells #[.int .i64 h, .int .i64 c, .int .i64 l] 120) = W at hb0 c0 c1 c2 ⊢
    refine (lampC_spec _ _ _ _ _).mono ?_
    rintro e w1 ⟨rfl, hb1⟩
    rw [HC.out]
    have B := below_step hb0 hb1
    clear c0 c1 c2 hb0 hb1
    go_wp2_with fail
    go_ret2
    exact ⟨by rw [HR.out]; rfl, B⟩
  have HR := lampR_good hc
  obtain ⟨h1, h2⟩ := lampC_zero hc
  obtain ⟨⟨a1, a2⟩, ⟨b1, b2⟩, d1, d2⟩ := lampB_bd h1
  have hn := inB_true h2
  obtain ⟨h, rfl⟩ := Int.eq_ofNat_of_zero_le (show 0 ≤ h by omega)
  obtain ⟨c, rfl⟩ := Int.eq_ofNat_of_zero_le (show 0 ≤ c by omega)
  obtain ⟨l, rfl⟩ := Int.eq_ofNat_of_zero_le (show 0 ≤ l by omega)
  obtain ⟨n, rfl⟩ := Int.eq_ofNat_of_zero_le (show 0 ≤ n by omega)
  rw [Int.toNat_natCast, Int.toNat_natCast, Int.toNat_natCast, Int.toNat_natCast] at HR
  have HR := hd HR
  have HC := hd hc
  have HLA := lamp_new w h c l 120
  obtain ⟨u0, ui, uz0, uz1, uz2⟩ := info_parts info_u8
  have HCV := hd (fun (w : World) (v : Value) (l : List UInt8) (hv : Sl w 1 v eU l) => conv_bytes (P := Tryz.prog) w 22 9 5 Tryz.underlying22 Tryz.underlying5 Tryz.underlying9 hv)
  clear hc h1 h2
  go_enter Tryz.func162, Tryz.ntmps162
  go_wp2_with fail
  generalize w.alloc (.cells #[.int .i64 (h : Int), .int .i64 (c : Int), .int .i64 (l : Int)] 120) = W at hb0 c0 c1 c2 HLA ⊢
  refine (lampC_spec _ _ _ _ _).mono ?_
  rintro e w1 ⟨rfl, hb1⟩
  rw [HC.out]
  have B := below_step hb0 hb1
  clear c0 c1 c2
  have HL1 := HLA.below hb1
  obtain ⟨-, c0, c1, c2⟩ := id HL1
  clear hb0 hb1 HLA
  go_wp2_with fail
  refine (table_spec _ _ _ _ _ (by omega) (by omega) (by omega) (by omega)).mono ?_
  rintro e wr ⟨vT, M, rfl, hOR, hML, HT, hb2⟩
  have B2 := below_step B hb2
  have HL2 := HL1.below hb2
  clear c0 c1 c2 B HL1
  obtain ⟨AO, cO, rfl⟩ := hOR.1.isSlice
  rw [hML] at hOR ⊢
  obtain ⟨NB, hNB⟩ : ∃ NB, NB = wr.heap.size := ⟨_, rfl⟩
  obtain ⟨V, hV⟩ : ∃ V, V = wr := ⟨_, rfl⟩
  have HRW := hd (show ∀ W, Below NB V W → SlR W (.slice AO (n + 1) cO) M from fun W hb => hOR.slr.below (by rw [hNB, hV] at hb; exact hb))
  have HLW := hd (show ∀ W, Below NB V W → LampAt W w.heap.size h c l from fun W hb => HL2.below (by rw [hNB, hV] at hb; exact hb))
  have HBW := hd (show ∀ W, Below NB V W → Below w.heap.size w W from fun W hb => below_step B2 (by rw [hNB, hV] at hb; exact hb))
  have HNV := hd (show NB = V.heap.size by rw [hNB, hV])
  have own0 : Own (wr.alloc (.cells #[] 5)) NB 5 1 (.slice (some ⟨wr.heap.size, 0, none⟩) 0 0) eU [] := by rw [hNB]; exact Own.made0 wr wr.heap.size 5 1 eU (Nat.le_refl _)
  have bel0 : Below NB V (wr.alloc (.cells #[] 5)) := by rw [hNB, hV]; exact (Below.refl wr.heap.size wr).alloc (Nat.le_refl _) _
  have HMK := hd hML
  have HT := hd HT
  clear hNB hV hOR hML hb2 B2 HL2
  go_wp2_with fail
  go_loopw [8, 9, 10] (fun ov tv jv wr => ∃ (j t : Nat) (L : List UInt8), t ≤ l ∧ j ≤ n ∧ L.length + j = n ∧ Own wr NB 5 1 ov eU L ∧ tv = .int .i64 (t : Int) ∧ jv = .int .i64 (j : Int) ∧ Hid (burnS h c l n 0 = L ++ burnS h c l j t) ∧ Below NB V wr) (fun _ _ jv _ => (intOf jv).toNat)
  case atStart => exact ⟨n, 0, [], by omega, Nat.le_refl _, by simp, own0, rfl, rfl, hd rfl, bel0⟩
  case round =>
    obtain ⟨j, t, L, ht, hjk, hLl, hown, rfl, rfl, HF, hbel⟩ := hrel
    clear own0 bel0
    have hL60 : L.length ≤ 60 := by omega
    have HLL := hd hLl
    clear hLl
    by_cases hj0 : j = 0
    · have HR3 := hd (show burnB h c l n = ⟨L.toArray⟩ by unfold burnB; rw [HF.out, hj0]; simp [burnS])
      have hjz : ¬ ((0 : Int) < (j : Int)) := by omega
      have HB := hd (HBW.out _ hbel)
      have hcv0 := HCV.out wr _ L (hown.sl eU_len)
      obtain ⟨A, cc, rfl⟩ := hown.isSlice
      clear hown hbel
      go_wp2_with fail
      go_ret2
      exact ⟨by first | (rw [HR.out, HR3.out]; rfl) | (rw [HR3.out]; rfl), HB.out⟩
    · obtain ⟨i, rfl⟩ : ∃ i, j = i + 1 := ⟨j - 1, by omega⟩
      obtain ⟨g0, x0, x1, x2⟩ := HLW.out _ hbel
      have hjp : (0 : Int) < ((i + 1 : Nat) : Int) := by omega
      have hjp2 : (0 : Int) < (i : Int) + 1 := by omega
      by_cases huh : t + h ≤ l
      · have hkM : i < M.length := by rw [HMK.out]; omega
        have hkM1 : i + 1 < M.length := by rw [HMK.out]; omega
        have hRW := HRW.out _ hbel
        obtain ⟨b, o, rb, ro, rc, hA, z0, z1⟩ := rows_num (v := .slice none 0 0) hRW HT.out hkM (show t + h < l + 1 by omega)
        subst hA
        obtain ⟨b2, o2, rb2, ro2, rc2, hA2, z2, z3⟩ := rows_num (v := .slice none 0 0) hRW HT.out hkM1 (show t < l + 1 by omega)
        injection hA2 with hA2
        injection hA2 with ea eb _
        subst ea eb
        have yb1 := tabB_at h c l i (t + h)
        have HBU := hd (show burnsB h c l (i + 1) t = decide ((tabB h c l i).getD (t + h) 0 + 1 = (tabB h c l (i + 1)).getD t 0) by unfold burnsB; rw [decide_eq_true huh, Bool.true_and, Nat.add_sub_cancel])
        generalize (tabB h c l i).getD (t + h) 0 = y1 at z1 yb1 HBU
        generalize (tabB h c l (i + 1)).getD t 0 = y2 at z3 HBU
        have hth : (t : Int) + (h : Int) ≤ (l : Int) := by omega
        have hth2 : (t : Int) + (h : Int) < (l : Int) + 1 := by omega
        have hth3 : t + h < l + 1 := by omega
        have hth4 : ((t : Int) + (h : Int)).toNat = t + h := by omega
        have hth5 : decide ((t : Int) + (h : Int) ≤ (l : Int)) = true := decide_eq_true hth
        have ht5 : (t : Int) < (l : Int) + 1 := by omega
        have ht6 : t < l + 1 := by omega
        have hi5 : (i : Int) < (n : Int) + 1 := by omega
        have hi6 : i < n + 1 := by omega
        have hi7 : (i : Int) + 1 < (n : Int) + 1 := by omega
        have hi8 : i + 1 < n + 1 := by omega
        have hi9 : ((i : Int) + 1).toNat = i + 1 := by omega
        have hw1 : IntKind.i64.wrap ((i : Int) + 1 - 1) = (i : Int) := by rw [Int.add_sub_cancel]; exact IntWalk.i64_in _ (by omega)
        have hw2 : IntKind.i64.wrap (i : Int) = (i : Int) := IntWalk.i64_in _ (by omega)
        have hw3 : IntKind.i64.wrap (1 + y1) = 1 + y1 := IntWalk.i64_in _ (by omega)
        have hw4 : IntKind.i64.wrap ((t : Int) + (h : Int)) = (t : Int) + (h : Int) := IntWalk.i64_in _ (by omega)
        have HOW := hd hown
        have HBE := hd hbel
        clear hRW hown hbel
        by_cases hq : y1 + 1 = y2
        · have HBN := hd (show burnsB h c l (i + 1) t = true by rw [HBU.out, decide_eq_true hq])
          have hq2 : ((1 + y1 : Int) == y2) = true := by rw [Int.add_comm]; simpa using hq
          have HSUC := hd (HF.out.trans (by rw [burnS_yes HBN.out]))
          clear hq huh
          go_wp2_with fail
          go_quiet (fail)
          clear hw1 hw2 hw3 hq2 z0 z1 z2 z3 hth4 hth5 hi9
          have K6 := below_drewN HBE.out nq
          have hown6 := HOW.out.drewN nq
          generalize wr.drewN nq = w6 at K6 hown6 ⊢
          obtain ⟨-, y0, y1', y2'⟩ := HLW.out _ K6
          clear x0 x1 x2 g0
          have HW := hd (Nat.le_trans (Nat.le_of_eq HNV.out) K6.size)
          go_wp2_with (at_builtin; refine wpList_push_at _ rfl _ _ 22 rfl u0 (.int .u8 0) 1 Tryz.underlying22 ui uz0 uz1 uz2 rfl (by decide) _ L (49 : UInt8) rfl (hown6.alloc _) w6.heap.size rfl #[.int .u8 49] 5 (heap_alloc_new _ _) rfl rfl (by intro u hu; simp [eU] at hu; subst hu; rfl) (by unfold maxLen; omega) (by omega) (by have := HW.out; simp; omega) ?_)
          intro v7 w7 hown7 hgr7 hat7
          have K7 : Below NB V w7 := (K6.alloc HW.out (.cells #[.int .u8 49] 5)).grown hgr7 (by have := HW.out; simp; omega) (fun q hq => (hown6.lt q hq).1)
          obtain ⟨-, y0, y1', y2'⟩ := HLW.out _ K7
          clear hown6 K6 hgr7 hat7
          go_wp2_with fail
          go_roundw
          case rel => exact ⟨i, t + h, L ++ [49], by omega, by omega, by rw [List.length_append]; have := HLL.out; simp only [List.length_cons, List.length_nil]; omega, hown7, by go_num, by go_num, hd (by rw [HSUC.out, List.append_assoc]; rfl), K7⟩
          case measure => first | (simp [intOf]; done) | (simp [intOf]; omega)
        · have HBN := hd (show burnsB h c l (i + 1) t = false by rw [HBU.out, decide_eq_false hq])
          have hq2 : ((1 + y1 : Int) == y2) = false := by rw [Int.add_comm]; simpa using hq
          have HSUC := hd (HF.out.trans (by rw [burnS_no HBN.out]))
          clear hq huh
          go_wp2_with fail
          go_quiet (fail)
          clear hw1 hw2 hw3 hq2 z0 z1 z2 z3 hth4 hth5 hi9
          have K6 := below_drewN HBE.out nq
          have hown6 := HOW.out.drewN nq
          generalize wr.drewN nq = w6 at K6 hown6 ⊢
          clear x0 x1 x2 g0
          have HW := hd (Nat.le_trans (Nat.le_of_eq HNV.out) K6.size)
          go_wp2_with (at_builtin; refine wpList_push_at _ rfl _ _ 22 rfl u0 (.int .u8 0) 1 Tryz.underlying22 ui uz0 uz1 uz2 rfl (by decide) _ L (48 : UInt8) rfl (hown6.alloc _) w6.heap.size rfl #[.int .u8 48] 5 (heap_alloc_new _ _) rfl rfl (by intro u hu; simp [eU] at hu; subst hu; rfl) (by unfold maxLen; omega) (by omega) (by have := HW.out; simp; omega) ?_)
          intro v7 w7 hown7 hgr7 hat7
          have K7 : Below NB V w7 := (K6.alloc HW.out (.cells #[.int .u8 48] 5)).grown hgr7 (by have := HW.out; simp; omega) (fun q hq => (hown6.lt q hq).1)
          obtain ⟨-, y0, y1', y2'⟩ := HLW.out _ K7
          clear hown6 K6 hgr7 hat7
          go_wp2_with fail
          refine (cool_spec _ h c l t (by omega) (by omega)).mono ?_
          rintro e w8 ⟨rfl, hb8⟩
          have K8 := bel_step K7 (Nat.le_of_eq HNV.out) hb8
          have O8 := hown7.below hb8 (Nat.le_refl _)
          clear y0 y1' y2' K7 hown7 hb8
          go_wp2_with fail
          go_roundw
          case rel => exact ⟨i, t - c, L ++ [48], by omega, by omega, by rw [List.length_append]; have := HLL.out; simp only [List.length_cons, List.length_nil]; omega, O8, by go_num, by go_num, hd (by rw [HSUC.out, List.append_assoc]; rfl), K8⟩
          case measure => first | (simp [intOf]; done) | (simp [intOf]; omega)
      · have HBN := hd (show burnsB h c l (i + 1) t = false by unfold burnsB; rw [decide_eq_false huh]; rfl)
        have hth : (l : Int) < (t : Int) + (h : Int) := by omega
        have hth5 : decide ((t : Int) + (h : Int) ≤ (l : Int)) = false := decide_eq_false (by omega)
        have hw4 : IntKind.i64.wrap ((t : Int) + (h : Int)) = (t : Int) + (h : Int) := IntWalk.i64_in _ (by omega)
        have HSUC := hd (HF.out.trans (by rw [burnS_no HBN.out]))
        have HOW := hd hown
        have HBE := hd hbel
        clear hown hbel huh
        go_wp2_with fail
        go_quiet (fail)
        clear hth5
        have K6 := below_drewN HBE.out nq
        have hown6 := HOW.out.drewN nq
        generalize wr.drewN nq = w6 at K6 hown6 ⊢
        clear x0 x1 x2 g0
        have HW := hd (Nat.le_trans (Nat.le_of_eq HNV.out) K6.size)
        go_wp2_with (at_builtin; refine wpList_push_at _ rfl _ _ 22 rfl u0 (.int .u8 0) 1 Tryz.underlying22 ui uz0 uz1 uz2 rfl (by decide) _ L (48 : UInt8) rfl (hown6.alloc _) w6.heap.size rfl #[.int .u8 48] 5 (heap_alloc_new _ _) rfl rfl (by intro u hu; simp [eU] at hu; subst hu; rfl) (by unfold maxLen; omega) (by omega) (by have := HW.out; simp; omega) ?_)
        intro v7 w7 hown7 hgr7 hat7
        have K7 : Below NB V w7 := (K6.alloc HW.out (.cells #[.int .u8 48] 5)).grown hgr7 (by have := HW.out; simp; omega) (fun q hq => (hown6.lt q hq).1)
        obtain ⟨-, y0, y1', y2'⟩ := HLW.out _ K7
        clear hown6 K6 hgr7 hat7
        go_wp2_with fail
        refine (cool_spec _ h c l t (by omega) (by omega)).mono ?_
        rintro e w8 ⟨rfl, hb8⟩
        have K8 := bel_step K7 (Nat.le_of_eq HNV.out) hb8
        have O8 := hown7.below hb8 (Nat.le_refl _)
        clear y0 y1' y2' K7 hown7 hb8
        go_wp2_with fail
        go_roundw
        case rel => exact ⟨i, t - c, L ++ [48], by omega, by omega, by rw [List.length_append]; have := HLL.out; simp only [List.length_cons, List.length_nil]; omega, O8, by go_num, by go_num, hd (by rw [HSUC.out, List.append_assoc]; rfl), K8⟩
        case measure => first | (simp [intOf]; done) | (simp [intOf]; omega)
end Go.Proofs.YtgcodjkjdfahdaaGreatDoor
