/- Lemmas for the claim (the walks of its functions and their plain laws), joined. No condition. -/
import Derived.Test.YtgcodjkjdfahdaaGreatDoorJ20
import Derived.Test.YtgcodjkjdfahdaaGreatDoorJ1
import Derived.Deep.RegionHeld3
import Derived.Lib.SlicesS
namespace Go.Proofs.YtgcodjkjdfahdaaGreatDoor
open Go Go.RowKit Go.ChangeShapes Go.WideShapes
set_option linter.unusedSimpArgs false
set_option linter.unusedVariables false
def shiftTo (l : List TCue) (sh : List Int) (k : Nat) : List TCue := shiftL (l.take k) (sh.take k) ++ l.drop k
theorem shiftL_len (l : List TCue) (sh : List Int) (h : sh.length = l.length) : (shiftL l sh).length = l.length := by unfold shiftL; rw [List.length_zipWith]; omega
theorem shiftTo_len (l : List TCue) (sh : List Int) (h : sh.length = l.length) (k : Nat) : (shiftTo l sh k).length = l.length := by
  unfold shiftTo
  rw [List.length_append, shiftL_len _ _ (by rw [List.length_take, List.length_take, h]), List.length_take, List.length_drop]
  omega
theorem shiftTo_zero (l : List TCue) (sh : List Int) : shiftTo l sh 0 = l := by simp [shiftTo, shiftL]
theorem shiftTo_all (l : List TCue) (sh : List Int) (h : sh.length = l.length) (k : Nat) (hk : l.length ≤ k) : shiftTo l sh k = shiftL l sh := by
  unfold shiftTo
  rw [List.take_of_length_le hk, List.take_of_length_le (by omega), List.drop_of_length_le hk, List.append_nil]
theorem shiftTo_get (l : List TCue) (sh : List Int) (h : sh.length = l.length) (k : Nat) (hk : k < l.length) : (shiftTo l sh k)[k]'(by rw [shiftTo_len l sh h]; exact hk) = l[k] := by
  have hp : (shiftL (l.take k) (sh.take k)).length = k := by rw [shiftL_len _ _ (by rw [List.length_take, List.length_take, h]), List.length_take]; omega
  unfold shiftTo
  rw [List.getElem_append_right (by omega)]
  simp [hp]
theorem shiftTo_step (l : List TCue) (sh : List Int) (h : sh.length = l.length) (k : Nat) (hk : k < l.length) : shiftTo l sh (k + 1) = (shiftTo l sh k).set k (shiftC l[k] (sh[k]'(by omega))) := by
  have hp : (shiftL (l.take k) (sh.take k)).length = k := by rw [shiftL_len _ _ (by rw [List.length_take, List.length_take, h]), List.length_take]; omega
  unfold shiftTo
  rw [List.take_succ_eq_append_getElem hk, List.take_succ_eq_append_getElem (show k < sh.length by omega), shiftL_snoc _ _ _ _ (by rw [List.length_take, List.length_take, h]), List.set_append_right _ _ (by omega), hp, Nat.sub_self, List.drop_eq_getElem_cons hk, List.set_cons_zero]
  simp
theorem cue_cells (L : List TCue) (k : Nat) (hk : k < L.length) : (L.flatMap eCue)[k * 4]? = some (.int .i64 L[k].1) ∧ (L.flatMap eCue)[k * 4 + 3]? = some (.int .i64 L[k].2.2.2) := by
  have h0 := flatMap_at eCue 4 eCue_len L k L[k] (List.getElem?_eq_getElem hk) 0 (by omega)
  have h3 := flatMap_at eCue 4 eCue_len L k L[k] (List.getElem?_eq_getElem hk) 3 (by omega)
  exact ⟨h0, h3⟩
theorem cue_set (L : List TCue) (k : Nat) (hk : k < L.length) (a d : Int) : ((L.flatMap eCue).set (k * 4) (.int .i64 a)).set (k * 4 + 3) (.int .i64 d) = (L.set k (a, L[k].2.1, L[k].2.2.1, d)).flatMap eCue := by
  induction L generalizing k with
  | nil => simp at hk
  | cons y L ih =>
    cases k with
    | zero => simp [eCue, List.flatMap_cons]
    | succ k =>
      have hk' : k < L.length := by simpa using hk
      have e1 : (k + 1) * 4 = (eCue y).length + k * 4 := by rw [eCue_len]; omega
      have e2 : (k + 1) * 4 + 3 = (eCue y).length + (k * 4 + 3) := by rw [eCue_len]; omega
      rw [List.flatMap_cons, e2, e1, List.set_append_right _ _ (by omega), List.set_append_right _ _ (by omega), Nat.add_sub_cancel_left, Nat.add_sub_cancel_left, ih k hk']
      simp [List.flatMap_cons]
theorem info_CueK : (Tryz.prog.info? 92).map (fun i => (i.zero, i.size, i.bytes)) = some (some (.agg #[.int .i64 0, .int .i64 0, .int .i64 0, .int .i64 0]), 4, 32) := by kernel_rfl
set_option maxHeartbeats 1000000 in
theorem clone_Q (w : World) (v : Value) (l : List TCue) (h : Sl w 4 v eCue l) (hl : l.length ≤ 1048576) :
    Calls Tryz.prog 63 #[v] w (GivesOwn w 92 4 eCue l) := by
  obtain ⟨-, A, c, rfl, -, -, hA⟩ := id h
  obtain ⟨i0, hi, hz0, hz1, hz2⟩ := info_parts info_CueK
  have q : ∀ (w : World) (a : Option Addr) (n c n' c' : Nat), (binOp .eql 26 (.slice a n c) (.slice none n' c')).run Tryz.prog w = .ok (.bool a.isNone) w := fun w a n c n' c' => Go.Lib.run_eql_slice_nil w _ _ a n c n' c' Tryz.underlying26
  rcases A with _ | ad
  · have hnil : l = [] := by
      rcases l with _ | ⟨y, l⟩
      · rfl
      · obtain ⟨b, o, he, -⟩ := hA 0 y rfl
        cases he
    subst hnil
    go_enter Tryz.func63, Tryz.ntmps63
    go_wp2_with fail
    go_ret
    exact ⟨_, rfl, Own.nil _ _ _ _ _, Below.refl _ _⟩
  · clear hA
    go_enter Tryz.func63, Tryz.ntmps63
    go_wp2_with (at_builtin; refine wpList_append_sl _ rfl _ _ 26 rfl i0 (.agg #[.int .i64 0, .int .i64 0, .int .i64 0, .int .i64 0]) 32 Tryz.underlying26 hi hz0 hz1 hz2 rfl (by decide) eCue_len (by rintro ⟨a, b, c, d⟩ u hu; simp [eCue] at hu; rcases hu with rfl | rfl | rfl | rfl <;> rfl) _ [] rfl (Own.made0 w w.heap.size 92 4 eCue (Nat.le_refl _)) _ l rfl (h.alloc _) (by unfold maxLen; simp; omega) (by simp; omega) (by simp) ?_)
    intro v' w1 hown hgr
    have hbel := ((Below.refl w.heap.size w).alloc (Nat.le_refl _) (.cells #[] 92)).grown hgr (by simp) (by intro g hg; simp [Value.ownBlock] at hg; omega)
    go_wp2_with fail
    go_ret
    exact ⟨_, rfl, by simpa using hown, hbel⟩
set_option maxHeartbeats 1000000 in
theorem clone_I (w : World) (v : Value) (l : List Int) (h : Sl w 1 v eI l) (hl : l.length ≤ 1048576) :
    Calls Tryz.prog 141 #[v] w (GivesOwn w 2 1 eI l) := by
  obtain ⟨-, A, c, rfl, -, -, hA⟩ := id h
  obtain ⟨i0, hi, hz0, hz1, hz2⟩ := info_parts info_i64
  have q : ∀ (w : World) (a : Option Addr) (n c n' c' : Nat), (binOp .eql 56 (.slice a n c) (.slice none n' c')).run Tryz.prog w = .ok (.bool a.isNone) w := fun w a n c n' c' => Go.Lib.run_eql_slice_nil w _ _ a n c n' c' Tryz.underlying56
  rcases A with _ | ad
  · have hnil : l = [] := by
      rcases l with _ | ⟨y, l⟩
      · rfl
      · obtain ⟨b, o, he, -⟩ := hA 0 y rfl
        cases he
    subst hnil
    go_enter Tryz.func141, Tryz.ntmps141
    go_wp2_with fail
    go_ret
    exact ⟨_, rfl, Own.nil _ _ _ _ _, Below.refl _ _⟩
  · clear hA
    go_enter Tryz.func141, Tryz.ntmps141
    go_wp2_with (at_builtin; refine wpList_append_sl _ rfl _ _ 56 rfl i0 (.int .i64 0) 8 Tryz.underlying56 hi hz0 hz1 hz2 rfl (by decide) eI_len (by rintro a u hu; simp [eI] at hu; subst hu; rfl) _ [] rfl (Own.made0 w w.heap.size 2 1 eI (Nat.le_refl _)) _ l rfl (h.alloc _) (by unfold maxLen; simp; omega) (by simp; omega) (by simp) ?_)
    intro v' w1 hown hgr
    have hbel := ((Below.refl w.heap.size w).alloc (Nat.le_refl _) (.cells #[] 2)).grown hgr (by simp) (by intro g hg; simp [Value.ownBlock] at hg; omega)
    go_wp2_with fail
    go_ret
    exact ⟨_, rfl, by simpa using hown, hbel⟩
set_option maxRecDepth 100000 in
set_option maxHeartbeats 4000000 in
theorem shift_impl (w : World) (v : Value) (l : List TCue) (h : Sl w 4 v eCue l) (vs : Value) (sh : List Int) (hs : Sl w 1 vs eI sh) (hlen : sh.length = l.length) (hl : l.length ≤ 6) (hok : ∀ x ∈ l, okC x) (hsh : ∀ x ∈ sh, 0 ≤ x ∧ x ≤ 6) :
    Calls Tryz.prog 140 #[v, vs] w (GivesOwn w 92 4 eCue (shiftL l sh)) := by
  obtain ⟨-, A, c, rfl, -, -, -⟩ := id h
  obtain ⟨-, A1, c1, rfl, -, -, -⟩ := id hs
  have HOK := hd hok
  have HSH := hd hsh
  have HL := hd hlen
  clear hok hsh hlen
  go_enter Tryz.func140, Tryz.ntmps140
  go_wp2_with fail
  refine (clone_Q _ _ l h (by omega)).mono ?_
  rintro e w1 ⟨v1, rfl, O1, B1⟩
  obtain ⟨A2, c2, rfl⟩ := O1.isSlice
  have O1' : Own w1 w.heap.size 92 4 (.slice A2 l.length c2) eCue (shiftTo l sh 0) := by rw [shiftTo_zero]; exact O1
  rw [HL.out]
  clear O1
  go_wp2_with fail
  go_loopw [12] (fun iv wr => ∃ k : Nat, k ≤ l.length ∧ iv = .int .i64 k ∧ Own wr w.heap.size 92 4 (.slice A2 l.length c2) eCue (shiftTo l sh k) ∧ Below w.heap.size w wr) (fun iv _ => l.length - (intOf iv).toNat)
  case atStart => exact ⟨0, Nat.zero_le _, rfl, O1', B1⟩
  case round =>
    obtain ⟨k, hk, rfl, hown, hbel⟩ := hrel
    clear O1' B1
    have hML := shiftTo_len l sh HL.out k
    by_cases hlt : k < l.length
    · have hks : k < sh.length := by rw [HL.out]; exact hlt
      rcases hown.form with ⟨-, hn⟩ | ⟨g, cap, hv, hBg, hg, hc, hm⟩
      · rw [hn] at hML; simp at hML; omega
      injection hv with hA2 hn2 hc2
      subst hA2 hc2
      clear hn2
      obtain ⟨b1, b2⟩ := HSH.out _ (List.getElem_mem hks)
      obtain ⟨⟨x1, x2⟩, -, -, x3, x4⟩ := HOK.out _ (List.getElem_mem hlt)
      have HST := hd (shiftTo_step l sh HL.out k hlt)
      have HGT := hd (shiftTo_get l sh HL.out k hlt)
      obtain ⟨bs, os, hAs, -, hcs⟩ := (hs.below hbel).int_at hks
      subst hAs
      have hkM : k < (shiftTo l sh k).length := by omega
      obtain ⟨e0, e3⟩ := cue_cells (shiftTo l sh k) k hkM
      rw [HGT.out] at e0 e3
      have hO2 : wr.ownsRow w.heap.size 92 4 (.slice (some ⟨g, 0, none⟩) l.length c2) l.length ((shiftTo l sh k).flatMap eCue) := by
        have h1 := hown
        unfold Own at h1
        rw [hML] at h1
        exact h1
      have q0 := (World.ownsRow.cellAt hO2 (k * 4) (by omega)).trans e0
      have q3 := (World.ownsRow.cellAt hO2 (k * 4 + 3) (by omega)).trans e3
      have f0 := World.ownsRow.frozenAt hO2 (k * 4)
      have f3 := World.ownsRow.frozenAt hO2 (k * 4 + 3)
      have HNEW := hd (show ∀ a d : Int, Own ((wr.setCell ⟨g, k * 4, none⟩ (.int .i64 a)).setCell ⟨g, k * 4 + 3, none⟩ (.int .i64 d)) w.heap.size 92 4 (.slice (some ⟨g, 0, none⟩) l.length c2) eCue ((shiftTo l sh k).set k (a, l[k].2.1, l[k].2.2.1, d)) from fun a d => by
        have s1 := (World.ownsRow.stored hO2 (k * 4) (.int .i64 a)).1
        have s2 := (World.ownsRow.stored s1 (k * 4 + 3) (.int .i64 d)).1
        rw [cue_set _ _ hkM a d, HGT.out] at s2
        unfold Own
        rw [List.length_set, hML]
        exact s2)
      have HBN := hd (show ∀ a d : Value, Below w.heap.size w ((wr.setCell ⟨g, k * 4, none⟩ a).setCell ⟨g, k * 4 + 3, none⟩ d) from fun a d => (hbel.setCell (p := ⟨g, k * 4, none⟩) hBg _).setCell (p := ⟨g, k * 4 + 3, none⟩) hBg _)
      have HML := hd hML
      clear hML hown hbel HGT hkM e0 e3 hO2
      generalize l[k] = x at x1 x2 x3 x4 HST q0 q3 HNEW
      obtain ⟨xa, xb, xc, xd⟩ := x
      dsimp only at x1 x2 x3 x4 q0 q3 HNEW
      generalize sh[k] = y at b1 b2 HST hcs
      go_wp2_with fail
      go_roundw
      case rel => exact ⟨k + 1, by omega, by go_num, by rw [HST.out]; exact HNEW.out _ _, HBN.out _ _⟩
      case measure => simp [intOf]; omega
    · have HE := shiftTo_all l sh HL.out k (by omega)
      rw [HE] at hown
      clear HE hML
      go_wp2_with fail
      go_ret
      exact ⟨_, rfl, hown, hbel⟩
end Go.Proofs.YtgcodjkjdfahdaaGreatDoor
