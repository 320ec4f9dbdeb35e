/- EntriesOf and ValuesOf: the reference's functions and the program's. No condition but that the library's table, its two errors and its search variable lie as they are laid. -/
import Derived.Test.YtiofpmmbgohnhaaDoorLCode
namespace Go.Proofs.YtiofpmmbgohnhaaDoor
open Go Go.RowKit Go.ChangeShapes Go.WideShapes
set_option linter.unusedSimpArgs false
set_option linter.unusedVariables false
def entR (s : ByteArray) : List TEntry × Int := (eL s, lc s)
theorem entR_len (s : ByteArray) : (entR s).1.length ≤ 4000 := eL_len s
set_option maxRecDepth 100000 in
theorem ent_spec (w : World) (s : ByteArray) (hs : s.size ≤ 1048576) :
    Calls Tryd.prog 20 #[.string s] w (GivesOwnI w 38 3 eEntry (entR s)) := by
  go_enter Tryd.func20, Tryd.ntmps20
  go_wp2_with fail
  refine (code_spec _ _ hs).mono ?_
  rintro e w1 ⟨g, rfl, hr, B⟩
  by_cases hc : lc s = 0
  case neg =>
    have HR := hd (show entR s = ([], lc s) by unfold entR; rw [eL_bad hc])
    obtain ⟨x, hx⟩ : ∃ x, lc s = x := ⟨_, rfl⟩
    rw [hx] at hc HR ⊢
    have kc : (x != 0) = true := by simpa using hc
    clear hr hc hx
    go_wp2_with fail
    go_ret2
    exact ⟨_, by rw [HR.out]; rfl, by rw [HR.out]; exact Own.nil _ _ _ _ _, B⟩
  have HR := hd (show entR s = ((readL s).l, 0) by unfold entR; rw [eL_good hc, hc])
  obtain ⟨v, ⟨r0, ⟨c0, c1, c2, c3⟩, -⟩, O, hg, -⟩ := hr hc
  rw [hc]
  clear hc
  obtain ⟨A, cc, rfl⟩ := O.isSlice
  go_wp2_with fail
  go_ret2
  exact ⟨_, by rw [HR.out]; rfl, by rw [HR.out]; exact O, B⟩
set_option maxRecDepth 100000 in
theorem ent_impl (w : World) (s : ByteArray) (hs : s.size ≤ 1048576) (hsh : Shop w) :
    Calls Tryd.prog 15 #[.string s] w (GivesOwnI w 38 3 eEntry (entR s)) := by
  have HR := hd (show entR s = (eL s, lc s) from rfl)
  have hle := eL_len s
  go_enter Tryd.func15, Tryd.ntmps15
  go_wp2_with fail
  refine (code_impl _ _ hs hsh).mono ?_
  rintro e w1 ⟨v, st, n, rfl, O, -, ⟨s1, s2⟩, ⟨n1, n2⟩, B⟩
  obtain ⟨A, cc, rfl⟩ := O.isSlice
  obtain ⟨t0, t1, t2, -, hz2, hb2⟩ := new3 w1 (.slice A (eL s).length cc) (.int .i64 st) (.int .i64 n) 87
  have O2 := hd (O.below hb2 (Nat.le_refl _))
  have B2 := hd (below_step B hb2)
  clear O B hb2
  go_wp2_with fail
  go_ret2
  exact ⟨_, by rw [HR.out]; rfl, by rw [HR.out]; exact O2.out, B2.out⟩
def valTo (l : List TEntry) (t : ByteArray) (k : Nat) : List Int := ((l.take k).filter fun x => decide (x.2.1 = t)).map fun x => x.2.2
theorem valTo_len (l : List TEntry) (t : ByteArray) (k : Nat) : (valTo l t k).length ≤ k := by
  unfold valTo
  rw [List.length_map]
  exact Nat.le_trans (List.length_filter_le ..) (List.length_take_le ..)
theorem valTo_yes {l : List TEntry} {t : ByteArray} {k : Nat} (hk : k < l.length) (h : l[k].2.1 = t) : valTo l t (k + 1) = valTo l t k ++ [l[k].2.2] := by
  unfold valTo
  rw [List.take_succ_eq_append_getElem hk, List.filter_append, List.map_append]
  simp [h]
theorem valTo_no {l : List TEntry} {t : ByteArray} {k : Nat} (hk : k < l.length) (h : ¬ l[k].2.1 = t) : valTo l t (k + 1) = valTo l t k := by
  unfold valTo
  rw [List.take_succ_eq_append_getElem hk, List.filter_append, List.map_append]
  simp [h]
def valR (s t : ByteArray) : List Int × Int := if lw s t = 0 then (valTo (readL s).l t (readL s).l.length, 0) else ([], lw s t)
theorem valR_len (s t : ByteArray) : (valR s t).1.length ≤ 4000 := by
  unfold valR
  by_cases h : lw s t = 0
  · rw [if_pos h]
    have h1 := valTo_len (readL s).l t (readL s).l.length
    have h2 := readL_len s
    have h3 := lc_size (lw_good h).1
    show (valTo (readL s).l t (readL s).l.length).length ≤ 4000
    omega
  · rw [if_neg h]; exact Nat.zero_le _
theorem entry_bd {s : ByteArray} {k : Nat} (hk : k < (readL s).l.length) : (0 ≤ (readL s).l[k].1 ∧ (readL s).l[k].1 ≤ 100000) ∧ (readL s).l[k].2.1.size ≤ 12 ∧ (-1000000 ≤ (readL s).l[k].2.2 ∧ (readL s).l[k].2.2 ≤ 1000000) := by
  have h := readL_ok s _ (List.getElem_mem hk)
  obtain ⟨h1, h2, h3⟩ := okEntryB_bd h
  exact ⟨h1, name_size h2, h3⟩
set_option maxRecDepth 100000 in
set_option maxHeartbeats 4000000 in
theorem val_impl (w : World) (s t : ByteArray) (hs : s.size ≤ 1048576) (ht : t.size ≤ 9223372036854775807) (hsh : Shop w) :
    Calls Tryd.prog 12 #[.string s, .string t] w (GivesOwnI w 2 1 eI (valR s t)) := by
  obtain ⟨i0, hi, hz0, hz1, hz2⟩ := info_parts info_i64
  go_enter Tryd.func12, Tryd.ntmps12
  go_wp2_with fail
  refine (code_impl _ _ hs hsh).mono ?_
  rintro e w1 ⟨v, st, n, rfl, O, -, ⟨s1, s2⟩, ⟨n1, n2⟩, B⟩
  obtain ⟨A, cc, rfl⟩ := O.isSlice
  have hle := eL_len s
  obtain ⟨t0, t1, t2, -, hz2', hb2⟩ := new3 w1 (.slice A (eL s).length cc) (.int .i64 st) (.int .i64 n) 87
  have O2 := O.below hb2 (Nat.le_refl _)
  have B2 := below_step B hb2
  have hgs : w1.heap.size < (w1.alloc (.cells #[.slice A (eL s).length cc, .int .i64 st, .int .i64 n] 87)).heap.size := by omega
  clear O B hb2
  by_cases hc : lc s = 0
  case neg =>
    have hw : lw s t = lc s := by unfold lw; rw [if_neg hc]
    have HR := hd (show valR s t = ([], lc s) by unfold valR; rw [hw, if_neg hc])
    obtain ⟨x, hx⟩ : ∃ x, lc s = x := ⟨_, rfl⟩
    rw [hx] at hc HR ⊢
    have kc : (x != 0) = true := by simpa using hc
    have kd : (x == 0) = false := by simpa using hc
    have HB2 := hd B2
    clear hc hx hw B2 O2
    go_wp2_with fail
    go_ret2
    exact ⟨_, by rw [HR.out]; rfl, by rw [HR.out]; exact Own.nil _ _ _ _ _, HB2.out⟩
  rw [hc]
  have HC := hd hc
  have HEL := hd (eL_good hc)
  clear hc
  rcases hn : isNameB t with _ | _
  · have hw : lw s t = 2 := by unfold lw; rw [if_pos HC.out, hn]; rfl
    have HR := hd (show valR s t = ([], 2) by unfold valR; rw [hw]; rfl)
    have HB2 := hd B2
    clear hw B2 O2
    go_wp2_with fail
    refine (name_impl _ _).mono ?_
    rintro e w2 ⟨rfl, hw⟩
    have hw := hw.symm
    subst hw
    rw [hn]
    go_wp2_with fail
    go_ret2
    exact ⟨_, by rw [HR.out]; rfl, by rw [HR.out]; exact Own.nil _ _ _ _ _, HB2.out⟩
  have hw : lw s t = 0 := by unfold lw; rw [if_pos HC.out, hn]; rfl
  have HR := hd (show valR s t = (valTo (readL s).l t (readL s).l.length, 0) by unfold valR; rw [if_pos hw])
  clear hw
  rw [HEL.out] at O2 t0 t1 t2 B2 hle hgs hz2' ⊢
  go_wp2_with fail
  refine (name_impl _ _).mono ?_
  rintro e w2 ⟨rfl, hw⟩
  have hw := hw.symm
  subst hw
  rw [hn]
  generalize w1.alloc (.cells #[.slice A (readL s).l.length cc, .int .i64 st, .int .i64 n] 87) = W2 at t0 t1 t2 O2 B2 hgs hz2' ⊢
  clear hz2'
  have SE := O2.sl eEntry_len
  have own0 := Own.made0 W2 W2.heap.size 2 1 eI (Nat.le_refl _)
  have bel0 := (Below.refl W2.heap.size W2).alloc (Nat.le_refl _) (.cells #[] 2)
  have t0' := (bel0.cell (p := ⟨w1.heap.size, 0, none⟩) hgs).trans t0
  go_wp2_with fail
  go_loopw [8, 30] (fun ov iv wr => ∃ k : Nat, k ≤ (readL s).l.length ∧ iv = .int .i64 k ∧ Own wr W2.heap.size 2 1 ov eI (valTo (readL s).l t k) ∧ Below W2.heap.size W2 wr) (fun _ iv _ => (readL s).l.length - (intOf iv).toNat)
  case atStart => exact ⟨0, Nat.zero_le _, rfl, own0, bel0⟩
  case round =>
    obtain ⟨k, hk, rfl, hown, hbel⟩ := hrel
    clear own0 bel0 t0' t0 t1 t2
    have hlen := valTo_len (readL s).l t k
    by_cases hlt : k < (readL s).l.length
    · obtain ⟨bb, o, rfl, -, p0, p1, p2⟩ := (SE.below hbel).Entry_at hlt
      obtain ⟨-, hbz, hb1, hb2⟩ := entry_bd hlt
      have HY := hd (fun q => valTo_yes (t := t) hlt q)
      have HZ := hd (fun q => valTo_no (t := t) hlt q)
      generalize (readL s).l[k] = x at p0 p1 p2 HY HZ hbz hb1 hb2
      obtain ⟨a, b, c⟩ := x
      dsimp only at p0 p1 p2 hbz hb1 hb2
      generalize valTo (readL s).l t k = L at hown hlen HY HZ ⊢
      have hown' := hown.alloc (.cells #[.int .i64 a, .string b, .int .i64 c] 38)
      have hbel' := hbel.alloc hbel.size (.cells #[.int .i64 a, .string b, .int .i64 c] 38)
      by_cases q : b = t
      case neg =>
        have kq : (b.toList == t.toList) = false := beq_eq_false_iff_ne.2 (fun e => q (bytes_of_toList e))
        have HZ' := hd (HZ.out q)
        clear q HY HZ
        go_wp2_with fail
        go_roundw
        case rel => exact ⟨k + 1, by omega, by go_num, by rw [HZ'.out]; exact hown', hbel'⟩
        case measure => simp [intOf]; omega
      have kq : (b.toList == t.toList) = true := by rw [q]; simp
      have HY' := hd (HY.out q)
      have hnew : ((wr.alloc (.cells #[.int .i64 a, .string b, .int .i64 c] 38)).alloc (.cells #[.int .i64 c] 2)).heap[wr.heap.size + 1]? = some (.cells #[.int .i64 c] 2 (0, 0)) := by
        have h := heap_alloc_new (wr.alloc (.cells #[.int .i64 a, .string b, .int .i64 c] 38)) (.cells #[.int .i64 c] 2)
        rwa [show (wr.alloc (.cells #[.int .i64 a, .string b, .int .i64 c] 38)).heap.size = wr.heap.size + 1 by simp] at h
      clear q HY HZ
      go_wp2_with (at_builtin; refine wpList_push _ rfl _ _ 33 rfl i0 (.int .i64 0) 8 Tryd.underlying33 hi hz0 hz1 hz2 rfl (by decide) _ _ (c : Int) rfl (hown'.alloc _) (wr.heap.size + 1) rfl #[.int .i64 c] 2 hnew rfl rfl (by intro u hu; simp [eI] at hu; subst hu; rfl) (by unfold maxLen; omega) (by omega) (by have := hbel.size; simp; omega) ?_)
      intro v' w3 hown2 hgr2
      have hbel2 := (hbel'.alloc hbel'.size (.cells #[.int .i64 c] 2)).grown hgr2 (by have := hbel.size; simp; omega) (fun g hg => (hown'.lt g hg).1)
      clear hown hown' hgr2
      go_wp2_with fail
      go_roundw
      case rel => exact ⟨k + 1, by omega, by go_num, by rw [HY'.out]; exact hown2, hbel2⟩
      case measure => simp [intOf]; omega
    · obtain rfl : k = (readL s).l.length := by omega
      go_wp2_with fail
      go_ret2
      exact ⟨_, by rw [HR.out]; rfl, by rw [HR.out]; exact hown.base B2.size, B2.trans (hbel.mono B2.size)⟩
end Go.Proofs.YtiofpmmbgohnhaaDoor
