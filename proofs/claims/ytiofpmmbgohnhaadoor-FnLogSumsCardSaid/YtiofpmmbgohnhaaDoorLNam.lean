/- NamesIn: the reference's function and the program's. No condition but that the library's table, its two errors and its search variable lie as they are laid. -/
import Derived.Test.YtiofpmmbgohnhaaDoorLVal
import Derived.Lib.SlicesS
namespace Go.Proofs.YtiofpmmbgohnhaaDoor
open Go Go.RowKit Go.ChangeShapes Go.WideShapes
set_option linter.unusedSimpArgs false
set_option linter.unusedVariables false
def nmTo (l : List TEntry) : Nat → List ByteArray
  | 0 => []
  | k + 1 => if Lib.containsS (nmTo l k) (l.getD k noE).2.1 = true then nmTo l k else nmTo l k ++ [(l.getD k noE).2.1]
theorem nmTo_step {l : List TEntry} {k : Nat} (hk : k < l.length) : nmTo l (k + 1) = if Lib.containsS (nmTo l k) l[k].2.1 = true then nmTo l k else nmTo l k ++ [l[k].2.1] := by
  have e : l.getD k noE = l[k] := by simp [hk]
  show (if Lib.containsS (nmTo l k) (l.getD k noE).2.1 = true then nmTo l k else nmTo l k ++ [(l.getD k noE).2.1]) = _
  rw [e]
theorem nmTo_len (l : List TEntry) : ∀ k, (nmTo l k).length ≤ k
  | 0 => Nat.le_refl _
  | k + 1 => by
    have := nmTo_len l k
    unfold nmTo
    split
    · omega
    · rw [List.length_append]
      simp
      omega
def namesR (s : ByteArray) : List ByteArray × Int := if lc s = 0 then (nmTo (readL s).l (readL s).l.length, 0) else ([], lc s)
theorem namesR_len (s : ByteArray) : (namesR s).1.length ≤ 4000 := by
  unfold namesR
  by_cases h : lc s = 0
  · rw [if_pos h]
    have h1 := nmTo_len (readL s).l (readL s).l.length
    have h2 := readL_len s
    have h3 := lc_size h
    show (nmTo (readL s).l (readL s).l.length).length ≤ 4000
    omega
  · rw [if_neg h]; exact Nat.zero_le _
/-- the search so far -/
def seenTo (L : List ByteArray) (b : ByteArray) (j : Nat) : Bool := (L.take j).any fun y => decide (y = b)
theorem seenTo_step {L : List ByteArray} {b : ByteArray} {j : Nat} (hj : j < L.length) : seenTo L b (j + 1) = (seenTo L b j || decide (L[j] = b)) := by
  unfold seenTo
  rw [List.take_succ_eq_append_getElem hj, List.any_append]
  simp
theorem seenTo_all (L : List ByteArray) (b : ByteArray) : seenTo L b L.length = Lib.containsS L b := by
  unfold seenTo
  rw [List.take_length, Bool.eq_iff_iff, Lib.containsS_iff]
  simp
set_option maxRecDepth 100000 in
set_option maxHeartbeats 4000000 in
theorem nam_impl (w : World) (s : ByteArray) (hs : s.size ≤ 1048576) (hsh : Shop w) :
    Calls Tryd.prog 10 #[.string s] w (GivesOwnI w 9 1 eS (namesR s)) := by
  obtain ⟨i0, hi, hz0, hz1, hz2⟩ := info_parts info_str
  go_enter Tryd.func10, Tryd.ntmps10
  go_wp2_with fail
  refine (code_impl _ _ hs hsh).mono ?_
  rintro e w1 ⟨v, st, n, rfl, O, -, ⟨s1, s2⟩, ⟨n1, n2⟩, B⟩
  obtain ⟨A, cc, rfl⟩ := O.isSlice
  have hle := eL_len s
  obtain ⟨t0, t1, t2, -, hz2', hb2⟩ := new3 w1 (.slice A (eL s).length cc) (.int .i64 st) (.int .i64 n) 87
  have O2 := O.below hb2 (Nat.le_refl _)
  have B2 := below_step B hb2
  have hgs : w1.heap.size < (w1.alloc (.cells #[.slice A (eL s).length cc, .int .i64 st, .int .i64 n] 87)).heap.size := by omega
  clear O B hb2 hz2'
  by_cases hc : lc s = 0
  case neg =>
    have HR := hd (show namesR s = ([], lc s) by unfold namesR; rw [if_neg hc])
    obtain ⟨x, hx⟩ : ∃ x, lc s = x := ⟨_, rfl⟩
    rw [hx] at hc HR ⊢
    have kc : (x != 0) = true := by simpa using hc
    have HB2 := hd B2
    clear hc hx B2 O2
    go_wp2_with fail
    go_ret2
    exact ⟨_, by rw [HR.out]; rfl, by rw [HR.out]; exact Own.nil _ _ _ _ _, HB2.out⟩
  have HR := hd (show namesR s = (nmTo (readL s).l (readL s).l.length, 0) by unfold namesR; rw [if_pos hc])
  rw [hc]
  have HEL := hd (eL_good hc)
  clear hc
  rw [HEL.out] at O2 t0 t1 t2 B2 hle hgs ⊢
  have own0 := Own.made0 (w1.alloc (.cells #[.slice A (readL s).l.length cc, .int .i64 st, .int .i64 n] 87)) (w1.alloc (.cells #[.slice A (readL s).l.length cc, .int .i64 st, .int .i64 n] 87)).heap.size 9 1 eS (Nat.le_refl _)
  have bel0 := (Below.refl (w1.alloc (.cells #[.slice A (readL s).l.length cc, .int .i64 st, .int .i64 n] 87)).heap.size (w1.alloc (.cells #[.slice A (readL s).l.length cc, .int .i64 st, .int .i64 n] 87))).alloc (Nat.le_refl _) (.cells #[] 9)
  have SE := O2.sl eEntry_len
  have hsz2 : (w1.alloc (.cells #[.slice A (readL s).l.length cc, .int .i64 st, .int .i64 n] 87)).heap.size = w1.heap.size + 1 := by simp
  rw [hsz2] at own0 bel0
  have t0' := (bel0.cell (p := ⟨w1.heap.size, 0, none⟩) (Nat.lt_succ_self _)).trans t0
  go_wp2_with fail
  generalize w1.alloc (.cells #[.slice A (readL s).l.length cc, .int .i64 st, .int .i64 n] 87) = W2 at t0 t1 t2 O2 B2 hgs SE own0 bel0 t0' hsz2 ⊢
  go_loopw [6, 21] (fun ov iv wr => ∃ k : Nat, k ≤ (readL s).l.length ∧ iv = .int .i64 k ∧ Own wr (w1.heap.size + 1) 9 1 ov eS (nmTo (readL s).l k) ∧ (∃ g cap, ov = .slice (some ⟨g, 0, none⟩) (nmTo (readL s).l k).length cap) ∧ Below (w1.heap.size + 1) W2 wr) (fun _ iv _ => (readL s).l.length - (intOf iv).toNat)
  case atStart => exact ⟨0, Nat.zero_le _, rfl, own0, ⟨_, _, rfl⟩, bel0⟩
  case round =>
    obtain ⟨k, hk, rfl, hown, ⟨g2, cap2, rfl⟩, hbel⟩ := hrel
    clear own0 bel0 t0' t0 t1 t2
    have hbw := hbel.size
    have hlen := nmTo_len (readL s).l k
    by_cases hlt : k < (readL s).l.length
    · obtain ⟨bb, o, rfl, -, p0, p1, p2⟩ := (SE.below (hsz2 ▸ hbel)).Entry_at hlt
      obtain ⟨-, hbz, hb1, hb2⟩ := entry_bd hlt
      have HY := hd (nmTo_step hlt)
      generalize (readL s).l[k] = x at p0 p1 p2 HY hbz hb1 hb2
      obtain ⟨a, b, c⟩ := x
      dsimp only at p0 p1 p2 hbz hb1 hb2
      generalize nmTo (readL s).l k = L at hown hlen HY ⊢
      have hown' := hown.alloc (.cells #[.int .i64 a, .string b, .int .i64 c] 38)
      have hbel' := hbel.alloc (show w1.heap.size + 1 ≤ wr.heap.size by omega) (.cells #[.int .i64 a, .string b, .int .i64 c] 38)
      have hcont := hd (show ∀ W : World, Own W (w1.heap.size + 1) 9 1 (.slice (some ⟨g2, 0, none⟩) L.length cap2) eS L → Calls Tryd.prog 60 #[.slice (some ⟨g2, 0, none⟩) L.length cap2, .string b] W fun e w' => e = .returned (.bool (Lib.containsS L b)) ∧ w' = W from fun W ho => by
        have hq := Tryd.slices_Contains_string g2 0 L.length cap2 L b W (Nat.le_refl _) (by omega) (fun j hj => by
          obtain ⟨b', o', hA', -, hz⟩ := (ho.sl eS_len).str_at hj
          injection hA' with hA'
          injection hA' with hb' ho' _
          subst hb'
          subst ho'
          rw [hz]
          simp [hj])
        rw [List.take_length] at hq
        exact hq)
      go_wp2_with fail
      refine (hcont.out _ hown').mono ?_
      rintro e w4 ⟨rfl, hw⟩
      have hw := hw.symm
      subst hw
      rcases hcn : Lib.containsS L b with _ | _
      · have HY2 := hd (show nmTo (readL s).l (k + 1) = L ++ [b] by rw [HY.out, hcn]; rfl)
        have hnew : ((wr.alloc (.cells #[.int .i64 a, .string b, .int .i64 c] 38)).alloc (.cells #[.string b] 9)).heap[wr.heap.size + 1]? = some (.cells #[.string b] 9 (0, 0)) := by
          have h := heap_alloc_new (wr.alloc (.cells #[.int .i64 a, .string b, .int .i64 c] 38)) (.cells #[.string b] 9)
          rwa [show (wr.alloc (.cells #[.int .i64 a, .string b, .int .i64 c] 38)).heap.size = wr.heap.size + 1 by simp] at h
        clear hcn HY hcont
        go_wp2_with (at_builtin; refine wpList_push _ rfl _ _ 28 rfl i0 (.string ByteArray.empty) 16 Tryd.underlying28 hi hz0 hz1 hz2 rfl (by decide) _ _ (b : ByteArray) rfl (hown'.alloc _) (wr.heap.size + 1) rfl #[.string b] 9 hnew rfl rfl (by intro u hu; simp [eS] at hu; subst hu; rfl) (by unfold maxLen; omega) (by omega) (by have := hbel'.size; simp; omega) ?_)
        intro v' w3 hown3 hgr3
        have hbel3 := (hbel'.alloc (by simp; omega) (.cells #[.string b] 9)).grown hgr3 (by simp; omega) (fun g hg => (hown'.lt g hg).1)
        clear hown hown' hgr3 hbel'
        have hform : ∃ g cap, v' = .slice (some ⟨g, 0, none⟩) (L ++ [b]).length cap := by
          rcases hown3.form with ⟨-, hn⟩ | ⟨g, cap, hv, -⟩
          · simp at hn
          · exact ⟨g, cap, hv⟩
        go_wp2_with fail
        go_roundw
        case rel => exact ⟨k + 1, by omega, by go_num, by rw [HY2.out]; exact hown3, by rw [HY2.out]; exact hform, hbel3⟩
        case measure => simp [intOf]; omega
      · have HY2 := hd (show nmTo (readL s).l (k + 1) = L by rw [HY.out, hcn]; rfl)
        clear hcn HY hcont
        go_wp2_with fail
        go_roundw
        case rel => exact ⟨k + 1, by omega, by go_num, by rw [HY2.out]; exact hown', by rw [HY2.out]; exact ⟨_, _, rfl⟩, hbel'⟩
        case measure => simp [intOf]; omega
    · obtain rfl : k = (readL s).l.length := by omega
      go_wp2_with fail
      go_ret2
      exact ⟨_, by rw [HR.out]; rfl, by rw [HR.out]; exact hown.base (Nat.le_trans B2.size (by omega)), B2.trans (hbel.mono (Nat.le_trans B2.size (by omega)))⟩
end Go.Proofs.YtiofpmmbgohnhaaDoor
