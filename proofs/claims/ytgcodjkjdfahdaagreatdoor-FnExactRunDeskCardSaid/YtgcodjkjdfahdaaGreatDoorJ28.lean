/- Texts of the claim, joined: each says at its head what it proves. No condition. -/
import Derived.Test.YtgcodjkjdfahdaaGreatDoorJ1
import Derived.Test.YtgcodjkjdfahdaaGreatDoorJ26
import Derived.Test.YtgcodjkjdfahdaaGreatDoorJ27
import Derived.Deep.RegionLaw
import Derived.Test.YtgcodjkjdfahdaaGreatDoorJ23
/- A table of rows that the call owns, and the numbers in it. No condition. -/
namespace Go.Proofs.YtgcodjkjdfahdaaGreatDoor
open Go Go.RowKit Go.ChangeShapes Go.WideShapes
set_option linter.unusedSimpArgs false
set_option linter.unusedVariables false
/-- one element behind a list, as a step of a region that draws -/
theorem step_push_at {P : Program} {α : Type} {enc : α → List Value} {k : Nat} (w : World) {ops : Array Oper} {o : Oper} {a : Act} {K : Act → World → Prop} {Q : Exit → Act → World → Prop} {X : Prop} (hgd : o.guard = none) (s x : Operand) (t : TypeId)
    (ho : o.op = .call { callee := .builtin .append, args := #[s, x], argTypes := #[t, t] })
    {B E : Nat} (i : TypeInfo) (z : Value) (bytes : Nat) (ht : P.underlying t = some (.slice E)) (hi : P.info? E = some i) (hz : i.zero = some z)
    (hsize : i.size = k) (hby : i.bytes = bytes) (hzs : z.cells.size = k) (hsz : 0 < k)
    (v : Value) (l : List α) (y : α) (hs : a.eval s = v) (hown : Own w B E k v enc l)
    (g : Nat) (hx : a.eval x = .slice (some ⟨g, 0, none⟩) 1 1) (cs : Array Value) (E' : TypeId) (hg : w.heap[g]? = some (.cells cs E' (0, 0))) (hcs : cs.toList = enc y) (hlen : (enc y).length = k) (h1 : ∀ u ∈ enc y, u.oneCell' = true)
    (h63 : l.length + 1 ≤ maxLen) (hbytes : (l.length + 1) * bytes ≤ 140737488355328) (hbase : B ≤ w.heap.size)
    (h : ∀ v' w', Own w' B E k v' enc (l ++ [y]) → w.grownBy w' v.ownBlock → (v'.ownBlock = v.ownBlock ∨ v'.ownBlock = some w.heap.size) → K (a.put o.dst v') w') :
    if Region.wanted o (yielded ops a.tmps) = true then Oper.wp P o a w K Q else X := by
  have hw : Region.wanted o (yielded ops a.tmps) = true := by simp [Region.wanted, hgd]
  rw [if_pos hw]
  exact wp_push_at w s x t ho i z bytes ht hi hz hsize hby hzs hsz v l y hs hown g hx cs E' hg hcs hlen h1 h63 hbytes hbase h
/-- rows that the call owns, behind a block of their own, all apart -/
structure TabR (W : World) (B gT n : Nat) (M : List TRow) : Prop where
  len : M.length = n
  out : Own W B 56 1 (.slice (some ⟨gT, 0, none⟩) n n) eV M
  row : ∀ i (h : i < M.length), Own W B 2 1 M[i].1 eI M[i].2
  off : ∀ i (h : i < M.length), apart M[i].1.ownBlock (some gT)
  two : ∀ i j (hi : i < M.length) (hj : j < M.length), i ≠ j → apart M[i].1.ownBlock M[j].1.ownBlock
theorem TabR.below {W W' : World} {B gT n : Nat} {M : List TRow} (h : TabR W B gT n M) (hb : Below W.heap.size W W') : TabR W' B gT n M :=
  ⟨h.len, h.out.below hb (Nat.le_refl _), fun i hi => (h.row i hi).below hb (Nat.le_refl _), h.off, h.two⟩
theorem TabR.drewN {W : World} {B gT n : Nat} {M : List TRow} (h : TabR W B gT n M) (k : Nat) : TabR (W.drewN k) B gT n M := h.below (below_drewN (Below.refl _ _) k)
theorem set_row {M : List TRow} {j i : Nat} {y : TRow} (hi : i < (M.set j y).length) : (M.set j y)[i] = if j = i then y else M[i]'(by simpa using hi) := by rw [List.getElem_set]
/-- a row is written anew: its value in the table and, before, whatever stands behind it -/
theorem TabR.put {w w1 w2 : World} {B gT n : Nat} {M : List TRow} (h : TabR w B gT n M) {j : Nat} (hj : j < M.length) {v' : Value} {l' : List Int} (hb : Below w.heap.size w w1) (ho : Own w2 B 2 1 v' eI l') (hg : w1.grownBy w2 M[j].1.ownBlock) (ha : v'.ownBlock = M[j].1.ownBlock ∨ ∀ g, v'.ownBlock = some g → w.heap.size ≤ g) :
    TabR (w2.setCell ⟨gT, j, none⟩ v') B gT n (M.set j (v', l')) := by
  have hgT := h.out.lt gT rfl
  have off' : apart v'.ownBlock (some gT) := by
    rcases ha with e | e
    · rw [e]; exact h.off j hj
    · rcases hv : v'.ownBlock with _ | g
      · exact .inl rfl
      · refine .inr fun e2 => ?_
        have := e g hv
        injection e2 with e2
        omega
  have two' : ∀ i (hi : i < M.length), i ≠ j → apart M[i].1.ownBlock v'.ownBlock := by
    intro i hi hij
    rcases ha with e | e
    · rw [e]; exact h.two i j hi hj hij
    · rcases hv : M[i].1.ownBlock with _ | g
      · exact .inl rfl
      · refine .inr fun e2 => ?_
        have h1 := (h.row i hi).lt g hv
        have h2 := e g e2.symm
        omega
  have hset := kgrown_set w2 ⟨gT, j, none⟩ v'
  refine ⟨by rw [List.length_set]; exact h.len, ?_, ?_, ?_, ?_⟩
  · have h1 := (h.out.below hb (Nat.le_refl _)).grown hg (apart_symm (h.off j hj))
    exact h1.set_one eV_len j (v', l') rfl
  · intro i hi
    rw [set_row hi]
    by_cases e : j = i
    · rw [if_pos e]
      exact ho.grown hset off'
    · rw [if_neg e]
      have hi' : i < M.length := by simpa using hi
      exact (((h.row i hi').below hb (Nat.le_refl _)).grown hg (h.two i j hi' hj (fun e2 => e e2.symm))).grown hset (h.off i hi')
  · intro i hi
    rw [set_row hi]
    by_cases e : j = i
    · rw [if_pos e]; exact off'
    · rw [if_neg e]; exact h.off i (by simpa using hi)
  · intro i k hi hk hik
    rw [set_row hi, set_row hk]
    have hi' : i < M.length := by simpa using hi
    have hk' : k < M.length := by simpa using hk
    by_cases e : j = i
    · rw [if_pos e, if_neg (by omega)]
      exact apart_symm (two' k hk' (by omega))
    · rw [if_neg e]
      by_cases e2 : j = k
      · rw [if_pos e2]; exact two' i hi' (by omega)
      · rw [if_neg e2]; exact h.two i k hi' hk' hik
/-- the numbers of the table up to one place -/
def rowAt (h c l left j i : Nat) : List Int := if i < left then tabB h c l i else if i = left then burnTo h c l (tabB h c l (left - 1)) j else []
def RowsIs (h c l left j : Nat) (M : List TRow) : Prop := ∀ i (hi : i < M.length), M[i].2 = rowAt h c l left j i
theorem RowsIs.set {h c l left j : Nat} {M : List TRow} (H : RowsIs h c l left j M) {v' : Value} (hl : left < M.length) (x : Int) (hx : x = burnAt h c l (tabB h c l (left - 1)) j) : RowsIs h c l left (j + 1) (M.set left (v', M[left].2 ++ [x])) := by
  intro i hi
  rw [set_row hi]
  by_cases e : left = i
  · subst e
    rw [if_pos rfl, H left hl, hx]
    unfold rowAt
    rw [if_neg (Nat.lt_irrefl _), if_pos rfl, if_neg (Nat.lt_irrefl _), if_pos rfl, burnTo_snoc]
  · rw [if_neg e, H i (by simpa using hi)]
    unfold rowAt
    by_cases e2 : i < left
    · rw [if_pos e2, if_pos e2]
    · rw [if_neg e2, if_neg (by omega), if_neg e2, if_neg (by omega)]
theorem RowsIs.next {h c l left : Nat} {M : List TRow} (H : RowsIs h c l left (l + 1) M) (h1 : 1 ≤ left) : RowsIs h c l (left + 1) 0 M := by
  intro i hi
  rw [H i hi]
  unfold rowAt
  by_cases e : i < left
  · rw [if_pos e, if_pos (by omega)]
  · rw [if_neg e]
    by_cases e2 : i = left
    · subst e2
      rw [if_pos rfl, if_pos (by omega)]
      obtain ⟨k, rfl⟩ : ∃ k, i = k + 1 := ⟨i - 1, by omega⟩
      rfl
    · rw [if_neg e2, if_neg (by omega)]
      by_cases e3 : i = left + 1
      · rw [if_pos e3]; rfl
      · rw [if_neg e3]
theorem RowsIs.tab {h c l left j i : Nat} {M : List TRow} (H : RowsIs h c l left j M) (hi : i < M.length) (hl : i < left) : M[i].2 = tabB h c l i := by
  rw [H i hi]; unfold rowAt; rw [if_pos hl]
theorem RowsIs.cur {h c l left j : Nat} {M : List TRow} (H : RowsIs h c l left j M) (hi : left < M.length) : M[left].2 = burnTo h c l (tabB h c l (left - 1)) j := by
  rw [H left hi]; unfold rowAt; rw [if_neg (Nat.lt_irrefl _), if_pos rfl]
/-- what a row of the table reads as -/
theorem TabR.get {W : World} {B gT n : Nat} {M : List TRow} (h : TabR W B gT n M) {i : Nat} (hi : i < M.length) :
    W.cell? ⟨gT, i, none⟩ = some M[i].1 ∧ W.frozen? ⟨gT, i, none⟩ = false ∧ Sl W 1 M[i].1 eI M[i].2 := by
  obtain ⟨c, f⟩ := h.out.cell_one eV_len i hi (u := M[i].1) rfl
  exact ⟨c, f, (h.row i hi).sl eI_len⟩
theorem made_rows (w : World) (B gT n : Nat) (h : w.ownsRow B 56 1 (.slice (some ⟨gT, 0, none⟩) n n) n (madeCells #[Value.slice none 0 0] n).toList) : TabR w B gT n (List.replicate n (.slice none 0 0, [])) := by
  rw [toList_madeCells_one] at h
  have e : List.replicate n (Value.slice none 0 0) = (List.replicate n ((Value.slice none 0 0, []) : TRow)).flatMap eV := by
    clear h
    induction n with
    | zero => rfl
    | succ n ih => simp [List.replicate_succ, eV, List.flatMap_cons] at ih ⊢; exact ih
  refine ⟨by simp, ?_, ?_, ?_, ?_⟩
  · unfold Own
    rw [List.length_replicate, ← e]
    exact h
  · intro i hi
    rw [List.getElem_replicate]
    exact Own.nil _ _ _ _ _
  · intro i hi
    rw [List.getElem_replicate]
    exact .inl rfl
  · intro i j hi hj _
    rw [List.getElem_replicate]
    exact .inl rfl
end Go.Proofs.YtgcodjkjdfahdaaGreatDoor

/- EntriesOf and ValuesOf: the reference's functions and the program's. No condition but that the library's table, its two errors and its search variable lie as they are laid. -/
namespace Go.Proofs.YtgcodjkjdfahdaaGreatDoor
open Go Go.RowKit Go.ChangeShapes Go.WideShapes
set_option linter.unusedSimpArgs false
set_option linter.unusedVariables false
def valTo (l : List TEntry) (t : ByteArray) (k : Nat) : List Int := ((l.take k).filter fun x => decide (x.2.1 = t)).map fun x => x.2.2
theorem valTo_len (l : List TEntry) (t : ByteArray) (k : Nat) : (valTo l t k).length ≤ k := by
  unfold valTo
  rw [List.length_map]
  exact Nat.le_trans (List.length_filter_le ..) (List.length_take_le ..)
theorem valTo_yes {l : List TEntry} {t : ByteArray} {k : Nat} (hk : k < l.length) (h : l[k].2.1 = t) : valTo l t (k + 1) = valTo l t k ++ [l[k].2.2] := by
  unfold valTo
  rw [List.take_succ_eq_append_getElem hk, List.filter_append, List.map_append]
  simp [h]
theorem valTo_no {l : List TEntry} {t : ByteArray} {k : Nat} (hk : k < l.length) (h : ¬ l[k].2.1 = t) : valTo l t (k + 1) = valTo l t k := by
  unfold valTo
  rw [List.take_succ_eq_append_getElem hk, List.filter_append, List.map_append]
  simp [h]
def valR (s t : ByteArray) : List Int × Int := if lw s t = 0 then (valTo (readL s).l t (readL s).l.length, 0) else ([], lw s t)
theorem entry_bd {s : ByteArray} {k : Nat} (hk : k < (readL s).l.length) : (0 ≤ (readL s).l[k].1 ∧ (readL s).l[k].1 ≤ 100000) ∧ (readL s).l[k].2.1.size ≤ 12 ∧ (-1000000 ≤ (readL s).l[k].2.2 ∧ (readL s).l[k].2.2 ≤ 1000000) := by
  have h := readL_ok s _ (List.getElem_mem hk)
  obtain ⟨h1, h2, h3⟩ := okEntryB_bd h
  exact ⟨h1, name_size h2, h3⟩
set_option maxRecDepth 100000 in
set_option maxHeartbeats 4000000 in
theorem val_spec (w : World) (s t : ByteArray) (hs : s.size ≤ 1048576) (ht : t.size ≤ 9223372036854775807) :
    Calls Tryz.prog 166 #[.string s, .string t] w (GivesOwnI w 2 1 eI (valR s t)) := by
  obtain ⟨i0, hi, hz0, hz1, hz2⟩ := info_parts info_i64
  go_enter Tryz.func166, Tryz.ntmps166
  go_wp2_with fail
  refine (what_spec _ _ _ hs).mono ?_
  rintro e w1 ⟨g, rfl, hr, B⟩
  by_cases hc : lw s t = 0
  case neg =>
    have HR := hd (show valR s t = ([], lw s t) by unfold valR; rw [if_neg hc])
    obtain ⟨x, hx⟩ : ∃ x, lw s t = x := ⟨_, rfl⟩
    rw [hx] at hc HR ⊢
    have kc : (x != 0) = true := by simpa using hc
    clear hr hc hx
    go_wp2_with fail
    go_ret2
    exact ⟨_, by rw [HR.out]; rfl, by rw [HR.out]; exact Own.nil _ _ _ _ _, B⟩
  have HR := hd (show valR s t = (valTo (readL s).l t (readL s).l.length, 0) by unfold valR; rw [if_pos hc])
  have hl4 : (readL s).l.length ≤ 4000 := by have := readL_len s; have := lc_size (lw_good hc).1; omega
  obtain ⟨v, R, O, hg, -⟩ := hr hc
  rw [hc]
  clear hc hr
  obtain ⟨A, cc, rfl⟩ := O.isSlice
  have SE := O.sl eEntry_len
  have HC3 := hd R.2.1.2.2.2
  have r0 := R.1
  have own0 := Own.made0 w1 w1.heap.size 2 1 eI (Nat.le_refl _)
  have bel0 := (Below.refl w1.heap.size w1).alloc (Nat.le_refl _) (.cells #[] 2)
  go_wp2_with fail
  go_loopw [8, 9] (fun ov iv wr => ∃ k : Nat, k ≤ (readL s).l.length ∧ iv = .int .i64 k ∧ Own wr w1.heap.size 2 1 ov eI (valTo (readL s).l t k) ∧ Below w1.heap.size w1 wr) (fun _ iv _ => (readL s).l.length - (intOf iv).toNat)
  case atStart => exact ⟨0, Nat.zero_le _, rfl, own0, bel0⟩
  case round =>
    obtain ⟨k, hk, rfl, hown, hbel⟩ := hrel
    clear own0 bel0
    have c3 := (hbel.cell (p := ⟨g, 3, none⟩) r0).trans HC3.out
    have hlen := valTo_len (readL s).l t k
    by_cases hlt : k < (readL s).l.length
    · obtain ⟨bb, o, rfl, -, p0, p1, p2⟩ := (SE.below hbel).Entry_at hlt
      obtain ⟨-, hbz, hb1, hb2⟩ := entry_bd hlt
      have HY := hd (fun q => valTo_yes (t := t) hlt q)
      have HZ := hd (fun q => valTo_no (t := t) hlt q)
      generalize (readL s).l[k] = x at p0 p1 p2 HY HZ hbz hb1 hb2
      obtain ⟨a, b, c⟩ := x
      dsimp only at p0 p1 p2 hbz hb1 hb2
      generalize valTo (readL s).l t k = L at hown hlen HY HZ ⊢
      by_cases q : b = t
      case neg =>
        have kq : (b.toList == t.toList) = false := beq_eq_false_iff_ne.2 (fun e => q (bytes_of_toList e))
        have HZ' := hd (HZ.out q)
        clear q HY HZ
        go_wp2_with fail
        go_roundw
        case rel => exact ⟨k + 1, by omega, by go_num, by rw [HZ'.out]; exact hown, hbel⟩
        case measure => simp [intOf]; omega
      have kq : (b.toList == t.toList) = true := by rw [q]; simp
      have HY' := hd (HY.out q)
      clear q HY HZ
      have own2 := hown.alloc (.cells #[.int .i64 c] 2)
      go_wp2_with (at_builtin; refine wpList_push _ rfl _ _ 56 rfl i0 (.int .i64 0) 8 Tryz.underlying56 hi hz0 hz1 hz2 rfl (by decide) _ _ (c : Int) rfl own2 wr.heap.size rfl #[.int .i64 c] 2 (heap_alloc_new _ _) rfl rfl (by intro u hu; simp [eI] at hu; subst hu; rfl) (by unfold maxLen; omega) (by omega) (by have := hbel.size; simp; omega) ?_)
      intro v' w3 hown2 hgr2
      have hbel2 := (hbel.alloc hbel.size (.cells #[.int .i64 c] 2)).grown hgr2 (by have := hbel.size; simp; omega) (fun g hg => (hown.lt g hg).1)
      clear hown own2 hgr2
      go_wp2_with fail
      go_roundw
      case rel => exact ⟨k + 1, by omega, by go_num, by rw [HY'.out]; exact hown2, hbel2⟩
      case measure => simp [intOf]; omega
    · obtain rfl : k = (readL s).l.length := by omega
      go_wp2_with fail
      go_ret2
      exact ⟨_, by rw [HR.out]; rfl, by rw [HR.out]; exact hown.base B.size, B.trans (hbel.mono B.size)⟩
set_option maxRecDepth 100000 in
set_option maxHeartbeats 4000000 in
theorem val_impl (w : World) (s t : ByteArray) (hs : s.size ≤ 1048576) (ht : t.size ≤ 9223372036854775807) (hsh : Shop w) :
    Calls Tryz.prog 85 #[.string s, .string t] w (GivesOwnI w 2 1 eI (valR s t)) := by
  obtain ⟨i0, hi, hz0, hz1, hz2⟩ := info_parts info_i64
  go_enter Tryz.func85, Tryz.ntmps85
  go_wp2_with fail
  refine (code_impl _ _ hs hsh).mono ?_
  rintro e w1 ⟨v, st, n, rfl, O, -, ⟨s1, s2⟩, ⟨n1, n2⟩, B⟩
  obtain ⟨A, cc, rfl⟩ := O.isSlice
  have hle := eL_len s
  obtain ⟨t0, t1, t2, -, hz2', hb2⟩ := new3 w1 (.slice A (eL s).length cc) (.int .i64 st) (.int .i64 n) 135
  have O2 := O.below hb2 (Nat.le_refl _)
  have B2 := below_step B hb2
  have hgs : w1.heap.size < (w1.alloc (.cells #[.slice A (eL s).length cc, .int .i64 st, .int .i64 n] 135)).heap.size := by omega
  clear O B hb2
  by_cases hc : lc s = 0
  case neg =>
    have hw : lw s t = lc s := by unfold lw; rw [if_neg hc]
    have HR := hd (show valR s t = ([], lc s) by unfold valR; rw [hw, if_neg hc])
    obtain ⟨x, hx⟩ : ∃ x, lc s = x := ⟨_, rfl⟩
    rw [hx] at hc HR ⊢
    have kc : (x != 0) = true := by simpa using hc
    have kd : (x == 0) = false := by simpa using hc
    have HB2 := hd B2
    clear hc hx hw B2 O2
    go_wp2_with fail
    go_ret2
    exact ⟨_, by rw [HR.out]; rfl, by rw [HR.out]; exact Own.nil _ _ _ _ _, HB2.out⟩
  rw [hc]
  have HC := hd hc
  have HEL := hd (eL_good hc)
  clear hc
  rcases hn : isNameB t with _ | _
  · have hw : lw s t = 2 := by unfold lw; rw [if_pos HC.out, hn]; rfl
    have HR := hd (show valR s t = ([], 2) by unfold valR; rw [hw]; rfl)
    have HB2 := hd B2
    clear hw B2 O2
    go_wp2_with fail
    refine (name_impl _ _).mono ?_
    rintro e w2 ⟨rfl, hw⟩
    have hw := hw.symm
    subst hw
    rw [hn]
    go_wp2_with fail
    go_ret2
    exact ⟨_, by rw [HR.out]; rfl, by rw [HR.out]; exact Own.nil _ _ _ _ _, HB2.out⟩
  have hw : lw s t = 0 := by unfold lw; rw [if_pos HC.out, hn]; rfl
  have HR := hd (show valR s t = (valTo (readL s).l t (readL s).l.length, 0) by unfold valR; rw [if_pos hw])
  clear hw
  rw [HEL.out] at O2 t0 t1 t2 B2 hle hgs hz2' ⊢
  go_wp2_with fail
  refine (name_impl _ _).mono ?_
  rintro e w2 ⟨rfl, hw⟩
  have hw := hw.symm
  subst hw
  rw [hn]
  generalize w1.alloc (.cells #[.slice A (readL s).l.length cc, .int .i64 st, .int .i64 n] 135) = W2 at t0 t1 t2 O2 B2 hgs hz2' ⊢
  clear hz2'
  have SE := O2.sl eEntry_len
  have own0 := Own.made0 W2 W2.heap.size 2 1 eI (Nat.le_refl _)
  have bel0 := (Below.refl W2.heap.size W2).alloc (Nat.le_refl _) (.cells #[] 2)
  have t0' := (bel0.cell (p := ⟨w1.heap.size, 0, none⟩) hgs).trans t0
  go_wp2_with fail
  go_loopw [8, 30] (fun ov iv wr => ∃ k : Nat, k ≤ (readL s).l.length ∧ iv = .int .i64 k ∧ Own wr W2.heap.size 2 1 ov eI (valTo (readL s).l t k) ∧ Below W2.heap.size W2 wr) (fun _ iv _ => (readL s).l.length - (intOf iv).toNat)
  case atStart => exact ⟨0, Nat.zero_le _, rfl, own0, bel0⟩
  case round =>
    obtain ⟨k, hk, rfl, hown, hbel⟩ := hrel
    clear own0 bel0 t0' t0 t1 t2
    have hlen := valTo_len (readL s).l t k
    by_cases hlt : k < (readL s).l.length
    · obtain ⟨bb, o, rfl, -, p0, p1, p2⟩ := (SE.below hbel).Entry_at hlt
      obtain ⟨-, hbz, hb1, hb2⟩ := entry_bd hlt
      have HY := hd (fun q => valTo_yes (t := t) hlt q)
      have HZ := hd (fun q => valTo_no (t := t) hlt q)
      generalize (readL s).l[k] = x at p0 p1 p2 HY HZ hbz hb1 hb2
      obtain ⟨a, b, c⟩ := x
      dsimp only at p0 p1 p2 hbz hb1 hb2
      generalize valTo (readL s).l t k = L at hown hlen HY HZ ⊢
      have hown' := hown.alloc (.cells #[.int .i64 a, .string b, .int .i64 c] 130)
      have hbel' := hbel.alloc hbel.size (.cells #[.int .i64 a, .string b, .int .i64 c] 130)
      by_cases q : b = t
      case neg =>
        have kq : (b.toList == t.toList) = false := beq_eq_false_iff_ne.2 (fun e => q (bytes_of_toList e))
        have HZ' := hd (HZ.out q)
        clear q HY HZ
        go_wp2_with fail
        go_roundw
        case rel => exact ⟨k + 1, by omega, by go_num, by rw [HZ'.out]; exact hown', hbel'⟩
        case measure => simp [intOf]; omega
      have kq : (b.toList == t.toList) = true := by rw [q]; simp
      have HY' := hd (HY.out q)
      have hnew : ((wr.alloc (.cells #[.int .i64 a, .string b, .int .i64 c] 130)).alloc (.cells #[.int .i64 c] 2)).heap[wr.heap.size + 1]? = some (.cells #[.int .i64 c] 2 (0, 0)) := by
        have h := heap_alloc_new (wr.alloc (.cells #[.int .i64 a, .string b, .int .i64 c] 130)) (.cells #[.int .i64 c] 2)
        rwa [show (wr.alloc (.cells #[.int .i64 a, .string b, .int .i64 c] 130)).heap.size = wr.heap.size + 1 by simp] at h
      clear q HY HZ
      go_wp2_with (at_builtin; refine wpList_push _ rfl _ _ 56 rfl i0 (.int .i64 0) 8 Tryz.underlying56 hi hz0 hz1 hz2 rfl (by decide) _ _ (c : Int) rfl (hown'.alloc _) (wr.heap.size + 1) rfl #[.int .i64 c] 2 hnew rfl rfl (by intro u hu; simp [eI] at hu; subst hu; rfl) (by unfold maxLen; omega) (by omega) (by have := hbel.size; simp; omega) ?_)
      intro v' w3 hown2 hgr2
      have hbel2 := (hbel'.alloc hbel'.size (.cells #[.int .i64 c] 2)).grown hgr2 (by have := hbel.size; simp; omega) (fun g hg => (hown'.lt g hg).1)
      clear hown hown' hgr2
      go_wp2_with fail
      go_roundw
      case rel => exact ⟨k + 1, by omega, by go_num, by rw [HY'.out]; exact hown2, hbel2⟩
      case measure => simp [intOf]; omega
    · obtain rfl : k = (readL s).l.length := by omega
      go_wp2_with fail
      go_ret2
      exact ⟨_, by rw [HR.out]; rfl, by rw [HR.out]; exact hown.base B2.size, B2.trans (hbel.mono B2.size)⟩
end Go.Proofs.YtgcodjkjdfahdaaGreatDoor
