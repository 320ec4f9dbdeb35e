/- Texts of the claim, joined: each says at its head what it proves. No condition. -/
import Derived.Test.YtgcodjkjdfahdaaGreatDoorJ1
import Derived.Test.YtgcodjkjdfahdaaGreatDoorJ20
import Derived.Test.YtgcodjkjdfahdaaGreatDoorJ21
import Derived.Deep.RegionLaw
import Derived.Test.YtgcodjkjdfahdaaGreatDoorJ18
/- A table of rows that the call owns, and the numbers in it. No condition. -/
namespace Go.Proofs.YtgcodjkjdfahdaaGreatDoor
open Go Go.RowKit Go.ChangeShapes Go.WideShapes
set_option linter.unusedSimpArgs false
set_option linter.unusedVariables false
/-- one element behind a list, as a step of a region that draws -/
theorem step_push_at {P : Program} {α : Type} {enc : α → List Value} {k : Nat} (w : World) {ops : Array Oper} {o : Oper} {a : Act} {K : Act → World → Prop} {Q : Exit → Act → World → Prop} {X : Prop} (hgd : o.guard = none) (s x : Operand) (t : TypeId)
    (ho : o.op = .call { callee := .builtin .append, args := #[s, x], argTypes := #[t, t] })
    {B E : Nat} (i : TypeInfo) (z : Value) (bytes : Nat) (ht : P.underlying t = some (.slice E)) (hi : P.info? E = some i) (hz : i.zero = some z)
    (hsize : i.size = k) (hby : i.bytes = bytes) (hzs : z.cells.size = k) (hsz : 0 < k)
    (v : Value) (l : List α) (y : α) (hs : a.eval s = v) (hown : Own w B E k v enc l)
    (g : Nat) (hx : a.eval x = .slice (some ⟨g, 0, none⟩) 1 1) (cs : Array Value) (E' : TypeId) (hg : w.heap[g]? = some (.cells cs E' (0, 0))) (hcs : cs.toList = enc y) (hlen : (enc y).length = k) (h1 : ∀ u ∈ enc y, u.oneCell' = true)
    (h63 : l.length + 1 ≤ maxLen) (hbytes : (l.length + 1) * bytes ≤ 140737488355328) (hbase : B ≤ w.heap.size)
    (h : ∀ v' w', Own w' B E k v' enc (l ++ [y]) → w.grownBy w' v.ownBlock → (v'.ownBlock = v.ownBlock ∨ v'.ownBlock = some w.heap.size) → K (a.put o.dst v') w') :
    if Region.wanted o (yielded ops a.tmps) = true then Oper.wp P o a w K Q else X := by
  have hw : Region.wanted o (yielded ops a.tmps) = true := by simp [Region.wanted, hgd]
  rw [if_pos hw]
  exact wp_push_at w s x t ho i z bytes ht hi hz hsize hby hzs hsz v l y hs hown g hx cs E' hg hcs hlen h1 h63 hbytes hbase h
/-- rows that the call owns, behind a block of their own, all apart -/
structure TabR (W : World) (B gT n : Nat) (M : List TRow) : Prop where
  len : M.length = n
  out : Own W B 56 1 (.slice (some ⟨gT, 0, none⟩) n n) eV M
  row : ∀ i (h : i < M.length), Own W B 2 1 M[i].1 eI M[i].2
  off : ∀ i (h : i < M.length), apart M[i].1.ownBlock (some gT)
  two : ∀ i j (hi : i < M.length) (hj : j < M.length), i ≠ j → apart M[i].1.ownBlock M[j].1.ownBlock
theorem TabR.below {W W' : World} {B gT n : Nat} {M : List TRow} (h : TabR W B gT n M) (hb : Below W.heap.size W W') : TabR W' B gT n M :=
  ⟨h.len, h.out.below hb (Nat.le_refl _), fun i hi => (h.row i hi).below hb (Nat.le_refl _), h.off, h.two⟩
theorem TabR.drewN {W : World} {B gT n : Nat} {M : List TRow} (h : TabR W B gT n M) (k : Nat) : TabR (W.drewN k) B gT n M := h.below (below_drewN (Below.refl _ _) k)
theorem set_row {M : List TRow} {j i : Nat} {y : TRow} (hi : i < (M.set j y).length) : (M.set j y)[i] = if j = i then y else M[i]'(by simpa using hi) := by rw [List.getElem_set]
/-- a row is written anew: its value in the table and, before, whatever stands behind it -/
theorem TabR.put {w w1 w2 : World} {B gT n : Nat} {M : List TRow} (h : TabR w B gT n M) {j : Nat} (hj : j < M.length) {v' : Value} {l' : List Int} (hb : Below w.heap.size w w1) (ho : Own w2 B 2 1 v' eI l') (hg : w1.grownBy w2 M[j].1.ownBlock) (ha : v'.ownBlock = M[j].1.ownBlock ∨ ∀ g, v'.ownBlock = some g → w.heap.size ≤ g) :
    TabR (w2.setCell ⟨gT, j, none⟩ v') B gT n (M.set j (v', l')) := by
  have hgT := h.out.lt gT rfl
  have off' : apart v'.ownBlock (some gT) := by
    rcases ha with e | e
    · rw [e]; exact h.off j hj
    · rcases hv : v'.ownBlock with _ | g
      · exact .inl rfl
      · refine .inr fun e2 => ?_
        have := e g hv
        injection e2 with e2
        omega
  have two' : ∀ i (hi : i < M.length), i ≠ j → apart M[i].1.ownBlock v'.ownBlock := by
    intro i hi hij
    rcases ha with e | e
    · rw [e]; exact h.two i j hi hj hij
    · rcases hv : M[i].1.ownBlock with _ | g
      · exact .inl rfl
      · refine .inr fun e2 => ?_
        have h1 := (h.row i hi).lt g hv
        have h2 := e g e2.symm
        omega
  have hset := kgrown_set w2 ⟨gT, j, none⟩ v'
  refine ⟨by rw [List.length_set]; exact h.len, ?_, ?_, ?_, ?_⟩
  · have h1 := (h.out.below hb (Nat.le_refl _)).grown hg (apart_symm (h.off j hj))
    exact h1.set_one eV_len j (v', l') rfl
  · intro i hi
    rw [set_row hi]
    by_cases e : j = i
    · rw [if_pos e]
      exact ho.grown hset off'
    · rw [if_neg e]
      have hi' : i < M.length := by simpa using hi
      exact (((h.row i hi').below hb (Nat.le_refl _)).grown hg (h.two i j hi' hj (fun e2 => e e2.symm))).grown hset (h.off i hi')
  · intro i hi
    rw [set_row hi]
    by_cases e : j = i
    · rw [if_pos e]; exact off'
    · rw [if_neg e]; exact h.off i (by simpa using hi)
  · intro i k hi hk hik
    rw [set_row hi, set_row hk]
    have hi' : i < M.length := by simpa using hi
    have hk' : k < M.length := by simpa using hk
    by_cases e : j = i
    · rw [if_pos e, if_neg (by omega)]
      exact apart_symm (two' k hk' (by omega))
    · rw [if_neg e]
      by_cases e2 : j = k
      · rw [if_pos e2]; exact two' i hi' (by omega)
      · rw [if_neg e2]; exact h.two i k hi' hk' hik
/-- the numbers of the table up to one place -/
def rowAt (h c l left j i : Nat) : List Int := if i < left then tabB h c l i else if i = left then burnTo h c l (tabB h c l (left - 1)) j else []
def RowsIs (h c l left j : Nat) (M : List TRow) : Prop := ∀ i (hi : i < M.length), M[i].2 = rowAt h c l left j i
theorem RowsIs.set {h c l left j : Nat} {M : List TRow} (H : RowsIs h c l left j M) {v' : Value} (hl : left < M.length) (x : Int) (hx : x = burnAt h c l (tabB h c l (left - 1)) j) : RowsIs h c l left (j + 1) (M.set left (v', M[left].2 ++ [x])) := by
  intro i hi
  rw [set_row hi]
  by_cases e : left = i
  · subst e
    rw [if_pos rfl, H left hl, hx]
    unfold rowAt
    rw [if_neg (Nat.lt_irrefl _), if_pos rfl, if_neg (Nat.lt_irrefl _), if_pos rfl, burnTo_snoc]
  · rw [if_neg e, H i (by simpa using hi)]
    unfold rowAt
    by_cases e2 : i < left
    · rw [if_pos e2, if_pos e2]
    · rw [if_neg e2, if_neg (by omega), if_neg e2, if_neg (by omega)]
theorem RowsIs.next {h c l left : Nat} {M : List TRow} (H : RowsIs h c l left (l + 1) M) (h1 : 1 ≤ left) : RowsIs h c l (left + 1) 0 M := by
  intro i hi
  rw [H i hi]
  unfold rowAt
  by_cases e : i < left
  · rw [if_pos e, if_pos (by omega)]
  · rw [if_neg e]
    by_cases e2 : i = left
    · subst e2
      rw [if_pos rfl, if_pos (by omega)]
      obtain ⟨k, rfl⟩ : ∃ k, i = k + 1 := ⟨i - 1, by omega⟩
      rfl
    · rw [if_neg e2, if_neg (by omega)]
      by_cases e3 : i = left + 1
      · rw [if_pos e3]; rfl
      · rw [if_neg e3]
theorem RowsIs.tab {h c l left j i : Nat} {M : List TRow} (H : RowsIs h c l left j M) (hi : i < M.length) (hl : i < left) : M[i].2 = tabB h c l i := by
  rw [H i hi]; unfold rowAt; rw [if_pos hl]
theorem RowsIs.cur {h c l left j : Nat} {M : List TRow} (H : RowsIs h c l left j M) (hi : left < M.length) : M[left].2 = burnTo h c l (tabB h c l (left - 1)) j := by
  rw [H left hi]; unfold rowAt; rw [if_neg (Nat.lt_irrefl _), if_pos rfl]
/-- what a row of the table reads as -/
theorem TabR.get {W : World} {B gT n : Nat} {M : List TRow} (h : TabR W B gT n M) {i : Nat} (hi : i < M.length) :
    W.cell? ⟨gT, i, none⟩ = some M[i].1 ∧ W.frozen? ⟨gT, i, none⟩ = false ∧ Sl W 1 M[i].1 eI M[i].2 := by
  obtain ⟨c, f⟩ := h.out.cell_one eV_len i hi (u := M[i].1) rfl
  exact ⟨c, f, (h.row i hi).sl eI_len⟩
theorem made_rows (w : World) (B gT n : Nat) (h : w.ownsRow B 56 1 (.slice (some ⟨gT, 0, none⟩) n n) n (madeCells #[Value.slice none 0 0] n).toList) : TabR w B gT n (List.replicate n (.slice none 0 0, [])) := by
  rw [toList_madeCells_one] at h
  have e : List.replicate n (Value.slice none 0 0) = (List.replicate n ((Value.slice none 0 0, []) : TRow)).flatMap eV := by
    clear h
    induction n with
    | zero => rfl
    | succ n ih => simp [List.replicate_succ, eV, List.flatMap_cons] at ih ⊢; exact ih
  refine ⟨by simp, ?_, ?_, ?_, ?_⟩
  · unfold Own
    rw [List.length_replicate, ← e]
    exact h
  · intro i hi
    rw [List.getElem_replicate]
    exact Own.nil _ _ _ _ _
  · intro i hi
    rw [List.getElem_replicate]
    exact .inl rfl
  · intro i j hi hj _
    rw [List.getElem_replicate]
    exact .inl rfl
end Go.Proofs.YtgcodjkjdfahdaaGreatDoor

/- The text of a desk: the reference's function and the program's. No condition but that the library's table, its two errors and its search variable lie as they are laid. -/
namespace Go.Proofs.YtgcodjkjdfahdaaGreatDoor
open Go Go.RowKit Go.ChangeShapes Go.WideShapes
set_option linter.unusedSimpArgs false
set_option linter.unusedVariables false
def deskS (p : ByteArray) (C : List TCue) (T : List TTitle) : ByteArray :=
  ⟨#[100, 105, 115, 99, 32]⟩ ++ p ++ ⟨#[44, 32]⟩ ++ decS (C.length : Int) ++ ⟨#[32, 99, 117, 101, 115, 44, 32]⟩ ++ decS (T.length : Int) ++ ⟨#[32, 116, 105, 116, 108, 101, 115]⟩
def textD (p : ByteArray) (C : List TCue) (T : List TTitle) (q : ByteArray) : ByteArray := if okDeskB p C T q = true then deskS p C T else ⟨#[]⟩
theorem okDesk_bd {p : ByteArray} {C : List TCue} {T : List TTitle} {q : ByteArray} (h : okDeskB p C T q = true) : p.size ≤ 24 ∧ C.length ≤ 6 ∧ T.length ≤ 20 := by
  unfold okDeskB okMotB okCues at h
  simp only [Bool.and_eq_true, decide_eq_true_eq] at h
  obtain ⟨⟨-, h1⟩, ⟨-, h2⟩, h3, -⟩ := h
  have := inB_true h1
  have := okTitles_len h3
  exact ⟨by omega, h2, this⟩
set_option maxRecDepth 100000 in
set_option maxHeartbeats 8000000 in
theorem text_impl (w : World) (p q : ByteArray) (v1 v2 : Value) (C : List TCue) (T : List TTitle) (hC : Sl w 4 v1 eCue C) (hT : Sl w 4 v2 eTitle T) (hp : p.size ≤ 1048576) (hq : q.size ≤ 1048576) (hsh : Shop w) :
    Calls Tryz.prog 11 #[.agg #[.string p, v1, v2, .string q]] w fun e w' => e = .returned (.string (textD p C T q)) ∧ Below w.heap.size w w' := by
  obtain ⟨A1, c1, rfl⟩ := hC.sliceD
  obtain ⟨A2, c2, rfl⟩ := hT.sliceD
  have hD := desk_new w p (.slice A1 C.length c1) (.slice A2 T.length c2) q 29
  have B1 := (Below.refl w.heap.size w).alloc (Nat.le_refl _) (.cells #[.string p, .slice A1 C.length c1, .slice A2 T.length c2, .string q] 29)
  have HSH := hd (hsh.below B1)
  clear hsh
  obtain ⟨d0, d1, d2, d3, d4⟩ := id hD
  go_enter Tryz.func11, Tryz.ntmps11
  go_wp2_with fail
  generalize w.alloc (.cells #[.string p, .slice A1 C.length c1, .slice A2 T.length c2, .string q] 29) = w1 at hD B1 HSH d0 d1 d2 d3 d4 ⊢
  refine (desk_impl _ p q _ _ C T (hC.below B1) (hT.below B1) hp hq HSH.out).mono ?_
  rintro e w2 ⟨rfl, hb2⟩
  clear d0 d1 d2 d3 d4
  rcases ho : okDeskB p C T q with _ | _
  · have HR := hd (show textD p C T q = ⟨#[]⟩ by unfold textD; rw [ho]; rfl)
    go_wp2_with fail
    go_ret
    exact ⟨by rw [HR.out]; rfl, below_step B1 hb2⟩
  have HR := hd (show textD p C T q = deskS p C T by unfold textD; rw [if_pos ho])
  obtain ⟨b1, b2, b3⟩ := okDesk_bd ho
  have s1 := decS_size (n := (C.length : Int)) (by omega)
  have s2 := decS_size (n := (T.length : Int)) (by omega)
  obtain ⟨d0, d1, d2, d3, d4⟩ := hD.below hb2
  have g1 := gro_cell d1
  have g2 := gro_cell d2
  have g3 := gro_cell d3
  have HTB := hd (show ∀ x : Ext w2, Tab (gro w2 x) from fun x => (HSH.out.1.below hb2).below (gro_below x))
  clear d1 d2 d3 d4 ho
  go_wp2_with fail
  refine wp_region_calm (by kernel_rfl) (by kernel_rfl) ?_
  repeat (first | go_big_quiet_step ((go_at_call 36; exact calm_of (dec_impl _ _ (by omega) (HTB.out _)))) | quiet_step ((go_at_call 36; exact calm_of (dec_impl _ _ (by omega) (HTB.out _)))))
  refine wpQuiet_nil ?_
  rintro w3 ⟨x, rfl⟩
  have hb3 := gro_below x
  clear g1 g2 g3
  go_wp2_with fail
  go_ret
  exact ⟨by rw [HR.out]; rfl, below_step (below_step B1 hb2) hb3⟩
end Go.Proofs.YtgcodjkjdfahdaaGreatDoor

/- A log that was written is read back: the plain law. No condition. -/
namespace Go.Proofs.YtgcodjkjdfahdaaGreatDoor
open Go Go.RowKit Go.ChangeShapes Go.WideShapes
set_option linter.unusedSimpArgs false
set_option linter.unusedVariables false
theorem numS_int {n : Int} (h : -99999999999999999 ≤ n) (h2 : n ≤ 99999999999999999) : numS (Lib.itoa n) = some n := by
  by_cases h0 : 0 ≤ n
  · obtain ⟨m, rfl⟩ : ∃ m : Nat, n = (m : Int) := ⟨n.toNat, by omega⟩
    exact numS_nat (by omega)
  · obtain ⟨m, rfl⟩ : ∃ m : Nat, n = -(m : Int) := ⟨(-n).toNat, by omega⟩
    have e := Lib.itoa_neg m (by omega)
    have hl : (Lib.decDigits m).length ≤ 18 := decDigits_len 17 m (by have : (10 : Nat) ^ 18 = 1000000000000000000 := by decide
                                                                      omega)
    have hp : 1 ≤ (Lib.decDigits m).length := by
      rcases hd : Lib.decDigits m with _ | ⟨c, r⟩
      · have := valD_digits m
        rw [hd] at this
        simp [valD] at this
        omega
      · simp
    have ht : tailS (Lib.itoa (-(m : Int))) = Lib.decDigits m := by rw [e]; rfl
    rw [numS_val (u := m) (n := -(m : Int)) (by rw [ht]; exact ⟨hp, hl⟩) (by rw [ht]; exact valD_digits m) (by rw [e]; rfl), if_pos rfl]
theorem itoa_no10 {n : Int} (h : -1000000 ≤ n) : (10 : UInt8) ∉ Lib.itoa n := by
  by_cases h0 : 0 ≤ n
  · exact itoa_no 10 (by decide) h0
  · obtain ⟨m, rfl⟩ : ∃ m : Nat, n = -(m : Int) := ⟨(-n).toNat, by omega⟩
    rw [Lib.itoa_neg m (by omega)]
    intro hm
    rcases List.mem_cons.1 hm with h1 | h1
    · revert h1; decide
    · exact digits_no 10 (by decide) m h1
/-- a line without its end -/
def bareL (st : Int) (x : TEntry) : List UInt8 := Lib.itoa x.1 ++ 32 :: (x.2.1.data.toList ++ 32 :: (Lib.itoa x.2.2 ++ 32 :: Lib.itoa st))
theorem lineS_bare (st : Int) (x : TEntry) : (lineS st x).data.toList = bareL st x ++ [10] := lineS_list st x.1 x.2.1 x.2.2
theorem bare_no10 {st : Int} {x : TEntry} (hs : 0 ≤ st ∧ st ≤ 65518) (h : okEntryB x = true) : (10 : UInt8) ∉ bareL st x := by
  obtain ⟨a, b, c⟩ := x
  obtain ⟨⟨a1, a2⟩, bn, c1, c2⟩ := okEntryB_bd h
  unfold bareL
  intro hm
  simp only [List.mem_append, List.mem_cons] at hm
  rcases hm with hm | hm | hm | hm | hm | hm | hm
  · exact itoa_no10 (by omega) hm
  · revert hm; decide
  · exact name_no 10 (by decide) bn hm
  · revert hm; decide
  · exact itoa_no10 (by omega) hm
  · revert hm; decide
  · exact itoa_no10 (by omega) hm
theorem rdLine_bare {st : Int} {x : TEntry} (hs : 0 ≤ st ∧ st ≤ 65518) (h : okEntryB x = true) : rdLine ⟨(bareL st x).toArray⟩ = (x, st, true) := by
  obtain ⟨a, b, c⟩ := x
  have h' := h
  obtain ⟨⟨a1, a2⟩, bn, c1, c2⟩ := okEntryB_bd h
  have hp : partsB 32 ⟨(bareL st (a, b, c)).toArray⟩ = [⟨(Lib.itoa a).toArray⟩, b, ⟨(Lib.itoa c).toArray⟩, ⟨(Lib.itoa st).toArray⟩] := by
    unfold partsB
    show (parts 32 (bareL st (a, b, c))).map (fun l => (⟨l.toArray⟩ : ByteArray)) = _
    unfold bareL
    rw [parts_at 32 _ _ (itoa_no32 (by omega)), parts_at 32 _ _ (name_no 32 (by decide) bn), parts_at 32 _ _ (itoa_no32 (by omega)), parts_none 32 _ (itoa_no32 (by omega))]
    rfl
  rw [rdLine_four hp]
  unfold rdLine4
  show (((numS (Lib.itoa a)).getD 0, b, (numS (Lib.itoa c)).getD 0), (numS (Lib.itoa st)).getD 0, _ && (_ && (_ && _))) = _
  rw [numS_int (n := a) (by omega) (by omega), numS_int (n := c) (by omega) (by omega), numS_int (n := st) (by omega) (by omega)]
  simp [h']
theorem lineAt_bare {s : ByteArray} {at_ : Nat} {l r : List UInt8} (h : s.data.toList.drop at_ = l ++ 10 :: r) (hl : (10 : UInt8) ∉ l) : lineAt s at_ = some ⟨l.toArray⟩ := by
  unfold lineAt
  rw [h, cut_at 10 l r hl]
  rfl
theorem lineAt_no {s : ByteArray} {at_ : Nat} (h : (10 : UInt8) ∉ s.data.toList.drop at_) : lineAt s at_ = none := by
  unfold lineAt
  rw [cut_none 10 _ h]
  rfl
/-- valid entries in order -/
def Fine (l : List TEntry) : Prop := (∀ x ∈ l, okEntryB x = true) ∧ ∀ k (h : k + 1 < l.length), l[k].1 ≤ l[k + 1].1
theorem Fine.day {l : List TEntry} (h : Fine l) {k : Nat} (hk : k < l.length) : dayOf (l.take k) ≤ l[k].1 := by
  unfold dayOf
  have e : (l.take k).length = k := by rw [List.length_take]; omega
  rw [e]
  by_cases h0 : k = 0
  · rw [if_pos h0]
    have := h.1 l[k] (List.getElem_mem hk)
    obtain ⟨⟨a1, a2⟩, -⟩ := okEntryB_bd (a := l[k].1) (b := l[k].2.1) (c := l[k].2.2) this
    exact a1
  · rw [if_neg h0]
    obtain ⟨m, rfl⟩ : ∃ m, k = m + 1 := ⟨k - 1, by omega⟩
    have : (l.take (m + 1)).getD (m + 1 - 1) noE = l[m] := by
      simp only [Nat.add_sub_cancel]
      rw [List.getD_eq_getElem?_getD, List.getElem?_take]
      simp [show m < l.length by omega]
    rw [this]
    exact h.2 m hk
theorem Fine.any {l : List TEntry} (h : Fine l) : (l.any fun x => !okEntryB x) = false := by
  rw [List.any_eq_false]
  intro x hx
  simp [h.1 x hx]
end Go.Proofs.YtgcodjkjdfahdaaGreatDoor
