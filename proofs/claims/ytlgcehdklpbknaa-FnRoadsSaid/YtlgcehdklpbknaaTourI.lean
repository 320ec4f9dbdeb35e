/- The days of a tour: the program's side. No condition but that the slices read. -/
import Derived.Test.YtlgcehdklpbknaaTour
namespace Go.Proofs.Ytlgcehdklpbknaa
open Go Go.RowKit Go.ChangeShapes Go.WideShapes
set_option linter.unusedSimpArgs false
set_option linter.unusedVariables false

section
variable {P : Program} {α : Type} {enc : α → List Value} {k : Nat}
theorem wp_push_at (w : World) {o : Oper} {a : Act} {K : Act → World → Prop} {Q : Exit → Act → World → Prop} (s x : Operand) (t : TypeId)
    (ho : o.op = .call { callee := .builtin .append, args := #[s, x], argTypes := #[t, t] })
    {B E : Nat} (i : TypeInfo) (z : Value) (bytes : Nat) (ht : P.underlying t = some (.slice E)) (hi : P.info? E = some i) (hz : i.zero = some z)
    (hsize : i.size = k) (hby : i.bytes = bytes) (hzs : z.cells.size = k) (hsz : 0 < k)
    (v : Value) (l : List α) (y : α) (hs : a.eval s = v) (hown : Own w B E k v enc l)
    (g : Nat) (hx : a.eval x = .slice (some ⟨g, 0, none⟩) 1 1) (cs : Array Value) (E' : TypeId) (hg : w.heap[g]? = some (.cells cs E' (0, 0))) (hcs : cs.toList = enc y) (hlen : (enc y).length = k) (h1 : ∀ u ∈ enc y, u.oneCell' = true)
    (h63 : l.length + 1 ≤ maxLen) (hbytes : (l.length + 1) * bytes ≤ 140737488355328) (hbase : B ≤ w.heap.size)
    (h : ∀ v' w', Own w' B E k v' enc (l ++ [y]) → w.grownBy w' v.ownBlock → (v'.ownBlock = v.ownBlock ∨ v'.ownBlock = some w.heap.size) → K (a.put o.dst v') w') : o.wp P a w K Q := by
  obtain ⟨v', w', hr, h2, h3, -, h5⟩ := run_append_own_at (P := P) w B t o.type E i z k bytes ht hi hz hsize hby hzs hsz v l.length (l.flatMap enc) hown ⟨g, 0, none⟩ 1 1 (enc y) (by simpa using hlen) (fun j u hu => by
    have hadd : (⟨g, 0, none⟩ : Addr).add j = ⟨g, j, none⟩ := by unfold Addr.add; split <;> simp_all
    rw [hadd, cell_of_row w g j cs E' (0, 0) hg, ← hu, ← hcs]
    simp) h1 h63 hbytes hbase
  unfold Oper.wp execOp
  simp only [ho, resolve, invoke, builtin, Sem.run_bind, Sem.run_pure, Result.andThen_ok, List.map_toArray, List.map_cons, List.map_nil, hs, hx, hr]
  exact h v' w' (by unfold Own; simpa using h2) h3 h5
theorem wpList_push_at (w : World) {ops : Array Oper} {rest : List Oper} {o : Oper} {a : Act} {Q : Exit → Act → World → Prop} (hgd : o.guard = none) (s x : Operand) (t : TypeId)
    (ho : o.op = .call { callee := .builtin .append, args := #[s, x], argTypes := #[t, t] })
    {B E : Nat} (i : TypeInfo) (z : Value) (bytes : Nat) (ht : P.underlying t = some (.slice E)) (hi : P.info? E = some i) (hz : i.zero = some z)
    (hsize : i.size = k) (hby : i.bytes = bytes) (hzs : z.cells.size = k) (hsz : 0 < k)
    (v : Value) (l : List α) (y : α) (hs : a.eval s = v) (hown : Own w B E k v enc l)
    (g : Nat) (hx : a.eval x = .slice (some ⟨g, 0, none⟩) 1 1) (cs : Array Value) (E' : TypeId) (hg : w.heap[g]? = some (.cells cs E' (0, 0))) (hcs : cs.toList = enc y) (hlen : (enc y).length = k) (h1 : ∀ u ∈ enc y, u.oneCell' = true)
    (h63 : l.length + 1 ≤ maxLen) (hbytes : (l.length + 1) * bytes ≤ 140737488355328) (hbase : B ≤ w.heap.size)
    (h : ∀ v' w', Own w' B E k v' enc (l ++ [y]) → w.grownBy w' v.ownBlock → (v'.ownBlock = v.ownBlock ∨ v'.ownBlock = some w.heap.size) → wpList P ops Q rest (a.put o.dst v') w') : wpList P ops Q (o :: rest) a w :=
  wpList_plain hgd fun _ hK => wp_push_at w s x t ho i z bytes ht hi hz hsize hby hzs hsz v l y hs hown g hx cs E' hg hcs hlen h1 h63 hbytes hbase fun v' w' h2 h3 h4 => hK _ _ (h v' w' h2 h3 h4)
end
theorem apart_push {a b c : Option Nat} {N : Nat} (h : apart a b) (hc : c = a ∨ c = some (N + 1)) (hb : ∀ g, b = some g → g < N + 1) : apart c b := by
  rcases hc with rfl | rfl
  · exact h
  · refine .inr fun e => ?_
    have := hb (N + 1) e.symm
    omega

def lateT (l : List THall) (H : List Int) (R : List (List Int)) (T : List Int) : Bool := (runT l H R startT T).2.2.2.2
theorem lateT_take {l : List THall} {H : List Int} {R : List (List Int)} {T : List Int} {k : Nat} (h : lateT l H R (T.take k) = true) : lateT l H R T = true := runT_take_late h
/-- the last show and where it was -/
theorem prev_show {l : List THall} {H : List Int} {R : List (List Int)} {T : List Int} {m j : Nat} (hm : m < T.length) (e : T[m] = (j : Int)) : ∃ s : Int, (showsT l H R startT (T.take (m + 1)))[m]? = some s ∧ s + 1 = (runT l H R startT (T.take (m + 1))).2.1 ∧ (runT l H R startT (T.take (m + 1))).1 = (j : Int) := by
  refine ⟨showT l H R (runT l H R startT (T.take m)) j, ?_, ?_, ?_⟩
  · rw [shows_take hm e, List.getElem?_append_right (by rw [showsT_len, List.length_take]; omega)]
    rw [showsT_len, List.length_take, show m - min m T.length = 0 by omega]
    rfl
  · rw [run_take hm e]
    rfl
  · rw [run_take hm e]
    rfl
def GivesTD (w : World) (l : List THall) (H : List Int) (R : List (List Int)) (T : List Int) (e : Ending) (w' : World) : Prop :=
  (lateT l H R T = true ∧ e = .returned (.tuple #[.slice none 0 0, .slice none 0 0, .bool false]) ∧ Below w.heap.size w w') ∨
  (lateT l H R T = false ∧ ∃ v u, e = .returned (.tuple #[v, u, .bool true]) ∧ Own w' w.heap.size 2 1 v eI (showsT l H R startT T) ∧ Own w' w.heap.size 2 1 u eI (theresT l H R startT T) ∧ Below w.heap.size w w')
theorem way_home {H : List Int} {R : List (List Int)} {p : Int} {j : Nat} (hp : p < 0) (hj : j < H.length) : way H R p (j : Int) = H[j] := by
  unfold way
  rw [if_neg (by omega)]
  simp [hj]
theorem way_road {H : List Int} {L : List TRow} {p : Int} {i j : Nat} (hp : p = (i : Int)) (hi : i < L.length) (hj : j < L[i].2.length) : way H (rowsOf L) p (j : Int) = L[i].2[j] := by
  unfold way
  rw [if_pos (by omega), hp]
  simp [rowsOf, hi, hj]

set_option maxRecDepth 100000 in
set_option maxHeartbeats 8000000 in
theorem days_impl (w : World) (v : Value) (l : List THall) (h : Sl w 3 v eHall l) (v1 v2 : Value) (H : List Int) (L : List TRow) (h1 : Sl w 1 v1 eI H) (h2 : SlR w v2 L) (vt : Value) (T : List Int) (ht : Sl w 1 vt eI T) (ok : HallsOk l H (rowsOf L)) (hT : tourOk l.length T = true) (hTl : T.length ≤ 1048576) :
    Calls Try.prog 71 #[v, .agg #[v1, v2], vt] w (GivesTD w l H (rowsOf L) T) := by
  have m0 := h.len
  have m1 := ht.len
  obtain ⟨A, c, rfl⟩ := h.slice
  obtain ⟨A1, c1, rfl⟩ := h1.slice
  obtain ⟨A2, c2, rfl⟩ := h2.1.slice
  obtain ⟨At, ct, rfl⟩ := ht.slice
  have hb := (Below.refl w.heap.size w).alloc (Nat.le_refl _) (.cells #[.slice A1 H.length c1, .slice A2 L.length c2] 28)
  have s0 := h.below hb
  have s1 := h1.below hb
  have s2 := h2.below hb
  have st := ht.below hb
  have p0 := new_cell w #[.slice A1 H.length c1, .slice A2 L.length c2] 28 0 _ rfl
  have p1 := new_cell w #[.slice A1 H.length c1, .slice A2 L.length c2] 28 1 _ rfl
  have hgz : w.heap.size < (w.alloc (.cells #[.slice A1 H.length c1, .slice A2 L.length c2] 28)).heap.size := by simp
  have HOK := hd ok
  have z6 := ok.six
  have HTO := hd hT
  have zH : l.length ≤ H.length := by have := ok.homes; omega
  have zL : l.length ≤ L.length := by have := ok.rows; rw [rowsOf_len] at this; omega
  have HRW := hd (fun j (hj : j < L.length) => (show L[j].2.length = l.length from by have := ok.row j (by have := ok.rows; rw [rowsOf_len] at this; omega); rwa [rowsOf_getD L j hj] at this))
  obtain ⟨i0, hi, hz0, hz1, hz2⟩ := info_parts info_i64
  clear h h1 h2 ht ok hT
  go_enter Try.func71, Try.ntmps71
  go_wp2_with fail
  generalize hw0 : w.alloc (.cells #[.slice A1 H.length c1, .slice A2 L.length c2] 28) = w0 at hb s0 s1 s2 st p0 p1 hgz ⊢
  have HZ := hd (show w0.heap.size = w.heap.size + 1 by rw [← hw0]; simp)
  clear hw0
  have OD : Own ((w0.alloc (.cells #[] 2)).alloc (.cells #[] 2)) w0.heap.size 2 1 (.slice (some ⟨w.heap.size + 1, 0, none⟩) 0 0) eI [] := by
    have := (Own.made0 w0 w0.heap.size 2 1 eI (Nat.le_refl _)).alloc (.cells #[] 2)
    rw [show (some (⟨w0.heap.size, 0, none⟩ : Addr)) = some ⟨w.heap.size + 1, 0, none⟩ from by rw [HZ.out]] at this
    exact this
  have OT : Own ((w0.alloc (.cells #[] 2)).alloc (.cells #[] 2)) w0.heap.size 2 1 (.slice (some ⟨w.heap.size + 1 + 1, 0, none⟩) 0 0) eI [] := by
    have := Own.made0 (w0.alloc (.cells #[] 2)) w0.heap.size 2 1 eI (by simp)
    rw [show (some (⟨(w0.alloc (.cells #[] 2)).heap.size, 0, none⟩ : Addr)) = some ⟨w.heap.size + 1 + 1, 0, none⟩ from by simp [HZ.out]] at this
    exact this
  have B00 := ((Below.refl w0.heap.size w0).alloc (Nat.le_refl _) (.cells #[] 2)).alloc (by simp) (.cells #[] 2)
  have HAP := hd (show apart (some (w.heap.size + 1)) (some (w.heap.size + 1 + 1)) from .inr (by simp))
  go_loopw [9, 10, 19] (fun dv tv i wr => ∃ k : Nat, k ≤ T.length ∧ i = .int .i64 k ∧ Hid (lateT l H (rowsOf L) (T.take k) = false) ∧ Own wr w0.heap.size 2 1 dv eI (showsT l H (rowsOf L) startT (T.take k)) ∧ Own wr w0.heap.size 2 1 tv eI (theresT l H (rowsOf L) startT (T.take k)) ∧ Hid (apart dv.ownBlock tv.ownBlock) ∧ Below w0.heap.size w0 wr) (fun _ _ i _ => T.length - (intOf i).toNat)
  case atStart => exact ⟨0, Nat.zero_le _, rfl, hd rfl, OD, OT, HAP, B00⟩
  case round =>
    obtain ⟨k, hk, rfl, HL, hD, hT', HA, hbel⟩ := hrel
    clear OD OT B00 HAP
    by_cases hlt : k < T.length
    case neg =>
      have HE := hd (show T.take k = T by rw [List.take_of_length_le (by omega)])
      rw [HE.out] at hD hT'
      have HF := hd (show lateT l H (rowsOf L) T = false by have := HL.out; rwa [HE.out] at this)
      have BF := below_step hb hbel
      go_wp2_with fail
      go_ret3
      exact .inr ⟨HF.out, _, _, rfl, hD.base hb.size, hT'.base hb.size, BF⟩
    obtain ⟨AD, cD, rfl⟩ := hD.slice
    obtain ⟨AT, cT, rfl⟩ := hT'.slice
    obtain ⟨j, hj, hjl⟩ := tourOk_at HTO.out k hlt
    have HBD := hd (run_bd HOK.out HTO.out k (by omega))
    have HRUN := hd (run_take (l := l) (H := H) (R := rowsOf L) hlt hj)
    have HSH := hd (shows_take (l := l) (H := H) (R := rowsOf L) hlt hj)
    have HTH := hd (theres_take (l := l) (H := H) (R := rowsOf L) hlt hj)
    obtain ⟨bt, ot, rfl, -, ct0⟩ := (st.below hbel).int_at hlt
    rw [hj] at ct0
    have q0 := (hbel.cell (p := ⟨w.heap.size, 0, none⟩) hgz).trans p0
    have q1 := (hbel.cell (p := ⟨w.heap.size, 1, none⟩) hgz).trans p1
    have hjH : j < H.length := by omega
    obtain ⟨bh, oh, rfl, -, ch⟩ := (s1.below hbel).int_at hjH
    obtain ⟨bl, ol, rfl, -, r0, r1, r2⟩ := (s0.below hbel).Hall_at hjl
    have HLA := hd (show hallAt l (j : Int) = l[j] by rw [hallAt_nat]; simp [hjl])
    have HDL := hd (show (showsT l H (rowsOf L) startT (T.take k)).length = k by rw [showsT_len, List.length_take]; omega)
    have HTL := hd (show (theresT l H (rowsOf L) startT (T.take k)).length = k by rw [theresT_len, List.length_take]; omega)
    have BF := below_step hb hbel
    obtain ⟨b1, b2, -, -⟩ := HBD.out
    obtain ⟨wy1, wy2⟩ := way_bd HOK.out HBD.out hjl
    obtain ⟨⟨a1, a2, a3⟩, -, -⟩ := HOK.out.hall j hjl
    rw [show l.getD j (0, 0, 0) = l[j] from by simp [hjl]] at a1 a2 a3
    have HWY := hd (⟨wy1, wy2⟩ : _ ∧ _)
    obtain ⟨bd1, bd2⟩ := b2
    have HLATE0 := hd (show l[j].2.1 < showT l H (rowsOf L) (runT l H (rowsOf L) startT (T.take k)) j → lateT l H (rowsOf L) (T.take (k + 1)) = true from fun q => by
      unfold lateT
      rw [HRUN.out]
      simp only [nextT, HLA.out, decide_eq_true q, Bool.or_true])
    have HONT0 := hd (show ¬ l[j].2.1 < showT l H (rowsOf L) (runT l H (rowsOf L) startT (T.take k)) j → lateT l H (rowsOf L) (T.take (k + 1)) = false from fun q => by
      have hl := HL.out
      unfold lateT at hl ⊢
      rw [HRUN.out]
      simp only [nextT, HLA.out, decide_eq_false q, Bool.or_false]
      exact hl)
    have HSHOW := hd (show showT l H (rowsOf L) (runT l H (rowsOf L) startT (T.take k)) j = max (thereT H (rowsOf L) (runT l H (rowsOf L) startT (T.take k)) j) l[j].1 by unfold showT; rw [HLA.out])
    have HTHR := hd (show thereT H (rowsOf L) (runT l H (rowsOf L) startT (T.take k)) j = (runT l H (rowsOf L) startT (T.take k)).2.1 + way H (rowsOf L) (runT l H (rowsOf L) startT (T.take k)).1 j from rfl)
    clear wy1 wy2 HLA HRUN
    generalize l[j] = x at r0 r1 r2 a1 a2 a3 HLATE0 HONT0 HSHOW
    obtain ⟨fa, fl, fi⟩ := x
    dsimp only at r0 r1 r2 a1 a2 a3 HLATE0 HONT0 HSHOW
    rcases Nat.eq_zero_or_pos k with hk0 | hkp
    · have hwy := way_home (H := H) (R := rowsOf L) (p := (runT l H (rowsOf L) startT (T.take k)).1) (by rw [hk0]; show (-1 : Int) < 0; omega) hjH
      have HTHERE := hd (show thereT H (rowsOf L) (runT l H (rowsOf L) startT (T.take k)) j = H[j] by rw [HTHR.out, hwy, hk0]; exact Int.zero_add _)
      have hd30 : 0 ≤ H[j] ∧ H[j] ≤ 30 := by have := HWY.out; rwa [hwy] at this
      have hz : decide ((0 : Int) < (k : Int)) = false := by simp [hk0]
      have hz' : decide (0 < k) = false := by simp [hk0]
      have hk1 : (k : Int) ≤ 0 := by omega
      clear hwy hk0 HTHR
      generalize H[j] = d at ch HTHERE hd30
      obtain ⟨hd0, hd1⟩ := hd30
      generalize showT l H (rowsOf L) (runT l H (rowsOf L) startT (T.take k)) j = sh at HSHOW HSH HLATE0 HONT0
      generalize thereT H (rowsOf L) (runT l H (rowsOf L) startT (T.take k)) j = th at HSHOW HTHERE HTH
      generalize showsT l H (rowsOf L) startT (T.take k) = D at hD HSH HDL HA ⊢
      generalize theresT l H (rowsOf L) startT (T.take k) = U at hT' HTH HTL HA ⊢
      have hDl : D.length ≤ 1048576 := by have := HDL.out; omega
      have hUl : U.length ≤ 1048576 := by have := HTL.out; omega
      by_cases hmx : fa ≤ d
      · have HDAY := hd (show sh = d by rw [HSHOW.out, HTHERE.out]; omega)
        have HLATE := hd (show fl < d → lateT l H (rowsOf L) (T.take (k + 1)) = true by have := HLATE0.out; rwa [HDAY.out] at this)
        have HONTIME := hd (show d ≤ fl → lateT l H (rowsOf L) (T.take (k + 1)) = false by have := HONT0.out; rw [HDAY.out] at this; exact fun q => this (by omega))
        clear HLATE0 HONT0 HSHOW
        by_cases hlate : fl < d
        case pos =>
          have HF := hd (lateT_take (HLATE.out hlate))
          go_wp2_with fail
          go_ret3
          exact .inl ⟨HF.out, rfl, BF⟩
        have hlate2 : d ≤ fl := by omega
        have HOKL := hd (HONTIME.out hlate2)
        clear hlate
        have BB1 := hbel
        go_wp2_with (at_builtin; refine wpList_push_at _ rfl (.tmp 64) (.tmp 66) 25 rfl i0 (.int .i64 0) 8 Try.underlying25 hi hz0 hz1 hz2 rfl (by decide) _ _ (d) rfl (hD.alloc _) wr.heap.size rfl #[.int .i64 (d)] 2 (heap_alloc_new _ _) rfl rfl (by intro u hu; simp [eI] at hu; subst hu; rfl) (by unfold maxLen; omega) (by omega) (by have := BB1.size; simp; omega) ?_)
        intro vd w2 hD2 hg2 hbd
        have hT2 := (hT'.alloc (.cells #[.int .i64 (d)] 2)).grown hg2 (apart_symm HA.out)
        have BB2 := (hbel.alloc hbel.size (.cells #[.int .i64 (d)] 2)).grown hg2 (by have := hbel.size; simp; omega) (fun g hg => (hD.lt g hg).1)
        have HA2 := hd (apart_push HA.out (by simpa using hbd) (fun g hg => by have := (hT'.lt g hg).2; omega))
        clear hg2 hbd hT'
        go_wp2_with (at_builtin; refine wpList_push_at _ rfl (.tmp 68) (.tmp 70) 25 rfl i0 (.int .i64 0) 8 Try.underlying25 hi hz0 hz1 hz2 rfl (by decide) _ _ (d) rfl (hT2.alloc _) w2.heap.size rfl #[.int .i64 (d)] 2 (heap_alloc_new _ _) rfl rfl (by intro u hu; simp [eI] at hu; subst hu; rfl) (by unfold maxLen; omega) (by omega) (by have := BB2.size; simp; omega) ?_)
        intro vt2 w3 hT3 hg3 hbt
        have hD3 := (hD2.alloc (.cells #[.int .i64 (d)] 2)).grown hg3 HA2.out
        have BB3 := (BB2.alloc BB2.size (.cells #[.int .i64 (d)] 2)).grown hg3 (by have := BB2.size; simp; omega) (fun g hg => (hT2.lt g hg).1)
        have HA3 := hd (apart_symm (apart_push (apart_symm HA2.out) (by simpa using hbt) (fun g hg => by have := (hD2.lt g hg).2; omega)))
        clear hg3 hbt hD2 hT2 hD
        go_wp2_with fail
        go_roundw
        case rel => exact ⟨k + 1, by omega, by go_num, HOKL, by rw [HSH.out, HDAY.out]; exact hD3, by rw [HTH.out, HTHERE.out]; exact hT3, HA3, BB3⟩
        case measure => simp [intOf]; omega
      · have hmx' : d < fa := by omega
        clear hmx
        have HDAY := hd (show sh = fa by rw [HSHOW.out, HTHERE.out]; omega)
        have HLATE := hd (show fl < fa → lateT l H (rowsOf L) (T.take (k + 1)) = true by have := HLATE0.out; rwa [HDAY.out] at this)
        have HONTIME := hd (show fa ≤ fl → lateT l H (rowsOf L) (T.take (k + 1)) = false by have := HONT0.out; rw [HDAY.out] at this; exact fun q => this (by omega))
        clear HLATE0 HONT0 HSHOW
        by_cases hlate : fl < fa
        case pos =>
          exfalso
          omega
        have hlate2 : fa ≤ fl := by omega
        have HOKL := hd (HONTIME.out hlate2)
        clear hlate
        have BB1 := hbel
        go_wp2_with (at_builtin; refine wpList_push_at _ rfl (.tmp 64) (.tmp 66) 25 rfl i0 (.int .i64 0) 8 Try.underlying25 hi hz0 hz1 hz2 rfl (by decide) _ _ (fa) rfl (hD.alloc _) wr.heap.size rfl #[.int .i64 (fa)] 2 (heap_alloc_new _ _) rfl rfl (by intro u hu; simp [eI] at hu; subst hu; rfl) (by unfold maxLen; omega) (by omega) (by have := BB1.size; simp; omega) ?_)
        intro vd w2 hD2 hg2 hbd
        have hT2 := (hT'.alloc (.cells #[.int .i64 (fa)] 2)).grown hg2 (apart_symm HA.out)
        have BB2 := (hbel.alloc hbel.size (.cells #[.int .i64 (fa)] 2)).grown hg2 (by have := hbel.size; simp; omega) (fun g hg => (hD.lt g hg).1)
        have HA2 := hd (apart_push HA.out (by simpa using hbd) (fun g hg => by have := (hT'.lt g hg).2; omega))
        clear hg2 hbd hT'
        go_wp2_with (at_builtin; refine wpList_push_at _ rfl (.tmp 68) (.tmp 70) 25 rfl i0 (.int .i64 0) 8 Try.underlying25 hi hz0 hz1 hz2 rfl (by decide) _ _ (d) rfl (hT2.alloc _) w2.heap.size rfl #[.int .i64 (d)] 2 (heap_alloc_new _ _) rfl rfl (by intro u hu; simp [eI] at hu; subst hu; rfl) (by unfold maxLen; omega) (by omega) (by have := BB2.size; simp; omega) ?_)
        intro vt2 w3 hT3 hg3 hbt
        have hD3 := (hD2.alloc (.cells #[.int .i64 (d)] 2)).grown hg3 HA2.out
        have BB3 := (BB2.alloc BB2.size (.cells #[.int .i64 (d)] 2)).grown hg3 (by have := BB2.size; simp; omega) (fun g hg => (hT2.lt g hg).1)
        have HA3 := hd (apart_symm (apart_push (apart_symm HA2.out) (by simpa using hbt) (fun g hg => by have := (hD2.lt g hg).2; omega)))
        clear hg3 hbt hD2 hT2 hD
        go_wp2_with fail
        go_roundw
        case rel => exact ⟨k + 1, by omega, by go_num, HOKL, by rw [HSH.out, HDAY.out]; exact hD3, by rw [HTH.out, HTHERE.out]; exact hT3, HA3, BB3⟩
        case measure => simp [intOf]; omega
    · obtain ⟨m, rfl⟩ : ∃ m, k = m + 1 := ⟨k - 1, by omega⟩
      have hmT : m < T.length := by omega
      obtain ⟨i, hi', hil⟩ := tourOk_at HTO.out m hmT
      obtain ⟨s, hs1, hs2, hs3⟩ := prev_show (l := l) (H := H) (R := rowsOf L) hmT hi'
      have hiL : i < L.length := by omega
      have hjr : j < L[i].2.length := by rw [HRW.out i hiL]; exact hjl
      have hwy := way_road (H := H) (L := L) hs3 hiL hjr
      obtain ⟨bt1, ot1, hA1, -, ct1⟩ := (st.below hbel).int_at hmT
      injection hA1 with hA1
      injection hA1 with e1 e2 _
      subst e1 e2
      rw [hi'] at ct1
      have HTHERE := hd (show thereT H (rowsOf L) (runT l H (rowsOf L) startT (T.take (m + 1))) j = s + 1 + L[i].2[j] by rw [HTHR.out, hwy, hs2])
      have hd30 : 0 ≤ L[i].2[j] ∧ L[i].2[j] ≤ 30 := by have := HWY.out; rwa [hwy] at this
      have hs4 : 0 ≤ s + 1 ∧ s + 1 ≤ 366 + 31 * ((m + 1 : Nat) : Int) := by rw [hs2]; exact ⟨bd1, bd2⟩
      obtain ⟨br, orr, rfl, -, cr, srow⟩ := (s2.below hbel).row_at hiL
      have HRL := hd (show l.length ≤ L[i].2.length from Nat.le_of_eq (HRW.out i hiL).symm)
      have mrow := srow.len
      have hDm := HDL.out
      have hmD : m < (showsT l H (rowsOf L) startT (T.take (m + 1))).length := by omega
      obtain ⟨bd', od', rfl, -, cd'⟩ := (hD.sl eI_len).int_at hmD
      have hsm : (showsT l H (rowsOf L) startT (T.take (m + 1)))[m] = s := by
        rw [List.getElem?_eq_getElem hmD] at hs1
        exact Option.some.inj hs1
      rw [hsm] at cd'
      clear hsm hs1 hs2 hs3 hwy HTHR hi' hDm HBD HWY
      generalize L[i] = X at cr srow hjr HTHERE hd30 HRL mrow
      obtain ⟨rv, rl⟩ := X
      dsimp only at cr srow hjr HTHERE hd30 HRL mrow
      obtain ⟨Ar, cr', rfl⟩ := srow.slice
      obtain ⟨bq, oq, rfl, -, cq⟩ := srow.int_at hjr
      generalize rl[j] = d at cq HTHERE hd30
      obtain ⟨hd0, hd1⟩ := hd30
      obtain ⟨hs5, hs6⟩ := hs4
      have hz : decide ((0 : Int) < ((m + 1 : Nat) : Int)) = true := decide_eq_true (by omega)
      generalize showT l H (rowsOf L) (runT l H (rowsOf L) startT (T.take (m + 1))) j = sh at HSHOW HSH HLATE0 HONT0
      generalize thereT H (rowsOf L) (runT l H (rowsOf L) startT (T.take (m + 1))) j = th at HSHOW HTHERE HTH
      generalize showsT l H (rowsOf L) startT (T.take (m + 1)) = D at hD HSH HDL HA hmD ⊢
      generalize theresT l H (rowsOf L) startT (T.take (m + 1)) = U at hT' HTH HTL HA ⊢
      have hDl : D.length ≤ 1048576 := by have := HDL.out; omega
      have hUl : U.length ≤ 1048576 := by have := HTL.out; omega
      have gq0 := gro_cell q0
      have gq1 := gro_cell q1
      have gct0 := gro_cell ct0
      have gct1 := gro_cell ct1
      have gcr := gro_cell cr
      have gcq := gro_cell cq
      have gcd := gro_cell cd'
      have hmi : ((m : Int) + 1 - 1) = (m : Int) := by omega
      go_wp2_with fail
      refine wp_region_calm (by kernel_rfl) (by kernel_rfl) ?_
      repeat (first | go_big_quiet_step (fail) | quiet_step (fail))
      refine wpQuiet_nil ?_
      rintro w1 ⟨x, hw⟩
      have e1 := hD.below (gro_below x) (Nat.le_refl _)
      have e2 := hT'.below (gro_below x) (Nat.le_refl _)
      have e3 := gro_cell r0 x
      have e4 := gro_cell r1 x
      have e5 := below_step hbel (gro_below x)
      rw [← hw] at e1 e2 e3 e4 e5
      replace hD := e1
      replace hT' := e2
      replace r0 := e3
      replace r1 := e4
      replace hbel := e5
      clear e1 e2 e3 e4 e5 hw
      clear gq0 gq1 gct0 gct1 gcr gcq gcd q0 q1 ct0 ct1 cr cq cd' srow ch
      have BF2 := below_step hb hbel
      generalize hAR : s + 1 + d = ar at HTHERE ⊢
      have har0 : 0 ≤ ar := by omega
      have har1 : ar ≤ 1000000000 := by omega
      clear hAR
      by_cases hmx : fa ≤ ar
      · have HDAY := hd (show sh = ar by rw [HSHOW.out, HTHERE.out]; omega)
        have HLATE := hd (show fl < ar → lateT l H (rowsOf L) (T.take (m + 1 + 1)) = true by have := HLATE0.out; rwa [HDAY.out] at this)
        have HONTIME := hd (show ar ≤ fl → lateT l H (rowsOf L) (T.take (m + 1 + 1)) = false by have := HONT0.out; rw [HDAY.out] at this; exact fun q => this (by omega))
        clear HLATE0 HONT0 HSHOW
        by_cases hlate : fl < ar
        case pos =>
          have HF := hd (lateT_take (HLATE.out hlate))
          go_wp2_with fail
          go_ret3
          exact .inl ⟨HF.out, rfl, BF2⟩
        have hlate2 : ar ≤ fl := by omega
        have HOKL := hd (HONTIME.out hlate2)
        clear hlate
        have BB1 := hbel
        go_wp2_with (at_builtin; refine wpList_push_at _ rfl (.tmp 64) (.tmp 66) 25 rfl i0 (.int .i64 0) 8 Try.underlying25 hi hz0 hz1 hz2 rfl (by decide) _ _ (ar) rfl (hD.alloc _) w1.heap.size rfl #[.int .i64 (ar)] 2 (heap_alloc_new _ _) rfl rfl (by intro u hu; simp [eI] at hu; subst hu; rfl) (by unfold maxLen; omega) (by omega) (by have := BB1.size; simp; omega) ?_)
        intro vd w2 hD2 hg2 hbd
        have hT2 := (hT'.alloc (.cells #[.int .i64 (ar)] 2)).grown hg2 (apart_symm HA.out)
        have BB2 := (hbel.alloc hbel.size (.cells #[.int .i64 (ar)] 2)).grown hg2 (by have := hbel.size; simp; omega) (fun g hg => (hD.lt g hg).1)
        have HA2 := hd (apart_push HA.out (by simpa using hbd) (fun g hg => by have := (hT'.lt g hg).2; omega))
        clear hg2 hbd hT'
        go_wp2_with (at_builtin; refine wpList_push_at _ rfl (.tmp 68) (.tmp 70) 25 rfl i0 (.int .i64 0) 8 Try.underlying25 hi hz0 hz1 hz2 rfl (by decide) _ _ (ar) rfl (hT2.alloc _) w2.heap.size rfl #[.int .i64 (ar)] 2 (heap_alloc_new _ _) rfl rfl (by intro u hu; simp [eI] at hu; subst hu; rfl) (by unfold maxLen; omega) (by omega) (by have := BB2.size; simp; omega) ?_)
        intro vt2 w3 hT3 hg3 hbt
        have hD3 := (hD2.alloc (.cells #[.int .i64 (ar)] 2)).grown hg3 HA2.out
        have BB3 := (BB2.alloc BB2.size (.cells #[.int .i64 (ar)] 2)).grown hg3 (by have := BB2.size; simp; omega) (fun g hg => (hT2.lt g hg).1)
        have HA3 := hd (apart_symm (apart_push (apart_symm HA2.out) (by simpa using hbt) (fun g hg => by have := (hD2.lt g hg).2; omega)))
        clear hg3 hbt hD2 hT2 hD
        go_wp2_with fail
        go_roundw
        case rel => exact ⟨m + 1 + 1, by omega, by go_num, HOKL, by rw [HSH.out, HDAY.out]; exact hD3, by rw [HTH.out, HTHERE.out]; exact hT3, HA3, BB3⟩
        case measure => simp [intOf]; omega
      · have hmx' : ar < fa := by omega
        clear hmx
        have HDAY := hd (show sh = fa by rw [HSHOW.out, HTHERE.out]; omega)
        have HONTIME := hd (show fa ≤ fl → lateT l H (rowsOf L) (T.take (m + 1 + 1)) = false by have := HONT0.out; rw [HDAY.out] at this; exact fun q => this (by omega))
        clear HLATE0 HONT0 HSHOW
        by_cases hlate : fl < fa
        case pos =>
          exfalso
          omega
        have hlate2 : fa ≤ fl := by omega
        have HOKL := hd (HONTIME.out hlate2)
        clear hlate
        have BB1 := hbel
        go_wp2_with (at_builtin; refine wpList_push_at _ rfl (.tmp 64) (.tmp 66) 25 rfl i0 (.int .i64 0) 8 Try.underlying25 hi hz0 hz1 hz2 rfl (by decide) _ _ (fa) rfl (hD.alloc _) w1.heap.size rfl #[.int .i64 (fa)] 2 (heap_alloc_new _ _) rfl rfl (by intro u hu; simp [eI] at hu; subst hu; rfl) (by unfold maxLen; omega) (by omega) (by have := BB1.size; simp; omega) ?_)
        intro vd w2 hD2 hg2 hbd
        have hT2 := (hT'.alloc (.cells #[.int .i64 (fa)] 2)).grown hg2 (apart_symm HA.out)
        have BB2 := (hbel.alloc hbel.size (.cells #[.int .i64 (fa)] 2)).grown hg2 (by have := hbel.size; simp; omega) (fun g hg => (hD.lt g hg).1)
        have HA2 := hd (apart_push HA.out (by simpa using hbd) (fun g hg => by have := (hT'.lt g hg).2; omega))
        clear hg2 hbd hT'
        go_wp2_with (at_builtin; refine wpList_push_at _ rfl (.tmp 68) (.tmp 70) 25 rfl i0 (.int .i64 0) 8 Try.underlying25 hi hz0 hz1 hz2 rfl (by decide) _ _ (ar) rfl (hT2.alloc _) w2.heap.size rfl #[.int .i64 (ar)] 2 (heap_alloc_new _ _) rfl rfl (by intro u hu; simp [eI] at hu; subst hu; rfl) (by unfold maxLen; omega) (by omega) (by have := BB2.size; simp; omega) ?_)
        intro vt2 w3 hT3 hg3 hbt
        have hD3 := (hD2.alloc (.cells #[.int .i64 (ar)] 2)).grown hg3 HA2.out
        have BB3 := (BB2.alloc BB2.size (.cells #[.int .i64 (ar)] 2)).grown hg3 (by have := BB2.size; simp; omega) (fun g hg => (hT2.lt g hg).1)
        have HA3 := hd (apart_symm (apart_push (apart_symm HA2.out) (by simpa using hbt) (fun g hg => by have := (hD2.lt g hg).2; omega)))
        clear hg3 hbt hD2 hT2 hD
        go_wp2_with fail
        go_roundw
        case rel => exact ⟨m + 1 + 1, by omega, by go_num, HOKL, by rw [HSH.out, HDAY.out]; exact hD3, by rw [HTH.out, HTHERE.out]; exact hT3, HA3, BB3⟩
        case measure => simp [intOf]; omega
end Go.Proofs.Ytlgcehdklpbknaa
