/- Lemmas for the claim (the walks of its functions and their plain laws), joined. No condition. -/
import Derived.Test.YtgcodjkjdfahdaaGreatDoorJ24
import Derived.Maps.AppendAt
import Derived.Deep.RegionLaw
namespace Go.Proofs.YtgcodjkjdfahdaaGreatDoor
open Go Go.RowKit Go.ChangeShapes Go.WideShapes
set_option linter.unusedSimpArgs false
set_option linter.unusedVariables false
def Rs (W : World) (g : Nat) (s : ByteArray) (v : Value) (st : Int) (n : Nat) : Prop := g < W.heap.size ∧ (W.cell? ⟨g, 0, none⟩ = some (.string s) ∧ W.cell? ⟨g, 1, none⟩ = some (.int .i64 (n : Int)) ∧ W.cell? ⟨g, 2, none⟩ = some (.int .i64 st) ∧ W.cell? ⟨g, 3, none⟩ = some v) ∧ W.frozen? ⟨g, 1, none⟩ = false ∧ W.frozen? ⟨g, 2, none⟩ = false ∧ W.frozen? ⟨g, 3, none⟩ = false
theorem Rs.below {W W' : World} {C g n : Nat} {s : ByteArray} {v : Value} {st : Int} (x : Rs W g s v st n) (hC : g < C) (hb : Below C W W') : Rs W' g s v st n := by
  obtain ⟨h0, ⟨c0, c1, c2, c3⟩, f1, f2, f3⟩ := x
  exact ⟨Nat.lt_of_lt_of_le h0 hb.size, ⟨(hb.cell (p := ⟨g, 0, none⟩) hC).trans c0, (hb.cell (p := ⟨g, 1, none⟩) hC).trans c1, (hb.cell (p := ⟨g, 2, none⟩) hC).trans c2, (hb.cell (p := ⟨g, 3, none⟩) hC).trans c3⟩, (hb.frozen (p := ⟨g, 1, none⟩) hC).trans f1, (hb.frozen (p := ⟨g, 2, none⟩) hC).trans f2, (hb.frozen (p := ⟨g, 3, none⟩) hC).trans f3⟩
theorem rs_set {N : World} {g n n' : Nat} {s : ByteArray} {v v' : Value} {st st' : Int} (x : Rs N g s v st n) : Rs (((N.setCell ⟨g, 3, none⟩ v').setCell ⟨g, 2, none⟩ (.int .i64 st')).setCell ⟨g, 1, none⟩ (.int .i64 (n' : Int))) g s v' st' n' := by
  obtain ⟨h0, ⟨c0, c1, c2, c3⟩, f1, f2, f3⟩ := x
  refine ⟨?_, ⟨?_, ?_, ?_, ?_⟩, ?_, ?_, ?_⟩
  · exact Nat.lt_of_lt_of_le h0 ((((Below.refl 0 N).setCell (p := ⟨g, 3, none⟩) (Nat.zero_le _) _).setCell (p := ⟨g, 2, none⟩) (Nat.zero_le _) _).setCell (p := ⟨g, 1, none⟩) (Nat.zero_le _) _).size
  all_goals go_simp
theorem rs_below {w W : World} {g B : Nat} (hb : Below B w W) (hB : B ≤ g) (a b c : Value) : Below B w (((W.setCell ⟨g, 3, none⟩ a).setCell ⟨g, 2, none⟩ b).setCell ⟨g, 1, none⟩ c) :=
  ((hb.setCell (p := ⟨g, 3, none⟩) hB _).setCell (p := ⟨g, 2, none⟩) hB _).setCell (p := ⟨g, 1, none⟩) hB _
theorem own_rs {w : World} {B E k g : Nat} {v : Value} {α : Type} {enc : α → List Value} {l : List α} (hO : Own w B E k v enc l) (hne : v.ownBlock = none ∨ v.ownBlock ≠ some g) (a b c : Value) : Own (((w.setCell ⟨g, 3, none⟩ a).setCell ⟨g, 2, none⟩ b).setCell ⟨g, 1, none⟩ c) B E k v enc l :=
  hO.grown (grownBy_trans (grownBy_trans (grownBy_set w ⟨g, 3, none⟩ a) (grownBy_set _ ⟨g, 2, none⟩ b)) (grownBy_set _ ⟨g, 1, none⟩ c)) hne
theorem rs_grown {W W' : World} {g n : Nat} {s : ByteArray} {v : Value} {st : Int} {row : Option Nat} (x : Rs W g s v st n) (hg : W.grownBy W' row) (hne : row = none ∨ row ≠ some g) : Rs W' g s v st n := by
  obtain ⟨h0, ⟨c0, c1, c2, c3⟩, f1, f2, f3⟩ := x
  have hb : W'.heap[g]? = W.heap[g]? := hg.block g h0 (by
    intro e
    rcases hne with h | h
    · rw [h] at e; cases e
    · exact h e.symm)
  exact ⟨Nat.lt_of_lt_of_le h0 hg.size, ⟨(World.cell?_of_block (w := W) (a := ⟨g, 0, none⟩) hb).trans c0, (World.cell?_of_block (w := W) (a := ⟨g, 1, none⟩) hb).trans c1, (World.cell?_of_block (w := W) (a := ⟨g, 2, none⟩) hb).trans c2, (World.cell?_of_block (w := W) (a := ⟨g, 3, none⟩) hb).trans c3⟩, (World.frozen?_of_block (w := W) (a := ⟨g, 1, none⟩) hb).trans f1, (World.frozen?_of_block (w := W) (a := ⟨g, 2, none⟩) hb).trans f2, (World.frozen?_of_block (w := W) (a := ⟨g, 3, none⟩) hb).trans f3⟩
theorem step_push {P : Program} {α : Type} {enc : α → List Value} {k : Nat} (w : World) {ops : Array Oper} {o : Oper} {a : Act} {K : Act → World → Prop} {Q : Exit → Act → World → Prop} {X : Prop} (hgd : o.guard = none) (s x : Operand) (t : TypeId)
    (ho : o.op = .call { callee := .builtin .append, args := #[s, x], argTypes := #[t, t] })
    {B E : Nat} (i : TypeInfo) (z : Value) (bytes : Nat) (ht : P.underlying t = some (.slice E)) (hi : P.info? E = some i) (hz : i.zero = some z)
    (hsize : i.size = k) (hby : i.bytes = bytes) (hzs : z.cells.size = k) (hsz : 0 < k)
    (v : Value) (l : List α) (y : α) (hs : a.eval s = v) (hown : Own w B E k v enc l)
    (g : Nat) (hx : a.eval x = .slice (some ⟨g, 0, none⟩) 1 1) (cs : Array Value) (E' : TypeId) (hg : w.heap[g]? = some (.cells cs E' (0, 0))) (hcs : cs.toList = enc y) (hlen : (enc y).length = k) (h1 : ∀ u ∈ enc y, u.oneCell' = true)
    (h63 : l.length + 1 ≤ maxLen) (hbytes : (l.length + 1) * bytes ≤ 140737488355328) (hbase : B ≤ w.heap.size)
    (h : ∀ v' w', Own w' B E k v' enc (l ++ [y]) → w.grownBy w' v.ownBlock → (v'.ownBlock = v.ownBlock ∨ v'.ownBlock = some w.heap.size) → K (a.put o.dst v') w') :
    if Region.wanted o (yielded ops a.tmps) = true then Oper.wp P o a w K Q else X := by
  have hw : Region.wanted o (yielded ops a.tmps) = true := by simp [Region.wanted, hgd]
  rw [if_pos hw]
  obtain ⟨v', w', hr, h2, h3, -, h4⟩ := run_append_own_at (P := P) (w := w) B t o.type E i z k bytes ht hi hz hsize hby hzs hsz v l.length (l.flatMap enc) hown ⟨g, 0, none⟩ 1 1 (enc y) (by simpa using hlen) (fun j u hu => by
    have hadd : (⟨g, 0, none⟩ : Addr).add j = ⟨g, j, none⟩ := by unfold Addr.add; split <;> simp_all
    rw [hadd, cell_of_row w g j cs E' (0, 0) hg, ← hu, ← hcs]
    simp) h1 h63 hbytes hbase
  unfold Oper.wp execOp
  simp only [ho, resolve, invoke, builtin, Sem.run_bind, Sem.run_pure, Result.andThen_ok, List.map_toArray, List.map_cons, List.map_nil, hs, hx, hr]
  exact h v' w' (by unfold Own; simpa using h2) h3 h4
theorem split32_spec (w : World) (s : ByteArray) (hs : s.size ≤ 1048576) :
    Calls Tryz.prog 38 #[.string s, .int .u8 32] w fun e w' => ∃ v, e = .returned v ∧ Own w' w.heap.size 9 1 v eS (partsB 32 s) ∧ Below w.heap.size w w' := split_spec w s 32 hs
set_option maxRecDepth 100000 in
theorem day_log (w : World) (g : Nat) (v : Value) (l : List TEntry) (c3 : w.cell? ⟨g, 3, none⟩ = some v) (h : Sl w 3 v eEntry l) :
    Calls Tryz.prog 224 #[.pointer (some ⟨g, 0, none⟩)] w fun e w' => e = .returned (.int .i64 (dayOf l)) ∧ ∃ n, w' = w.drewN n := by
  have hl := h.len
  obtain ⟨A, cc, rfl⟩ := h.isSlice
  by_cases hm : l.length = 0
  · have HD := hd (dayOf_nil hm)
    have kz : ((l.length : Int) == 0) = true := by rw [hm]; rfl
    clear hm
    go_enter Tryz.func224, Tryz.ntmps224
    go_wp2_with fail
    go_ret
    exact ⟨by rw [HD.out]; rfl, 0, rfl⟩
  · obtain ⟨m, hm1⟩ : ∃ m, l.length = m + 1 := ⟨l.length - 1, by omega⟩
    have hdl := dayOf_last hm1
    obtain ⟨bl, ol, hA, hbl, p0, -, -⟩ := h.Entry_at (show l.length - 1 < l.length by omega)
    have hdl2 : (l[l.length - 1]'(by omega)).1 = dayOf l := by rw [hdl]; congr 1; simp [hm1]
    rw [hdl2] at p0
    subst hA
    have hlt1 : l.length - 1 < l.length := by omega
    have hkp : 0 < l.length := by omega
    clear hdl hdl2 hm1
    generalize dayOf l = δ at p0 ⊢
    go_enter Tryz.func224, Tryz.ntmps224
    go_wp2_with fail
    go_quiet (fail)
    go_wp2_with fail
    go_ret
    exact ⟨rfl, nq, rfl⟩
def LineGives (w : World) (s : ByteArray) (B g : Nat) (T : LS) (e : Ending) (w' : World) : Prop :=
  ∃ T' v', (nextL s T = some T' ∧ e = .returned (.bool true) ∨ (nextL s T = none ∧ T' = T) ∧ e = .returned (.bool false)) ∧ Rs w' g s v' T'.st T'.at_ ∧ Own w' B 130 3 v' eEntry T'.l ∧ (v'.ownBlock = none ∨ v'.ownBlock ≠ some g) ∧ Below B w w'
set_option maxRecDepth 100000 in
set_option maxHeartbeats 16000000 in
theorem line_log (w : World) (s : ByteArray) (hs : s.size ≤ 1048576) (B g : Nat) (T : LS) (v : Value) (HOW : Hid (OnWay s T)) (q1 : T.at_ ≤ s.size) (q2 : T.l.length ≤ T.at_) (q3 : 0 ≤ T.st) (q4 : T.st ≤ 65518) (R : Rs w g s v T.st T.at_) (O : Own w B 130 3 v eEntry T.l) (hne : v.ownBlock = none ∨ v.ownBlock ≠ some g) (hB : B ≤ g) :
    Calls Tryz.prog 212 #[.pointer (some ⟨g, 0, none⟩)] w (LineGives w s B g T) := by
  obtain ⟨i0, hi, hz0, hz1, hz2⟩ : ∃ i, Tryz.prog.info? 130 = some i ∧ i.zero = some (.agg #[.int .i64 0, .string ByteArray.empty, .int .i64 0]) ∧ i.size = 3 ∧ i.bytes = 32 := by
    have hh := info_EntryI
    rcases q : Tryz.prog.info? 130 with _ | i
    · simp [q] at hh
    · simp [q] at hh
      exact ⟨i, rfl, hh.1, hh.2.1, hh.2.2⟩
  obtain ⟨A, cc, rfl⟩ := O.isSlice
  have HNONE := hd (show ∀ w', nextL s T = none → Below w.heap.size w w' → LineGives w s B g T (.returned (.bool false)) w' from fun w' hn hb => ⟨T, _, .inr ⟨⟨hn, rfl⟩, rfl⟩, R.below R.1 hb, O.below hb (Nat.le_refl _), hne, hb.mono (Nat.le_trans hB (Nat.le_of_lt R.1))⟩)
  obtain ⟨r0, ⟨c0, c1, c2, c3⟩, f1, f2, f3⟩ := id R
  have HC := hd (fun (i : Nat) (hi : i < s.size) => (show (((s[i]'hi).toNat : Int) != 10) = !decide (s[i]'hi = 10) by
    rw [Bool.eq_iff_iff]
    simp only [bne_iff_ne, Bool.not_eq_true', decide_eq_false_iff_not, ne_eq]
    constructor
    · intro e h; exact e (by rw [h]; rfl)
    · intro e h; exact e (UInt8.toNat_inj.1 (show (s[i]'hi).toNat = 10 by omega))))
  go_enter Tryz.func212, Tryz.ntmps212
  go_wp2_with fail
  go_loop [3] (fun ev => ∃ k : Nat, ev = .int .i64 (k : Int) ∧ T.at_ ≤ k ∧ k ≤ s.size ∧ Hid (∀ i (hi : i < s.size), T.at_ ≤ i → i < k → ¬ s[i]'hi = 10)) (fun ev => s.size - (intOf ev).toNat)
  case atStart => exact ⟨T.at_, rfl, Nat.le_refl _, q1, hd (fun i _ h1 h2 => by omega)⟩
  case round =>
    obtain ⟨k, rfl, k1, k2, HK⟩ := hrel
    by_cases hlt : k < s.size
    case neg =>
      obtain rfl : k = s.size := by omega
      have HL := hd (lineAt_end (s := s) (at_ := T.at_) (fun i hi h1 => HK.out i hi h1 hi))
      clear HC HK
      go_wp2_with fail
      go_ret
      exact HNONE.out _ (nextL_none HL.out) (Below.refl _ _)
    rcases q : decide (s[k]'hlt = 10) with _ | _
    · have q2' : (((s[k]'hlt).toNat : Int) != 10) = true := by rw [HC.out, q]; rfl
      have HK2 := hd (show ∀ i (hi : i < s.size), T.at_ ≤ i → i < k + 1 → ¬ s[i]'hi = 10 from fun i hi h1 h2 => by
        by_cases e : i = k
        · subst e; exact of_decide_eq_false q
        · exact HK.out i hi h1 (by omega))
      clear q HC HK
      go_wp2_with fail
      go_round
      case rel => exact ⟨k + 1, by go_num, by omega, by omega, HK2⟩
      case measure => simp [intOf]; omega
    have q2' : (((s[k]'hlt).toNat : Int) != 10) = false := by rw [HC.out, q]; rfl
    have HL := hd (lineAt_hit k1 hlt HK.out (of_decide_eq_true q))
    clear q HC HK
    go_wp2_with fail
    obtain ⟨line, hline⟩ : ∃ line, s.extract T.at_ k = line := ⟨_, rfl⟩
    have hz1k : line.size + T.at_ = k := by rw [← hline, ByteArray.size_extract]; omega
    have hlz : line.size ≤ 1048576 := by omega
    have HL2 := hd (show lineAt s T.at_ = some line by rw [← hline]; exact HL.out)
    have HX := hd hline
    have HEX := hd (extract_line HL2.out)
    clear HL hline
    have HS := hd (show ∀ ww, Below w.heap.size w ww → ww.cell? ⟨g, 0, none⟩ = some (.string s) ∧ ww.cell? ⟨g, 1, none⟩ = some (.int .i64 (T.at_ : Int)) from fun ww K => ⟨(K.cell (p := ⟨g, 0, none⟩) r0).trans c0, (K.cell (p := ⟨g, 1, none⟩) r0).trans c1⟩)
    have K := Below.refl w.heap.size w
    clear c2 c3 f1 f2 f3
    have c0' := hd c0
    have c1' := hd c1
    clear c0 c1
    go_region_held3 (fun ww => ww.cell? ⟨g, 0, none⟩ = some (.string s) ∧ ww.cell? ⟨g, 1, none⟩ = some (.int .i64 (T.at_ : Int))) (first | with_reducible exact HS.out _ K | with_reducible exact HS.out _ (Below.drew K))
      (first | (go_at_call 38; replace K := Below.drew K; rw [HX.out]; with_reducible refine (split32_spec _ _ hlz).mono ?_; rintro e w2 ⟨v2, rfl, O2, hb2⟩; replace K := below_step K hb2; clear hb2))
    by_cases hlen : (partsB 32 line).length = 4
    case neg =>
      have HN := hd (nextL_bad HL2.out (bad_len (T := T) hlen))
      have hlen' : (((partsB 32 line).length : Nat) : Int) ≠ 4 := by omega
      have hle := partsB_len_le 32 line
      obtain ⟨A2, cc2, rfl⟩ := O2.isSlice
      clear hlen O2 c0' c1'
      go_wp2_with fail
      go_ret
      exact HNONE.out _ HN.out K
    obtain ⟨y0, y1, y2, y3, hL⟩ := four hlen
    have hsz : ∀ x ∈ partsB 32 line, x.size ≤ 1048576 := fun x hx => Nat.le_trans (partsB_size 32 line x hx) hlz
    obtain ⟨gw, cap, rfl, hg, hcap, hcap2, CE2⟩ := own_cells O2 (by omega)
    rw [hlen] at hcap ⊢
    rw [hL] at hsz CE2
    have HP := hd hL
    have z0 : y0.size ≤ 1048576 := hsz y0 (by simp)
    have z1 : y1.size ≤ 1048576 := hsz y1 (by simp)
    have z2 : y2.size ≤ 1048576 := hsz y2 (by simp)
    clear hsz hL O2 hlen c0' c1'
    have p0 : w2.cell? ⟨gw, 0, none⟩ = some (.string y0) := CE2.2 0 y0 rfl
    go_wp2_with fail
    refine (number_spec _ _ z0).mono ?_
    rintro e w3 ⟨rfl, hb3⟩
    obtain ⟨a, oka, la, ua, hra, ya, na⟩ := num_form y0.data.toList
    rw [hra]
    have Ya := hd ya
    have Na := hd na
    clear hra ya na
    replace K := below_step K hb3
    have CE3 := CE2.below hb3
    have p2 : w3.cell? ⟨gw, 2, none⟩ = some (.string y2) := CE3.2 2 y2 rfl
    go_wp2_with fail
    refine (number_spec _ _ z2).mono ?_
    rintro e w4 ⟨rfl, hb4⟩
    obtain ⟨c, okc, lc, uc, hrc, yc, nc⟩ := num_form y2.data.toList
    rw [hrc]
    have Yc := hd yc
    have Nc := hd nc
    clear hrc yc nc
    replace K := below_step K hb4
    have CE4 := CE3.below hb4
    have p1 : w4.cell? ⟨gw, 1, none⟩ = some (.string y1) := CE4.2 1 y1 rfl
    obtain ⟨t0, t1, t2, -, hz5, hb5⟩ := new3 w4 (.int .i64 a) (.string y1) (.int .i64 c) 130
    replace K := below_step K hb5
    have hx5 : w4.heap.size < (w4.alloc (.cells #[.int .i64 a, .string y1, .int .i64 c] 130)).heap.size := by omega
    clear p0 p2 CE2 CE3 hb3 hb4 HS
    go_wp2_with fail
    generalize w4.alloc (.cells #[.int .i64 a, .string y1, .int .i64 c] 130) = w5 at t0 t1 t2 hz5 hb5 K hx5 ⊢
    rcases oka with _ | _
    · have HN := hd (nextL_bad HL2.out (bad_num (T := T) HP.out (.inl (Na.out (by trivial)))))
      go_quiet (fail)
      go_wp2_with fail
      go_ret
      exact HNONE.out _ HN.out (below_drewN K nq)
    rcases okc with _ | _
    · have HN := hd (nextL_bad HL2.out (bad_num (T := T) HP.out (.inr (Nc.out (by trivial)))))
      go_quiet (fail)
      go_wp2_with fail
      go_ret
      exact HNONE.out _ HN.out (below_drewN K nq)
    have VA := hd (Ya.out (by trivial))
    have VC := hd (Yc.out (by trivial))
    have HTW := hd (show ∀ W, Below w5.heap.size w5 W → W.cell? ⟨w4.heap.size, 0, none⟩ = some (.int .i64 a) ∧ W.cell? ⟨w4.heap.size, 1, none⟩ = some (.string y1) ∧ W.cell? ⟨w4.heap.size, 2, none⟩ = some (.int .i64 c) from fun W k => ⟨(k.cell (p := ⟨w4.heap.size, 0, none⟩) hx5).trans t0, (k.cell (p := ⟨w4.heap.size, 1, none⟩) hx5).trans t1, (k.cell (p := ⟨w4.heap.size, 2, none⟩) hx5).trans t2⟩)
    have HRW := hd (show ∀ W, Below w5.heap.size w5 W → Rs W g s (.slice A T.l.length cc) T.st T.at_ ∧ Own W B 130 3 (.slice A T.l.length cc) eEntry T.l ∧ Below w.heap.size w W from fun W k => ⟨(R.below R.1 K).below (Nat.lt_of_lt_of_le R.1 K.size) k, (O.below K (Nat.le_refl _)).below k (Nat.le_refl _), below_step K k⟩)
    have K5 := Below.refl w5.heap.size w5
    have gt0 := gro_cell t0
    obtain ⟨r0', ⟨c0, c1, c2, c3⟩, f1, f2, f3⟩ := (HRW.out _ K5).1
    clear t1 t2 Ya Yc Na Nc
    rcases he : okEntryB (a, y1, c) with _ | _
    · have HN := hd (nextL_bad HL2.out (bad_entry (T := T) HP.out VA.out VC.out he))
      have HOKE := hd (show ∀ x : Ext w5, Calls Tryz.prog 223 #[.pointer (some ⟨w4.heap.size, 0, none⟩)] (gro w5 x) fun e w' => e = .returned (.bool false) ∧ ∃ y, w' = gro w5 y from fun x => calm_of_same (by rw [← he]; exact okE_spec (gro w5 x) w4.heap.size 0 a y1 c (HTW.out _ (gro_below x)).1 (HTW.out _ (gro_below x)).2.1 (HTW.out _ (gro_below x)).2.2))
      clear he
      refine wp_region_calm (by kernel_rfl) (by kernel_rfl) ?_
      repeat (first | go_big_quiet_step ((first | (go_at_call 223; exact HOKE.out _))) | quiet_step ((first | (go_at_call 223; exact HOKE.out _))))
      refine wpQuiet_nil ?_
      rintro w6 ⟨x, rfl⟩
      have hgx := gro_below x
      generalize gro w5 x = w6 at hgx ⊢
      go_wp2_with fail
      go_ret
      exact HNONE.out _ HN.out (below_step K hgx)
    have HE := hd he
    have HOKE := hd (show ∀ x : Ext w5, Calls Tryz.prog 223 #[.pointer (some ⟨w4.heap.size, 0, none⟩)] (gro w5 x) fun e w' => e = .returned (.bool true) ∧ ∃ y, w' = gro w5 y from fun x => calm_of_same (by rw [← he]; exact okE_spec (gro w5 x) w4.heap.size 0 a y1 c (HTW.out _ (gro_below x)).1 (HTW.out _ (gro_below x)).2.1 (HTW.out _ (gro_below x)).2.2))
    clear he
    obtain ⟨δ, hδ⟩ : ∃ δ, dayOf T.l = δ := ⟨_, rfl⟩
    have HDAY := hd (show ∀ x : Ext w5, Calls Tryz.prog 224 #[.pointer (some ⟨g, 0, none⟩)] (gro w5 x) fun e w' => e = .returned (.int .i64 δ) ∧ ∃ y, w' = gro w5 y from fun x => calm_of_drew (by rw [← hδ]; exact day_log (gro w5 x) g _ T.l (HRW.out _ (gro_below x)).1.2.1.2.2.2 ((HRW.out _ (gro_below x)).2.1.sl eEntry_len)))
    have HDL := hd hδ
    clear hδ
    rcases hday : decide (a < δ) with _ | _
    case true =>
      have HN := hd (nextL_bad HL2.out (bad_day (T := T) HP.out VA.out VC.out (by rw [HDL.out]; have := of_decide_eq_true hday; omega)))
      refine wp_region_calm (by kernel_rfl) (by kernel_rfl) ?_
      repeat (first | go_big_quiet_step ((first | (go_at_call 223; exact HOKE.out _) | (go_at_call 224; exact HDAY.out _))) | quiet_step ((first | (go_at_call 223; exact HOKE.out _) | (go_at_call 224; exact HDAY.out _))))
      refine wpQuiet_nil ?_
      rintro w6 ⟨x, rfl⟩
      have hgx := gro_below x
      generalize gro w5 x = w6 at hgx ⊢
      go_wp2_with fail
      go_ret
      exact HNONE.out _ HN.out (below_step K hgx)
    have HDD := hd (show dayOf T.l ≤ a by rw [HDL.out]; have := of_decide_eq_false hday; omega)
    refine wp_region_calm (by kernel_rfl) (by kernel_rfl) ?_
    repeat (first | go_big_quiet_step ((first | (go_at_call 223; exact HOKE.out _) | (go_at_call 224; exact HDAY.out _))) | quiet_step ((first | (go_at_call 223; exact HOKE.out _) | (go_at_call 224; exact HDAY.out _))))
    refine wpQuiet_nil ?_
    rintro w6 ⟨x, rfl⟩
    have hgx := gro_below x
    generalize gro w5 x = w6 at hgx ⊢
    clear hday HOKE HDAY gt0 c0 c1 c2 c3 f1 f2 f3 t0
    replace K5 := below_step K5 hgx
    clear hgx
    go_wp2_with fail
    have HT6 := hd (show ∀ x : Ext w6, (gro w6 x).cell? ⟨w4.heap.size, 0, none⟩ = some (.int .i64 a) ∧ (gro w6 x).cell? ⟨w4.heap.size, 1, none⟩ = some (.string y1) ∧ (gro w6 x).cell? ⟨w4.heap.size, 2, none⟩ = some (.int .i64 c) from fun x => HTW.out _ (below_step K5 (gro_below x)))
    obtain ⟨σ, hσ⟩ : ∃ σ, stampN T.st (wordsS a y1 c) = σ := ⟨_, rfl⟩
    have HSB := hd (show 0 ≤ σ ∧ σ ≤ 65518 by rw [← hσ]; exact stampN_bd _ _)
    have HSTP := hd (show ∀ x : Ext w6, Calls Tryz.prog 226 #[.int .i64 T.st, .string (wordsS a y1 c)] (gro w6 x) fun e w' => e = .returned (.int .i64 σ) ∧ ∃ y, w' = gro w6 y from fun x => calm_of_same (by rw [← hσ]; exact l27Stamp_spec (gro w6 x) T.st ⟨q3, q4⟩ (wordsS a y1 c) (Nat.le_trans (words_size HE.out) (by omega))))
    have HSG := hd hσ
    clear hσ
    obtain ⟨r0', ⟨c0, c1, c2, c3⟩, f1, f2, f3⟩ := (HRW.out _ K5).1
    have gst := gro_cell c2
    refine wp_region_calm (by kernel_rfl) (by kernel_rfl) ?_
    repeat (first | go_big_quiet_step ((first | (go_at_call 175; exact calm_of (words_spec _ w4.heap.size 0 a y1 c (HT6.out _).1 (HT6.out _).2.1 (HT6.out _).2.2 HE.out)) | (go_at_call 226; exact HSTP.out _))) | quiet_step ((first | (go_at_call 175; exact calm_of (words_spec _ w4.heap.size 0 a y1 c (HT6.out _).1 (HT6.out _).2.1 (HT6.out _).2.2 HE.out)) | (go_at_call 226; exact HSTP.out _))))
    refine wpQuiet_nil ?_
    rintro w7 ⟨x, rfl⟩
    have hgx := gro_below x
    generalize gro w6 x = w7 at hgx ⊢
    clear c0 c1 c2 c3 f1 f2 f3 gst HT6 HSTP
    replace K5 := below_step K5 hgx
    clear hgx
    go_wp2_with fail
    have HT7 := hd (show ∀ x : Ext w7, (gro w7 x).cell? ⟨w4.heap.size, 0, none⟩ = some (.int .i64 a) ∧ (gro w7 x).cell? ⟨w4.heap.size, 1, none⟩ = some (.string y1) ∧ (gro w7 x).cell? ⟨w4.heap.size, 2, none⟩ = some (.int .i64 c) from fun x => HTW.out _ (below_step K5 (gro_below x)))
    obtain ⟨r0', ⟨c0, c1, c2, c3⟩, f1, f2, f3⟩ := (HRW.out _ K5).1
    have gs := gro_cell c0
    have gat := gro_cell c1
    have HGI := hd (show goodE T (rdLine line) = true ↔ (lineS σ (a, y1, c)).data.toList = (s.extract T.at_ (k + 1)).data.toList by
      rw [goodE_iff HP.out VA.out VC.out HE.out HDD.out, ← HSG.out]
      have he2 := HEX.out
      rw [show T.at_ + line.size + 1 = k + 1 by omega] at he2
      rw [he2]
      rfl)
    by_cases hgd : goodE T (rdLine line) = true
    case neg =>
      have HN := hd (nextL_bad HL2.out (by simpa using hgd))
      have kl : ((lineS σ (a, y1, c)).toList == (s.extract T.at_ (k + 1)).toList) = false := beq_eq_false_iff_ne.2 (fun e => hgd (HGI.out.2 (by rw [← Lib.toList_data, ← Lib.toList_data]; exact e)))
      clear hgd
      refine wp_region_calm (by kernel_rfl) (by kernel_rfl) ?_
      repeat (first | go_big_quiet_step ((first | (go_at_call 225; exact calm_of (line_spec _ σ HSB.out w4.heap.size 0 (a, y1, c) (HT7.out _).1 (HT7.out _).2.1 (HT7.out _).2.2 HE.out)))) | quiet_step ((first | (go_at_call 225; exact calm_of (line_spec _ σ HSB.out w4.heap.size 0 (a, y1, c) (HT7.out _).1 (HT7.out _).2.1 (HT7.out _).2.2 HE.out)))))
      refine wpQuiet_nil ?_
      rintro w8 ⟨x, rfl⟩
      have hgx := gro_below x
      generalize gro w7 x = w8 at hgx ⊢
      go_wp2_with fail
      go_ret
      exact HNONE.out _ HN.out (below_step K (below_step K5 hgx))
    have HN := hd (nextL_good HL2.out hgd)
    have HGE := hd (good_entry HP.out VA.out VC.out hgd)
    have kl : ((lineS σ (a, y1, c)).toList == (s.extract T.at_ (k + 1)).toList) = true := beq_iff_eq.2 (by rw [Lib.toList_data, Lib.toList_data]; exact HGI.out.1 hgd)
    clear hgd HGI
    refine wp_region_calm (by kernel_rfl) (by kernel_rfl) ?_
    repeat (first | go_big_quiet_step ((first | (go_at_call 225; exact calm_of (line_spec _ σ HSB.out w4.heap.size 0 (a, y1, c) (HT7.out _).1 (HT7.out _).2.1 (HT7.out _).2.2 HE.out)))) | quiet_step ((first | (go_at_call 225; exact calm_of (line_spec _ σ HSB.out w4.heap.size 0 (a, y1, c) (HT7.out _).1 (HT7.out _).2.1 (HT7.out _).2.2 HE.out)))))
    refine wpQuiet_nil ?_
    rintro w8 ⟨x, rfl⟩
    have hgx := gro_below x
    generalize gro w7 x = w8 at hgx ⊢
    clear c0 c1 c2 c3 f1 f2 f3 gs gat HT7
    replace K5 := below_step K5 hgx
    clear hgx kl
    go_wp2_with fail
    obtain ⟨R8, O8, B8⟩ := HRW.out _ K5
    obtain ⟨t0, t1, t2⟩ := HTW.out _ K5
    obtain ⟨r0', ⟨c0, c1, c2, c3⟩, f1, f2, f3⟩ := id R8
    clear HRW HTW HNONE HX HEX HP VA VC HDD HDL
    have HR8 := hd R8
    have HO8 := hd O8
    have HB8 := hd B8
    have hg8 : g < w8.heap.size := r0'
    have hBw : B ≤ w8.heap.size := by omega
    clear R8 O8 B8
    go_region_law (first | (refine step_push (w8.drew.alloc (.cells #[.int .i64 a, .string y1, .int .i64 c] 130)) rfl (.tmp 115) (.tmp 117) 133 rfl i0 (.agg #[.int .i64 0, .string ByteArray.empty, .int .i64 0]) 32 Tryz.underlying133 hi hz0 hz1 hz2 rfl (by decide) _ _ ((a, y1, c) : TEntry) rfl (HO8.out.drew.alloc _) w8.drew.heap.size rfl #[.int .i64 a, .string y1, .int .i64 c] 130 (heap_alloc_new _ _) rfl rfl (by intro u hu; simp [eEntry] at hu; rcases hu with rfl | rfl | rfl <;> rfl) (by unfold maxLen; omega) (by omega) (by simp; omega) ?_; intro v9 w9 O9 hg9 ho9; have R9 := rs_grown (HR8.out.below (C := w8.heap.size) hg8 (((Below.refl w8.heap.size w8).drew).alloc (Nat.le_refl _) (.cells #[.int .i64 a, .string y1, .int .i64 c] 130))) hg9 hne; obtain ⟨A9, cc9, rfl⟩ := O9.isSlice; obtain ⟨s0, ⟨e0, e1, e2, e3⟩, h1, h2, h3⟩ := id R9))
    all_goals
      have e9 : (T.l ++ [((a, y1, c) : TEntry)]).length = T.l.length + 1 := by simp
      rw [e9] at O9 ho9
      have hne9 : (Value.slice A9 (T.l.length + 1) cc9).ownBlock = none ∨ (Value.slice A9 (T.l.length + 1) cc9).ownBlock ≠ some g := by
        rcases ho9 with h | h
        · rw [h]; exact hne
        · refine .inr ?_
          rw [h]
          intro e
          injection e with e
          simp at e
          omega
      have B9 : Below B w w9 := ((((HB8.out.mono (Nat.le_trans hB (Nat.le_of_lt r0))).drew).alloc hBw _).grown hg9 (by simp; omega) (fun b hb => (HO8.out.lt b hb).1))
      have HO9 := hd O9
      have HB9 := hd B9
      have HR9 := hd R9
      have HNE := hd hne9
      clear O9 B9 R9 hne9 ho9 hg9 HO8 HB8 HR8 t0 t1 t2
      go_wp2_with fail
      go_ret
      have hkk : ((k : Int) + 1) = ((T.at_ + line.size + 1 : Nat) : Int) := by omega
      refine ⟨⟨T.at_ + line.size + 1, σ, T.l ++ [(a, y1, c)]⟩, .slice A9 (T.l.length + 1) cc9, .inl ⟨?_, rfl⟩, ?_, ?_, HNE.out, ?_⟩
      · rw [HN.out, HGE.out.1, HGE.out.2, ← HSG.out]
        rfl
      · rw [hkk]
        exact rs_set HR9.out
      · exact own_rs HO9.out HNE.out _ _ _
      · exact rs_below HB9.out hB _ _ _
end Go.Proofs.YtgcodjkjdfahdaaGreatDoor

namespace Go.Proofs.YtgcodjkjdfahdaaGreatDoor
open Go Go.RowKit Go.ChangeShapes Go.WideShapes
set_option linter.unusedSimpArgs false
set_option linter.unusedVariables false
theorem rs_new (w : World) (s : ByteArray) (v : Value) (T : TypeId) : Rs (w.alloc (.cells #[.string s, .int .i64 0, .int .i64 0, v] T)) w.heap.size s v 0 0 := by
  have g0 : (w.alloc (.cells #[.string s, .int .i64 0, .int .i64 0, v] T)).heap[w.heap.size]? = some (.cells #[.string s, .int .i64 0, .int .i64 0, v] T (0, 0)) := heap_alloc_new w _
  exact ⟨by simp, ⟨cell_of_row _ _ 0 _ _ (0, 0) g0, cell_of_row _ _ 1 _ _ (0, 0) g0, cell_of_row _ _ 2 _ _ (0, 0) g0, cell_of_row _ _ 3 _ _ (0, 0) g0⟩, free_in g0 1, free_in g0 2, free_in g0 3⟩
def Reader (w : World) (s : ByteArray) (T : LS) (g : Nat) (w' : World) : Prop :=
  ∃ v, Rs w' g s v T.st T.at_ ∧ Own w' w.heap.size 130 3 v eEntry T.l ∧ w.heap.size ≤ g ∧ Below w.heap.size w w'
set_option maxRecDepth 100000 in
set_option maxHeartbeats 4000000 in
theorem read_spec (w : World) (s : ByteArray) (hs : s.size ≤ 1048576) :
    Calls Tryz.prog 157 #[.string s] w fun e w' => ∃ g, e = .returned (.pointer (some ⟨g, 0, none⟩)) ∧ Reader w s (readL s) g w' := by
  have O0 := (Own.made0 w w.heap.size 130 3 eEntry (Nat.le_refl _)).alloc (.cells #[.string s, .int .i64 0, .int .i64 0, .slice (some ⟨w.heap.size, 0, none⟩) 0 0] 192)
  have R0 := rs_new (w.alloc (.cells #[] 130)) s (.slice (some ⟨w.heap.size, 0, none⟩) 0 0) 192
  have hz : (w.alloc (.cells #[] 130)).heap.size = w.heap.size + 1 := by simp
  have B0 := ((Below.refl w.heap.size w).alloc (Nat.le_refl _) (.cells #[] 130)).alloc (show w.heap.size ≤ (w.alloc (.cells #[] 130)).heap.size by omega) (.cells #[.string s, .int .i64 0, .int .i64 0, .slice (some ⟨w.heap.size, 0, none⟩) 0 0] 192)
  rw [hz] at R0
  go_enter Tryz.func157, Tryz.ntmps157
  go_wp2_with fail
  generalize (w.alloc (.cells #[] 130)).alloc (.cells #[.string s, .int .i64 0, .int .i64 0, .slice (some ⟨w.heap.size, 0, none⟩) 0 0] 192) = W1 at O0 R0 B0 ⊢
  go_loopw [9] (fun _ wr => ∃ (T : LS) (v : Value), Hid (OnWay s T) ∧ (T.at_ ≤ s.size ∧ T.l.length ≤ T.at_ ∧ 0 ≤ T.st ∧ T.st ≤ 65518) ∧ Rs wr (w.heap.size + 1) s v T.st T.at_ ∧ Own wr w.heap.size 130 3 v eEntry T.l ∧ (v.ownBlock = none ∨ v.ownBlock ≠ some (w.heap.size + 1)) ∧ Below w.heap.size w wr) (fun _ wr => s.size - (intOf ((wr.cell? ⟨w.heap.size + 1, 1, none⟩).getD undef)).toNat)
  case atStart => exact ⟨startL, _, hd (onWay_start s), ⟨Nat.zero_le _, Nat.le_refl _, by decide, by decide⟩, R0, O0, .inr (by intro e; simp [Value.ownBlock] at e), B0⟩
  case round =>
    obtain ⟨T, v, HOW, ⟨q1, q2, q3, q4⟩, R, O, hne, B⟩ := hrel
    clear R0 O0 B0 hz
    have HMZ := hd R.2.1.2.1
    go_wp2_with fail
    refine (line_log _ s hs w.heap.size (w.heap.size + 1) T v HOW q1 q2 q3 q4 R O hne (Nat.le_succ _)).mono ?_
    rintro e w2 ⟨T', v', hr, R2, O2, hne2, B2⟩
    have B3 := B.trans B2
    rcases hr with ⟨hn, rfl⟩ | ⟨⟨hn, rfl⟩, rfl⟩
    · have HOW2 := hd (onWay_next HOW.out hn)
      obtain ⟨a1, a2⟩ := nextL_at hn
      obtain ⟨-, b1, b2, ⟨b3, b4⟩, -⟩ := HOW2.out
      clear R O hne B B2 hn
      go_wp2_with fail
      go_roundw
      case rel => exact ⟨T', v', HOW2, ⟨b1, b2, b3, b4⟩, R2, O2, hne2, B3⟩
      case measure =>
        rw [R2.2.1.2.1, HMZ.out]
        simp [intOf]
        omega
    · have HE := hd (onWay_end HOW.out hn)
      clear R O hne B B2 hn HMZ
      go_wp2_with fail
      go_ret
      exact ⟨w.heap.size + 1, rfl, v', by rw [HE.out]; exact R2, by rw [HE.out]; exact O2, Nat.le_succ _, B3⟩
end Go.Proofs.YtgcodjkjdfahdaaGreatDoor

namespace Go.Proofs.YtgcodjkjdfahdaaGreatDoor
open Go Go.RowKit Go.ChangeShapes Go.WideShapes
set_option linter.unusedSimpArgs false
set_option linter.unusedVariables false
theorem readL_at (s : ByteArray) : (readL s).at_ ≤ s.size := (onWay_readL s).2.1
theorem readL_st (s : ByteArray) : 0 ≤ (readL s).st ∧ (readL s).st ≤ 65518 := (onWay_readL s).2.2.2.1
theorem readL_len (s : ByteArray) : (readL s).l.length ≤ s.size := Nat.le_trans (onWay_readL s).2.2.1 (readL_at s)
theorem readL_ok (s : ByteArray) : ∀ x ∈ (readL s).l, okEntryB x = true := (onWay_readL s).2.2.2.2
end Go.Proofs.YtgcodjkjdfahdaaGreatDoor

namespace Go.Proofs.YtgcodjkjdfahdaaGreatDoor
open Go Go.RowKit Go.ChangeShapes Go.WideShapes
set_option linter.unusedSimpArgs false
set_option linter.unusedVariables false
def lc (s : ByteArray) : Int := if s.size ≤ 4000 then (if (readL s).at_ = s.size then 0 else 8) else 5
def eL (s : ByteArray) : List TEntry := if lc s = 0 then (readL s).l else []
theorem eL_good {s : ByteArray} (h : lc s = 0) : eL s = (readL s).l := by unfold eL; rw [if_pos h]
theorem eL_bad {s : ByteArray} (h : ¬ lc s = 0) : eL s = [] := by unfold eL; rw [if_neg h]
theorem lc_size {s : ByteArray} (h : lc s = 0) : s.size ≤ 4000 := by
  by_cases hz : s.size ≤ 4000
  · exact hz
  · unfold lc at h; rw [if_neg hz] at h; cases h
theorem eL_len (s : ByteArray) : (eL s).length ≤ 4000 := by
  by_cases h : lc s = 0
  · rw [eL_good h]; have := readL_len s; have := lc_size h; omega
  · rw [eL_bad h]; exact Nat.zero_le _
def GivesCode (w : World) (s : ByteArray) (e : Ending) (w' : World) : Prop :=
  ∃ v st n, e = .returned (.tuple #[.agg #[v, .int .i64 st, .int .i64 n], .int .i64 (lc s)]) ∧ Own w' w.heap.size 130 3 v eEntry (eL s) ∧ (lc s = 0 → st = (readL s).st) ∧ (0 ≤ st ∧ st ≤ 65518) ∧ (0 ≤ n ∧ n ≤ 1048576) ∧ Below w.heap.size w w'
set_option maxRecDepth 100000 in
set_option maxHeartbeats 4000000 in
theorem code_impl (w : World) (s : ByteArray) (hs : s.size ≤ 1048576) (hsh : Shop w) :
    Calls Tryz.prog 124 #[.string s] w (GivesCode w s) := by
  obtain ⟨-, -, -, X0, hz0, hb0⟩ := new3 w (.slice none 0 0) (.int .i64 0) (.int .i64 0) 135
  have HSH := hd (hsh.below hb0)
  clear hsh
  by_cases hz : s.size ≤ 4000
  case neg =>
    have HC := hd (show lc s = 5 by unfold lc; rw [if_neg hz])
    have hz' : 4000 < s.size := by omega
    go_enter Tryz.func124, Tryz.ntmps124
    go_wp2_with fail
    have c0 := (new3 w (.slice none 0 0) (.int .i64 0) (.int .i64 0) 135)
    generalize w.alloc (.cells #[.slice none 0 0, .int .i64 0, .int .i64 0] 135) = Z at c0 hb0 ⊢
    have BZ := hb0
    refine bodyPost_ret (v := .tuple #[.agg #[.slice none 0 0, .int .i64 0, .int .i64 0], .int .i64 5]) ?_ rfl ?_
    · refine (results_cell_tmp Tryz.results124 _ _ _).trans ?_
      show (((loadVar 135 ⟨w.heap.size, 0, none⟩).run Tryz.prog Z).andThen fun v w₂ => Result.ok (Value.tuple #[v, Value.int .i64 5]) w₂) = _
      rw [load_reading Z _ _ _ _ ⟨_, _, _, rfl⟩ c0.1 c0.2.1 c0.2.2.1]
      rfl
    exact ⟨_, _, _, by rw [HC.out], by rw [eL_bad (by rw [HC.out]; decide)]; exact Own.nil _ _ _ _ _, fun h => (by rw [HC.out] at h; cases h), by decide, by decide, BZ⟩
  have hat := readL_at s
  go_enter Tryz.func124, Tryz.ntmps124
  go_wp2_with fail
  generalize w.alloc (.cells #[.slice none 0 0, .int .i64 0, .int .i64 0] 135) = W0 at hb0 hz0 X0 HSH ⊢
  refine (readLog_impl _ _ hs HSH.out).mono ?_
  rintro e w1 ⟨v, rfl, O, B⟩
  obtain ⟨A, cc, rfl⟩ := O.isSlice
  have X1 := X0.below B
  have B1 := below_step hb0 B
  obtain ⟨t0, t1, t2, -, hz2, hb2⟩ := new3 w1 (.slice A (readL s).l.length cc) (.int .i64 (readL s).st) (.int .i64 ((readL s).at_ : Int)) 135
  have X2 := X1.below hb2
  have B2 := below_step B1 hb2
  have O2 := O.below hb2 (Nat.le_refl _)
  have HST := hd (readL_st s)
  clear X0 X1 O B B1 hb2
  by_cases ha : (readL s).at_ = s.size
  case neg =>
    have HC := hd (show lc s = 8 by unfold lc; rw [if_pos hz, if_neg ha])
    have ha' : (readL s).at_ < s.size := by omega
    clear ha
    obtain ⟨x0, ⟨d0, d1, d2, b0, b1, b2⟩, g0, g1, g2⟩ := X2
    go_wp2_with fail
    have FC := cells3 (w1.alloc (.cells #[.slice A (readL s).l.length cc, .int .i64 (readL s).st, .int .i64 ((readL s).at_ : Int)] 135)) w.heap.size (.slice none 0 0) (.int .i64 0) (.int .i64 0) _ _ _ b0 b1 b2
    have BZ := box3_below B2 (Nat.le_refl _) (.slice none 0 0) (.int .i64 0) (.int .i64 0)
    generalize ((((w1.alloc (.cells #[.slice A (readL s).l.length cc, .int .i64 (readL s).st, .int .i64 ((readL s).at_ : Int)] 135)).setCell ⟨w.heap.size, 0, none⟩ (.slice none 0 0)).setCell ⟨w.heap.size, 1, none⟩ (.int .i64 0)).setCell ⟨w.heap.size, 2, none⟩ (.int .i64 0)) = Z at FC BZ ⊢
    obtain ⟨e0, e1, e2⟩ := FC
    refine bodyPost_ret (v := .tuple #[.agg #[.slice none 0 0, .int .i64 0, .int .i64 0], .int .i64 8]) ?_ rfl ?_
    · refine (results_cell_tmp Tryz.results124 _ _ _).trans ?_
      show (((loadVar 135 ⟨w.heap.size, 0, none⟩).run Tryz.prog Z).andThen fun v w₂ => Result.ok (Value.tuple #[v, Value.int .i64 8]) w₂) = _
      rw [load_reading Z _ _ _ _ ⟨_, _, _, rfl⟩ e0 e1 e2]
      rfl
    exact ⟨_, _, _, by rw [HC.out], by rw [eL_bad (by rw [HC.out]; decide)]; exact Own.nil _ _ _ _ _, fun h => (by rw [HC.out] at h; cases h), by decide, by decide, BZ⟩
  have HC := hd (show lc s = 0 by unfold lc; rw [if_pos hz, if_pos ha])
  have HEL := hd (eL_good HC.out)
  have ha' : ¬ (readL s).at_ < s.size := by omega
  have hatz : (readL s).at_ ≤ 1048576 := by omega
  clear ha
  obtain ⟨x0, ⟨d0, d1, d2, b0, b1, b2⟩, g0, g1, g2⟩ := X2
  go_wp2_with fail
  have FC := cells3 (w1.alloc (.cells #[.slice A (readL s).l.length cc, .int .i64 (readL s).st, .int .i64 ((readL s).at_ : Int)] 135)) w.heap.size (.slice A (readL s).l.length cc) (.int .i64 (readL s).st) (.int .i64 ((readL s).at_ : Int)) _ _ _ b0 b1 b2
  have BZ := box3_below B2 (Nat.le_refl _) (.slice A (readL s).l.length cc) (.int .i64 (readL s).st) (.int .i64 ((readL s).at_ : Int))
  have OZ := (own_box3 (O2.base (show w.heap.size + 1 ≤ W0.heap.size by omega)) (Nat.lt_succ_self _) (.slice A (readL s).l.length cc) (.int .i64 (readL s).st) (.int .i64 ((readL s).at_ : Int))).base (Nat.le_succ w.heap.size)
  generalize ((((w1.alloc (.cells #[.slice A (readL s).l.length cc, .int .i64 (readL s).st, .int .i64 ((readL s).at_ : Int)] 135)).setCell ⟨w.heap.size, 0, none⟩ (.slice A (readL s).l.length cc)).setCell ⟨w.heap.size, 1, none⟩ (.int .i64 (readL s).st)).setCell ⟨w.heap.size, 2, none⟩ (.int .i64 ((readL s).at_ : Int))) = Z at FC BZ OZ ⊢
  obtain ⟨e0, e1, e2⟩ := FC
  refine bodyPost_ret (v := .tuple #[.agg #[.slice A (readL s).l.length cc, .int .i64 (readL s).st, .int .i64 ((readL s).at_ : Int)], .int .i64 0]) ?_ rfl ?_
  · refine (results_cell_tmp Tryz.results124 _ _ _).trans ?_
    show (((loadVar 135 ⟨w.heap.size, 0, none⟩).run Tryz.prog Z).andThen fun v w₂ => Result.ok (Value.tuple #[v, Value.int .i64 0]) w₂) = _
    rw [load_reading Z _ _ _ _ ⟨_, _, _, rfl⟩ e0 e1 e2]
    rfl
  exact ⟨_, _, _, by rw [HC.out], by rw [HEL.out]; exact OZ, fun _ => rfl, HST.out, by omega, BZ⟩
set_option maxRecDepth 100000 in
set_option maxHeartbeats 4000000 in
theorem code_spec (w : World) (s : ByteArray) (hs : s.size ≤ 1048576) :
    Calls Tryz.prog 89 #[.string s] w fun e w' => ∃ g, e = .returned (.tuple #[.pointer (some ⟨g, 0, none⟩), .int .i64 (lc s)]) ∧ (lc s = 0 → Reader w s (readL s) g w') ∧ Below w.heap.size w w' := by
  by_cases hz : s.size ≤ 4000
  case neg =>
    have HC := hd (show lc s = 5 by unfold lc; rw [if_neg hz])
    have hz' : 4000 < s.size := by omega
    go_enter Tryz.func89, Tryz.ntmps89
    go_wp2_with fail
    go_ret2
    exact ⟨w.heap.size, by rw [HC.out]; rfl, fun h => (by rw [HC.out] at h; cases h), (Below.refl _ _).alloc (Nat.le_refl _) _⟩
  have hat := readL_at s
  go_enter Tryz.func89, Tryz.ntmps89
  go_wp2_with fail
  refine (read_spec _ _ hs).mono ?_
  rintro e w1 ⟨g, rfl, hr⟩
  have HRD := hd hr
  obtain ⟨v, ⟨r0, ⟨c0, c1, c2, c3⟩, -⟩, O, hg, B⟩ := hr
  by_cases ha : (readL s).at_ = s.size
  case neg =>
    have HC := hd (show lc s = 8 by unfold lc; rw [if_pos hz, if_neg ha])
    have ka : ((((readL s).at_ : Nat) : Int) != ((s.size : Nat) : Int)) = true := by simp; omega
    go_wp2_with fail
    go_ret2
    exact ⟨g, by rw [HC.out]; rfl, fun h => (by rw [HC.out] at h; cases h), B⟩
  have HC := hd (show lc s = 0 by unfold lc; rw [if_pos hz, if_pos ha])
  have ka : ((((readL s).at_ : Nat) : Int) != ((s.size : Nat) : Int)) = false := by simp; omega
  clear ha
  go_wp2_with fail
  go_ret2
  exact ⟨g, by rw [HC.out]; rfl, fun _ => HRD.out, B⟩
def lw (s t : ByteArray) : Int := if lc s = 0 then (if isNameB t = true then 0 else 2) else lc s
theorem lw_good {s t : ByteArray} (h : lw s t = 0) : lc s = 0 ∧ isNameB t = true := by
  unfold lw at h
  by_cases hc : lc s = 0
  · rw [if_pos hc] at h
    by_cases ht : isNameB t = true
    · exact ⟨hc, ht⟩
    · rw [if_neg ht] at h; cases h
  · rw [if_neg hc] at h; exact absurd h hc
set_option maxRecDepth 100000 in
theorem what_spec (w : World) (s t : ByteArray) (hs : s.size ≤ 1048576) :
    Calls Tryz.prog 227 #[.string s, .string t] w fun e w' => ∃ g, e = .returned (.tuple #[.pointer (some ⟨g, 0, none⟩), .int .i64 (lw s t)]) ∧ (lw s t = 0 → Reader w s (readL s) g w') ∧ Below w.heap.size w w' := by
  go_enter Tryz.func227, Tryz.ntmps227
  go_wp2_with fail
  refine (code_spec _ _ hs).mono ?_
  rintro e w1 ⟨g, rfl, hr, B⟩
  have HRD := hd hr
  clear hr
  by_cases hc : lc s = 0
  case neg =>
    have HW := hd (show lw s t = lc s by unfold lw; rw [if_neg hc])
    have HC := hd hc
    obtain ⟨x, hx⟩ : ∃ x, lc s = x := ⟨_, rfl⟩
    rw [hx] at hc HW ⊢
    have kc : (x == 0) = false := by simpa using hc
    go_wp2_with fail
    go_ret2
    exact ⟨g, by rw [HW.out]; rfl, fun h => absurd (lw_good h).1 HC.out, B⟩
  rw [hc]
  have HC := hd hc
  clear hc
  rcases ht : isNameB t with _ | _
  · have HW := hd (show lw s t = 2 by unfold lw; rw [if_pos HC.out, ht]; rfl)
    go_wp2_with fail
    refine (name_spec _ _).mono ?_
    rintro e w2 ⟨rfl, hw⟩
    have hw := hw.symm
    subst hw
    rw [ht]
    go_wp2_with fail
    go_ret2
    exact ⟨g, by rw [HW.out]; rfl, fun h => (by rw [HW.out] at h; cases h), B⟩
  · have HW := hd (show lw s t = 0 by unfold lw; rw [if_pos HC.out, ht]; rfl)
    go_wp2_with fail
    refine (name_spec _ _).mono ?_
    rintro e w2 ⟨rfl, hw⟩
    have hw := hw.symm
    subst hw
    rw [ht]
    go_wp2_with fail
    go_ret2
    exact ⟨g, by rw [HW.out]; rfl, fun _ => HRD.out HC.out, B⟩
end Go.Proofs.YtgcodjkjdfahdaaGreatDoor
