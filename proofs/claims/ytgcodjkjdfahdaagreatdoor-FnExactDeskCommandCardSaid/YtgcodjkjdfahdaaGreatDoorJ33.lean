/- Lemmas for the claim (the walks of its functions and their plain laws), joined. No condition. -/
import Derived.Test.YtgcodjkjdfahdaaGreatDoorJ1
import Derived.Test.YtgcodjkjdfahdaaGreatDoorJ29
import Derived.Test.YtgcodjkjdfahdaaGreatDoorJ32
import Derived.Deep.RegionLaw
namespace Go.Proofs.YtgcodjkjdfahdaaGreatDoor
open Go Go.RowKit Go.ChangeShapes Go.WideShapes
set_option linter.unusedSimpArgs false
set_option linter.unusedVariables false
theorem step_push_at {P : Program} {α : Type} {enc : α → List Value} {k : Nat} (w : World) {ops : Array Oper} {o : Oper} {a : Act} {K : Act → World → Prop} {Q : Exit → Act → World → Prop} {X : Prop} (hgd : o.guard = none) (s x : Operand) (t : TypeId)
    (ho : o.op = .call { callee := .builtin .append, args := #[s, x], argTypes := #[t, t] })
    {B E : Nat} (i : TypeInfo) (z : Value) (bytes : Nat) (ht : P.underlying t = some (.slice E)) (hi : P.info? E = some i) (hz : i.zero = some z)
    (hsize : i.size = k) (hby : i.bytes = bytes) (hzs : z.cells.size = k) (hsz : 0 < k)
    (v : Value) (l : List α) (y : α) (hs : a.eval s = v) (hown : Own w B E k v enc l)
    (g : Nat) (hx : a.eval x = .slice (some ⟨g, 0, none⟩) 1 1) (cs : Array Value) (E' : TypeId) (hg : w.heap[g]? = some (.cells cs E' (0, 0))) (hcs : cs.toList = enc y) (hlen : (enc y).length = k) (h1 : ∀ u ∈ enc y, u.oneCell' = true)
    (h63 : l.length + 1 ≤ maxLen) (hbytes : (l.length + 1) * bytes ≤ 140737488355328) (hbase : B ≤ w.heap.size)
    (h : ∀ v' w', Own w' B E k v' enc (l ++ [y]) → w.grownBy w' v.ownBlock → (v'.ownBlock = v.ownBlock ∨ v'.ownBlock = some w.heap.size) → K (a.put o.dst v') w') :
    if Region.wanted o (yielded ops a.tmps) = true then Oper.wp P o a w K Q else X := by
  have hw : Region.wanted o (yielded ops a.tmps) = true := by simp [Region.wanted, hgd]
  rw [if_pos hw]
  exact wp_push_at w s x t ho i z bytes ht hi hz hsize hby hzs hsz v l y hs hown g hx cs E' hg hcs hlen h1 h63 hbytes hbase h
structure TabR (W : World) (B gT n : Nat) (M : List TRow) : Prop where
  len : M.length = n
  out : Own W B 56 1 (.slice (some ⟨gT, 0, none⟩) n n) eV M
  row : ∀ i (h : i < M.length), Own W B 2 1 M[i].1 eI M[i].2
  off : ∀ i (h : i < M.length), apart M[i].1.ownBlock (some gT)
  two : ∀ i j (hi : i < M.length) (hj : j < M.length), i ≠ j → apart M[i].1.ownBlock M[j].1.ownBlock
theorem TabR.below {W W' : World} {B gT n : Nat} {M : List TRow} (h : TabR W B gT n M) (hb : Below W.heap.size W W') : TabR W' B gT n M :=
  ⟨h.len, h.out.below hb (Nat.le_refl _), fun i hi => (h.row i hi).below hb (Nat.le_refl _), h.off, h.two⟩
theorem set_row {M : List TRow} {j i : Nat} {y : TRow} (hi : i < (M.set j y).length) : (M.set j y)[i] = if j = i then y else M[i]'(by simpa using hi) := by rw [List.getElem_set]
theorem TabR.put {w w1 w2 : World} {B gT n : Nat} {M : List TRow} (h : TabR w B gT n M) {j : Nat} (hj : j < M.length) {v' : Value} {l' : List Int} (hb : Below w.heap.size w w1) (ho : Own w2 B 2 1 v' eI l') (hg : w1.grownBy w2 M[j].1.ownBlock) (ha : v'.ownBlock = M[j].1.ownBlock ∨ ∀ g, v'.ownBlock = some g → w.heap.size ≤ g) :
    TabR (w2.setCell ⟨gT, j, none⟩ v') B gT n (M.set j (v', l')) := by
  have hgT := h.out.lt gT rfl
  have off' : apart v'.ownBlock (some gT) := by
    rcases ha with e | e
    · rw [e]; exact h.off j hj
    · rcases hv : v'.ownBlock with _ | g
      · exact .inl rfl
      · refine .inr fun e2 => ?_
        have := e g hv
        injection e2 with e2
        omega
  have two' : ∀ i (hi : i < M.length), i ≠ j → apart M[i].1.ownBlock v'.ownBlock := by
    intro i hi hij
    rcases ha with e | e
    · rw [e]; exact h.two i j hi hj hij
    · rcases hv : M[i].1.ownBlock with _ | g
      · exact .inl rfl
      · refine .inr fun e2 => ?_
        have h1 := (h.row i hi).lt g hv
        have h2 := e g e2.symm
        omega
  have hset := kgrown_set w2 ⟨gT, j, none⟩ v'
  refine ⟨by rw [List.length_set]; exact h.len, ?_, ?_, ?_, ?_⟩
  · have h1 := (h.out.below hb (Nat.le_refl _)).grown hg (apart_symm (h.off j hj))
    exact h1.set_one eV_len j (v', l') rfl
  · intro i hi
    rw [set_row hi]
    by_cases e : j = i
    · rw [if_pos e]
      exact ho.grown hset off'
    · rw [if_neg e]
      have hi' : i < M.length := by simpa using hi
      exact (((h.row i hi').below hb (Nat.le_refl _)).grown hg (h.two i j hi' hj (fun e2 => e e2.symm))).grown hset (h.off i hi')
  · intro i hi
    rw [set_row hi]
    by_cases e : j = i
    · rw [if_pos e]; exact off'
    · rw [if_neg e]; exact h.off i (by simpa using hi)
  · intro i k hi hk hik
    rw [set_row hi, set_row hk]
    have hi' : i < M.length := by simpa using hi
    have hk' : k < M.length := by simpa using hk
    by_cases e : j = i
    · rw [if_pos e, if_neg (by omega)]
      exact apart_symm (two' k hk' (by omega))
    · rw [if_neg e]
      by_cases e2 : j = k
      · rw [if_pos e2]; exact two' i hi' (by omega)
      · rw [if_neg e2]; exact h.two i k hi' hk' hik
def rowAt (h c l left j i : Nat) : List Int := if i < left then tabB h c l i else if i = left then burnTo h c l (tabB h c l (left - 1)) j else []
def RowsIs (h c l left j : Nat) (M : List TRow) : Prop := ∀ i (hi : i < M.length), M[i].2 = rowAt h c l left j i
theorem RowsIs.set {h c l left j : Nat} {M : List TRow} (H : RowsIs h c l left j M) {v' : Value} (hl : left < M.length) (x : Int) (hx : x = burnAt h c l (tabB h c l (left - 1)) j) : RowsIs h c l left (j + 1) (M.set left (v', M[left].2 ++ [x])) := by
  intro i hi
  rw [set_row hi]
  by_cases e : left = i
  · subst e
    rw [if_pos rfl, H left hl, hx]
    unfold rowAt
    rw [if_neg (Nat.lt_irrefl _), if_pos rfl, if_neg (Nat.lt_irrefl _), if_pos rfl, burnTo_snoc]
  · rw [if_neg e, H i (by simpa using hi)]
    unfold rowAt
    by_cases e2 : i < left
    · rw [if_pos e2, if_pos e2]
    · rw [if_neg e2, if_neg (by omega), if_neg e2, if_neg (by omega)]
theorem RowsIs.next {h c l left : Nat} {M : List TRow} (H : RowsIs h c l left (l + 1) M) (h1 : 1 ≤ left) : RowsIs h c l (left + 1) 0 M := by
  intro i hi
  rw [H i hi]
  unfold rowAt
  by_cases e : i < left
  · rw [if_pos e, if_pos (by omega)]
  · rw [if_neg e]
    by_cases e2 : i = left
    · subst e2
      rw [if_pos rfl, if_pos (by omega)]
      obtain ⟨k, rfl⟩ : ∃ k, i = k + 1 := ⟨i - 1, by omega⟩
      rfl
    · rw [if_neg e2, if_neg (by omega)]
      by_cases e3 : i = left + 1
      · rw [if_pos e3]; rfl
      · rw [if_neg e3]
theorem RowsIs.tab {h c l left j i : Nat} {M : List TRow} (H : RowsIs h c l left j M) (hi : i < M.length) (hl : i < left) : M[i].2 = tabB h c l i := by
  rw [H i hi]; unfold rowAt; rw [if_pos hl]
theorem RowsIs.cur {h c l left j : Nat} {M : List TRow} (H : RowsIs h c l left j M) (hi : left < M.length) : M[left].2 = burnTo h c l (tabB h c l (left - 1)) j := by
  rw [H left hi]; unfold rowAt; rw [if_neg (Nat.lt_irrefl _), if_pos rfl]
theorem TabR.get {W : World} {B gT n : Nat} {M : List TRow} (h : TabR W B gT n M) {i : Nat} (hi : i < M.length) :
    W.cell? ⟨gT, i, none⟩ = some M[i].1 ∧ W.frozen? ⟨gT, i, none⟩ = false ∧ Sl W 1 M[i].1 eI M[i].2 := by
  obtain ⟨c, f⟩ := h.out.cell_one eV_len i hi (u := M[i].1) rfl
  exact ⟨c, f, (h.row i hi).sl eI_len⟩
theorem made_rows (w : World) (B gT n : Nat) (h : w.ownsRow B 56 1 (.slice (some ⟨gT, 0, none⟩) n n) n (madeCells #[Value.slice none 0 0] n).toList) : TabR w B gT n (List.replicate n (.slice none 0 0, [])) := by
  rw [toList_madeCells_one] at h
  have e : List.replicate n (Value.slice none 0 0) = (List.replicate n ((Value.slice none 0 0, []) : TRow)).flatMap eV := by
    clear h
    induction n with
    | zero => rfl
    | succ n ih => simp [List.replicate_succ, eV, List.flatMap_cons] at ih ⊢; exact ih
  refine ⟨by simp, ?_, ?_, ?_, ?_⟩
  · unfold Own
    rw [List.length_replicate, ← e]
    exact h
  · intro i hi
    rw [List.getElem_replicate]
    exact Own.nil _ _ _ _ _
  · intro i hi
    rw [List.getElem_replicate]
    exact .inl rfl
  · intro i j hi hj _
    rw [List.getElem_replicate]
    exact .inl rfl
end Go.Proofs.YtgcodjkjdfahdaaGreatDoor

namespace Go.Proofs.YtgcodjkjdfahdaaGreatDoor
open Go Go.RowKit Go.ChangeShapes Go.WideShapes
set_option linter.unusedSimpArgs false
set_option linter.unusedVariables false
set_option maxRecDepth 100000 in
set_option maxHeartbeats 8000000 in
theorem show_spec (w : World) (s : ByteArray) (hs : s.size ≤ 1048576) : Calls Tryz.prog 268 #[.string s] w fun e w' => e = .returned (.bool (okShow s)) ∧ w' = w := by
  go_enter Tryz.func268, Tryz.ntmps268
  go_wp2_with fail
  go_loop [3] (fun i => ∃ k : Nat, k ≤ s.size ∧ i = .int .i64 k ∧ Hid (∀ j, j < k → smallN (s.get! j).toNat = true)) (fun i => s.size - (intOf i).toNat)
  case atStart => exact ⟨0, Nat.zero_le _, rfl, hd (fun j hj => absurd hj (Nat.not_lt_zero _))⟩
  case round =>
    obtain ⟨k, hk, rfl, HT⟩ := hrel
    by_cases hlt : k < s.size
    · have GK := hd (get_bang s k hlt)
      rcases h3 : smallN (s.get! k).toNat with _ | _
      · have HR := hd (show_bad hlt h3)
        rw [GK.out] at h3
        rcases small_cases h3 with q | q
        all_goals
          clear h3
          go_wp2_with fail
          go_ret
          exact ⟨by rw [HR.out]; rfl, rfl⟩
      · have HN := hd (show ∀ j, j < k + 1 → smallN (s.get! j).toNat = true from fun j hj => by
          by_cases e : j = k
          · subst e; exact h3
          · exact HT.out j (by omega))
        rw [GK.out] at h3
        obtain ⟨q1, q2⟩ := small_true h3
        clear h3
        go_wp2_with fail
        go_round
        case rel => exact ⟨k + 1, by omega, by go_num, HN⟩
        case measure => simp [intOf]; omega
    · obtain rfl : k = s.size := by omega
      have HR := hd (show_all HT.out)
      have HI := hd (show decide (s.size ≤ 40) = decide ((s.size : Int) ≤ 40) from decide_eq_decide.2 (by omega))
      go_wp2_with fail
      go_ret
      exact ⟨by rw [HR.out, HI.out]; rfl, rfl⟩
set_option maxRecDepth 100000 in
set_option maxHeartbeats 8000000 in
theorem showC_spec (w : World) (s : ByteArray) (hs : s.size ≤ 1048576) (n : Int) : Calls Tryz.prog 231 #[.string s, .int .i64 n] w fun e w' => e = .returned (.int .i64 (showC s n)) ∧ w' = w := by
  rcases h1 : okShow s with _ | _
  · have HR := hd (showC_bad (n := n) h1)
    go_enter Tryz.func231, Tryz.ntmps231
    go_wp2_with fail
    refine (show_spec _ _ hs).mono ?_
    rintro e ww ⟨rfl, hw⟩
    have hw := hw.symm
    subst hw
    rw [h1]
    go_wp2_with fail
    go_ret
    exact ⟨by rw [HR.out]; rfl, rfl⟩
  rcases h2 : inB n 1 6 with _ | _
  all_goals
    have HR := hd (show showC s n = _ by first | exact showC_range h1 h2 | exact showC_good h1 h2)
    go_enter Tryz.func231, Tryz.ntmps231
    go_wp2_with fail
    refine (show_spec _ _ hs).mono ?_
    rintro e ww ⟨rfl, hw⟩
    have hw := hw.symm
    subst hw
    rw [h1]
    go_wp2_with fail
    refine (in_spec _ _ _ _).mono ?_
    rintro e ww ⟨rfl, hw⟩
    have hw := hw.symm
    subst hw
    rw [h2]
    go_wp2_with fail
    go_ret
    exact ⟨by rw [HR.out]; rfl, rfl⟩
theorem nextN_pos (s : List UInt8) (i : Nat) (c : UInt8) : nextN s i c = posU c (s.drop i) := rfl
theorem nextN_ge {s : ByteArray} {i j : Nat} {c : UInt8} (hk : i + j < s.size) (h : j ≤ nextN s.data.toList i c) (hne : ¬ s[i + j] = c) : j + 1 ≤ nextN s.data.toList i c := by
  have hl : j < (s.data.toList.drop i).length := by rw [List.length_drop, list_size]; omega
  rw [nextN_pos] at h ⊢
  refine posU_ge hl h ?_
  rw [List.getElem_drop]
  exact hne
theorem nextN_at {s : ByteArray} {i j : Nat} {c : UInt8} (hk : i + j < s.size) (h : j ≤ nextN s.data.toList i c) (he : s[i + j] = c) : nextN s.data.toList i c = j := by
  have hl : j < (s.data.toList.drop i).length := by rw [List.length_drop, list_size]; omega
  rw [nextN_pos] at h ⊢
  refine posU_at hl h ?_
  rw [List.getElem_drop]
  exact he
set_option maxRecDepth 100000 in
set_option maxHeartbeats 8000000 in
theorem next_specL (w : World) (s : ByteArray) (hs : s.size ≤ 40) (c : UInt8) (i : Nat) (hi : i ≤ s.size) :
    Calls Tryz.prog 269 #[.string s, .int .u8 (c.toNat : Int), .int .i64 (i : Int)] w fun e w' => e = .returned (.int .i64 ((i + nextN s.data.toList i c : Nat) : Int)) ∧ w' = w := by
  have HLE := hd (nextN_le s.data.toList i c)
  have HSZ := hd (list_size s)
  go_enter Tryz.func269, Tryz.ntmps269
  go_wp2_with fail
  go_loop [2] (fun iv => ∃ j : Nat, i + j ≤ s.size ∧ iv = .int .i64 ((i + j : Nat) : Int) ∧ Hid (j ≤ nextN s.data.toList i c)) (fun iv => s.size - (intOf iv).toNat)
  case atStart => exact ⟨0, hi, rfl, hd (Nat.zero_le _)⟩
  case round =>
    obtain ⟨j, hj, rfl, HT⟩ := hrel
    obtain ⟨p, hp⟩ : ∃ p, i + j = p := ⟨_, rfl⟩
    have HP := hd hp
    by_cases hlt : p < s.size
    · have HGE := hd (fun (q : ¬ s[i + j]'(by rw [HP.out]; exact hlt) = c) => nextN_ge (by rw [HP.out]; exact hlt) HT.out q)
      have HAT := hd (fun (q : s[i + j]'(by rw [HP.out]; exact hlt) = c) => nextN_at (by rw [HP.out]; exact hlt) HT.out q)
      have HPP := hd (show s[i + j]'(by rw [HP.out]; exact hlt) = s[p] by simp only [hp])
      rw [HPP.out] at HGE HAT
      rw [hp] at hj ⊢
      clear hp HPP
      by_cases q : s[p] = c
      · have kq := byte_same q
        have HE := hd (show (i : Int) + (nextN s.data.toList i c : Nat) = (p : Int) by rw [HAT.out q]; have := HP.out; omega)
        clear q HGE HAT
        go_wp2_with fail
        go_ret
        exact ⟨by rw [HE.out]; rfl, rfl⟩
      · have kq := byte_ne q
        have HE := hd (HGE.out q)
        clear q HGE HAT
        go_wp2_with fail
        go_round
        case rel => exact ⟨j + 1, by have := HP.out; omega, by have := HP.out; go_num, HE⟩
        case measure => simp [intOf]; omega
    · have HE := hd (show (i : Int) + (nextN s.data.toList i c : Nat) = (p : Int) by have h1 := HLE.out; have h2 := HT.out; have h3 := HP.out; have h4 := HSZ.out; omega)
      rw [hp] at hj ⊢
      clear hp
      go_wp2_with fail
      go_ret
      exact ⟨by rw [HE.out]; rfl, rfl⟩
theorem lastS_drop {c : UInt8} {m : List UInt8} {p : Nat} {b : Int} (hp : p < m.length) : lastS c (m.drop p) p b = lastS c (m.drop (p + 1)) (p + 1) (if m[p] = c then p else b) := by
  rw [List.drop_eq_getElem_cons hp]
  rfl
theorem lastS_all {c : UInt8} {m : List UInt8} {p : Nat} {b : Int} (hp : ¬ p < m.length) : lastS c (m.drop p) p b = b := by
  rw [List.drop_of_length_le (by omega)]
  rfl
theorem farS_drop {s : List UInt8} {i : Nat} {m : List UInt8} {p : Nat} {b far : Int} (hp : p < m.length) : farS s i (m.drop p) p b far = if far < valS s i m[p] then farS s i (m.drop (p + 1)) (p + 1) p (valS s i m[p]) else farS s i (m.drop (p + 1)) (p + 1) b far := by
  rw [List.drop_eq_getElem_cons hp]
  rfl
theorem farS_all {s : List UInt8} {i : Nat} {m : List UInt8} {p : Nat} {b far : Int} (hp : ¬ p < m.length) : farS s i (m.drop p) p b far = b := by
  rw [List.drop_of_length_le (by omega)]
  rfl
theorem byte_eqq {x c : UInt8} (h : x = c) : (((x.toNat : Nat) : Int) == ((c.toNat : Nat) : Int)) = true := by subst h; simp
theorem byte_neqq {x c : UInt8} (h : ¬ x = c) : (((x.toNat : Nat) : Int) == ((c.toNat : Nat) : Int)) = false := by
  simp only [beq_eq_false_iff_ne, ne_eq]
  intro e
  exact h (UInt8.toNat_inj.1 (by omega))
theorem planTo_next {s : ByteArray} {n i k : Nat} (hlt : i < s.size) (hk : chI s.data.toList (planTo s.data.toList n i).1 i = k) : planTo s.data.toList n (i + 1) = ((planTo s.data.toList n i).1.set k (s[i]), (planTo s.data.toList n i).2 ++ [(k : Int)]) := by
  rw [planTo, hk, get_listK s i hlt]
set_option maxRecDepth 100000 in
set_option maxHeartbeats 16000000 in
theorem plan_spec (w : World) (s : ByteArray) (hs : s.size ≤ 40) (hnz : ∀ x ∈ s.data.toList, x ≠ 0) (n : Nat) (hn : 1 ≤ n ∧ n ≤ 6) :
    Calls Tryz.prog 233 #[.string s, .int .i64 (n : Int)] w (GivesOwn w 2 1 eI (planTo s.data.toList n s.size).2) := by
  obtain ⟨i8, hi8, hy0, hy1, hy2⟩ := info_parts info_u8
  obtain ⟨i0, hi, hz0, hz1, hz2⟩ := info_parts info_i64
  have HCP := hd (fun i (hi : i < s.size) => chS_plan s.data.toList n i hnz hn.1 (by rw [list_size]; exact hi))
  obtain ⟨B, hB⟩ : ∃ B, B = w.heap.size := ⟨_, rfl⟩
  have HBE := hd hB
  have HB := hd (show B ≤ w.heap.size by omega)
  clear hB hnz
  go_enter Tryz.func233, Tryz.ntmps233
  go_wp2_with (at_make; refine wpList_make_full _ rfl _ _ 22 rfl w.heap.size 5 i8 (.int .u8 0) 1 Tryz.underlying22 hi8 hy0 hy1 .i64 .i64 _ _ n rfl rfl rfl rfl (by rw [hy2]; omega) (by unfold maxLen; omega) (Nat.le_refl _) ?_)
  intro w1 hown0 hgr
  have hM0 := (made_bytes _ _ _ _ _ hown0).base HB.out
  have hL0 : Below B w w1 := below_of_grown hgr HB.out (by simp)
  have hM := hM0.alloc (.cells #[] 2)
  have hO := Own.made0 w1 B 2 1 eI (Nat.le_trans HB.out hL0.size)
  have hL := hL0.alloc (Nat.le_trans HB.out hL0.size) (.cells #[] 2)
  have hg1 := (hM0.lt w.heap.size rfl).2
  have hA : apart (Value.slice (some ⟨w1.heap.size, 0, none⟩) 0 0).ownBlock (some w.heap.size) := .inr (fun e => by have e2 : some w1.heap.size = some w.heap.size := e; injection e2 with e2; omega)
  clear hgr hown0 hM0 hL0 hg1 hi8 hy0 hy1 hy2
  go_wp2_with fail
  generalize (Value.slice (some ⟨w1.heap.size, 0, none⟩) 0 0) = vO at hO hA ⊢
  generalize w1.alloc (.cells #[] 2) = W at hO hM hL ⊢
  obtain ⟨AO, cO, rfl⟩ : ∃ A c, vO = .slice A 0 c := hO.isSlice
  go_loopw [6, 7] (fun ov iv wr => ∃ i : Nat, i ≤ s.size ∧ iv = .int .i64 i ∧ Own wr B 2 1 ov eI (planTo s.data.toList n i).2 ∧ Own wr B 5 1 (.slice (some ⟨w.heap.size, 0, none⟩) n n) eU (planTo s.data.toList n i).1 ∧ apart ov.ownBlock (some w.heap.size) ∧ Below B w wr) (fun _ iv _ => s.size - (intOf iv).toNat)
  case atStart => exact ⟨0, Nat.zero_le _, rfl, hO, hM, hA, hL⟩
  case round =>
    obtain ⟨i, hi', rfl, hown, hmag, hap, hbel⟩ := hrel
    clear hO hM hA hL
    have hpl := planTo_len s.data.toList n i
    have HAP := hd hap
    have HML := hd hpl.1
    clear hap
    by_cases hlt : i < s.size
    · have HSI := hd (get_listK s i hlt)
      have HPL := hd (show (planTo s.data.toList n i).2.length ≤ 40 by omega)
      have hch := chI_lt s.data.toList (planTo s.data.toList n i).1 i (by omega)
      rw [hpl.1] at hch
      have HCH := hd (HCP.out i hlt)
      have HNX := hd (fun kk (h : chI s.data.toList (planTo s.data.toList n i).1 i = kk) => planTo_next hlt h)
      have HLT := hd hch
      clear hpl hch
      go_wp2_with fail
      as_aux_lemma =>
      go_loopw [8, 9] (fun bv kv wq => ∃ (p : Nat) (b : Int), p ≤ n ∧ (-1 ≤ b ∧ b < n) ∧ kv = .int .i64 p ∧ bv = .int .i64 b ∧ Hid (lastS s[i] ((planTo s.data.toList n i).1.drop p) p b = lastS s[i] (planTo s.data.toList n i).1 0 (-1)) ∧ Below wr.heap.size wr wq) (fun _ kv _ => n - (intOf kv).toNat)
      case atStart => exact ⟨0, -1, by omega, by omega, rfl, rfl, hd (by rw [List.drop_zero]), Below.refl _ _⟩
      case round =>
        obtain ⟨p, b, hp, ⟨hb1, hb2⟩, rfl, rfl, HF, hbq⟩ := hrel
        have hmq := hmag.below hbq (Nat.le_refl _)
        have hoq := hown.below hbq (Nat.le_refl _)
        have hbl := hbel.trans (hbq.mono (Nat.le_trans HB.out hbel.size))
        by_cases hpn : p < n
        · have hpm : p < (planTo s.data.toList n i).1.length := by rw [HML.out]; exact hpn
          obtain ⟨hcp, -⟩ := hmq.cell_one eU_len p hpm (u := .int .u8 ((planTo s.data.toList n i).1[p].toNat : Int)) rfl
          have HD := hd (lastS_drop (c := s[i]) (b := b) hpm)
          clear hmq hoq hbl
          generalize (planTo s.data.toList n i).1[p] = x at hcp HD
          by_cases hx : x = s[i]
          · have k0 := byte_eqq hx
            have HN := hd (show lastS s[i] ((planTo s.data.toList n i).1.drop (p + 1)) (p + 1) p = lastS s[i] (planTo s.data.toList n i).1 0 (-1) by rw [← HF.out, HD.out, if_pos hx])
            clear hx HD
            go_wp2_with fail
            go_quiet (fail)
            go_wp2_with fail
            go_roundw
            case rel => exact ⟨p + 1, p, by omega, by omega, by go_num, rfl, HN, below_drewN hbq _⟩
            case measure => simp [intOf]; omega
          · have k0 := byte_neqq hx
            have HN := hd (show lastS s[i] ((planTo s.data.toList n i).1.drop (p + 1)) (p + 1) b = lastS s[i] (planTo s.data.toList n i).1 0 (-1) by rw [← HF.out, HD.out, if_neg hx])
            clear hx HD
            go_wp2_with fail
            go_quiet (fail)
            go_wp2_with fail
            go_roundw
            case rel => exact ⟨p + 1, b, by omega, ⟨hb1, hb2⟩, by go_num, rfl, HN, below_drewN hbq _⟩
            case measure => simp [intOf]; omega
        · have HBV := hd (show b = lastS s[i] (planTo s.data.toList n i).1 0 (-1) by rw [← HF.out, lastS_all (by rw [HML.out]; exact hpn)])
          have HCS := hd (show chS s.data.toList (planTo s.data.toList n i).1 i = if 0 ≤ b then b else farS s.data.toList i (planTo s.data.toList n i).1 0 (-1) (-1) by unfold chS; rw [HSI.out, ← HBV.out])
          clear hmag hown hbel hbq HF
          by_cases h0 : 0 ≤ b
          · have HK := hd (show (chI s.data.toList (planTo s.data.toList n i).1 i : Int) = b by rw [← HCH.out, HCS.out, if_pos h0])
            obtain ⟨kk, rfl⟩ := Int.eq_ofNat_of_zero_le h0
            have hkke : chI s.data.toList (planTo s.data.toList n i).1 i = kk := by have := HK.out; omega
            have hkk : kk < n := by omega
            clear HK HCS h0
            have HSUCC := hd (HNX.out kk hkke)
            have hln := HPL.out
            have hB2 : B ≤ wr.heap.size := Nat.le_trans HB.out hbl.size
            have hcq := hmq.cell_one eU_len kk (by rw [HML.out]; exact hkk) (u := .int .u8 ((planTo s.data.toList n i).1[kk]'(by rw [HML.out]; exact hkk)).toNat) rfl
            obtain ⟨hcell, hfr⟩ := hcq
            have HST := hd (hmq.set_one eU_len kk (s[i]) (u := .int .u8 (s[i].toNat : Int)) rfl)
            have hgr1 := kgrown_set wr ⟨w.heap.size, kk, none⟩ (.int .u8 (s[i].toNat : Int))
            have hgm := hmq.lt w.heap.size rfl
            have hown1 : Own (wr.setCell ⟨w.heap.size, kk, none⟩ (.int .u8 (s[i].toNat : Int))) B 2 1 u6 eI (planTo s.data.toList n i).2 := hoq.grown hgr1 HAP.out
            have hbel1 : Below B w (wr.setCell ⟨w.heap.size, kk, none⟩ (.int .u8 (s[i].toNat : Int))) := hbl.setCell (p := ⟨w.heap.size, kk, none⟩) hgm.1 _
            have hzz : (wr.setCell ⟨w.heap.size, kk, none⟩ (.int .u8 (s[i].toNat : Int))).heap.size = wr.heap.size := by simp
            have HZZ := hd hzz
            clear hmq hbl hoq hgr1 hzz hkke
            go_wp2_with (at_builtin; refine wpList_push_at _ rfl _ _ 56 rfl i0 (.int .i64 0) 8 Tryz.underlying56 hi hz0 hz1 hz2 rfl (by decide) _ _ (kk : Int) rfl (hown1.alloc _) wr.heap.size rfl #[.int .i64 (kk : Int)] 2 (by have := heap_alloc_new (wr.setCell ⟨w.heap.size, kk, none⟩ (.int .u8 (s[i].toNat : Int))) (.cells #[.int .i64 (kk : Int)] 2); rwa [HZZ.out] at this) rfl rfl (by intro u hu; simp [eI] at hu; subst hu; rfl) (by unfold maxLen; omega) (by omega) (by simp; omega) ?_)
            intro v' w3 hown2 hgr2 hat
            have hbel2 := (hbel1.alloc (by rw [HZZ.out]; exact hB2) (.cells #[.int .i64 (kk : Int)] 2)).grown hgr2 (by simp; omega) (fun g hg => (hown1.lt g hg).1)
            have hmag2 := (HST.out.alloc (.cells #[.int .i64 (kk : Int)] 2)).grown hgr2 (ne_symm HAP.out)
            have hap2 : apart v'.ownBlock (some w.heap.size) := apart_push (N := wr.heap.size) HAP.out (by simpa using hat) (fun g hg => by injection hg with hg; omega)
            have HO2 := hd hown2
            have HM2 := hd hmag2
            have HA2 := hd hap2
            have HB2 := hd hbel2
            clear hown2 hmag2 hap2 hbel2 hgr2 hat hown1 hbel1 hcell hfr
            go_wp2_with fail
            go_roundw
            case rel => exact ⟨i + 1, by omega, by go_num, by rw [HSUCC.out]; exact HO2.out, by rw [HSUCC.out]; exact HM2.out, HA2.out, HB2.out⟩
            case measure => simp [intOf]; omega
          · have HFS := hd (show (chI s.data.toList (planTo s.data.toList n i).1 i : Int) = farS s.data.toList i (planTo s.data.toList n i).1 0 (-1) (-1) by rw [← HCH.out, HCS.out, if_neg h0])
            have hb0 : b = -1 := by omega
            subst hb0
            clear HCS h0
            have HMQ := hd hmq
            have HOQ := hd hoq
            have HBL := hd hbl
            clear hmq hoq hbl
            go_wp2_with fail
            as_aux_lemma =>
            go_loop [8, 10, 11] (fun bv fv kv => ∃ (p : Nat) (b far : Int), p ≤ n ∧ (-1 ≤ b ∧ b < n) ∧ (-1 ≤ far ∧ far ≤ 41) ∧ kv = .int .i64 p ∧ bv = .int .i64 b ∧ fv = .int .i64 far ∧ Hid (farS s.data.toList i ((planTo s.data.toList n i).1.drop p) p b far = farS s.data.toList i (planTo s.data.toList n i).1 0 (-1) (-1))) (fun _ _ kv => n - (intOf kv).toNat)
            case atStart => exact ⟨0, -1, -1, by omega, by omega, by omega, rfl, rfl, rfl, hd (by rw [List.drop_zero])⟩
            case round =>
              obtain ⟨p, b, far, hp, ⟨hb1, hb2⟩, ⟨hf1, hf2⟩, rfl, rfl, rfl, HF⟩ := hrel
              have hmq := HMQ.out
              have hoq := HOQ.out
              have hbl := HBL.out
              by_cases hpn : p < n
              · have hpm : p < (planTo s.data.toList n i).1.length := by rw [HML.out]; exact hpn
                obtain ⟨hcp, -⟩ := hmq.cell_one eU_len p hpm (u := .int .u8 ((planTo s.data.toList n i).1[p].toNat : Int)) rfl
                have HD := hd (farS_drop (s := s.data.toList) (i := i) (b := b) (far := far) hpm)
                clear hmq hoq hbl
                generalize (planTo s.data.toList n i).1[p] = x at hcp HD
                by_cases hx : x = 0
                · have k0 := byte_zero hx
                  have hv : valS s.data.toList i x = (s.size : Int) + 1 := by rw [hx]; show (s.data.toList.length : Int) + 1 = _; rw [list_size]
                  have HV := hd hv
                  clear hv hx
                  by_cases hfar : far < (s.size : Int) + 1
                  · have HN := hd (show farS s.data.toList i ((planTo s.data.toList n i).1.drop (p + 1)) (p + 1) p ((s.size : Int) + 1) = farS s.data.toList i (planTo s.data.toList n i).1 0 (-1) (-1) by rw [← HF.out, HD.out, HV.out, if_pos hfar])
                    clear HD HV
                    go_wp2_with fail
                    go_roundw
                    case rel => exact ⟨p + 1, p, (s.size : Int) + 1, by omega, by omega, by omega, by go_num, rfl, rfl, HN⟩
                    case measure => simp [intOf]; omega
                  · have HN := hd (show farS s.data.toList i ((planTo s.data.toList n i).1.drop (p + 1)) (p + 1) b far = farS s.data.toList i (planTo s.data.toList n i).1 0 (-1) (-1) by rw [← HF.out, HD.out, HV.out, if_neg hfar])
                    clear HD HV
                    go_wp2_with fail
                    go_roundw
                    case rel => exact ⟨p + 1, b, far, by omega, ⟨hb1, hb2⟩, ⟨hf1, hf2⟩, by go_num, rfl, rfl, HN⟩
                    case measure => simp [intOf]; omega
                · have k0 := byte_ne0 hx
                  have HV := hd (show valS s.data.toList i x = ((i + nextN s.data.toList i x : Nat) : Int) by unfold valS; rw [if_neg hx])
                  have hnl : i + nextN s.data.toList i x ≤ 40 := by have h1 := nextN_le s.data.toList i x; have h2 := list_size s; omega
                  have HNS := hd (next_specL wr s hs x i hi')
                  clear hx
                  generalize i + nextN s.data.toList i x = y at HV hnl HNS
                  by_cases hfar : far < (y : Int)
                  · have HN := hd (show farS s.data.toList i ((planTo s.data.toList n i).1.drop (p + 1)) (p + 1) p (y : Int) = farS s.data.toList i (planTo s.data.toList n i).1 0 (-1) (-1) by rw [← HF.out, HD.out, HV.out, if_pos hfar])
                    clear HD HV
                    go_wp2_with fail
                    refine HNS.out.mono ?_
                    rintro e ww ⟨rfl, hw⟩
                    have hw := hw.symm
                    subst hw
                    go_wp2_with fail
                    go_roundw
                    case rel => exact ⟨p + 1, p, y, by omega, by omega, by omega, by go_num, rfl, rfl, HN⟩
                    case measure => simp [intOf]; omega
                  · have HN := hd (show farS s.data.toList i ((planTo s.data.toList n i).1.drop (p + 1)) (p + 1) b far = farS s.data.toList i (planTo s.data.toList n i).1 0 (-1) (-1) by rw [← HF.out, HD.out, HV.out, if_neg hfar])
                    clear HD HV
                    go_wp2_with fail
                    refine HNS.out.mono ?_
                    rintro e ww ⟨rfl, hw⟩
                    have hw := hw.symm
                    subst hw
                    go_wp2_with fail
                    go_roundw
                    case rel => exact ⟨p + 1, b, far, by omega, ⟨hb1, hb2⟩, ⟨hf1, hf2⟩, by go_num, rfl, rfl, HN⟩
                    case measure => simp [intOf]; omega
              · have HK := hd (show (chI s.data.toList (planTo s.data.toList n i).1 i : Int) = b by rw [HFS.out, ← HF.out, farS_all (by rw [HML.out]; exact hpn)])
                obtain ⟨kk, rfl⟩ := Int.eq_ofNat_of_zero_le (show 0 ≤ b by have := HK.out; omega)
                have hkke : chI s.data.toList (planTo s.data.toList n i).1 i = kk := by have := HK.out; omega
                have hkk : kk < n := by omega
                clear HK HF HFS
                have HSUCC := hd (HNX.out kk hkke)
                have hln := HPL.out
                have hB2 : B ≤ wr.heap.size := Nat.le_trans HB.out hbl.size
                have hcq := hmq.cell_one eU_len kk (by rw [HML.out]; exact hkk) (u := .int .u8 ((planTo s.data.toList n i).1[kk]'(by rw [HML.out]; exact hkk)).toNat) rfl
                obtain ⟨hcell, hfr⟩ := hcq
                have HST := hd (hmq.set_one eU_len kk (s[i]) (u := .int .u8 (s[i].toNat : Int)) rfl)
                have hgr1 := kgrown_set wr ⟨w.heap.size, kk, none⟩ (.int .u8 (s[i].toNat : Int))
                have hgm := hmq.lt w.heap.size rfl
                have hown1 : Own (wr.setCell ⟨w.heap.size, kk, none⟩ (.int .u8 (s[i].toNat : Int))) B 2 1 u6 eI (planTo s.data.toList n i).2 := hoq.grown hgr1 HAP.out
                have hbel1 : Below B w (wr.setCell ⟨w.heap.size, kk, none⟩ (.int .u8 (s[i].toNat : Int))) := hbl.setCell (p := ⟨w.heap.size, kk, none⟩) hgm.1 _
                have hzz : (wr.setCell ⟨w.heap.size, kk, none⟩ (.int .u8 (s[i].toNat : Int))).heap.size = wr.heap.size := by simp
                have HZZ := hd hzz
                clear hmq hbl hoq hgr1 hzz hkke
                go_wp2_with (at_builtin; refine wpList_push_at _ rfl _ _ 56 rfl i0 (.int .i64 0) 8 Tryz.underlying56 hi hz0 hz1 hz2 rfl (by decide) _ _ (kk : Int) rfl (hown1.alloc _) wr.heap.size rfl #[.int .i64 (kk : Int)] 2 (by have := heap_alloc_new (wr.setCell ⟨w.heap.size, kk, none⟩ (.int .u8 (s[i].toNat : Int))) (.cells #[.int .i64 (kk : Int)] 2); rwa [HZZ.out] at this) rfl rfl (by intro u hu; simp [eI] at hu; subst hu; rfl) (by unfold maxLen; omega) (by omega) (by simp; omega) ?_)
                intro v' w3 hown2 hgr2 hat
                have hbel2 := (hbel1.alloc (by rw [HZZ.out]; exact hB2) (.cells #[.int .i64 (kk : Int)] 2)).grown hgr2 (by simp; omega) (fun g hg => (hown1.lt g hg).1)
                have hmag2 := (HST.out.alloc (.cells #[.int .i64 (kk : Int)] 2)).grown hgr2 (ne_symm HAP.out)
                have hap2 : apart v'.ownBlock (some w.heap.size) := apart_push (N := wr.heap.size) HAP.out (by simpa using hat) (fun g hg => by injection hg with hg; omega)
                have HO2 := hd hown2
                have HM2 := hd hmag2
                have HA2 := hd hap2
                have HB2 := hd hbel2
                clear hown2 hmag2 hap2 hbel2 hgr2 hat hown1 hbel1 hcell hfr
                go_wp2_with fail
                go_roundw
                case rel => exact ⟨i + 1, by omega, by go_num, by rw [HSUCC.out]; exact HO2.out, by rw [HSUCC.out]; exact HM2.out, HA2.out, HB2.out⟩
                case measure => simp [intOf]; omega
    · obtain rfl : i = s.size := by omega
      clear hpl
      go_wp2_with fail
      go_ret
      exact ⟨_, rfl, by rw [← HBE.out]; exact hown, by rw [← HBE.out]; exact hbel⟩
set_option maxRecDepth 100000 in
set_option maxHeartbeats 8000000 in
theorem cnt_spec (w : World) (s : ByteArray) (hs : s.size ≤ 40) (n : Nat) (hn : 1 ≤ n ∧ n ≤ 6) (v : Value) (p : List Int) (h : Sl w 1 v eI p) (hl : p.length = s.size) (hp : ∀ x ∈ p, 0 ≤ x ∧ x < n) :
    Calls Tryz.prog 232 #[.string s, .int .i64 (n : Int), v] w fun e w' => e = .returned (.int .i64 (cntTo s.data.toList n p s.size).2) ∧ Below w.heap.size w w' := by
  obtain ⟨i0, hi, hz0, hz1, hz2⟩ := info_parts info_u8
  obtain ⟨A, cc, rfl⟩ := h.isSlice
  have HL := hd hl
  have HP := hd hp
  rw [hl]
  clear hl hp
  go_enter Tryz.func232, Tryz.ntmps232
  go_wp2_with (at_make; refine wpList_make_full _ rfl _ _ 22 rfl w.heap.size 5 i0 (.int .u8 0) 1 Tryz.underlying22 hi hz0 hz1 .i64 .i64 _ _ n rfl rfl rfl rfl (by rw [hz2]; omega) (by unfold maxLen; omega) (Nat.le_refl _) ?_)
  intro w1 hown0 hgr
  have hown0 := made_bytes _ _ _ _ _ hown0
  have hbel0 : Below w.heap.size w w1 := below_of_grown hgr (Nat.le_refl _) (by simp)
  clear hgr hi hz0 hz1 hz2
  go_wp2_with fail
  go_loopw [8, 9] (fun cv iv wr => ∃ i : Nat, i ≤ s.size ∧ iv = .int .i64 i ∧ cv = .int .i64 (cntTo s.data.toList n p i).2 ∧ Own wr w.heap.size 5 1 (.slice (some ⟨w.heap.size, 0, none⟩) n n) eU (cntTo s.data.toList n p i).1 ∧ Below w.heap.size w wr) (fun _ iv _ => s.size - (intOf iv).toNat)
  case atStart => exact ⟨0, Nat.zero_le _, rfl, rfl, hown0, hbel0⟩
  case round =>
    obtain ⟨i, hi', rfl, rfl, hown, hbel⟩ := hrel
    clear hown0 hbel0
    by_cases hlt : i < s.size
    · have hip : i < p.length := by rw [HL.out]; exact hlt
      obtain ⟨x1, x2⟩ := HP.out _ (List.getElem_mem hip)
      obtain ⟨bb, oo, hA, hbb, hcc⟩ := (h.below hbel).int_at hip
      subst hA
      have hbw : bb < w.heap.size := by
        obtain ⟨b', o', hA', hb', -⟩ := h.int_at hip
        injection hA' with e
        injection e with e1
        omega
      have HG := hd (show p.getD i 0 = p[i] by rw [List.getD_eq_getElem?_getD, List.getElem?_eq_getElem hip]; rfl)
      have HSI := hd (get_listK s i hlt)
      have hml := cntTo_len s.data.toList n p i
      obtain ⟨q1, q2⟩ := cntTo_bd s.data.toList n p i
      generalize p[i] = x at x1 x2 hcc HG
      obtain ⟨k, rfl⟩ := Int.eq_ofNat_of_zero_le x1
      have hk : k < (cntTo s.data.toList n p i).1.length := by rw [hml]; omega
      have HS := hd (fun he => cntTo_same HG.out HSI.out hk he)
      have HO := hd (fun he => cntTo_other HG.out HSI.out hk he)
      obtain ⟨hcell, hfr⟩ := hown.cell_one eU_len k hk (u := .int .u8 ((cntTo s.data.toList n p i).1[k].toNat : Int)) rfl
      have HST := hd (hown.set_one eU_len k (s[i]) (u := .int .u8 (s[i].toNat : Int)) rfl)
      have HOW := hd hown
      have HBE := hd hbel
      have hset : ∀ he : (cntTo s.data.toList n p i).1[k] = s[i], (cntTo s.data.toList n p i).1.set k s[i] = (cntTo s.data.toList n p i).1 := fun he => by rw [← he]; exact List.set_getElem_self hk
      have HSE := hd hset
      generalize (cntTo s.data.toList n p i).1[k] = y at hcell HS HO HSE
      have HML := hd hml
      clear hml hown hbel hset
      obtain ⟨c, hc⟩ : ∃ c, (cntTo s.data.toList n p i).2 = c := ⟨_, rfl⟩
      rw [hc] at q1 q2 HO ⊢
      have HCQ := hd hc
      clear hc
      have q3 : c ≤ 40 := by omega
      have hbne : bb ≠ w.heap.size := by omega
      have HBN := hd hbw
      by_cases hy : y = s[i]
      · have k0 := byte_same hy
        have HE := hd (HS.out hy)
        have HSS := hd (HSE.out hy)
        clear hy HS HO HSE
        go_wp2_with fail
        go_quiet (fail)
        go_wp2_with fail
        go_region
        all_goals
          go_wp2_with fail
          go_roundw
          case rel => exact ⟨i + 1, by omega, by go_num, by rw [HE.out, HCQ.out], by rw [HE.out, ← HSS.out]; exact Own.drew (Own.drewN HST.out _), Below.drew (below_drewN (HBE.out.setCell (p := ⟨w.heap.size, k, none⟩) (Nat.le_refl _) _) _)⟩
          case measure => simp [intOf]; omega
      · have k0 := byte_ne hy
        have HE := hd (HO.out hy)
        clear hy HS HO HSE
        go_wp2_with fail
        go_quiet (fail)
        go_wp2_with fail
        go_region
        all_goals
          go_wp2_with fail
          go_roundw
          case rel => exact ⟨i + 1, by omega, by go_num, by rw [HE.out], by rw [HE.out]; exact Own.drew (Own.drewN HST.out _), Below.drew (below_drewN (HBE.out.setCell (p := ⟨w.heap.size, k, none⟩) (Nat.le_refl _) _) _)⟩
          case measure => simp [intOf]; omega
    · obtain rfl : i = s.size := by omega
      go_wp2_with fail
      go_ret
      exact ⟨rfl, hbel⟩
set_option maxRecDepth 100000 in
set_option maxHeartbeats 8000000 in
theorem fewL_spec (w : World) (s : ByteArray) (hs : s.size ≤ 1048576) (n : Int) :
    Calls Tryz.prog 174 #[.string s, .int .i64 n] w fun e w' => e = .returned (.tuple #[.int .i64 (loadR s n).1, .int .i64 (loadR s n).2]) ∧ Below w.heap.size w w' := by
  by_cases hc : showC s n = 0
  case neg =>
    obtain ⟨c, hcc⟩ : ∃ c, showC s n = c := ⟨_, rfl⟩
    have HR := hd (loadR_bad hcc (by rw [← hcc]; exact hc))
    have kc : (c != 0) = true := by rw [← hcc]; simpa using hc
    have HC := hd hcc
    clear hc hcc
    go_enter Tryz.func174, Tryz.ntmps174
    go_wp2_with fail
    refine (showC_spec _ _ hs _).mono ?_
    rintro e ww ⟨rfl, hw⟩
    have hw := hw.symm
    subst hw
    rw [HC.out]
    go_wp2_with fail
    go_ret2
    exact ⟨by rw [HR.out]; rfl, Below.refl _ _⟩
  have HR := loadR_good hc
  obtain ⟨h1, h2⟩ := showC_zero hc
  obtain ⟨hz, hnz⟩ := okShow_bd h1
  have HNZ := hd hnz
  have hn := inB_true h2
  obtain ⟨m, rfl⟩ := Int.eq_ofNat_of_zero_le (show 0 ≤ n by omega)
  rw [Int.toNat_natCast] at HR
  have hpl := (planTo_len s.data.toList m s.size).2
  have hpb := plan_bd s.data.toList m (by omega) s.size
  have HPL := hd hpl
  have HPB := hd hpb
  have HLN := hd (show loadN s.data.toList m = (cntTo s.data.toList m (planTo s.data.toList m s.size).2 s.size).2 by unfold loadN; rw [list_size])
  have hlb := loadR_bd s m
  rw [HR] at hlb
  have HR := hd HR
  have HC := hd hc
  clear hc h1 h2 hnz hpl hpb
  go_enter Tryz.func174, Tryz.ntmps174
  go_wp2_with fail
  refine (showC_spec _ _ hs _).mono ?_
  rintro e ww ⟨rfl, hw⟩
  have hw := hw.symm
  subst hw
  rw [HC.out]
  go_wp2_with fail
  refine (plan_spec _ _ hz HNZ.out _ (by omega)).mono ?_
  rintro e w1 ⟨v, rfl, O, B⟩
  have SP := O.sl eI_len
  obtain ⟨A, cc, rfl⟩ := O.isSlice
  go_wp2_with fail
  refine (cnt_spec _ _ hz _ (by omega) _ _ SP HPL.out HPB.out).mono ?_
  rintro e w2 ⟨rfl, hb2⟩
  rw [← HLN.out]
  have B2 := below_step B hb2
  clear SP O B hb2
  go_wp2_with fail
  go_ret2
  exact ⟨by rw [HR.out]; rfl, B2⟩
end Go.Proofs.YtgcodjkjdfahdaaGreatDoor
