/- slices.DeleteFunc at hires: those that are not deleted, in their order. No condition but that the row is held. -/
import Derived.Test.YtlgcehdklpbknaaStab
import Derived.Test.YtlgcehdklpbknaaHires
import Derived.Test.YtlgcehdklpbknaaFind
import Derived.Test.YtlgcehdklpbknaaApp
namespace Go.Proofs.Ytlgcehdklpbknaa
open Go Go.RowKit Go.ChangeShapes Go.WideShapes Go.Shelf Go.Lib Go.Sort
set_option linter.unusedSimpArgs false
set_option linter.unusedVariables false
set_option maxHeartbeats 1000000 in
theorem clone_H (w : World) (v : Value) (l : List THire) (h : Sl w 3 v eHire l) (hl : l.length ≤ 1048576) :
    Calls Try.prog 94 #[v] w (GivesOwn w 76 3 eHire l) := by
  obtain ⟨-, A, c, rfl, -, -, hA⟩ := id h
  obtain ⟨i0, hi, hz0, hz1, hz2⟩ := info_parts info_Hire
  have q : ∀ (w : World) (a : Option Addr) (n c n' c' : Nat), (binOp .eql 64 (.slice a n c) (.slice none n' c')).run Try.prog w = .ok (.bool a.isNone) w := fun w a n c n' c' => Go.Lib.run_eql_slice_nil w _ _ a n c n' c' Try.underlying64
  rcases A with _ | ad
  · have hnil : l = [] := by
      rcases l with _ | ⟨y, l⟩
      · rfl
      · obtain ⟨b, o, he, -⟩ := hA 0 y rfl
        cases he
    subst hnil
    go_enter Try.func94, Try.ntmps94
    go_wp2_with fail
    go_ret
    exact ⟨_, rfl, Own.nil _ _ _ _ _, Below.refl _ _⟩
  · clear hA
    go_enter Try.func94, Try.ntmps94
    go_wp2_with (at_builtin; refine wpList_append_sl _ rfl _ _ 64 rfl i0 (.agg #[.int .i64 0, .int .i64 0, .int .i64 0]) 24 Try.underlying64 hi hz0 hz1 hz2 rfl (by decide) eHire_len (by rintro ⟨a, b, c⟩ u hu; simp [eHire] at hu; rcases hu with rfl | rfl | rfl <;> rfl) _ [] rfl (Own.made0 w w.heap.size 76 3 eHire (Nat.le_refl _)) _ l rfl (h.alloc _) (by unfold maxLen; simp; omega) (by simp; omega) (by simp) ?_)
    intro v' w1 hown hgr
    have hbel := ((Below.refl w.heap.size w).alloc (Nat.le_refl _) (.cells #[] 76)).grown hgr (by simp) (by intro g hg; simp [Value.ownBlock] at hg; omega)
    go_wp2_with fail
    go_ret
    exact ⟨_, rfl, by simpa using hown, hbel⟩

theorem holdsK_own {w : World} {B E g cap : Nat} {L : List THire} (h : Own w B E 3 (.slice (some ⟨g, 0, none⟩) L.length cap) eHire L) : HoldsK eHire 3 w g 0 L.toArray := by
  intro t ht
  have ht' : t < L.length * 3 := by simpa using ht
  have hi : t / 3 < L.length := by omega
  rw [Nat.zero_add]
  refine ⟨?_, World.ownsRow.frozenAt h t⟩
  rw [World.ownsRow.cellAt h t ht', get_flatK eHire 3 L.toArray t (by simpa using ht'), bang_at hi]
  have := flatMap_at eHire 3 eHire_len L (t / 3) L[t / 3] (List.getElem?_eq_getElem hi) (t % 3) (by omega)
  rw [show t / 3 * 3 + t % 3 = t by omega] at this
  rw [this, getElem!_pos (eHire L[t / 3]) (t % 3) (by rw [eHire_len]; omega)]
  exact List.getElem?_eq_getElem (by rw [eHire_len]; omega)
theorem grown_putH (w : World) (blk off : Nat) (F : Array Value) : w.grownBy (putRow id w blk off F) (some blk) := by
  refine ⟨rfl, rfl, rfl, by simp [Sort.putRow, Sort.mapBlock], fun k hk hne => ?_⟩
  show (w.heap.modify blk _)[k]? = _
  rw [Array.getElem?_modify, if_neg (fun e => hne (by rw [e]))]
theorem St.grown {k : Nat} {w W : World} {blk off n : Nat} {L : List THire} (h : St k w blk off n L W) : w.grownBy W (some blk) := by
  obtain ⟨-, m, os, rfl⟩ := h
  have h1 : w.grownBy (Sort.ahead w m) (some blk) := ⟨rfl, rfl, rfl, Nat.le_refl _, fun _ _ _ => rfl⟩
  have h2 := grown_putH (Sort.ahead w m) blk off (flatK eHire k L.toArray)
  have h3 : (putRowK eHire k (Sort.ahead w m) blk off L.toArray).grownBy (sortWorldK eHire k w blk off m L.toArray os) (some blk) := by
    refine ⟨rfl, rfl, rfl, by simp [sortWorldK, Sort.grow], fun j hj _ => ?_⟩
    show ((putRowK eHire k (Sort.ahead w m) blk off L.toArray).heap ++ os)[j]? = _
    rw [Array.getElem?_append_left hj]
  exact grownBy_trans (grownBy_trans h1 h2) h3
theorem setMany_set (enc : THire → List Value) (k : Nat) (hk : ∀ x, (enc x).length = k) (L : List THire) (i : Nat) (x : THire) (hi : i < L.length) : setMany (flatK enc k L.toArray) (i * k) (enc x) = flatK enc k (L.set i x).toArray := by
  refine ext_get! (by simp) fun t ht => ?_
  have ht' : t < L.length * k := by simpa using ht
  have k0 : 0 < k := by
    rcases Nat.eq_zero_or_pos k with h | h
    · subst h; simp at ht'
    · exact h
  have htk : t / k < L.length := Nat.div_lt_of_lt_mul (by rw [Nat.mul_comm]; exact ht')
  rw [get_setMany _ _ _ t (by simpa using ht'), get_flatK _ _ _ t (by simpa using ht'), get_flatK _ _ _ t (by simpa using ht'), hk, bang_at htk, bang_at (by simpa using htk)]
  by_cases b : t / k = i
  · rw [if_pos ((blk_iff k i t k0).2 b)]
    have e : t - i * k = t % k := by rw [← b, Nat.mod_eq_sub_div_mul]
    rw [e, List.getElem_set, if_pos b.symm]
  · rw [if_neg (fun h => b ((blk_iff k i t k0).1 h)), List.getElem_set, if_neg (fun e => b e.symm)]
theorem St.set {w W : World} {blk off n : Nat} {L : List THire} (hb : blk < w.heap.size) (h : St 3 w blk off n L W) {i : Nat} (hi : i < L.length) (x : THire) : St 3 w blk off n (L.set i x) (W.setCells blk (off + i * 3) (eHire x)) := by
  obtain ⟨hl, m, os, rfl⟩ := h
  refine ⟨by simpa using hl, m, os, ?_⟩
  unfold sortWorldK
  rw [setCells_grow os blk _ _ _ (by rw [size_putRowK]; exact hb)]
  congr 1
  unfold putRowK
  rw [setCells_putRow _ _ _ _ _ _ (by rw [eHire_len, size_flatK]; simpa using row_bound (k := 3) hi), setMany_set eHire 3 eHire_len L i x hi]
def zeroH : THire := (0, 0, 0)
def zerosH (c : Nat) : List Value := (Builtin.zeroCells #[.int .i64 0, .int .i64 0, .int .i64 0] c).toList
theorem zerosH_len (c : Nat) : (zerosH c).length = c * 3 := by simp [zerosH, Builtin.zeroCells]
theorem zerosH_at {c t : Nat} (h : t < c * 3) : (zerosH c)[t]! = .int .i64 0 := by
  rw [getElem!_pos _ t (by rw [zerosH_len]; exact h)]
  have : t % 3 < 3 := Nat.mod_lt _ (by omega)
  rcases (show t % 3 = 0 ∨ t % 3 = 1 ∨ t % 3 = 2 by omega) with e | e | e <;> simp [zerosH, Builtin.zeroCells, e]
theorem zerosH_one (c : Nat) : ∀ v ∈ zerosH c, v.oneCell' = true := by
  intro v hv
  obtain ⟨t, ht, e⟩ := List.getElem_of_mem hv
  have := zerosH_at (c := c) (t := t) (by rw [zerosH_len] at ht; exact ht)
  rw [getElem!_pos _ t ht, e] at this
  rw [this]; rfl
theorem setMany_zeros (L : List THire) (i : Nat) (hi : i ≤ L.length) : setMany (flatK eHire 3 L.toArray) (i * 3) (zerosH (L.length - i)) = flatK eHire 3 (L.take i ++ List.replicate (L.length - i) zeroH).toArray := by
  refine ext_get! (by simp; omega) fun t ht => ?_
  have ht' : t < L.length * 3 := by simpa using ht
  have hz : (L.take i ++ List.replicate (L.length - i) zeroH).length = L.length := by simp; omega
  have htk : t / 3 < L.length := by omega
  rw [get_setMany _ _ _ t (by simpa using ht'), get_flatK _ _ _ t (by simpa using ht'), get_flatK _ _ _ t (by simp only [List.size_toArray, hz]; exact ht'), zerosH_len, bang_at htk, bang_at (by rw [hz]; exact htk)]
  by_cases b : i * 3 ≤ t
  · rw [if_pos ⟨b, by omega⟩, zerosH_at (by omega), List.getElem_append_right (by simp; omega), List.getElem_replicate]
    have : t % 3 < 3 := Nat.mod_lt _ (by omega)
    rcases (show t % 3 = 0 ∨ t % 3 = 1 ∨ t % 3 = 2 by omega) with e | e | e <;> rw [e] <;> rfl
  · rw [if_neg (by omega), List.getElem_append_left (by simp; omega), List.getElem_take]
theorem St.clear {w W : World} {blk off n : Nat} {L : List THire} (hb : blk < w.heap.size) (h : St 3 w blk off n L W) {i : Nat} (hi : i ≤ L.length) : St 3 w blk off n (L.take i ++ List.replicate (L.length - i) zeroH) (W.setCells blk (off + i * 3) (zerosH (L.length - i))) := by
  obtain ⟨hl, m, os, rfl⟩ := h
  refine ⟨by simp; omega, m, os, ?_⟩
  unfold sortWorldK
  rw [setCells_grow os blk _ _ _ (by rw [size_putRowK]; exact hb)]
  congr 1
  unfold putRowK
  rw [setCells_putRow _ _ _ _ _ _ (by rw [zerosH_len, size_flatK]; simp; omega), setMany_zeros L i hi]
theorem St.cells3 {w W : World} {blk off n : Nat} {L : List THire} (R : Row 3 w blk off n) (h : St 3 w blk off n L W) {i : Nat} (hi : i < L.length) :
    W.cell? ⟨blk, off + i * 3, none⟩ = some (.int .i64 L[i].1) ∧ W.cell? ⟨blk, off + i * 3 + 1, none⟩ = some (.int .i64 L[i].2.1) ∧ W.cell? ⟨blk, off + i * 3 + 2, none⟩ = some (.int .i64 L[i].2.2) := by
  have c := HoldsK.cells (h.holds R) eHire_len (i := i) (by simpa using hi)
  rw [bang_at hi] at c
  exact ⟨c 0 _ rfl, c 1 _ rfl, c 2 _ rfl⟩
theorem holdsK_pre {W : World} {blk off : Nat} {A Z : List THire} (h : HoldsK eHire 3 W blk off (A ++ Z).toArray) : HoldsK eHire 3 W blk off A.toArray := by
  intro t ht
  have ht' : t < A.length * 3 := by simpa using ht
  have h1 := h t (by simp; omega)
  rw [get_flatK _ _ _ t (by simp; omega), bang_at (by simp; omega)] at h1
  rw [get_flatK _ _ _ t (by simpa using ht'), bang_at (by omega)]
  rw [List.getElem_append_left (by omega)] at h1
  exact h1
theorem Row.zero {w : World} {blk off n : Nat} {L : List THire} (hb : blk < w.heap.size) (h : HoldsK eHire 3 w blk off L.toArray) (hl : L.length = n) (hn : n ≤ 40) : Row 3 w blk off n := ⟨hb, ⟨L, hl, h⟩, hn⟩
/-- clear() of a tail of the row -/
theorem run_clear_h {w W : World} {blk off n : Nat} {L : List THire} (R : Row 3 w blk off n) (h : St 3 w blk off n L W) {i : Nat} (hi : i < L.length) (ty c : Nat) :
    (Builtin.clear_ #[64] ty #[.slice (some ⟨blk, off + i * 3, none⟩) (n - i) c]).run Try.prog W = .ok (.tuple #[]) (W.setCells blk (off + i * 3) (zerosH (L.length - i))) := by
  have hn := h.len
  have hs := stores_of_holds Try.prog (h.holds R) (i * 3) (zerosH (L.length - i)) (by rw [zerosH_len, size_flatK]; simp; omega) (zerosH_one _)
  unfold zerosH at hs ⊢
  obtain ⟨m, hm⟩ : ∃ m, L.length - i = m + 1 := ⟨L.length - i - 1, by omega⟩
  have hni : n - i = m + 1 := by omega
  rw [hm] at hs ⊢
  rw [hni]
  have hc : (Value.agg #[.int .i64 0, .int .i64 0, .int .i64 0]).cells = #[.int .i64 0, .int .i64 0, .int .i64 0] := rfl
  have hv := Try.zeroValue76
  simp [Builtin.clear_, run_underlying Try.underlying64, hv, hc, hs]
theorem grown_cell {w W : World} {row : Option Nat} (h : w.grownBy W row) {p : Addr} (hp : p.block < w.heap.size) (hne : row ≠ some p.block) : W.cell? p = w.cell? p := by
  unfold World.cell?
  rw [h.block _ hp (fun e => hne e.symm)]
/-- what is asked of the function that says which hires go -/
def PredSt (g : Nat) (cb : Array Value) (del : THire → Bool) (w : World) (blk off n : Nat) : Prop :=
  ∀ (W : World) (M : List THire), St 3 w blk off n M W → ∀ x : THire, Calls Try.prog g (#[.agg (eHire x).toArray] ++ cb) W fun e w' => e = .returned (.bool (del x)) ∧ ∃ q os', w' = grow (W.drewN q) os'
theorem St.alloc {w W : World} {blk off n : Nat} {L : List THire} (h : St 3 w blk off n L W) (o : Obj) : St 3 w blk off n L (W.alloc o) := by
  have := h.class 0 #[o]
  rwa [alloc_eq_grow]
theorem pred_item (W : World) (b0 : Nat) (item : Int) (hb : W.cell? ⟨b0, 0, none⟩ = some (.int .i64 item)) (x : THire) :
    Calls Try.prog 95 #[.agg (eHire x).toArray, .pointer (some ⟨b0, 0, none⟩)] W fun e w' => e = .returned (.bool (x.1 != item)) ∧ ∃ q os', w' = grow (W.drewN q) os' := by
  obtain ⟨a, b, c⟩ := x
  show Calls Try.prog 95 #[.agg #[.int .i64 a, .int .i64 b, .int .i64 c], .pointer (some ⟨b0, 0, none⟩)] W _
  have hb2 := (Below.refl W.heap.size W).alloc (Nat.le_refl _) (.cells #[.int .i64 a, .int .i64 b, .int .i64 c] 76)
  have hb3 := (hb2.cell (World.block_lt_of_cell? _ _ hb)).trans hb
  have c0 := new_cell W #[.int .i64 a, .int .i64 b, .int .i64 c] 76 0 _ rfl
  go_enter Try.func95, Try.ntmps95
  go_wp2_with fail
  go_ret
  exact ⟨rfl, 0, #[_], alloc_eq_grow _ _⟩
theorem cmp_to (W : World) (x y : THire) :
    Calls Try.prog 97 #[.agg (eHire x).toArray, .agg (eHire y).toArray] W fun e w' => e = .returned (.int .i64 (cmpI x.2.2 y.2.2)) ∧ ∃ q os', w' = grow (W.drewN q) os' := by
  obtain ⟨a, b, c⟩ := x
  obtain ⟨a', b', c'⟩ := y
  show Calls Try.prog 97 #[.agg #[.int .i64 a, .int .i64 b, .int .i64 c], .agg #[.int .i64 a', .int .i64 b', .int .i64 c']] W _
  go_enter Try.func97, Try.ntmps97
  go_wp2_with fail
  refine (compare_int _ _ _).mono ?_
  rintro e w2 ⟨rfl, rfl⟩
  go_wp2_with fail
  go_ret
  exact ⟨rfl, 0, #[_, _], by rw [alloc_eq_grow, alloc_eq_grow, grow_grow]; rfl⟩
set_option maxHeartbeats 1000000 in
theorem idx_h (del : THire → Bool) (g : Nat) (cb : Array Value) (eg : ∀ args w, (callFunc g args).run Try.prog w = .ok (.enter g args) w) {w : World} {blk off n : Nat} (R : Row 3 w blk off n) (HP : PredSt g cb del w blk off n) (cap : Nat) (L : List THire) (W : World) (h : St 3 w blk off n L W) :
    Calls Try.prog 133 #[.slice (some ⟨blk, off, none⟩) n cap, .func (.func g) #[] cb] W fun e w' => e = .returned (.int .i64 (idxGo del L 0)) ∧ St 3 w blk off n L w' := by
  have hn := R.sm
  have HR := hd R
  have HPP := hd HP
  have HS := hd h
  have HL := hd h.len
  clear R HP h
  go_enter Try.func133, Try.ntmps133
  go_wp2_with fail
  go_loopw [8] (fun i wr => ∃ k : Nat, k ≤ n ∧ i = .int .i64 k ∧ Hid (St 3 w blk off n L wr) ∧ Hid (idxGo del (L.drop k) k = idxGo del L 0)) (fun i _ => n - (intOf i).toNat)
  case atStart => exact ⟨0, Nat.zero_le _, rfl, HS, hd (by simp)⟩
  case round =>
    obtain ⟨k, hk, rfl, HW, HT⟩ := hrel
    clear HS
    by_cases hlt : k < n
    · have hkl : k < L.length := by have := HL.out; omega
      obtain ⟨p0, p1, p2⟩ := HW.out.cells3 HR.out hkl
      have HD := hd (HT.out.symm.trans (idxGo_drop del L k k hkl))
      have hc := hd (HPP.out _ _ HW.out L[k])
      have CLS := hd HW.out.class
      generalize L[k] = x at p0 p1 p2 HD hc
      obtain ⟨xa, xb, xc⟩ := x
      dsimp only at p0 p1 p2
      rcases hq : del (xa, xb, xc) with _ | _
      · rw [hq] at hc
        go_wp2_with fail
        refine hc.out.mono ?_
        rintro e w1 ⟨rfl, q, os, rfl⟩
        have HS2 := hd (CLS.out q os)
        go_wp2_with fail
        go_roundw
        case rel => exact ⟨k + 1, by omega, by go_num, HS2, hd (by have := HD.out; rw [hq] at this; exact this.symm)⟩
        case measure => simp [intOf]; omega
      · rw [hq] at hc
        go_wp2_with fail
        refine hc.out.mono ?_
        rintro e w1 ⟨rfl, q, os, rfl⟩
        have HS2 := hd (CLS.out q os)
        go_wp2_with fail
        go_ret
        exact ⟨by rw [HD.out, hq]; rfl, HS2.out⟩
    · go_wp2_with fail
      go_ret
      exact ⟨by rw [← HT.out, List.drop_of_length_le (by have := HL.out; omega)]; rfl, HW.out⟩
theorem idxGo_all {α : Type} (p : α → Bool) : ∀ (L : List α) (k : Int), (∀ x ∈ L, p x = false) → idxGo p L k = -1
  | [], _, _ => rfl
  | x :: L, k, h => by
    unfold idxGo
    rw [h x (by simp)]
    exact idxGo_all p L (k + 1) fun y hy => h y (by simp [hy])
theorem idxGo_first {α : Type} (p : α → Bool) : ∀ (L : List α) (k : Int), (∃ x ∈ L, p x = true) → ∃ i, ∃ hi : i < L.length, (∀ j (hj : j < i), p (L[j]'(by omega)) = false) ∧ p L[i] = true ∧ idxGo p L k = k + (i : Int)
  | [], _, h => by obtain ⟨x, hx, -⟩ := h; simp at hx
  | x :: L, k, h => by
    rcases hq : p x with _ | _
    · obtain ⟨i, hi, h1, h2, h3⟩ := idxGo_first p L (k + 1) (by
        obtain ⟨y, hy, e⟩ := h
        rcases List.mem_cons.1 hy with rfl | hy
        · rw [hq] at e; cases e
        · exact ⟨y, hy, e⟩)
      refine ⟨i + 1, by simpa using hi, fun j hj => ?_, by simpa using h2, ?_⟩
      · rcases j with _ | j
        · simpa using hq
        · simpa using h1 j (by omega)
      · unfold idxGo
        rw [hq, if_neg (by simp), h3]
        omega
    · refine ⟨0, by simp, fun j hj => absurd hj (by omega), by simpa using hq, ?_⟩
      unfold idxGo
      rw [hq]
      simp
theorem take_set_succ {α : Type} {dk : List α} {i : Nat} (x : α) (h : i < dk.length) : (dk.set i x).take (i + 1) = dk.take i ++ [x] := by
  rw [List.take_succ_eq_append_getElem (by simpa using h), List.getElem_set_self, List.take_set_of_le (Nat.le_refl _)]
theorem step_store (p v : Nat) (pos : String) (after : Array Edge) (a : Act) (w w' : World) (K : Act → World → Prop) (Q : Exit → Act → World → Prop) (ad : Addr) (x : THire) (hp : a.eval (.tmp p) = .pointer (some ad)) (hv : a.eval (.tmp v) = .agg (eHire x).toArray)
    (hs : Sem.run Try.prog (storeCells ad (eHire x) 0) w = .ok () w') (h : K a w') :
    Oper.wp Try.prog ⟨none, Op.store 76 (.tmp p) (.tmp v), 0, pos, after, none⟩ a w K Q := by
  have hz : (eHire x).length = 3 := rfl
  generalize eHire x = cs at hv hs hz
  have hp' : a.tmps[p]?.getD undef = .pointer (some ad) := by simpa [go_sem] using hp
  have hv' : a.tmps[v]?.getD undef = .agg cs.toArray := by simpa [go_sem] using hv
  simp [go_sem, hp', hv', hs, hz]
  exact h
set_option maxRecDepth 100000 in
set_option maxHeartbeats 2000000 in
theorem del_h (del : THire → Bool) (g : Nat) (cb : Array Value) (eg : ∀ args w, (callFunc g args).run Try.prog w = .ok (.enter g args) w) {w : World} {blk off n : Nat} (R : Row 3 w blk off n) (HP : PredSt g cb del w blk off n) (cap : Nat) (hcap : n ≤ cap) (hcm : cap ≤ 9223372036854775807) (L : List THire) (W : World) (h : St 3 w blk off n L W) :
    Calls Try.prog 93 #[.slice (some ⟨blk, off, none⟩) n cap, .func (.func g) #[] cb] W fun e w' => e = .returned (.slice (some ⟨blk, off, none⟩) (L.filter fun x => !del x).length cap) ∧ ∃ Z, St 3 w blk off n ((L.filter fun x => !del x) ++ Z) w' := by
  have hn := R.sm
  have HR := hd R
  have HPP := hd HP
  have HL := hd h.len
  have HX := hd (idx_h del g cb eg R HP cap L W h)
  clear R HP h
  by_cases hno : ∀ x ∈ L, del x = false
  · have HI := hd (idxGo_all del L 0 hno)
    have HF := hd (show L.filter (fun x => !del x) = L from List.filter_eq_self.2 fun x hx => by simp [hno x hx])
    clear hno
    go_enter Try.func93, Try.ntmps93
    go_wp2_with fail
    refine HX.out.mono ?_
    rintro e w1 ⟨rfl, hs1⟩
    have HS := hd hs1
    rw [HI.out]
    clear hs1 HX HI
    go_wp2_with fail
    go_ret
    exact ⟨by rw [HF.out, HL.out]; rfl, [], by rw [HF.out, List.append_nil]; exact HS.out⟩
  · obtain ⟨i0, hi0, hb0, hd0, hx0⟩ : ∃ i, ∃ hi : i < L.length, (∀ j (hj : j < i), del (L[j]'(by omega)) = false) ∧ del L[i] = true ∧ idxGo del L 0 = (i : Int) := by
      obtain ⟨i, hi, h1, h2, h3⟩ := idxGo_first del L 0 (Classical.byContradiction fun h => hno fun x hx => Bool.eq_false_iff.2 fun e => h ⟨x, hx, e⟩)
      exact ⟨i, hi, h1, h2, by rw [h3]; omega⟩
    have HI := hd hx0
    have hin : i0 < n := by have := HL.out; omega
    have hz1 : ((i0 : Int) == -1) = false := by first | (simp; done) | (simp; omega)
    have HF0 := hd (show L.take i0 = (L.take (i0 + 1)).filter fun x => !del x by
      rw [List.take_succ_eq_append_getElem hi0, List.filter_append]
      have h1 : (L.take i0).filter (fun x => !del x) = L.take i0 := List.filter_eq_self.2 fun x hx => by
        obtain ⟨t, ht, hti, rfl⟩ := take_mem hx
        simp [hb0 t hti]
      rw [h1]
      simp [hd0])
    go_enter Try.func93, Try.ntmps93
    go_wp2_with fail
    refine HX.out.mono ?_
    rintro e w1 ⟨rfl, hs1⟩
    have HS := hd hs1
    rw [HI.out]
    clear hs1 HX hx0 hb0 hd0
    go_wp2_with fail
    go_loopw [5, 6, 7] (fun iv jv xv wr => ∃ (i j : Nat) (dk : List THire), iv = .int .i64 i ∧ jv = .int .i64 j ∧ i < j ∧ j ≤ n ∧ Hid (St 3 w blk off n dk wr) ∧ Hid (dk.take i = (L.take j).filter fun x => !del x) ∧ Hid (dk.drop j = L.drop j)) (fun _ jv _ _ => n - (intOf jv).toNat)
    case atStart => exact ⟨i0, i0 + 1, L, rfl, by go_num, by omega, by omega, HS, HF0, hd rfl⟩
    case round =>
      obtain ⟨i, j, dk, rfl, rfl, hij, hjn, HW, HT, HD⟩ := hrel
      clear HS HF0 HI
      by_cases hlt : j < n
      · as_aux_lemma =>
        have HDL := hd HW.out.len
        have hjk : j < dk.length := by have := HDL.out; omega
        obtain ⟨p0, p1, p2⟩ := HW.out.cells3 HR.out hjk
        have HXE := hd (show ∃ hj : j < L.length, dk[j] = L[j] from ⟨by have := HL.out; omega, by
          have h1 : (dk.drop j)[0]? = (L.drop j)[0]? := by rw [HD.out]
          rw [List.getElem?_drop, List.getElem?_drop, Nat.add_zero, List.getElem?_eq_getElem hjk, List.getElem?_eq_getElem (by have := HL.out; omega)] at h1
          exact Option.some.inj h1⟩)
        generalize dk[j] = x at p0 p1 p2 HXE
        have HA := hd (HW.out.alloc (.cells (eHire x).toArray 76))
        have hc := hd (HPP.out _ _ HA.out x)
        have CLS := hd HA.out.class
        obtain ⟨xa, xb, xc⟩ := x
        dsimp only at p0 p1 p2
        have n0 := new_cell wr (eHire (xa, xb, xc)).toArray 76 0 _ rfl
        have n1 := new_cell wr (eHire (xa, xb, xc)).toArray 76 1 _ rfl
        have n2 := new_cell wr (eHire (xa, xb, xc)).toArray 76 2 _ rfl
        rcases hq : del (xa, xb, xc) with _ | _
        · rw [hq] at hc
          go_wp2_with fail
          refine hc.out.mono ?_
          rintro e w2 ⟨rfl, q, os, rfl⟩
          have HS2 := hd (CLS.out q os)
          have g0 := cell_grown (by simp) n0 q os
          have g1 := cell_grown (by simp) n1 q os
          have g2 := cell_grown (by simp) n2 q os
          have hik : i < dk.length := by have := HDL.out; omega
          have HST := hd (HS2.out.store1 Try.prog eHire_len HR.out hik (xa, xb, xc))
          have HS3 := hd (HS2.out.set HR.out.lt hik (xa, xb, xc))
          generalize grow ((wr.alloc (.cells (eHire (xa, xb, xc)).toArray 76)).drewN q) os = W3 at g0 g1 g2 HS2 HST HS3 ⊢
          go_upto_region 9 with fail
          iterate 14 (first | go_values | go_skip | go_guarded | go_step)
          refine step_store _ _ _ _ _ _ _ _ _ _ (xa, xb, xc) rfl rfl HST.out ?_
          go_wp2_with fail
          have HT2 := hd (show (dk.set i (xa, xb, xc)).take (i + 1) = (L.take (j + 1)).filter fun x => !del x by
            obtain ⟨hjl, ex⟩ := HXE.out
            rw [take_set_succ _ hik, HT.out, List.take_succ_eq_append_getElem hjl, List.filter_append, ← ex]
            simp [hq])
          have HD2 := hd (show (dk.set i (xa, xb, xc)).drop (j + 1) = L.drop (j + 1) by
            rw [List.drop_set_of_lt (by omega), ← List.drop_drop, ← List.drop_drop, HD.out])
          go_roundw
          case rel => exact ⟨i + 1, j + 1, _, by go_num, by go_num, by omega, by omega, HS3, HT2, HD2⟩
          case measure => simp only [intOf]; omega
        · rw [hq] at hc
          go_wp2_with fail
          refine hc.out.mono ?_
          rintro e w2 ⟨rfl, q, os, rfl⟩
          have HS2 := hd (CLS.out q os)
          go_wp2_with fail
          have HT2 := hd (show dk.take i = (L.take (j + 1)).filter fun x => !del x by
            obtain ⟨hjl, ex⟩ := HXE.out
            rw [HT.out, List.take_succ_eq_append_getElem hjl, List.filter_append, ← ex]
            simp [hq])
          have HD2 := hd (show dk.drop (j + 1) = L.drop (j + 1) by rw [← List.drop_drop, ← List.drop_drop, HD.out])
          go_roundw
          case rel => exact ⟨i, j + 1, dk, rfl, by go_num, by omega, by omega, HS2, HT2, HD2⟩
          case measure => simp only [intOf]; omega
      · as_aux_lemma =>
        obtain rfl : j = n := by omega
        have HDL := hd HW.out.len
        have hik : i < dk.length := by have := HDL.out; omega
        have hcl := fun ty => run_clear_h HR.out HW.out hik ty (cap - i)
        have HS2 := hd (HW.out.clear HR.out.lt (Nat.le_of_lt hik))
        go_wp2_with fail
        go_ret
        have e1 : dk.take i = L.filter fun x => !del x := by rw [HT.out, List.take_of_length_le (by have := HL.out; omega)]
        refine ⟨?_, ?_⟩
        · rw [← e1, List.length_take, Nat.min_eq_left (Nat.le_of_lt hik)]
          rfl
        · rw [← e1]
          exact ⟨_, HS2.out⟩
end Go.Proofs.Ytlgcehdklpbknaa
