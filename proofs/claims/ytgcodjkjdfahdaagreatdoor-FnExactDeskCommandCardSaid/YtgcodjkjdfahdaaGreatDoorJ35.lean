/- Lemmas for the claim (the walks of its functions and their plain laws), joined. No condition. -/
import Derived.Test.YtgcodjkjdfahdaaGreatDoorJ16
import Derived.Test.YtgcodjkjdfahdaaGreatDoorJ7
import Derived.Laws.CopyRow
import Derived.Laws.IdiomCopy
import Derived.Lib.AppendZerosOnto
import Derived.Lib.Overlaps
import Derived.Laws.Externs
import Derived.Laws.NewBlocks
import Derived.Deep.RegionLaw
import Derived.Deep.Cut
namespace Go.Proofs.YtgcodjkjdfahdaaGreatDoor
open Go Go.RowKit Go.ChangeShapes Go.WideShapes
set_option linter.unusedSimpArgs false
set_option linter.unusedVariables false
section
variable {P : Program}
theorem run_copy_rowk (w : World) (dT sT ty elem : TypeId) (k g o dLen dCap : Nat) (a : Addr) (sLen sCap : Nat) (cur : Array Value) (t : TypeId) (cs : List Value)
    (hu : P.underlying dT = some (.slice elem)) (hs : (P.info? elem).map (·.size) = some k)
    (hg : w.heap[g]? = some (.cells cur t (0, 0))) (hn : cs.length = Nat.min sLen dLen * k)
    (hsrc : ∀ j v, cs[j]? = some v → w.cell? (a.add j) = some v) (hfit : o + cs.length ≤ cur.size) (h1 : ∀ v ∈ cs, v.oneCell' = true) :
    (Builtin.copy_ #[dT, sT] ty #[.slice (some ⟨g, o, none⟩) dLen dCap, .slice (some a) sLen sCap]).run P w =
      .ok (goInt (Nat.min sLen dLen)) (w.setRow g (cur.toList.take o ++ cs ++ cur.toList.drop (o + cs.length)).toArray) := by
  have hl := run_loadCells_list (P := P) w a cs hsrc
  have hst := run_storeCells_at P g o t cs 0 cur w hg (by simpa using hfit) h1
  cases hq : P.info? elem with
  | none => simp [hq] at hs
  | some i =>
    have hi : i.size = k := by simpa [hq] using hs
    simp [Builtin.copy_, run_underlying hu, Builtin.lenOf, Builtin.firstCells, sizeOf, typeInfo, hq, hi, ← hn, hl, hst]
theorem wp_copy_runW (w : World) {o : Oper} {a : Act} {K : Act → World → Prop} {Q : Exit → Act → World → Prop} (d s : Operand) (t t' : TypeId)
    (ho : o.op = .call { callee := .builtin .copy, args := #[d, s], argTypes := #[t, t'] }) (v u : Value) (hd : a.eval d = v) (hs : a.eval s = u) {v' : Value} {w' : World}
    (hr : (Builtin.copy_ #[t, t'] o.type #[v, u]).run P w = .ok v' w') (h : K (a.put o.dst v') w') : o.wp P a w K Q := by
  unfold Oper.wp execOp
  simp only [ho, resolve, invoke, builtin, Sem.run_bind, Sem.run_pure, Result.andThen_ok, List.map_toArray, List.map_cons, List.map_nil, hd, hs, hr]
  exact h
theorem wpList_copy_runW (w : World) {ops : Array Oper} {rest : List Oper} {o : Oper} {a : Act} {Q : Exit → Act → World → Prop} (hgd : o.guard = none) (d s : Operand) (t t' : TypeId)
    (ho : o.op = .call { callee := .builtin .copy, args := #[d, s], argTypes := #[t, t'] }) (v u : Value) (hd : a.eval d = v) (hs : a.eval s = u) {v' : Value} {w' : World}
    (hr : (Builtin.copy_ #[t, t'] o.type #[v, u]).run P w = .ok v' w') (h : wpList P ops Q rest (a.put o.dst v') w') : wpList P ops Q (o :: rest) a w :=
  wpList_plain hgd fun _ hK => wp_copy_runW w d s t t' ho v u hd hs hr (hK _ _ h)
theorem step_copy_runW {ops : Array Oper} {o : Oper} {a : Act} {w : World} {K : Act → World → Prop} {Q : Exit → Act → World → Prop} {E : Prop}
    (hg : o.guard = none) (d x : Operand) (dT sT : TypeId) (hop : o.op = Op.call { callee := Callee.builtin Builtin.copy, args := #[d, x], argTypes := #[dT, sT] })
    (v u : Value) (hd : a.eval d = v) (hx : a.eval x = u) {v' : Value} {w' : World} (hr : (Builtin.copy_ #[dT, sT] o.type #[v, u]).run P w = .ok v' w') (hK : K (a.put o.dst v') w') :
    if Region.wanted o (yielded ops a.tmps) = true then Oper.wp P o a w K Q else E := by
  have hw : Region.wanted o (yielded ops a.tmps) = true := by simp [Region.wanted, hg]
  rw [if_pos hw]
  exact wp_copy_runW w d x dT sT hop v u hd hx hr hK
end
def lay {α : Type} (L : List α) (o : Nat) (cs : List α) : List α := L.take o ++ cs ++ L.drop (o + cs.length)
theorem lay_len {α : Type} {L : List α} {o : Nat} {cs : List α} (h : o + cs.length ≤ L.length) : (lay L o cs).length = L.length := by simp [lay]; omega
theorem lay_at {α : Type} {L : List α} {o : Nat} {cs : List α} (h : o + cs.length ≤ L.length) (j : Nat) : (lay L o cs)[j]? = if o ≤ j ∧ j < o + cs.length then cs[j - o]? else L[j]? := by
  unfold lay
  by_cases h1 : j < o
  · rw [if_neg (by omega), List.append_assoc, List.getElem?_append_left (by simp; omega), List.getElem?_take, if_pos h1]
  · by_cases h2 : j < o + cs.length
    · rw [if_pos ⟨by omega, h2⟩, List.append_assoc, List.getElem?_append_right (by simp; omega), List.getElem?_append_left (by simp; omega)]
      congr 1
      simp
      omega
    · rw [if_neg (by omega), List.getElem?_append_right (by simp; omega), List.getElem?_drop]
      congr 1
      simp
      omega
theorem ins_shift {α : Type} {cur xs y : List α} {a : Nat} (hx : cur.take xs.length = xs) (ha : a ≤ xs.length) (hroom : xs.length + y.length ≤ cur.length) :
    (lay (lay cur (a + y.length) (xs.drop a)) a y).take (xs.length + y.length) = xs.take a ++ y ++ xs.drop a ∧ (lay (lay cur (a + y.length) (xs.drop a)) a y).length = cur.length := by
  have l1 : (lay cur (a + y.length) (xs.drop a)).length = cur.length := lay_len (by simp; omega)
  have l2 : (lay (lay cur (a + y.length) (xs.drop a)) a y).length = cur.length := (lay_len (by omega)).trans l1
  refine ⟨?_, l2⟩
  apply List.ext_getElem?
  intro j
  rw [List.getElem?_take]
  by_cases hj : j < xs.length + y.length
  · rw [if_pos hj, lay_at (by omega), lay_at (by simp; omega)]
    by_cases h1 : j < a
    · rw [if_neg (by omega), if_neg (by omega), List.append_assoc, List.getElem?_append_left (by simp; omega), List.getElem?_take, if_pos h1]
      have : (cur.take xs.length)[j]? = cur[j]? := by rw [List.getElem?_take, if_pos (by omega)]
      rw [← this, hx]
    · by_cases h2 : j < a + y.length
      · rw [if_pos ⟨by omega, h2⟩, List.append_assoc, List.getElem?_append_right (by simp; omega), List.getElem?_append_left (by simp; omega)]
        congr 1
        simp
        omega
      · rw [if_neg (by omega), if_pos (by simp; omega), List.getElem?_append_right (by simp; omega), List.getElem?_drop, List.getElem?_drop]
        congr 1
        simp
        omega
  · rw [if_neg hj, List.getElem?_eq_none (by simp; omega)]
theorem ins_new {α : Type} {R xs y : List α} {a : Nat} (hR : R.take a = xs.take a) (ha : a ≤ xs.length) (hroom : xs.length + y.length ≤ R.length) :
    (lay (lay R a y) (a + y.length) (xs.drop a)).take (xs.length + y.length) = xs.take a ++ y ++ xs.drop a ∧ (lay (lay R a y) (a + y.length) (xs.drop a)).length = R.length := by
  have l1 : (lay R a y).length = R.length := lay_len (by omega)
  have l2 : (lay (lay R a y) (a + y.length) (xs.drop a)).length = R.length := (lay_len (by simp; omega)).trans l1
  refine ⟨?_, l2⟩
  apply List.ext_getElem?
  intro j
  rw [List.getElem?_take]
  by_cases hj : j < xs.length + y.length
  · rw [if_pos hj, lay_at (by simp; omega), lay_at (by omega)]
    by_cases h1 : j < a
    · rw [if_neg (by omega), if_neg (by omega), List.append_assoc, List.getElem?_append_left (by simp; omega), ← hR, List.getElem?_take, if_pos h1]
    · by_cases h2 : j < a + y.length
      · rw [if_neg (by omega), if_pos ⟨by omega, h2⟩, List.append_assoc, List.getElem?_append_right (by simp; omega), List.getElem?_append_left (by simp; omega)]
        congr 1
        simp
        omega
      · rw [if_pos (by simp; omega), List.getElem?_append_right (by simp; omega)]
        congr 1
        simp
        omega
  · rw [if_neg hj, List.getElem?_eq_none (by simp; omega)]
theorem flatMap_take {α : Type} (enc : α → List Value) (k : Nat) (hk : ∀ x, (enc x).length = k) (l : List α) (i : Nat) (hi : i ≤ l.length) : (l.take i).flatMap enc = (l.flatMap enc).take (i * k) := by
  have h1 : l.flatMap enc = (l.take i).flatMap enc ++ (l.drop i).flatMap enc := by rw [← List.flatMap_append, List.take_append_drop]
  rw [h1, List.take_left' (by rw [flatMap_len enc k hk, List.length_take]; congr 1; omega)]
theorem flatMap_drop {α : Type} (enc : α → List Value) (k : Nat) (hk : ∀ x, (enc x).length = k) (l : List α) (i : Nat) (hi : i ≤ l.length) : (l.drop i).flatMap enc = (l.flatMap enc).drop (i * k) := by
  have h1 : l.flatMap enc = (l.take i).flatMap enc ++ (l.drop i).flatMap enc := by rw [← List.flatMap_append, List.take_append_drop]
  rw [h1, List.drop_left' (by rw [flatMap_len enc k hk, List.length_take]; congr 1; omega)]
def insAt {α : Type} (l : List α) (i : Nat) (x : α) : List α := l.take i ++ x :: l.drop i
theorem insAt_len {α : Type} {l : List α} {i : Nat} (x : α) (hi : i ≤ l.length) : (insAt l i x).length = l.length + 1 := by simp [insAt]; omega
theorem insAt_end {α : Type} (l : List α) (x : α) : insAt l l.length x = l ++ [x] := by simp [insAt]
theorem flatMap_ins {α : Type} (enc : α → List Value) (k : Nat) (hk : ∀ x, (enc x).length = k) (l : List α) (i : Nat) (hi : i ≤ l.length) (x : α) : (insAt l i x).flatMap enc = (l.flatMap enc).take (i * k) ++ enc x ++ (l.flatMap enc).drop (i * k) := by
  unfold insAt
  rw [List.flatMap_append, List.flatMap_cons, flatMap_take enc k hk l i hi, flatMap_drop enc k hk l i hi, List.append_assoc]
def GivesIns (w : World) (B : Nat) (row : Option Nat) (L : List TTitle) (e : Ending) (w' : World) : Prop :=
  ∃ v, e = .returned v ∧ Own w' B 95 4 v eTitle L ∧ w.grownBy w' row
theorem Own.inRow {w : World} {B g cap : Nat} {L : List TTitle} {cur : List Value} (hB : B ≤ g) (hg : w.heap[g]? = some (.cells cur.toArray 95 (0, 0))) (hc : L.length ≤ cap) (hm : cap ≤ maxLen) (hs : cur.length = cap * 4) (ht : cur.take (L.length * 4) = L.flatMap eTitle) : Own w B 95 4 (.slice (some ⟨g, 0, none⟩) L.length cap) eTitle L :=
  ⟨by rw [flatMap_len eTitle 4 eTitle_len], .inr ⟨g, cap, cur.toArray, rfl, hB, hg, hc, hm, by simpa using hs, by simpa using ht⟩⟩
theorem one_Title (x : TTitle) : ∀ u ∈ eTitle x, u.oneCell' = true := by
  obtain ⟨a, b, c, d⟩ := x
  intro u hu
  simp [eTitle] at hu
  rcases hu with rfl | rfl | rfl | rfl <;> rfl
theorem one_Titles (L : List TTitle) : ∀ u ∈ L.flatMap eTitle, u.oneCell' = true := fun u hu => by
  obtain ⟨x, -, h⟩ := List.mem_flatMap.1 hu
  exact one_Title x u h
theorem grown_setRow (w : World) (g : Nat) (cs : Array Value) : w.grownBy (w.setRow g cs) (some g) := ⟨rfl, rfl, rfl, by simp [World.setRow], fun k _ hk => setRow_other w g k cs (fun e => hk (by rw [e]))⟩
set_option maxRecDepth 100000 in
set_option maxHeartbeats 4000000 in
theorem insert_end (w : World) (B : Nat) (v : Value) (l : List TTitle) (hO : Own w B 95 4 v eTitle l) (x : TTitle) (gx : Nat) (hx : w.heap[gx]? = some (.cells (eTitle x).toArray 95 (0, 0))) (hB : B ≤ w.heap.size) (hl : l.length ≤ 1000) :
    Calls Tryz.prog 151 #[v, .int .i64 (l.length : Nat), .slice (some ⟨gx, 0, none⟩) 1 1] w (GivesIns w B v.ownBlock (insAt l l.length x)) := by
  obtain ⟨i0, hi0, hz0, hz1, hz2⟩ := info_parts info_Title
  have HE := hd (insAt_end l x)
  obtain ⟨A, c, rfl⟩ := (hO.sl eTitle_len).isSlice
  obtain ⟨a, b, d, e⟩ := x
  go_enter Tryz.func151, Tryz.ntmps151
  go_wp2_with (at_builtin; refine wpList_push _ rfl _ _ 27 rfl i0 (.agg #[.int .i64 0, .string ByteArray.empty, .int .i64 0, .int .i64 0]) 40 Tryz.underlying27 hi0 hz0 hz1 hz2 rfl (by decide) _ _ (a, b, d, e) rfl hO gx rfl _ 95 hx rfl rfl (one_Title _) (by unfold maxLen; omega) (by omega) hB ?_)
  all_goals
    intro v' w1 O1 hg1
    go_wp2_with fail
    go_ret
    exact ⟨_, rfl, by rw [HE.out]; exact O1, by first | exact hg1 | (cases A <;> exact hg1)⟩
set_option maxRecDepth 100000 in
set_option maxHeartbeats 8000000 in
theorem insert_new (w : World) (B g : Nat) (l : List TTitle) (cur : Array Value) (hBg : B ≤ g) (hg : w.heap[g]? = some (.cells cur 95 (0, 0))) (hcs : cur.size = l.length * 4) (hcur : cur.toList = l.flatMap eTitle) (i : Nat) (hi : i < l.length) (x : TTitle) (gx : Nat) (hx : w.heap[gx]? = some (.cells (eTitle x).toArray 95 (0, 0))) (hB : B ≤ w.heap.size) (hl : l.length ≤ 1000) :
    Calls Tryz.prog 151 #[.slice (some ⟨g, 0, none⟩) l.length l.length, .int .i64 (i : Nat), .slice (some ⟨gx, 0, none⟩) 1 1] w (GivesIns w B (some g) (insAt l i x)) := by
  obtain ⟨i0, hi0, hz0, hzs, hzb⟩ := info_parts info_Title
  have hlen := insAt_len x (Nat.le_of_lt hi)
  have hfl : (l.flatMap eTitle).length = l.length * 4 := flatMap_len eTitle 4 eTitle_len l
  have hgl : g < w.heap.size := (Array.getElem?_eq_some_iff.1 hg).1
  have hgxl : gx < w.heap.size := (Array.getElem?_eq_some_iff.1 hx).1
  have hcell : ∀ j v, (l.flatMap eTitle)[j]? = some v → w.cell? ⟨g, j, none⟩ = some v := fun j v hj => by
    rw [cell_of_row w g j cur 95 (0, 0) hg, ← hj, ← hcur]
    simp
  generalize hn : l.length = n at *
  have hsz : (Tryz.prog.info? 95).map (·.size) = some 4 := by rw [hi0]; simp [hzs]
  have hold : (Builtin.firstCells i0.size i (.slice (some ⟨g, 0, none⟩) i n)).run Tryz.prog w.drew = .ok ((l.flatMap eTitle).take (i * 4)).toArray w.drew := by
    rw [hzs]
    refine run_firstCells_some w.drew 4 i ⟨g, 0, none⟩ i n _ (by rw [List.length_take, hfl]; omega) fun j v hj => ?_
    rw [List.getElem?_take] at hj
    split at hj
    · rw [Addr.add_lit, Nat.zero_add]
      exact hcell j v hj
    · cases hj
  have hik : i + (n + 1 - i) = n + 1 := by omega
  have hkk : (n : Int) + 1 - (i : Int) = ((n + 1 - i : Nat) : Int) := by omega
  have hrz : ∀ ty, (Builtin.append_ #[27, 3] ty #[.slice (some ⟨g, 0, none⟩) i n, .int .i64 ((n : Int) + 1 - (i : Int))]).run Tryz.prog w =
      .ok (.slice (some ⟨w.heap.size, 0, none⟩) (n + 1) (grownCap w (n + 1) n 95)) (w.drew.alloc (.cells (((l.flatMap eTitle).take (i * 4)).toArray ++ Builtin.zeroCells (Value.agg #[.int .i64 0, .string ByteArray.empty, .int .i64 0, .int .i64 0]).cells (n + 1 - i) ++ Builtin.zeroCells (Value.agg #[.int .i64 0, .string ByteArray.empty, .int .i64 0, .int .i64 0]).cells (grownCap w (n + 1) n 95 - (n + 1))) 95)) := fun ty => by
    have h := Lib.run_append_grow_zeros w 27 3 ty 95 i0 _ .i64 .i64 Tryz.underlying27 Tryz.underlying3 hi0 hz0 (some ⟨g, 0, none⟩) i n ((l.flatMap eTitle).take (i * 4)) hold (n + 1 - i) (by omega) (by omega) (by omega) (by omega) (by rw [hzb]; omega) (by rw [hzb, hik]; exact growslice_fits (by omega) (by omega))
    rw [hik] at h
    rw [hkk]
    exact h
  have hGn : n + 1 ≤ grownCap w (n + 1) n 95 := grownCap_ge w _ _ _
  have hGm : grownCap w (n + 1) n 95 ≤ maxLen := grownCap_le_maxLen w (n + 1) n 95 (by unfold maxLen; omega)
  generalize grownCap w (n + 1) n 95 = G at hrz hGn hGm
  obtain ⟨R, hR⟩ : ∃ R : List Value, R = (l.flatMap eTitle).take (i * 4) ++ ((Builtin.zeroCells (Value.agg #[.int .i64 0, .string ByteArray.empty, .int .i64 0, .int .i64 0]).cells (n + 1 - i)).toList ++ (Builtin.zeroCells (Value.agg #[.int .i64 0, .string ByteArray.empty, .int .i64 0, .int .i64 0]).cells (G - (n + 1))).toList) := ⟨_, rfl⟩
  have hRa : ((l.flatMap eTitle).take (i * 4)).toArray ++ Builtin.zeroCells (Value.agg #[.int .i64 0, .string ByteArray.empty, .int .i64 0, .int .i64 0]).cells (n + 1 - i) ++ Builtin.zeroCells (Value.agg #[.int .i64 0, .string ByteArray.empty, .int .i64 0, .int .i64 0]).cells (G - (n + 1)) = R.toArray := by
    rw [hR]
    apply Array.ext'
    simp
  rw [hRa] at hrz
  have hz4 : ∀ k, (Builtin.zeroCells (Value.agg #[.int .i64 0, .string ByteArray.empty, .int .i64 0, .int .i64 0]).cells k).size = k * 4 := fun k => size_zeroCells _ k
  have hRl : R.length = G * 4 := by
    rw [hR]
    simp only [List.length_append, List.length_take, hfl, Array.length_toList, hz4]
    omega
  have hRt : R.take (i * 4) = (l.flatMap eTitle).take (i * 4) := by rw [hR, List.take_left' (by rw [List.length_take, hfl]; omega)]
  clear hRa hR hz4 hold hcs hcur
  obtain ⟨q1, q2⟩ := ins_new (y := eTitle x) hRt (by rw [hfl]; omega) (by rw [hfl, eTitle_len, hRl]; omega)
  rw [hfl, eTitle_len] at q1
  rw [eTitle_len] at q2
  have hfin : Hid (∀ W : World, W.heap[w.heap.size]? = some (.cells (lay (lay R (i * 4) (eTitle x)) (i * 4 + 4) ((l.flatMap eTitle).drop (i * 4))).toArray 95 (0, 0)) → Own W B 95 4 (.slice (some ⟨w.heap.size, 0, none⟩) (n + 1) G) eTitle (insAt l i x)) := hd fun W hW => by
    have := Own.inRow (L := insAt l i x) (cap := G) hB hW (by omega) hGm (by rw [q2, hRl]) (by rw [hlen, flatMap_ins eTitle 4 eTitle_len l i (by omega) x, show (n + 1) * 4 = n * 4 + 4 by omega]; exact q1)
    rw [hlen] at this
    exact this
  have hdl : ((l.flatMap eTitle).drop (i * 4)).length = (n - i) * 4 := by rw [List.length_drop, hfl]; omega
  have HX := hd hx
  have HC := hd hcell
  have HR1 := hd hRt
  clear q1 q2 hx hcell hRt hik hkk hlen hfl
  unfold maxLen at hGm
  have hw1 : IntKind.i64.wrap ((i : Int) + 1) = (i : Int) + 1 := by rw [IntKind.wrap_i64]; omega
  have hb0 : ¬ ((i : Int) = (n : Int)) := by omega
  have hGi : ¬ (G = i) := by omega
  have hGi1 : ¬ (G = i + 1) := by omega
  have hci : ¬ (n = i) := by omega
  have hb1 : (0 : Int) ≤ (i : Int) + 1 := by omega
  have hin : i ≤ n := by omega
  go_enter Tryz.func151, Tryz.ntmps151
  go_upto_region 10 with (at_builtin; refine Lib.wpList_append_run _ rfl _ _ _ _ rfl _ _ rfl rfl _ _ (hrz _) ?_)
  have hR1 : ((w.alloc (.cells R.toArray 95)).drew).heap[w.heap.size]? = some (.cells R.toArray 95 (0, 0)) := heap_alloc_new w _
  have hG1 : w.grownBy ((w.alloc (.cells R.toArray 95)).drew) (some g) := grownBy_drewN (World.grownBy_alloc w _ _) 1
  have hBl : Below w.heap.size w ((w.alloc (.cells R.toArray 95)).drew) := below_drewN ((Below.refl _ _).alloc (Nat.le_refl _) _) 1
  have hX1 := (hBl.block gx hgxl).trans HX.out
  have hC1 : ∀ j v, (l.flatMap eTitle)[j]? = some v → ((w.alloc (.cells R.toArray 95)).drew).cell? ⟨g, j, none⟩ = some v := fun j v hj => (hBl.cell (p := ⟨g, j, none⟩) hgl).trans (HC.out j v hj)
  clear hBl
  generalize (w.alloc (.cells R.toArray 95)).drew = W1 at hR1 hG1 hX1 hC1 ⊢
  have hXc : ∀ j v, (eTitle x)[j]? = some v → W1.cell? ⟨gx, j, none⟩ = some v := fun j v hj => by
    rw [cell_of_row W1 gx j _ 95 (0, 0) hX1, ← hj]
    simp
  have hcpA : ∀ ty, (Builtin.copy_ #[27, 27] ty #[.slice (some ⟨w.heap.size, i * 4, none⟩) (n + 1 - i) (G - i), .slice (some ⟨gx, 0, none⟩) 1 1]).run Tryz.prog W1 = .ok (goInt (Nat.min 1 (n + 1 - i))) (W1.setRow w.heap.size (lay R (i * 4) (eTitle x)).toArray) := fun ty =>
    run_copy_rowk W1 _ _ ty 95 4 w.heap.size (i * 4) (n + 1 - i) (G - i) ⟨gx, 0, none⟩ 1 1 R.toArray 95 (eTitle x) Tryz.underlying27 hsz hR1 (by rw [eTitle_len]; show 4 = min 1 (n + 1 - i) * 4; omega) (fun j v hj => by rw [Addr.add_lit, Nat.zero_add]; exact hXc j v hj) (by rw [eTitle_len]; simp; omega) (one_Title x)
  have hR2 := setRow_heap W1 w.heap.size _ (lay R (i * 4) (eTitle x)).toArray 95 _ hR1
  have hG2 : w.grownBy (W1.setRow w.heap.size (lay R (i * 4) (eTitle x)).toArray) (some g) := ⟨hG1.os, hG1.tape, hG1.output, Nat.le_trans hG1.size (grown_setRow W1 w.heap.size _).size, fun k hk hne => (setRow_other _ _ _ _ (by omega)).trans (hG1.block k hk hne)⟩
  have hC2 : ∀ j v, (l.flatMap eTitle)[j]? = some v → (W1.setRow w.heap.size (lay R (i * 4) (eTitle x)).toArray).cell? ⟨g, j, none⟩ = some v := fun j v hj => by
    rw [World.cell?_of_block (w := W1) (a := ⟨g, j, none⟩) (setRow_other _ _ _ _ (by show g ≠ _; omega))]
    exact hC1 j v hj
  clear hR1 hG1 hX1 hC1 hXc hrz
  replace hR2 := hd hR2
  replace hG2 := hd hG2
  replace hC2 := hd hC2
  go_upto_region 11 with (at_builtin; refine wpList_copy_runW _ rfl _ _ 27 27 rfl _ _ rfl rfl (hcpA _) ?_)
  clear hcpA
  generalize W1.setRow w.heap.size (lay R (i * 4) (eTitle x)).toArray = W2 at hR2 hG2 hC2 ⊢
  have hcpB : ∀ ty, (Builtin.copy_ #[27, 27] ty #[.slice (some ⟨w.heap.size, (i + 1) * 4, none⟩) (n - i) (G - (i + 1)), .slice (some ⟨g, i * 4, none⟩) (n - i) (n - i)]).run Tryz.prog W2.drew = .ok (goInt (Nat.min (n - i) (n - i))) (W2.drew.setRow w.heap.size (lay (lay R (i * 4) (eTitle x)) (i * 4 + 4) ((l.flatMap eTitle).drop (i * 4))).toArray) := fun ty =>
    by rw [show (i + 1) * 4 = i * 4 + 4 by omega]; exact run_copy_rowk W2.drew _ _ ty 95 4 w.heap.size (i * 4 + 4) (n - i) (G - (i + 1)) ⟨g, i * 4, none⟩ (n - i) (n - i) (lay R (i * 4) (eTitle x)).toArray 95 ((l.flatMap eTitle).drop (i * 4)) Tryz.underlying27 hsz hR2.out (by rw [hdl]; show (n - i) * 4 = min (n - i) (n - i) * 4; omega) (fun j v hj => by rw [Addr.add_lit]; exact hC2.out _ v (by rwa [List.getElem?_drop] at hj)) (by rw [hdl]; simp [lay_len (L := R) (o := i * 4) (cs := eTitle x) (by rw [eTitle_len]; omega)]; omega) (fun u hu => one_Titles l u (List.mem_of_mem_drop hu))
  have hR3 := hd (setRow_heap W2.drew w.heap.size _ (lay (lay R (i * 4) (eTitle x)) (i * 4 + 4) ((l.flatMap eTitle).drop (i * 4))).toArray 95 _ hR2.out)
  have hG3 : Hid (w.grownBy (W2.drew.setRow w.heap.size (lay (lay R (i * 4) (eTitle x)) (i * 4 + 4) ((l.flatMap eTitle).drop (i * 4))).toArray) (some g)) := hd ⟨hG2.out.os, hG2.out.tape, hG2.out.output, Nat.le_trans hG2.out.size (grown_setRow W2.drew w.heap.size _).size, fun k hk hne => (setRow_other _ _ _ _ (by omega)).trans (hG2.out.block k hk hne)⟩
  clear hR2 hG2 hC2
  go_region_law (refine step_copy_runW rfl _ _ 27 27 rfl (.slice (some ⟨w.heap.size, (i + 1) * 4, none⟩) (n - i) (G - (i + 1))) (.slice (some ⟨g, i * 4, none⟩) (n - i) (n - i)) (by simp [Act.eval, Act.put]) (by simp [Act.eval, Act.put]) (hcpB _) ?_)
  clear hcpB
  generalize W2.drew.setRow w.heap.size (lay (lay R (i * 4) (eTitle x)) (i * 4 + 4) ((l.flatMap eTitle).drop (i * 4))).toArray = W3 at hR3 hG3 ⊢
  go_wp2_with fail
  go_ret
  exact ⟨_, rfl, hfin.out _ hR3.out, hG3.out⟩
set_option maxRecDepth 100000 in
set_option maxHeartbeats 8000000 in
theorem insert_room (w : World) (B g : Nat) (l : List TTitle) (cap : Nat) (cur : Array Value) (hBg : B ≤ g) (hg : w.heap[g]? = some (.cells cur 95 (0, 0))) (hcs : cur.size = cap * 4) (hcur : cur.toList.take (l.length * 4) = l.flatMap eTitle) (hcap : l.length + 1 ≤ cap) (hcm : cap ≤ maxLen) (i : Nat) (hi : i < l.length) (x : TTitle) (gx : Nat) (hx : w.heap[gx]? = some (.cells (eTitle x).toArray 95 (0, 0))) (hne : gx ≠ g) (hl : l.length ≤ 1000) :
    Calls Tryz.prog 151 #[.slice (some ⟨g, 0, none⟩) l.length cap, .int .i64 (i : Nat), .slice (some ⟨gx, 0, none⟩) 1 1] w (GivesIns w B (some g) (insAt l i x)) := by
  obtain ⟨i0, hi0, hz0, hzs, hzb⟩ := info_parts info_Title
  have hlen := insAt_len x (Nat.le_of_lt hi)
  have hfl : (l.flatMap eTitle).length = l.length * 4 := flatMap_len eTitle 4 eTitle_len l
  generalize hn : l.length = n at *
  have hsz : (Tryz.prog.info? 95).map (·.size) = some 4 := by rw [hi0]; simp [hzs]
  have hxl : cur.toList.take (l.flatMap eTitle).length = l.flatMap eTitle := by rw [hfl]; exact hcur
  obtain ⟨q1, q2⟩ := ins_shift (y := eTitle x) (a := i * 4) hxl (by rw [hfl]; omega) (by rw [hfl, eTitle_len]; simp; omega)
  rw [hfl, eTitle_len] at q1
  rw [eTitle_len] at q2
  have hfin : Hid (∀ W : World, W.heap[g]? = some (.cells (lay (lay cur.toList (i * 4 + 4) ((l.flatMap eTitle).drop (i * 4))) (i * 4) (eTitle x)).toArray 95 (0, 0)) → Own W B 95 4 (.slice (some ⟨g, 0, none⟩) (n + 1) cap) eTitle (insAt l i x)) := hd fun W hW => by
    have := Own.inRow (L := insAt l i x) (cap := cap) hBg hW (by omega) hcm (by rw [q2]; simpa using hcs) (by rw [hlen, flatMap_ins eTitle 4 eTitle_len l i (by omega) x, show (n + 1) * 4 = n * 4 + 4 by omega]; exact q1)
    rw [hlen] at this
    exact this
  have hdl : ((l.flatMap eTitle).drop (i * 4)).length = (n - i) * 4 := by rw [List.length_drop, hfl]; omega
  have hcell : ∀ j v, (l.flatMap eTitle)[j]? = some v → w.drew.cell? ⟨g, j, none⟩ = some v := fun j v hj => by
    have hj4 : j < n * 4 := by rw [← hfl]; exact (List.getElem?_eq_some_iff.1 hj).1
    rw [cell_of_row w.drew g j cur 95 (0, 0) hg, ← hj, ← hcur, List.getElem?_take, if_pos hj4]
    simp
  have hov : ∀ off lb cb, (callFunc 208 #[.slice (some ⟨gx, 0, none⟩) 1 1, .slice (some ⟨g, off, none⟩) lb cb]).run Tryz.prog w = .ok (.value (.bool false)) w := fun off lb cb => by
    rw [run_callFunc_extern Tryz.func208 (by kernel_rfl) (by kernel_rfl) (by kernel_rfl) (e := Extern.SlicesOverlaps.overlaps #[27, 27] #[4]) (by kernel_rfl),
      Lib.run_overlaps_apart w 27 4 95 Tryz.underlying27 4 (fun w => by simp [sizeOf, typeInfo, hi0, hzs]) ⟨gx, 0, none⟩ ⟨g, off, none⟩ 1 1 lb cb hne 95 95 4 cur.size (by simp [World.shape?, hx, eTitle]) (by simp [World.shape?, hg]) (by omega) (by simp [World.frozen?, hx]) (by simp [World.frozen?, hx])]
    rfl
  have hcpA : ∀ ty, (Builtin.copy_ #[27, 27] ty #[.slice (some ⟨g, (i + 1) * 4, none⟩) (n - i) (cap - (i + 1)), .slice (some ⟨g, i * 4, none⟩) (n + 1 - i) (cap - i)]).run Tryz.prog w.drew = .ok (goInt (Nat.min (n + 1 - i) (n - i))) (w.drew.setRow g (lay cur.toList (i * 4 + 4) ((l.flatMap eTitle).drop (i * 4))).toArray) := fun ty => by
    rw [show (i + 1) * 4 = i * 4 + 4 by omega]
    exact run_copy_rowk w.drew _ _ ty 95 4 g (i * 4 + 4) (n - i) (cap - (i + 1)) ⟨g, i * 4, none⟩ (n + 1 - i) (cap - i) cur 95 ((l.flatMap eTitle).drop (i * 4)) Tryz.underlying27 hsz hg (by rw [hdl]; show (n - i) * 4 = min (n + 1 - i) (n - i) * 4; omega) (fun j v hj => by rw [Addr.add_lit]; exact hcell _ v (by rwa [List.getElem?_drop] at hj)) (by rw [hdl]; omega) (fun u hu => one_Titles l u (List.mem_of_mem_drop hu))
  have hR1 := hd (setRow_heap w.drew g _ (lay cur.toList (i * 4 + 4) ((l.flatMap eTitle).drop (i * 4))).toArray 95 _ hg)
  have hG1 : Hid (w.grownBy (w.drew.setRow g (lay cur.toList (i * 4 + 4) ((l.flatMap eTitle).drop (i * 4))).toArray) (some g)) := hd (let h := grown_setRow w.drew g (lay cur.toList (i * 4 + 4) ((l.flatMap eTitle).drop (i * 4))).toArray; ⟨h.os, h.tape, h.output, h.size, h.block⟩)
  have hX1 : Hid ((w.drew.setRow g (lay cur.toList (i * 4 + 4) ((l.flatMap eTitle).drop (i * 4))).toArray).heap[gx]? = some (.cells (eTitle x).toArray 95 (0, 0))) := hd ((setRow_other _ _ _ _ hne).trans hx)
  have hl1 : (lay cur.toList (i * 4 + 4) ((l.flatMap eTitle).drop (i * 4))).length = cap * 4 := by rw [lay_len (by rw [hdl]; simp; omega)]; simpa using hcs
  clear q1 q2 hx hcell hlen hfl hxl hcur hcs hg
  unfold maxLen at hcm
  have hz1 : ¬ ((1 : Int) = 0) := by omega
  have hz2 : ¬ ((i : Int) = (n : Int)) := by omega
  have hw1 : IntKind.i64.wrap ((i : Int) + 1) = (i : Int) + 1 := by rw [IntKind.wrap_i64]; omega
  have hb1 : (0 : Int) ≤ (i : Int) + 1 := by omega
  have hin : i ≤ n := by omega
  have hb2 : ¬ (cap = i + 1) := by omega
  have hb4 : ¬ (cap = i) := by omega
  have hb5 : ¬ (cap < n + 1) := by omega
  have hb3 : (i : Int) ≤ (n : Int) + 1 := by omega
  have hb6 : i ≤ n + 1 := by omega
  go_enter Tryz.func151, Tryz.ntmps151
  go_upto_region 15 with (simp only [hov])
  go_region_law (refine step_copy_runW rfl _ _ 27 27 rfl (.slice (some ⟨g, (i + 1) * 4, none⟩) (n - i) (cap - (i + 1))) (.slice (some ⟨g, i * 4, none⟩) (n + 1 - i) (cap - i)) (by simp [Act.eval, Act.put]) (by simp [Act.eval, Act.put]) (hcpA _) ?_)
  clear hcpA hov
  generalize w.drew.setRow g (lay cur.toList (i * 4 + 4) ((l.flatMap eTitle).drop (i * 4))).toArray = W1 at hR1 hG1 hX1 ⊢
  have hcpB : ∀ ty, (Builtin.copy_ #[27, 27] ty #[.slice (some ⟨g, i * 4, none⟩) (n + 1 - i) (cap - i), .slice (some ⟨gx, 0, none⟩) 1 1]).run Tryz.prog W1 = .ok (goInt (Nat.min 1 (n + 1 - i))) (W1.setRow g (lay (lay cur.toList (i * 4 + 4) ((l.flatMap eTitle).drop (i * 4))) (i * 4) (eTitle x)).toArray) := fun ty =>
    run_copy_rowk W1 _ _ ty 95 4 g (i * 4) (n + 1 - i) (cap - i) ⟨gx, 0, none⟩ 1 1 (lay cur.toList (i * 4 + 4) ((l.flatMap eTitle).drop (i * 4))).toArray 95 (eTitle x) Tryz.underlying27 hsz hR1.out (by rw [eTitle_len]; show 4 = min 1 (n + 1 - i) * 4; omega) (fun j v hj => by
      rw [Addr.add_lit, Nat.zero_add, cell_of_row W1 gx j _ 95 (0, 0) hX1.out, ← hj]
      simp) (by rw [eTitle_len]; simp [hl1]; omega) (one_Title x)
  have hR2 := hd (setRow_heap W1 g _ (lay (lay cur.toList (i * 4 + 4) ((l.flatMap eTitle).drop (i * 4))) (i * 4) (eTitle x)).toArray 95 _ hR1.out)
  have hG2 := hd (grownBy_trans hG1.out (grown_setRow W1 g (lay (lay cur.toList (i * 4 + 4) ((l.flatMap eTitle).drop (i * 4))) (i * 4) (eTitle x)).toArray))
  clear hR1 hG1 hX1 hl1
  go_upto_region 17 with (at_builtin; refine wpList_copy_runW _ rfl _ _ 27 27 rfl _ _ rfl rfl (hcpB _) ?_)
  clear hcpB
  generalize W1.setRow g (lay (lay cur.toList (i * 4 + 4) ((l.flatMap eTitle).drop (i * 4))) (i * 4) (eTitle x)).toArray = W2 at hR2 hG2 ⊢
  go_wp2_with fail
  go_ret
  exact ⟨_, rfl, hfin.out _ hR2.out, hG2.out⟩
theorem insert_title (w : World) (B : Nat) (v : Value) (l : List TTitle) (hO : Own w B 95 4 v eTitle l) (i : Nat) (hi : i ≤ l.length) (x : TTitle) (gx : Nat) (hx : w.heap[gx]? = some (.cells (eTitle x).toArray 95 (0, 0))) (hne : v.ownBlock ≠ some gx) (hB : B ≤ w.heap.size) (hl : l.length ≤ 1000) :
    Calls Tryz.prog 151 #[v, .int .i64 (i : Nat), .slice (some ⟨gx, 0, none⟩) 1 1] w (GivesIns w B v.ownBlock (insAt l i x)) := by
  by_cases hin : i = l.length
  · subst hin
    exact insert_end w B v l hO x gx hx hB hl
  rcases hO.2 with ⟨rfl, hn⟩ | ⟨g, cap, cur, rfl, hBg, hg, hnc, hcm, hcs, htake⟩
  · omega
  by_cases hc : l.length + 1 ≤ cap
  · exact insert_room w B g l cap cur hBg hg hcs htake hc hcm i (by omega) x gx hx (fun e => hne (by rw [e]; rfl)) hl
  · obtain rfl : cap = l.length := by omega
    exact insert_new w B g l cur hBg hg hcs (by rw [← htake, List.take_of_length_le (by simp; omega)]) i (by omega) x gx hx hB hl
end Go.Proofs.YtgcodjkjdfahdaaGreatDoor
