/- append of a slice that reads as a list onto a slice that the call owns, in a plain region and in one that draws its order. No condition. -/
import Derived.Test.YtlgcehdklpbknaaMem
import Derived.Maps.AppendAt
import Derived.Laws.OwnMore
import Derived.RegionTactic
namespace Go.Proofs.Ytlgcehdklpbknaa
open Go Go.RowKit
set_option linter.unusedSimpArgs false
set_option linter.unusedVariables false

section
variable {P : Program} {α : Type} {enc : α → List Value} {k : Nat}

theorem run_append_nil (w : World) (base t ty E : Nat) (i : TypeInfo) (ht : P.underlying t = some (.slice E)) (hi : P.info? E = some i)
    (v : Value) (n : Nat) (xs : List Value) (hown : w.ownsRow base E k v n xs) (c : Nat) : (Builtin.append_ #[t, t] ty #[v, .slice none 0 c]).run P w = .ok v w := by
  rcases hown.2 with ⟨rfl, rfl⟩ | ⟨g, cap, cur, rfl, _, _, hnc, _⟩
  · simp [Builtin.append_, run_underlying ht, sizeOf, typeInfo, hi, Builtin.lenOf, Builtin.firstCells]
  · simp [Builtin.append_, run_underlying ht, sizeOf, typeInfo, hi, Builtin.lenOf, Builtin.firstCells, hnc, storeCells]

theorem flatMap_get (hk : ∀ x, (enc x).length = k) (hk0 : 0 < k) (l : List α) (j : Nat) (u : Value) (h : (l.flatMap enc)[j]? = some u) :
    ∃ (x : α), l[j / k]? = some x ∧ (enc x)[j % k]? = some u := by
  have hj : j < (l.flatMap enc).length := by
    rcases Nat.lt_or_ge j (l.flatMap enc).length with h1 | h1
    · exact h1
    · rw [List.getElem?_eq_none h1] at h; cases h
  rw [flatMap_len enc k hk] at hj
  have hi : j / k < l.length := Nat.div_lt_of_lt_mul (by rw [Nat.mul_comm]; exact hj)
  refine ⟨l[j / k], List.getElem?_eq_getElem hi, ?_⟩
  have := flatMap_at enc k hk l (j / k) l[j / k] (List.getElem?_eq_getElem hi) (j % k) (Nat.mod_lt _ hk0)
  rw [← this, ← h]
  congr 1
  rw [Nat.mul_comm]
  exact Nat.div_add_mod j k

theorem run_append_sl (w : World) (t ty : Nat) {B E : Nat} (i : TypeInfo) (z : Value) (bytes : Nat) (ht : P.underlying t = some (.slice E)) (hi : P.info? E = some i) (hz : i.zero = some z)
    (hsize : i.size = k) (hby : i.bytes = bytes) (hzs : z.cells.size = k) (hsz : 0 < k) (hk : ∀ x, (enc x).length = k) (h1 : ∀ x, ∀ u ∈ enc x, u.oneCell' = true)
    (v : Value) (l : List α) (hown : Own w B E k v enc l) (vx : Value) (l2 : List α) (hx : Sl w k vx enc l2)
    (h63 : l.length + l2.length ≤ maxLen) (hbytes : (l.length + l2.length) * bytes ≤ 140737488355328) (hbase : B ≤ w.heap.size) :
    ∃ v' w', (Builtin.append_ #[t, t] ty #[v, vx]).run P w = .ok v' w' ∧ Own w' B E k v' enc (l ++ l2) ∧ w.grownBy w' v.ownBlock := by
  obtain ⟨-, A, c, rfl, -, -, hA⟩ := id hx
  rcases l2 with _ | ⟨y, l2⟩
  · rcases A with _ | a
    · exact ⟨v, w, run_append_nil w B t ty E i ht hi v l.length _ hown c, by simpa using hown, World.grownBy.refl _ _⟩
    · obtain ⟨v', w', hr, h2, h3, -⟩ := run_append_own_at (P := P) w B t ty E i z k bytes ht hi hz hsize hby hzs hsz v l.length (l.flatMap enc) hown a 0 c [] (by simp) (by simp) (by simp) (by simpa using h63) (by simpa using hbytes) hbase
      exact ⟨v', w', hr, by unfold Own; simpa using h2, h3⟩
  · obtain ⟨b, o, rfl, -, -⟩ := hA 0 y rfl
    obtain ⟨v', w', hr, h2, h3, -⟩ := run_append_own_at (P := P) w B t ty E i z k bytes ht hi hz hsize hby hzs hsz v l.length (l.flatMap enc) hown ⟨b, o, none⟩ (y :: l2).length c ((y :: l2).flatMap enc) (flatMap_len enc k hk _) (fun j u hu => by
      obtain ⟨x, hx1, hx2⟩ := flatMap_get hk hsz _ j u hu
      obtain ⟨b', o', he, -, hc⟩ := hA _ x hx1
      cases he
      have hadd : (⟨b, o, none⟩ : Addr).add j = ⟨b, o + j, none⟩ := by unfold Addr.add; split <;> simp_all
      rw [hadd]
      have := hc _ u hx2
      have e : o + j / k * k + j % k = o + j := by have := Nat.div_add_mod j k; rw [Nat.mul_comm] at this; omega
      rwa [e] at this) (fun u hu => by
      obtain ⟨x, -, hx2⟩ := List.mem_flatMap.1 hu
      exact h1 x u hx2) h63 hbytes hbase
    exact ⟨v', w', hr, by unfold Own; rw [List.length_append, List.flatMap_append]; exact h2, h3⟩

theorem wp_append_sl (w : World) {o : Oper} {a : Act} {K : Act → World → Prop} {Q : Exit → Act → World → Prop} (s x : Operand) (t : TypeId)
    (ho : o.op = .call { callee := .builtin .append, args := #[s, x], argTypes := #[t, t] })
    {B E : Nat} (i : TypeInfo) (z : Value) (bytes : Nat) (ht : P.underlying t = some (.slice E)) (hi : P.info? E = some i) (hz : i.zero = some z)
    (hsize : i.size = k) (hby : i.bytes = bytes) (hzs : z.cells.size = k) (hsz : 0 < k) (hk : ∀ x, (enc x).length = k) (h1 : ∀ x, ∀ u ∈ enc x, u.oneCell' = true)
    (v : Value) (l : List α) (hs : a.eval s = v) (hown : Own w B E k v enc l) (vx : Value) (l2 : List α) (hx : a.eval x = vx) (hxs : Sl w k vx enc l2)
    (h63 : l.length + l2.length ≤ maxLen) (hbytes : (l.length + l2.length) * bytes ≤ 140737488355328) (hbase : B ≤ w.heap.size)
    (h : ∀ v' w', Own w' B E k v' enc (l ++ l2) → w.grownBy w' v.ownBlock → K (a.put o.dst v') w') : o.wp P a w K Q := by
  obtain ⟨v', w', hr, h2, h3⟩ := run_append_sl (P := P) w t o.type i z bytes ht hi hz hsize hby hzs hsz hk h1 v l hown vx l2 hxs h63 hbytes hbase
  unfold Oper.wp execOp
  simp only [ho, resolve, invoke, builtin, Sem.run_bind, Sem.run_pure, Result.andThen_ok, List.map_toArray, List.map_cons, List.map_nil, hs, hx, hr]
  exact h v' w' h2 h3

theorem wpList_append_sl (w : World) {ops : Array Oper} {rest : List Oper} {o : Oper} {a : Act} {Q : Exit → Act → World → Prop} (hgd : o.guard = none) (s x : Operand) (t : TypeId)
    (ho : o.op = .call { callee := .builtin .append, args := #[s, x], argTypes := #[t, t] })
    {B E : Nat} (i : TypeInfo) (z : Value) (bytes : Nat) (ht : P.underlying t = some (.slice E)) (hi : P.info? E = some i) (hz : i.zero = some z)
    (hsize : i.size = k) (hby : i.bytes = bytes) (hzs : z.cells.size = k) (hsz : 0 < k) (hk : ∀ x, (enc x).length = k) (h1 : ∀ x, ∀ u ∈ enc x, u.oneCell' = true)
    (v : Value) (l : List α) (hs : a.eval s = v) (hown : Own w B E k v enc l) (vx : Value) (l2 : List α) (hx : a.eval x = vx) (hxs : Sl w k vx enc l2)
    (h63 : l.length + l2.length ≤ maxLen) (hbytes : (l.length + l2.length) * bytes ≤ 140737488355328) (hbase : B ≤ w.heap.size)
    (h : ∀ v' w', Own w' B E k v' enc (l ++ l2) → w.grownBy w' v.ownBlock → wpList P ops Q rest (a.put o.dst v') w') : wpList P ops Q (o :: rest) a w :=
  wpList_plain hgd fun _ hK => wp_append_sl w s x t ho i z bytes ht hi hz hsize hby hzs hsz hk h1 v l hs hown vx l2 hx hxs h63 hbytes hbase fun v' w' h2 h3 => hK _ _ (h v' w' h2 h3)

theorem step_append_sl (w : World) {ops : Array Oper} {o : Oper} {a : Act} {K : Act → World → Prop} {Q : Exit → Act → World → Prop} {X : Prop} (hgd : o.guard = none) (s x : Operand) (t : TypeId)
    (ho : o.op = .call { callee := .builtin .append, args := #[s, x], argTypes := #[t, t] })
    {B E : Nat} (i : TypeInfo) (z : Value) (bytes : Nat) (ht : P.underlying t = some (.slice E)) (hi : P.info? E = some i) (hz : i.zero = some z)
    (hsize : i.size = k) (hby : i.bytes = bytes) (hzs : z.cells.size = k) (hsz : 0 < k) (hk : ∀ x, (enc x).length = k) (h1 : ∀ x, ∀ u ∈ enc x, u.oneCell' = true)
    (v : Value) (l : List α) (hs : a.eval s = v) (hown : Own w B E k v enc l) (vx : Value) (l2 : List α) (hx : a.eval x = vx) (hxs : Sl w k vx enc l2)
    (h63 : l.length + l2.length ≤ maxLen) (hbytes : (l.length + l2.length) * bytes ≤ 140737488355328) (hbase : B ≤ w.heap.size)
    (h : ∀ v' w', Own w' B E k v' enc (l ++ l2) → w.grownBy w' v.ownBlock → K (a.put o.dst v') w') :
    if Region.wanted o (yielded ops a.tmps) = true then Oper.wp P o a w K Q else X := by
  have hw : Region.wanted o (yielded ops a.tmps) = true := by simp [Region.wanted, hgd]
  rw [if_pos hw]
  exact wp_append_sl w s x t ho i z bytes ht hi hz hsize hby hzs hsz hk h1 v l hs hown vx l2 hx hxs h63 hbytes hbase h
end

/-- One element in a block of its own reads as the list of that element. -/
theorem sl_one {α : Type} {enc : α → List Value} {k : Nat} (w : World) (g : Nat) (cs : Array Value) (E : TypeId) (hg : w.heap[g]? = some (.cells cs E (0, 0))) (y : α) (hcs : cs.toList = enc y) :
    Sl w k (.slice (some ⟨g, 0, none⟩) 1 1) enc [y] := by
  refine ⟨by simp, some ⟨g, 0, none⟩, 1, rfl, by simp, by omega, fun i x hx => ?_⟩
  have hlt : g < w.heap.size := by
    rcases Nat.lt_or_ge g w.heap.size with h | h
    · exact h
    · rw [Array.getElem?_eq_none h] at hg; cases hg
  refine ⟨g, 0, rfl, hlt, fun j u hu => ?_⟩
  rcases i with _ | i
  · simp at hx
    subst hx
    rw [cell_of_row w g _ cs E (0, 0) hg, ← hcs] at *
    simpa [hcs] using hu
  · simp at hx
end Go.Proofs.Ytlgcehdklpbknaa
