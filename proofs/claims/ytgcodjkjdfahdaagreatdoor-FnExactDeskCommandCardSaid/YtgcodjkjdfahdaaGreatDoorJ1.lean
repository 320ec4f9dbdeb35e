/- Lemmas for the claim (the walks of its functions and their plain laws), joined. No condition. -/
import Derived.WalkKit
import Derived.WalkSpells
import Derived.WalkLawsBesides
import Derived.Deep.QuietTactic
import Derived.BigQuiet
import Derived.Maps.AppendAt
import Derived.Laws.OwnMore
import Derived.RegionTactic
namespace Go.Proofs.YtgcodjkjdfahdaaGreatDoor
open Go Go.RowKit
set_option linter.unusedSimpArgs false
set_option linter.unusedVariables false
theorem hd {p : Prop} (h : p) : Hid p := h
def Sl {α : Type} (w : World) (k : Nat) (v : Value) (enc : α → List Value) (l : List α) : Prop :=
  l.length ≤ 9223372036854775807 ∧ ∃ A c, v = .slice A l.length c ∧ l.length ≤ c ∧ c ≤ 9223372036854775807 ∧
    ∀ i x, l[i]? = some x → ∃ b o, A = some ⟨b, o, none⟩ ∧ b < w.heap.size ∧ ∀ j u, (enc x)[j]? = some u → w.cell? ⟨b, o + i * k + j, none⟩ = some u
section
variable {α : Type} {w w' : World} {k : Nat} {v : Value} {enc : α → List Value} {l : List α}
theorem Sl.len (h : Sl w k v enc l) : l.length ≤ 9223372036854775807 := h.1
theorem Sl.keep (h : Sl w k v enc l) (hs : w.heap.size ≤ w'.heap.size) (hw : ∀ a u, w.cell? a = some u → w'.cell? a = some u) : Sl w' k v enc l := by
  obtain ⟨h1, A, c, rfl, hc, hc', h2⟩ := h
  refine ⟨h1, A, c, rfl, hc, hc', fun i x hx => ?_⟩
  obtain ⟨b, o, hA, hb, h3⟩ := h2 i x hx
  exact ⟨b, o, hA, by omega, fun j u hu => hw _ _ (h3 j u hu)⟩
theorem Sl.below (h : Sl w k v enc l) (hb : Below w.heap.size w w') : Sl w' k v enc l :=
  h.keep hb.size fun a _ hu => (hb.cell (World.block_lt_of_cell? w a hu)).trans hu
theorem Sl.drew (h : Sl w k v enc l) : Sl w.drew k v enc l := h.keep (Nat.le_refl _) fun _ _ hu => hu
theorem Sl.alloc (h : Sl w k v enc l) (o : Obj) : Sl (w.alloc o) k v enc l := h.below ((Below.refl _ _).alloc (Nat.le_refl _) o)
theorem Sl.nil (w : World) (k : Nat) (enc : α → List Value) : Sl w k (.slice none 0 0) enc [] :=
  ⟨by simp, none, 0, rfl, by simp, by simp, fun i x hx => by simp at hx⟩
theorem Sl.at_ {A : Option Addr} {n c : Nat} (h : Sl w k (.slice A n c) enc l) {i : Nat} (hi : i < l.length) :
    ∃ b o x, l[i]? = some x ∧ A = some ⟨b, o, none⟩ ∧ b < w.heap.size ∧ ∀ j u, (enc x)[j]? = some u → w.cell? ⟨b, o + i * k + j, none⟩ = some u := by
  obtain ⟨_, A', c', hv, _, _, h2⟩ := h
  injection hv with hA _ _
  subst hA
  obtain ⟨b, o, hA, hb, h3⟩ := h2 i l[i] (List.getElem?_eq_getElem hi)
  exact ⟨b, o, l[i], List.getElem?_eq_getElem hi, hA, hb, h3⟩
end
def Own {α : Type} (w : World) (B : Nat) (E : TypeId) (k : Nat) (v : Value) (enc : α → List Value) (l : List α) : Prop :=
  w.ownsRow B E k v l.length (l.flatMap enc)
theorem flatMap_len {α : Type} (enc : α → List Value) (k : Nat) (hk : ∀ x, (enc x).length = k) (l : List α) : (l.flatMap enc).length = l.length * k := by
  induction l with
  | nil => simp
  | cons x l ih => simp [List.flatMap_cons, hk, ih, Nat.add_mul, Nat.add_comm]
theorem flatMap_at {α : Type} (enc : α → List Value) (k : Nat) (hk : ∀ x, (enc x).length = k) (l : List α) (i : Nat) (x : α) (hx : l[i]? = some x) (j : Nat) (hj : j < k) :
    (l.flatMap enc)[i * k + j]? = (enc x)[j]? := by
  induction l generalizing i with
  | nil => simp at hx
  | cons y l ih =>
    rw [List.flatMap_cons]
    cases i with
    | zero =>
      simp at hx
      subst hx
      rw [List.getElem?_append_left (by rw [hk]; omega)]
      simp
    | succ i =>
      simp only [List.getElem?_cons_succ] at hx
      rw [List.getElem?_append_right (by rw [hk, Nat.add_mul]; omega), hk, ← ih i hx]
      congr 1
      rw [Nat.add_mul]
      omega
theorem flatMap_snoc {α : Type} (enc : α → List Value) (l : List α) (i : Nat) (h : i < l.length) : (l.take (i + 1)).flatMap enc = (l.take i).flatMap enc ++ enc l[i] := by
  rw [List.take_succ_eq_append_getElem h, List.flatMap_append]
  simp
section
variable {α : Type} {w w' : World} {B : Nat} {E : TypeId} {k : Nat} {v : Value} {enc : α → List Value} {l : List α}
theorem Own.sl (h : Own w B E k v enc l) (hk : ∀ x, (enc x).length = k) : Sl w k v enc l := by
  rcases h.2 with ⟨hv, hn⟩ | ⟨g, cap, cur, hv, hb, hg, hnc, hcm, hcs, htake⟩
  · have hl : l = [] := List.eq_nil_of_length_eq_zero hn
    subst hl
    exact ⟨by simp, none, 0, by rw [hv]; rfl, by simp, by simp, fun i x hx => by simp at hx⟩
  · unfold maxLen at hcm
    refine ⟨by omega, some ⟨g, 0, none⟩, cap, hv, hnc, by omega, fun i x hx => ⟨g, 0, rfl, (Array.getElem?_eq_some_iff.1 hg).1, fun j u hu => ?_⟩⟩
    have hjk : j < k := by
      have := (List.getElem?_eq_some_iff.1 hu).1
      rwa [hk] at this
    have hi : i < l.length := (List.getElem?_eq_some_iff.1 hx).1
    have h1 := flatMap_at enc k hk l i x hx j hjk
    have h2 : (⟨g, 0 + i * k + j, none⟩ : Addr) = ⟨g, i * k + j, none⟩ := by simp
    rw [h2, cell_of_row w g (i * k + j) cur E (0, 0) hg]
    have h3 : (cur.toList.take (l.length * k))[i * k + j]? = some u := by rw [htake, h1]; exact hu
    rw [List.getElem?_take] at h3
    split at h3
    · simpa using h3
    · cases h3
theorem Own.lt (h : Own w B E k v enc l) : ∀ g, v.ownBlock = some g → B ≤ g ∧ g < w.heap.size := World.ownsRow.lt h
theorem Own.below {C : Nat} (h : Own w B E k v enc l) (hb : Below C w w') (hC : w.heap.size ≤ C) : Own w' B E k v enc l := by
  refine ⟨h.1, ?_⟩
  rcases h.2 with hn | ⟨g, cap, cur, hv, hbg, hg, rest⟩
  · exact .inl hn
  · refine .inr ⟨g, cap, cur, hv, hbg, ?_, rest⟩
    rw [hb.block g (by have := (Array.getElem?_eq_some_iff.1 hg).1; omega)]
    exact hg
theorem Own.grown {row : Option Nat} (h : Own w B E k v enc l) (hg : w.grownBy w' row) (hne : v.ownBlock = none ∨ v.ownBlock ≠ row) : Own w' B E k v enc l := World.ownsRow.kept h hg hne
theorem Own.alloc (h : Own w B E k v enc l) (o : Obj) : Own (w.alloc o) B E k v enc l := World.ownsRow.alloc h o
theorem Own.drew (h : Own w B E k v enc l) : Own w.drew B E k v enc l := h
theorem Own.drewN (h : Own w B E k v enc l) (n : Nat) : Own (w.drewN n) B E k v enc l := h
theorem Own.nil (w : World) (B : Nat) (E : TypeId) (k : Nat) (enc : α → List Value) : Own w B E k (.slice none 0 0) enc [] := World.ownsRow_nil w B E k
theorem Own.base {B' : Nat} (h : Own w B E k v enc l) (hB : B' ≤ B) : Own w B' E k v enc l := by
  refine ⟨h.1, ?_⟩
  rcases h.2 with hn | ⟨g, cap, cur, hv, hbg, rest⟩
  · exact .inl hn
  · exact .inr ⟨g, cap, cur, hv, by omega, rest⟩
theorem Own.form (h : Own w B E k v enc l) : (v = .slice none 0 0 ∧ l = []) ∨ ∃ g cap, v = .slice (some ⟨g, 0, none⟩) l.length cap ∧ B ≤ g ∧ g < w.heap.size ∧ l.length ≤ cap ∧ cap ≤ 9223372036854775807 := by
  rcases h.2 with ⟨hv, hn⟩ | ⟨g, cap, cur, hv, hb, hg, hnc, hcm, _⟩
  · exact .inl ⟨hv, List.eq_nil_of_length_eq_zero hn⟩
  · unfold maxLen at hcm
    exact .inr ⟨g, cap, hv, hb, (Array.getElem?_eq_some_iff.1 hg).1, hnc, by omega⟩
end
theorem own_ne {α β : Type} {w w' : World} {B E k E' k' : Nat} {v v' : Value} {enc : α → List Value} {enc' : β → List Value} {l : List α} {l' : List β} (h : Own w B E k v enc l) (h' : Own w' w.heap.size E' k' v' enc' l') : v.ownBlock = none ∨ v.ownBlock ≠ v'.ownBlock := by
  cases hv : v.ownBlock with
  | none => exact .inl rfl
  | some g =>
    refine .inr fun e => ?_
    have h1 := (h.lt g hv).2
    have h2 := (h'.lt g e.symm).1
    omega
theorem ne_symm {v v' : Value} (h : v.ownBlock = none ∨ v.ownBlock ≠ v'.ownBlock) : v'.ownBlock = none ∨ v'.ownBlock ≠ v.ownBlock := by
  cases hv : v'.ownBlock with
  | none => exact .inl rfl
  | some g =>
    refine .inr fun e => ?_
    rcases h with h | h
    · rw [h] at e; cases e
    · exact h (by rw [hv, ← e])
theorem below_of_grown {w w' : World} {row : Option Nat} {B : Nat} (hg : w.grownBy w' row) (hB : B ≤ w.heap.size) (hr : ∀ g, row = some g → B ≤ g) : Below B w w' :=
  (Below.refl B w).grown hg hB hr
theorem grownBy_trans {a b c : World} {row : Option Nat} (h : a.grownBy b row) (h' : b.grownBy c row) : a.grownBy c row :=
  ⟨h'.os.trans h.os, h'.tape.trans h.tape, h'.output.trans h.output, Nat.le_trans h.size h'.size, fun k hk hne => (h'.block k (Nat.lt_of_lt_of_le hk h.size) hne).trans (h.block k hk hne)⟩
theorem grownBy_drewN {a b : World} {row : Option Nat} (h : a.grownBy b row) (n : Nat) : a.grownBy (b.drewN n) row := ⟨h.os, h.tape, h.output, h.size, h.block⟩
theorem grownBy_of_below {a w : World} (h : Below a.heap.size a w) (row : Option Nat) : a.grownBy w row := ⟨h.os, h.tape, h.output, h.size, fun i hi _ => h.block i hi⟩
theorem below_drewN {B : Nat} {a w : World} (h : Below B a w) (n : Nat) : Below B a (w.drewN n) := ⟨h.os, h.tape, h.output, h.size, h.block⟩
theorem below_of_drewN {w : World} (n : Nat) (B : Nat) : Below B w (w.drewN n) := below_drewN (Below.refl _ _) n
theorem below_step {a b c : World} (h : Below a.heap.size a b) (h' : Below b.heap.size b c) : Below a.heap.size a c := h.trans (h'.mono h.size)
theorem take_set_snoc {ys P : List Value} {m : Nat} (h : ys.take m = P) (hm : m < ys.length) (u : Value) : (ys.set m u).take (m + 1) = P ++ [u] := by
  rw [List.take_succ_eq_append_getElem (by simpa using hm)]
  subst h
  simp [List.take_set_of_le]
structure Ext (w : World) where
  it : World
  below : Below w.heap.size w it
def gro (w : World) (x : Ext w) : World := x.it
theorem gro_below {w : World} (x : Ext w) : Below w.heap.size w (gro w x) := x.below
theorem gro_cell {w : World} {a : Addr} {u : Value} (h : w.cell? a = some u) (x : Ext w) : (gro w x).cell? a = some u := (x.below.cell (World.block_lt_of_cell? w a h)).trans h
section
variable {P : Program}
theorem wp_region_calm {id : Nat} {Q : Exit → Act → World → Prop} {a : Act} {w : World} {l : List Oper} (hm : P.follows .mixedOrders = true) (hB : Region.lexB .any l.toArray = true)
    (h : wpQuiet P l.toArray (fun w' => ∃ x, w' = gro w x) (fun a' => ∀ w', (∃ x, w' = gro w x) → Q .normal a' w') l a) : (Code.region id l.toArray true).wp P Q a w :=
  wp_region_quiet (C := fun w' => ∃ x, w' = gro w x) hm hB ⟨⟨w.drew, (Below.refl _ _).drew⟩, rfl⟩ (by simpa using h)
theorem calm_of {f : FuncId} {args : Array Value} {w : World} {x : Ext w} {v : Value}
    (h : Calls P f args (gro w x) fun e w' => e = .returned v ∧ Below (gro w x).heap.size (gro w x) w') : Calls P f args (gro w x) fun e w'' => e = .returned v ∧ ∃ y, w'' = gro w y :=
  h.mono fun _ w'' ⟨he, hb⟩ => ⟨he, ⟨w'', below_step x.below hb⟩, rfl⟩
theorem calm_of_same {f : FuncId} {args : Array Value} {w : World} {x : Ext w} {v : Value}
    (h : Calls P f args (gro w x) fun e w' => e = .returned v ∧ w' = gro w x) : Calls P f args (gro w x) fun e w'' => e = .returned v ∧ ∃ y, w'' = gro w y :=
  h.mono fun _ _ ⟨he, hw⟩ => ⟨he, x, hw⟩
theorem calm_of_drew {f : FuncId} {args : Array Value} {w : World} {x : Ext w} {v : Value}
    (h : Calls P f args (gro w x) fun e w' => e = .returned v ∧ ∃ n, w' = (gro w x).drewN n) : Calls P f args (gro w x) fun e w'' => e = .returned v ∧ ∃ y, w'' = gro w y :=
  h.mono fun _ _ ⟨he, n, hw⟩ => ⟨he, ⟨_, below_drewN x.below n⟩, hw⟩
instance (w : World) : Nonempty (Ext w) := ⟨⟨w, Below.refl _ _⟩⟩
end
theorem new_cell (w : World) (cs : Array Value) (T : TypeId) (j : Nat) (u : Value) (h : cs[j]? = some u) : (w.alloc (.cells cs T)).cell? ⟨w.heap.size, j, none⟩ = some u :=
  (cell_of_row _ _ j cs T (0, 0) (heap_alloc_new w _)).trans h
def allTo (p : Nat → Bool) (n : Nat) : Bool := (List.range n).all p
theorem allTo_false {p : Nat → Bool} {n k : Nat} (hk : k < n) (h : p k = false) : allTo p n = false := by
  unfold allTo
  rw [List.all_eq_false]
  exact ⟨k, List.mem_range.2 hk, by simp [h]⟩
theorem allTo_true {p : Nat → Bool} {n : Nat} (h : ∀ i, i < n → p i = true) : allTo p n = true := by
  unfold allTo
  rw [List.all_eq_true]
  exact fun i hi => h i (List.mem_range.1 hi)
theorem allTo_get {p : Nat → Bool} {n : Nat} (h : allTo p n = true) : ∀ i, i < n → p i = true := by
  unfold allTo at h
  rw [List.all_eq_true] at h
  exact fun i hi => h i (List.mem_range.2 hi)
theorem allTo_step {p : Nat → Bool} {k : Nat} (h : ∀ i, i < k → p i = true) (hk : p k = true) : ∀ i, i < k + 1 → p i = true := fun i hi => by
  by_cases e : i = k
  · exact e ▸ hk
  · exact h i (by omega)
theorem Own.made0 {α : Type} (w : World) (B : Nat) (E : TypeId) (k : Nat) (enc : α → List Value) (hB : B ≤ w.heap.size) : Own (w.alloc (.cells #[] E)) B E k (.slice (some ⟨w.heap.size, 0, none⟩) 0 0) enc [] :=
  World.ownsRow_made w #[] 0 hB (by simp [maxLen]) (by simp)
def idxGo {α : Type} (p : α → Bool) : List α → Int → Int
  | [], _ => -1
  | x :: l, i => if p x then i else idxGo p l (i + 1)
theorem idxGo_nonneg {α : Type} (p : α → Bool) (l : List α) (i : Int) (hi : 0 ≤ i) : decide (0 ≤ idxGo p l i) = l.any p := by
  induction l generalizing i with
  | nil => simp [idxGo]
  | cons x l ih =>
    unfold idxGo
    rw [List.any_cons]
    cases hp : p x
    · simp only [Bool.false_eq_true, if_false, Bool.false_or]
      exact ih (i + 1) (by omega)
    · simp [hi]
theorem idxGo_drop {α : Type} (p : α → Bool) (l : List α) (k : Nat) (i : Int) (hk : k < l.length) : idxGo p (l.drop k) i = if p l[k] then i else idxGo p (l.drop (k + 1)) (i + 1) := by
  rw [List.drop_eq_getElem_cons hk]
  rfl
theorem any_of_hit {α : Type} (p : α → Bool) (l : List α) (k : Nat) (hk : k < l.length) (hp : p l[k] = true) : l.any p = true := by
  rw [List.any_eq_true]
  exact ⟨l[k], List.getElem_mem _, hp⟩
def GivesOwnI {α : Type} (w : World) (E : TypeId) (k : Nat) (enc : α → List Value) (r : List α × Int) (e : Ending) (w' : World) : Prop :=
  ∃ v, e = .returned (.tuple #[v, .int .i64 r.2]) ∧ Own w' w.heap.size E k v enc r.1 ∧ Below w.heap.size w w'
section
variable {P : Program}
theorem wpList_push {α : Type} {enc : α → List Value} {k : Nat} (w : World) {ops : Array Oper} {rest : List Oper} {o : Oper} {a : Act} {Q : Exit → Act → World → Prop} (hgd : o.guard = none) (s x : Operand) (t : TypeId)
    (ho : o.op = .call { callee := .builtin .append, args := #[s, x], argTypes := #[t, t] })
    {B : Nat} {E : TypeId} (i : TypeInfo) (z : Value) (bytes : Nat) (ht : P.underlying t = some (.slice E)) (hi : P.info? E = some i) (hz : i.zero = some z)
    (hsize : i.size = k) (hby : i.bytes = bytes) (hzs : z.cells.size = k) (hsz : 0 < k)
    (v : Value) (l : List α) (y : α) (hs : a.eval s = v) (hown : Own w B E k v enc l)
    (g : Nat) (hx : a.eval x = .slice (some ⟨g, 0, none⟩) 1 1) (cs : Array Value) (E' : TypeId) (hg : w.heap[g]? = some (.cells cs E' (0, 0))) (hcs : cs.toList = enc y) (hlen : (enc y).length = k) (h1 : ∀ u ∈ enc y, u.oneCell' = true)
    (h63 : l.length + 1 ≤ maxLen) (hbytes : (l.length + 1) * bytes ≤ 140737488355328) (hbase : B ≤ w.heap.size)
    (h : ∀ v' w', Own w' B E k v' enc (l ++ [y]) → w.grownBy w' v.ownBlock → wpList P ops Q rest (a.put o.dst v') w') : wpList P ops Q (o :: rest) a w := by
  refine wpList_append_own w hgd s x t ho B E i z k bytes ht hi hz hsize hby hzs hsz v l.length (l.flatMap enc) hs hown ⟨g, 0, none⟩ 1 1 (enc y) hx (by simpa using hlen) ?_ h1 h63 hbytes hbase ?_
  · intro j u hu
    have hadd : (⟨g, 0, none⟩ : Addr).add j = ⟨g, j, none⟩ := by unfold Addr.add; split <;> simp_all
    rw [hadd, cell_of_row w g j cs E' (0, 0) hg, ← hu, ← hcs]
    simp
  · intro v' w' hown' hgr _
    refine h v' w' ?_ hgr
    unfold Own
    simpa using hown'
end
end Go.Proofs.YtgcodjkjdfahdaaGreatDoor

namespace Go.Proofs.YtgcodjkjdfahdaaGreatDoor
open Go Go.RowKit
set_option linter.unusedSimpArgs false
set_option linter.unusedVariables false
section
variable {P : Program} {α : Type} {enc : α → List Value} {k : Nat}
theorem run_append_nil (w : World) (base t ty E : Nat) (i : TypeInfo) (ht : P.underlying t = some (.slice E)) (hi : P.info? E = some i)
    (v : Value) (n : Nat) (xs : List Value) (hown : w.ownsRow base E k v n xs) (c : Nat) : (Builtin.append_ #[t, t] ty #[v, .slice none 0 c]).run P w = .ok v w := by
  rcases hown.2 with ⟨rfl, rfl⟩ | ⟨g, cap, cur, rfl, _, _, hnc, _⟩
  · simp [Builtin.append_, run_underlying ht, sizeOf, typeInfo, hi, Builtin.lenOf, Builtin.firstCells]
  · simp [Builtin.append_, run_underlying ht, sizeOf, typeInfo, hi, Builtin.lenOf, Builtin.firstCells, hnc, storeCells]
theorem flatMap_get (hk : ∀ x, (enc x).length = k) (hk0 : 0 < k) (l : List α) (j : Nat) (u : Value) (h : (l.flatMap enc)[j]? = some u) :
    ∃ (x : α), l[j / k]? = some x ∧ (enc x)[j % k]? = some u := by
  have hj : j < (l.flatMap enc).length := by
    rcases Nat.lt_or_ge j (l.flatMap enc).length with h1 | h1
    · exact h1
    · rw [List.getElem?_eq_none h1] at h; cases h
  rw [flatMap_len enc k hk] at hj
  have hi : j / k < l.length := Nat.div_lt_of_lt_mul (by rw [Nat.mul_comm]; exact hj)
  refine ⟨l[j / k], List.getElem?_eq_getElem hi, ?_⟩
  have := flatMap_at enc k hk l (j / k) l[j / k] (List.getElem?_eq_getElem hi) (j % k) (Nat.mod_lt _ hk0)
  rw [← this, ← h]
  congr 1
  rw [Nat.mul_comm]
  exact Nat.div_add_mod j k
theorem run_append_sl (w : World) (t ty : Nat) {B E : Nat} (i : TypeInfo) (z : Value) (bytes : Nat) (ht : P.underlying t = some (.slice E)) (hi : P.info? E = some i) (hz : i.zero = some z)
    (hsize : i.size = k) (hby : i.bytes = bytes) (hzs : z.cells.size = k) (hsz : 0 < k) (hk : ∀ x, (enc x).length = k) (h1 : ∀ x, ∀ u ∈ enc x, u.oneCell' = true)
    (v : Value) (l : List α) (hown : Own w B E k v enc l) (vx : Value) (l2 : List α) (hx : Sl w k vx enc l2)
    (h63 : l.length + l2.length ≤ maxLen) (hbytes : (l.length + l2.length) * bytes ≤ 140737488355328) (hbase : B ≤ w.heap.size) :
    ∃ v' w', (Builtin.append_ #[t, t] ty #[v, vx]).run P w = .ok v' w' ∧ Own w' B E k v' enc (l ++ l2) ∧ w.grownBy w' v.ownBlock := by
  obtain ⟨-, A, c, rfl, -, -, hA⟩ := id hx
  rcases l2 with _ | ⟨y, l2⟩
  · rcases A with _ | a
    · exact ⟨v, w, run_append_nil w B t ty E i ht hi v l.length _ hown c, by simpa using hown, World.grownBy.refl _ _⟩
    · obtain ⟨v', w', hr, h2, h3, -⟩ := run_append_own_at (P := P) w B t ty E i z k bytes ht hi hz hsize hby hzs hsz v l.length (l.flatMap enc) hown a 0 c [] (by simp) (by simp) (by simp) (by simpa using h63) (by simpa using hbytes) hbase
      exact ⟨v', w', hr, by unfold Own; simpa using h2, h3⟩
  · obtain ⟨b, o, rfl, -, -⟩ := hA 0 y rfl
    obtain ⟨v', w', hr, h2, h3, -⟩ := run_append_own_at (P := P) w B t ty E i z k bytes ht hi hz hsize hby hzs hsz v l.length (l.flatMap enc) hown ⟨b, o, none⟩ (y :: l2).length c ((y :: l2).flatMap enc) (flatMap_len enc k hk _) (fun j u hu => by
      obtain ⟨x, hx1, hx2⟩ := flatMap_get hk hsz _ j u hu
      obtain ⟨b', o', he, -, hc⟩ := hA _ x hx1
      cases he
      have hadd : (⟨b, o, none⟩ : Addr).add j = ⟨b, o + j, none⟩ := by unfold Addr.add; split <;> simp_all
      rw [hadd]
      have := hc _ u hx2
      have e : o + j / k * k + j % k = o + j := by have := Nat.div_add_mod j k; rw [Nat.mul_comm] at this; omega
      rwa [e] at this) (fun u hu => by
      obtain ⟨x, -, hx2⟩ := List.mem_flatMap.1 hu
      exact h1 x u hx2) h63 hbytes hbase
    exact ⟨v', w', hr, by unfold Own; rw [List.length_append, List.flatMap_append]; exact h2, h3⟩
theorem wp_append_sl (w : World) {o : Oper} {a : Act} {K : Act → World → Prop} {Q : Exit → Act → World → Prop} (s x : Operand) (t : TypeId)
    (ho : o.op = .call { callee := .builtin .append, args := #[s, x], argTypes := #[t, t] })
    {B E : Nat} (i : TypeInfo) (z : Value) (bytes : Nat) (ht : P.underlying t = some (.slice E)) (hi : P.info? E = some i) (hz : i.zero = some z)
    (hsize : i.size = k) (hby : i.bytes = bytes) (hzs : z.cells.size = k) (hsz : 0 < k) (hk : ∀ x, (enc x).length = k) (h1 : ∀ x, ∀ u ∈ enc x, u.oneCell' = true)
    (v : Value) (l : List α) (hs : a.eval s = v) (hown : Own w B E k v enc l) (vx : Value) (l2 : List α) (hx : a.eval x = vx) (hxs : Sl w k vx enc l2)
    (h63 : l.length + l2.length ≤ maxLen) (hbytes : (l.length + l2.length) * bytes ≤ 140737488355328) (hbase : B ≤ w.heap.size)
    (h : ∀ v' w', Own w' B E k v' enc (l ++ l2) → w.grownBy w' v.ownBlock → K (a.put o.dst v') w') : o.wp P a w K Q := by
  obtain ⟨v', w', hr, h2, h3⟩ := run_append_sl (P := P) w t o.type i z bytes ht hi hz hsize hby hzs hsz hk h1 v l hown vx l2 hxs h63 hbytes hbase
  unfold Oper.wp execOp
  simp only [ho, resolve, invoke, builtin, Sem.run_bind, Sem.run_pure, Result.andThen_ok, List.map_toArray, List.map_cons, List.map_nil, hs, hx, hr]
  exact h v' w' h2 h3
theorem wpList_append_sl (w : World) {ops : Array Oper} {rest : List Oper} {o : Oper} {a : Act} {Q : Exit → Act → World → Prop} (hgd : o.guard = none) (s x : Operand) (t : TypeId)
    (ho : o.op = .call { callee := .builtin .append, args := #[s, x], argTypes := #[t, t] })
    {B E : Nat} (i : TypeInfo) (z : Value) (bytes : Nat) (ht : P.underlying t = some (.slice E)) (hi : P.info? E = some i) (hz : i.zero = some z)
    (hsize : i.size = k) (hby : i.bytes = bytes) (hzs : z.cells.size = k) (hsz : 0 < k) (hk : ∀ x, (enc x).length = k) (h1 : ∀ x, ∀ u ∈ enc x, u.oneCell' = true)
    (v : Value) (l : List α) (hs : a.eval s = v) (hown : Own w B E k v enc l) (vx : Value) (l2 : List α) (hx : a.eval x = vx) (hxs : Sl w k vx enc l2)
    (h63 : l.length + l2.length ≤ maxLen) (hbytes : (l.length + l2.length) * bytes ≤ 140737488355328) (hbase : B ≤ w.heap.size)
    (h : ∀ v' w', Own w' B E k v' enc (l ++ l2) → w.grownBy w' v.ownBlock → wpList P ops Q rest (a.put o.dst v') w') : wpList P ops Q (o :: rest) a w :=
  wpList_plain hgd fun _ hK => wp_append_sl w s x t ho i z bytes ht hi hz hsize hby hzs hsz hk h1 v l hs hown vx l2 hx hxs h63 hbytes hbase fun v' w' h2 h3 => hK _ _ (h v' w' h2 h3)
end
end Go.Proofs.YtgcodjkjdfahdaaGreatDoor

namespace Go.Proofs.YtgcodjkjdfahdaaGreatDoor
set_option linter.unusedSimpArgs false
set_option linter.unusedVariables false
def nearN (p s k : Nat) : Nat := (2 * k * p + s) / (2 * s)
def seenN (p s k : Nat) : Nat := nearN p s k % p
theorem seenN_lt {p s k : Nat} (hp : 1 ≤ p) : seenN p s k < p := Nat.mod_lt _ hp
theorem near_cast (p s k : Nat) : ((nearN p s k : Nat) : Int) = (2 * (k : Int) * (p : Int) + (s : Int)) / (2 * (s : Int)) := by
  unfold nearN
  rw [Int.natCast_ediv]
  simp
theorem seen_cast (p s k : Nat) : ((seenN p s k : Nat) : Int) = ((nearN p s k : Nat) : Int) % (p : Int) := by
  unfold seenN
  rw [Int.natCast_emod]
def seenTo (p s n : Nat) : List Int := (List.range n).map fun k => ((seenN p s k : Nat) : Int)
theorem seenTo_len (p s n : Nat) : (seenTo p s n).length = n := by simp [seenTo]
theorem seenTo_snoc (p s n : Nat) : seenTo p s (n + 1) = seenTo p s n ++ [((seenN p s n : Nat) : Int)] := by simp [seenTo, List.range_succ]
theorem seenTo_get {p s n i : Nat} (h : i < (seenTo p s n).length) : (seenTo p s n)[i] = ((seenN p s i : Nat) : Int) := by simp [seenTo]
theorem seenTo_mem {p s n : Nat} (hp : 1 ≤ p) : ∀ x ∈ seenTo p s n, 0 ≤ x ∧ x < p := by
  intro x hx
  unfold seenTo at hx
  obtain ⟨k, -, rfl⟩ := List.mem_map.1 hx
  have := seenN_lt (s := s) (k := k) hp
  omega
def motTo (d : List UInt8) (s n : Nat) : List UInt8 := (List.range n).map fun k => d.getD (seenN d.length s k) 0
theorem motTo_len (d : List UInt8) (s n : Nat) : (motTo d s n).length = n := by simp [motTo]
theorem motTo_snoc (d : List UInt8) (s n : Nat) : motTo d s (n + 1) = motTo d s n ++ [d.getD (seenN d.length s n) 0] := by simp [motTo, List.range_succ]
def fillTo (m : List UInt8) (p : Nat) : Nat → Option (List UInt8)
  | 0 => some (List.replicate p 0)
  | k + 1 => (fillTo m p k).bind fun l => if l.getD (seenN p m.length k) 0 ≠ 0 ∧ l.getD (seenN p m.length k) 0 ≠ m.getD k 0 then none else some (l.set (seenN p m.length k) (m.getD k 0))
theorem fillTo_len {m : List UInt8} {p : Nat} : ∀ {k : Nat} {l : List UInt8}, fillTo m p k = some l → l.length = p
  | 0, l, h => by
    simp only [fillTo, Option.some.injEq] at h
    subst h
    simp
  | k + 1, l, h => by
    unfold fillTo at h
    rcases hf : fillTo m p k with _ | l0
    · rw [hf] at h; cases h
    · rw [hf] at h
      have h0 := fillTo_len hf
      simp only [Option.bind_some] at h
      split at h
      · cases h
      · injection h with h
        subst h
        simpa using h0
theorem fillTo_none {m : List UInt8} {p : Nat} {k : Nat} (h : fillTo m p k = none) : ∀ j, fillTo m p (k + j) = none
  | 0 => h
  | j + 1 => by
    show fillTo m p ((k + j) + 1) = none
    unfold fillTo
    rw [fillTo_none h j]
    rfl
theorem fillTo_bad {m : List UInt8} {p k : Nat} {l : List UInt8} (hf : fillTo m p k = some l) (h1 : l.getD (seenN p m.length k) 0 ≠ 0) (h2 : l.getD (seenN p m.length k) 0 ≠ m.getD k 0) (hk : k < m.length) : fillTo m p m.length = none := by
  have h : fillTo m p (k + 1) = none := by
    unfold fillTo
    rw [hf]
    simp only [Option.bind_some]
    rw [if_pos ⟨h1, h2⟩]
  have := fillTo_none h (m.length - (k + 1))
  rwa [show k + 1 + (m.length - (k + 1)) = m.length by omega] at this
theorem fillTo_good {m : List UInt8} {p k : Nat} {l : List UInt8} (hf : fillTo m p k = some l) (h : l.getD (seenN p m.length k) 0 = 0 ∨ l.getD (seenN p m.length k) 0 = m.getD k 0) : fillTo m p (k + 1) = some (l.set (seenN p m.length k) (m.getD k 0)) := by
  unfold fillTo
  rw [hf]
  simp only [Option.bind_some]
  rw [if_neg]
  rintro ⟨h1, h2⟩
  rcases h with h | h
  · exact h1 h
  · exact h2 h
def sprTo (l : List UInt8) : Nat → List UInt8
  | 0 => l
  | j + 1 => if (sprTo l j).getD (j + 1) 0 = 0 then (sprTo l j).set (j + 1) ((sprTo l j).getD j 0) else sprTo l j
theorem sprTo_len (l : List UInt8) (j : Nat) : (sprTo l j).length = l.length := by
  induction j with
  | zero => rfl
  | succ j ih =>
    unfold sprTo
    split
    · simpa using ih
    · exact ih
theorem sprTo_set {l : List UInt8} {j : Nat} (h : (sprTo l j).getD (j + 1) 0 = 0) : sprTo l (j + 1) = (sprTo l j).set (j + 1) ((sprTo l j).getD j 0) := by rw [sprTo, if_pos h]
theorem sprTo_same {l : List UInt8} {j : Nat} (h : ¬ (sprTo l j).getD (j + 1) 0 = 0) : sprTo l (j + 1) = sprTo l j := by rw [sprTo, if_neg h]
def discB (m : List UInt8) (p : Nat) : Option ByteArray := (fillTo m p m.length).map fun l => ⟨(sprTo l (p - 1)).toArray⟩
theorem discB_none {m : List UInt8} {p : Nat} (h : fillTo m p m.length = none) : discB m p = none := by unfold discB; rw [h]; rfl
theorem discB_some {m : List UInt8} {p : Nat} {l : List UInt8} (h : fillTo m p m.length = some l) : discB m p = some ⟨(sprTo l (p - 1)).toArray⟩ := by unfold discB; rw [h]; rfl
theorem discB_size {m : List UInt8} {p : Nat} {b : ByteArray} (h : discB m p = some b) : b.size = p := by
  unfold discB at h
  rcases hf : fillTo m p m.length with _ | l
  · rw [hf] at h; cases h
  · rw [hf] at h
    simp only [Option.map_some, Option.some.injEq] at h
    subst h
    have := sprTo_len l (p - 1)
    have h2 := fillTo_len hf
    exact (List.size_toArray ..).trans (this.trans h2)
def fewFrom (m : List UInt8) (n : Nat) : Nat := if n < m.length then (if (discB m n).isSome then n else fewFrom m (n + 1)) else n
termination_by m.length - n
theorem fewFrom_hit {m : List UInt8} {n : Nat} (h : n < m.length) (hd : (discB m n).isSome = true) : fewFrom m n = n := by rw [fewFrom, if_pos h, if_pos hd]
theorem fewFrom_next {m : List UInt8} {n : Nat} (h : n < m.length) (hd : (discB m n).isSome = false) : fewFrom m n = fewFrom m (n + 1) := by rw [fewFrom, if_pos h, hd]; rfl
theorem fewFrom_end {m : List UInt8} {n : Nat} (h : ¬ n < m.length) : fewFrom m n = n := by rw [fewFrom, if_neg h]
theorem fewFrom_bd (m : List UInt8) (n : Nat) (h : n ≤ m.length) : n ≤ fewFrom m n ∧ fewFrom m n ≤ m.length := by
  by_cases hlt : n < m.length
  · rcases hd : (discB m n).isSome with _ | _
    · rw [fewFrom_next hlt hd]
      have := fewFrom_bd m (n + 1) hlt
      omega
    · rw [fewFrom_hit hlt hd]; omega
  · rw [fewFrom_end hlt]; omega
termination_by m.length - n
end Go.Proofs.YtgcodjkjdfahdaaGreatDoor

namespace Go.Proofs.YtgcodjkjdfahdaaGreatDoor
set_option linter.unusedSimpArgs false
set_option linter.unusedVariables false
def burnAt (h c l : Nat) (prev : List Int) (heat : Nat) : Int := if heat + h ≤ l then max (prev.getD (heat - c) 0) (prev.getD (heat + h) 0 + 1) else prev.getD (heat - c) 0
def burnTo (h c l : Nat) (prev : List Int) (j : Nat) : List Int := (List.range j).map (burnAt h c l prev)
theorem burnTo_len (h c l : Nat) (prev : List Int) (j : Nat) : (burnTo h c l prev j).length = j := by simp [burnTo]
theorem burnTo_snoc (h c l : Nat) (prev : List Int) (j : Nat) : burnTo h c l prev (j + 1) = burnTo h c l prev j ++ [burnAt h c l prev j] := by simp [burnTo, List.range_succ]
def tabB (h c l : Nat) : Nat → List Int
  | 0 => List.replicate (l + 1) 0
  | k + 1 => burnTo h c l (tabB h c l k) (l + 1)
theorem tabB_len (h c l k : Nat) : (tabB h c l k).length = l + 1 := by
  cases k with
  | zero => simp [tabB]
  | succ k => simp [tabB, burnTo_len]
theorem tabB_bd (h c l k : Nat) : ∀ x ∈ tabB h c l k, 0 ≤ x ∧ x ≤ k := by
  induction k with
  | zero => intro x hx; simp [tabB] at hx; omega
  | succ k ih =>
    have hg : ∀ i, 0 ≤ (tabB h c l k).getD i 0 ∧ (tabB h c l k).getD i 0 ≤ k := by
      intro i
      rw [List.getD_eq_getElem?_getD]
      rcases hx : (tabB h c l k)[i]? with _ | y
      · simp
      · obtain ⟨hi, rfl⟩ := List.getElem?_eq_some_iff.1 hx
        exact ih _ (List.getElem_mem hi)
    intro x hx
    unfold tabB burnTo at hx
    obtain ⟨j, -, rfl⟩ := List.mem_map.1 hx
    have h1 := hg (j - c)
    have h2 := hg (j + h)
    unfold burnAt
    split
    · constructor <;> omega
    · constructor <;> omega
theorem tabB_get (h c l k i : Nat) (hi : i < (tabB h c l k).length) : (tabB h c l k).getD i 0 = (tabB h c l k)[i] := by
  rw [List.getD_eq_getElem?_getD, List.getElem?_eq_getElem hi]
  rfl
theorem tabB_at (h c l k i : Nat) : 0 ≤ (tabB h c l k).getD i 0 ∧ (tabB h c l k).getD i 0 ≤ k := by
  rw [List.getD_eq_getElem?_getD]
  rcases hx : (tabB h c l k)[i]? with _ | y
  · simp
  · obtain ⟨hi, rfl⟩ := List.getElem?_eq_some_iff.1 hx
    exact tabB_bd h c l k _ (List.getElem_mem hi)
def burnsB (h c l left heat : Nat) : Bool := decide (heat + h ≤ l) && decide ((tabB h c l (left - 1)).getD (heat + h) 0 + 1 = (tabB h c l left).getD heat 0)
def burnS (h c l : Nat) : Nat → Nat → List UInt8
  | 0, _ => []
  | left + 1, heat => if burnsB h c l (left + 1) heat then 49 :: burnS h c l left (heat + h) else 48 :: burnS h c l left (heat - c)
theorem burnS_len (h c l : Nat) : ∀ left heat, (burnS h c l left heat).length = left
  | 0, _ => rfl
  | left + 1, heat => by
    unfold burnS
    split <;> simp [burnS_len h c l left]
theorem burnS_yes {h c l left heat : Nat} (hb : burnsB h c l (left + 1) heat = true) : burnS h c l (left + 1) heat = 49 :: burnS h c l left (heat + h) := by
  rw [burnS, hb]; rfl
theorem burnS_no {h c l left heat : Nat} (hb : burnsB h c l (left + 1) heat = false) : burnS h c l (left + 1) heat = 48 :: burnS h c l left (heat - c) := by
  rw [burnS, hb]; rfl
end Go.Proofs.YtgcodjkjdfahdaaGreatDoor

namespace Go.Proofs.YtgcodjkjdfahdaaGreatDoor
open Go Go.RowKit
set_option linter.unusedSimpArgs false
set_option linter.unusedVariables false
end Go.Proofs.YtgcodjkjdfahdaaGreatDoor

namespace Go.Proofs.YtgcodjkjdfahdaaGreatDoor
open Go Go.RowKit
set_option linter.unusedSimpArgs false
set_option linter.unusedVariables false
section
variable {P : Program} {α : Type} {enc : α → List Value} {k : Nat}
theorem run_append_sl_at (w : World) (t ty : Nat) {B E : Nat} (i : TypeInfo) (z : Value) (bytes : Nat) (ht : P.underlying t = some (.slice E)) (hi : P.info? E = some i) (hz : i.zero = some z)
    (hsize : i.size = k) (hby : i.bytes = bytes) (hzs : z.cells.size = k) (hsz : 0 < k) (hk : ∀ x, (enc x).length = k) (h1 : ∀ x, ∀ u ∈ enc x, u.oneCell' = true)
    (v : Value) (l : List α) (hown : Own w B E k v enc l) (vx : Value) (l2 : List α) (hx : Sl w k vx enc l2)
    (h63 : l.length + l2.length ≤ maxLen) (hbytes : (l.length + l2.length) * bytes ≤ 140737488355328) (hbase : B ≤ w.heap.size) :
    ∃ v' w', (Builtin.append_ #[t, t] ty #[v, vx]).run P w = .ok v' w' ∧ Own w' B E k v' enc (l ++ l2) ∧ w.grownBy w' v.ownBlock ∧ (v'.ownBlock = v.ownBlock ∨ v'.ownBlock = some w.heap.size) := by
  obtain ⟨-, A, c, rfl, -, -, hA⟩ := id hx
  rcases l2 with _ | ⟨y, l2⟩
  · rcases A with _ | a
    · exact ⟨v, w, run_append_nil w B t ty E i ht hi v l.length _ hown c, by simpa using hown, World.grownBy.refl _ _, .inl rfl⟩
    · obtain ⟨v', w', hr, h2, h3, -, h5⟩ := run_append_own_at (P := P) w B t ty E i z k bytes ht hi hz hsize hby hzs hsz v l.length (l.flatMap enc) hown a 0 c [] (by simp) (by simp) (by simp) (by simpa using h63) (by simpa using hbytes) hbase
      exact ⟨v', w', hr, by unfold Own; simpa using h2, h3, h5⟩
  · obtain ⟨b, o, rfl, -, -⟩ := hA 0 y rfl
    obtain ⟨v', w', hr, h2, h3, -, h5⟩ := run_append_own_at (P := P) w B t ty E i z k bytes ht hi hz hsize hby hzs hsz v l.length (l.flatMap enc) hown ⟨b, o, none⟩ (y :: l2).length c ((y :: l2).flatMap enc) (flatMap_len enc k hk _) (fun j u hu => by
      obtain ⟨x, hx1, hx2⟩ := flatMap_get hk hsz _ j u hu
      obtain ⟨b', o', he, -, hc⟩ := hA _ x hx1
      cases he
      have hadd : (⟨b, o, none⟩ : Addr).add j = ⟨b, o + j, none⟩ := by unfold Addr.add; split <;> simp_all
      rw [hadd]
      have := hc _ u hx2
      have e : o + j / k * k + j % k = o + j := by have := Nat.div_add_mod j k; rw [Nat.mul_comm] at this; omega
      rwa [e] at this) (fun u hu => by
      obtain ⟨x, -, hx2⟩ := List.mem_flatMap.1 hu
      exact h1 x u hx2) h63 hbytes hbase
    exact ⟨v', w', hr, by unfold Own; rw [List.length_append, List.flatMap_append]; exact h2, h3, h5⟩
theorem wp_append_sl_at (w : World) {o : Oper} {a : Act} {K : Act → World → Prop} {Q : Exit → Act → World → Prop} (s x : Operand) (t : TypeId)
    (ho : o.op = .call { callee := .builtin .append, args := #[s, x], argTypes := #[t, t] })
    {B E : Nat} (i : TypeInfo) (z : Value) (bytes : Nat) (ht : P.underlying t = some (.slice E)) (hi : P.info? E = some i) (hz : i.zero = some z)
    (hsize : i.size = k) (hby : i.bytes = bytes) (hzs : z.cells.size = k) (hsz : 0 < k) (hk : ∀ x, (enc x).length = k) (h1 : ∀ x, ∀ u ∈ enc x, u.oneCell' = true)
    (v : Value) (l : List α) (hs : a.eval s = v) (hown : Own w B E k v enc l) (vx : Value) (l2 : List α) (hx : a.eval x = vx) (hxs : Sl w k vx enc l2)
    (h63 : l.length + l2.length ≤ maxLen) (hbytes : (l.length + l2.length) * bytes ≤ 140737488355328) (hbase : B ≤ w.heap.size)
    (h : ∀ v' w', Own w' B E k v' enc (l ++ l2) → w.grownBy w' v.ownBlock → (v'.ownBlock = v.ownBlock ∨ v'.ownBlock = some w.heap.size) → K (a.put o.dst v') w') : o.wp P a w K Q := by
  obtain ⟨v', w', hr, h2, h3, h5⟩ := run_append_sl_at (P := P) w t o.type i z bytes ht hi hz hsize hby hzs hsz hk h1 v l hown vx l2 hxs h63 hbytes hbase
  unfold Oper.wp execOp
  simp only [ho, resolve, invoke, builtin, Sem.run_bind, Sem.run_pure, Result.andThen_ok, List.map_toArray, List.map_cons, List.map_nil, hs, hx, hr]
  exact h v' w' h2 h3 h5
theorem wpList_append_sl_at (w : World) {ops : Array Oper} {rest : List Oper} {o : Oper} {a : Act} {Q : Exit → Act → World → Prop} (hgd : o.guard = none) (s x : Operand) (t : TypeId)
    (ho : o.op = .call { callee := .builtin .append, args := #[s, x], argTypes := #[t, t] })
    {B E : Nat} (i : TypeInfo) (z : Value) (bytes : Nat) (ht : P.underlying t = some (.slice E)) (hi : P.info? E = some i) (hz : i.zero = some z)
    (hsize : i.size = k) (hby : i.bytes = bytes) (hzs : z.cells.size = k) (hsz : 0 < k) (hk : ∀ x, (enc x).length = k) (h1 : ∀ x, ∀ u ∈ enc x, u.oneCell' = true)
    (v : Value) (l : List α) (hs : a.eval s = v) (hown : Own w B E k v enc l) (vx : Value) (l2 : List α) (hx : a.eval x = vx) (hxs : Sl w k vx enc l2)
    (h63 : l.length + l2.length ≤ maxLen) (hbytes : (l.length + l2.length) * bytes ≤ 140737488355328) (hbase : B ≤ w.heap.size)
    (h : ∀ v' w', Own w' B E k v' enc (l ++ l2) → w.grownBy w' v.ownBlock → (v'.ownBlock = v.ownBlock ∨ v'.ownBlock = some w.heap.size) → wpList P ops Q rest (a.put o.dst v') w') : wpList P ops Q (o :: rest) a w :=
  wpList_plain hgd fun _ hK => wp_append_sl_at w s x t ho i z bytes ht hi hz hsize hby hzs hsz hk h1 v l hs hown vx l2 hx hxs h63 hbytes hbase fun v' w' h2 h3 h5 => hK _ _ (h v' w' h2 h3 h5)
theorem step_append_sl_at (w : World) {ops : Array Oper} {o : Oper} {a : Act} {K : Act → World → Prop} {Q : Exit → Act → World → Prop} {X : Prop} (hgd : o.guard = none) (s x : Operand) (t : TypeId)
    (ho : o.op = .call { callee := .builtin .append, args := #[s, x], argTypes := #[t, t] })
    {B E : Nat} (i : TypeInfo) (z : Value) (bytes : Nat) (ht : P.underlying t = some (.slice E)) (hi : P.info? E = some i) (hz : i.zero = some z)
    (hsize : i.size = k) (hby : i.bytes = bytes) (hzs : z.cells.size = k) (hsz : 0 < k) (hk : ∀ x, (enc x).length = k) (h1 : ∀ x, ∀ u ∈ enc x, u.oneCell' = true)
    (v : Value) (l : List α) (hs : a.eval s = v) (hown : Own w B E k v enc l) (vx : Value) (l2 : List α) (hx : a.eval x = vx) (hxs : Sl w k vx enc l2)
    (h63 : l.length + l2.length ≤ maxLen) (hbytes : (l.length + l2.length) * bytes ≤ 140737488355328) (hbase : B ≤ w.heap.size)
    (h : ∀ v' w', Own w' B E k v' enc (l ++ l2) → w.grownBy w' v.ownBlock → (v'.ownBlock = v.ownBlock ∨ v'.ownBlock = some w.heap.size) → K (a.put o.dst v') w') :
    if Region.wanted o (yielded ops a.tmps) = true then Oper.wp P o a w K Q else X := by
  have hw : Region.wanted o (yielded ops a.tmps) = true := by simp [Region.wanted, hgd]
  rw [if_pos hw]
  exact wp_append_sl_at w s x t ho i z bytes ht hi hz hsize hby hzs hsz hk h1 v l hs hown vx l2 hx hxs h63 hbytes hbase h
end
end Go.Proofs.YtgcodjkjdfahdaaGreatDoor
