/- Words for memory that all walks of this family share: a slice that reads as a list of encoded elements, a slice that the call owns, a world that has only grown. No condition. -/
import Derived.WalkKit
import Derived.WalkSpells
import Derived.WalkLawsBesides
import Derived.Deep.QuietTactic
import Derived.BigQuiet
namespace Go.Proofs.Ytlgcehdklpbknaa
open Go Go.RowKit
set_option linter.unusedSimpArgs false
set_option linter.unusedVariables false

theorem hd {p : Prop} (h : p) : Hid p := h

/-! ### a slice that reads as a list -/
/-- The slice value v reads, in w, as the list l, each element laid as the cells 'enc x', k cells an element. -/
def Sl {α : Type} (w : World) (k : Nat) (v : Value) (enc : α → List Value) (l : List α) : Prop :=
  l.length ≤ 9223372036854775807 ∧ ∃ A c, v = .slice A l.length c ∧ l.length ≤ c ∧ c ≤ 9223372036854775807 ∧
    ∀ i x, l[i]? = some x → ∃ b o, A = some ⟨b, o, none⟩ ∧ b < w.heap.size ∧ ∀ j u, (enc x)[j]? = some u → w.cell? ⟨b, o + i * k + j, none⟩ = some u

section
variable {α : Type} {w w' : World} {k : Nat} {v : Value} {enc : α → List Value} {l : List α}

theorem Sl.len (h : Sl w k v enc l) : l.length ≤ 9223372036854775807 := h.1

theorem Sl.keep (h : Sl w k v enc l) (hs : w.heap.size ≤ w'.heap.size) (hw : ∀ a u, w.cell? a = some u → w'.cell? a = some u) : Sl w' k v enc l := by
  obtain ⟨h1, A, c, rfl, hc, hc', h2⟩ := h
  refine ⟨h1, A, c, rfl, hc, hc', fun i x hx => ?_⟩
  obtain ⟨b, o, hA, hb, h3⟩ := h2 i x hx
  exact ⟨b, o, hA, by omega, fun j u hu => hw _ _ (h3 j u hu)⟩

theorem Sl.below (h : Sl w k v enc l) (hb : Below w.heap.size w w') : Sl w' k v enc l :=
  h.keep hb.size fun a _ hu => (hb.cell (World.block_lt_of_cell? w a hu)).trans hu

theorem Sl.drewN (h : Sl w k v enc l) (n : Nat) : Sl (w.drewN n) k v enc l := h.keep (Nat.le_refl _) fun _ _ hu => hu
theorem Sl.drew (h : Sl w k v enc l) : Sl w.drew k v enc l := h.keep (Nat.le_refl _) fun _ _ hu => hu
theorem Sl.alloc (h : Sl w k v enc l) (o : Obj) : Sl (w.alloc o) k v enc l := h.below ((Below.refl _ _).alloc (Nat.le_refl _) o)

theorem Sl.nil (w : World) (k : Nat) (enc : α → List Value) : Sl w k (.slice none 0 0) enc [] :=
  ⟨by simp, none, 0, rfl, by simp, by simp, fun i x hx => by simp at hx⟩

/-- One element, its block and its cells. -/
theorem Sl.at_ {A : Option Addr} {n c : Nat} (h : Sl w k (.slice A n c) enc l) {i : Nat} (hi : i < l.length) :
    ∃ b o x, l[i]? = some x ∧ A = some ⟨b, o, none⟩ ∧ b < w.heap.size ∧ ∀ j u, (enc x)[j]? = some u → w.cell? ⟨b, o + i * k + j, none⟩ = some u := by
  obtain ⟨_, A', c', hv, _, _, h2⟩ := h
  injection hv with hA _ _
  subst hA
  obtain ⟨b, o, hA, hb, h3⟩ := h2 i l[i] (List.getElem?_eq_getElem hi)
  exact ⟨b, o, l[i], List.getElem?_eq_getElem hi, hA, hb, h3⟩
end

/-! ### a slice that the call owns -/
def Own {α : Type} (w : World) (B : Nat) (E : TypeId) (k : Nat) (v : Value) (enc : α → List Value) (l : List α) : Prop :=
  w.ownsRow B E k v l.length (l.flatMap enc)

theorem flatMap_len {α : Type} (enc : α → List Value) (k : Nat) (hk : ∀ x, (enc x).length = k) (l : List α) : (l.flatMap enc).length = l.length * k := by
  induction l with
  | nil => simp
  | cons x l ih => simp [List.flatMap_cons, hk, ih, Nat.add_mul, Nat.add_comm]

theorem flatMap_at {α : Type} (enc : α → List Value) (k : Nat) (hk : ∀ x, (enc x).length = k) (l : List α) (i : Nat) (x : α) (hx : l[i]? = some x) (j : Nat) (hj : j < k) :
    (l.flatMap enc)[i * k + j]? = (enc x)[j]? := by
  induction l generalizing i with
  | nil => simp at hx
  | cons y l ih =>
    rw [List.flatMap_cons]
    cases i with
    | zero =>
      simp at hx
      subst hx
      rw [List.getElem?_append_left (by rw [hk]; omega)]
      simp
    | succ i =>
      simp only [List.getElem?_cons_succ] at hx
      rw [List.getElem?_append_right (by rw [hk, Nat.add_mul]; omega), hk, ← ih i hx]
      congr 1
      rw [Nat.add_mul]
      omega

theorem flatMap_snoc {α : Type} (enc : α → List Value) (l : List α) (i : Nat) (h : i < l.length) : (l.take (i + 1)).flatMap enc = (l.take i).flatMap enc ++ enc l[i] := by
  rw [List.take_succ_eq_append_getElem h, List.flatMap_append]
  simp

section
variable {α : Type} {w w' : World} {B : Nat} {E : TypeId} {k : Nat} {v : Value} {enc : α → List Value} {l : List α}

theorem Own.sl (h : Own w B E k v enc l) (hk : ∀ x, (enc x).length = k) : Sl w k v enc l := by
  rcases h.2 with ⟨hv, hn⟩ | ⟨g, cap, cur, hv, hb, hg, hnc, hcm, hcs, htake⟩
  · have hl : l = [] := List.eq_nil_of_length_eq_zero hn
    subst hl
    exact ⟨by simp, none, 0, by rw [hv]; rfl, by simp, by simp, fun i x hx => by simp at hx⟩
  · unfold maxLen at hcm
    refine ⟨by omega, some ⟨g, 0, none⟩, cap, hv, hnc, by omega, fun i x hx => ⟨g, 0, rfl, (Array.getElem?_eq_some_iff.1 hg).1, fun j u hu => ?_⟩⟩
    have hjk : j < k := by
      have := (List.getElem?_eq_some_iff.1 hu).1
      rwa [hk] at this
    have hi : i < l.length := (List.getElem?_eq_some_iff.1 hx).1
    have h1 := flatMap_at enc k hk l i x hx j hjk
    have h2 : (⟨g, 0 + i * k + j, none⟩ : Addr) = ⟨g, i * k + j, none⟩ := by simp
    rw [h2, cell_of_row w g (i * k + j) cur E (0, 0) hg]
    have h3 : (cur.toList.take (l.length * k))[i * k + j]? = some u := by rw [htake, h1]; exact hu
    rw [List.getElem?_take] at h3
    split at h3
    · simpa using h3
    · cases h3

theorem Own.lt (h : Own w B E k v enc l) : ∀ g, v.ownBlock = some g → B ≤ g ∧ g < w.heap.size := World.ownsRow.lt h

theorem Own.below {C : Nat} (h : Own w B E k v enc l) (hb : Below C w w') (hC : w.heap.size ≤ C) : Own w' B E k v enc l := by
  refine ⟨h.1, ?_⟩
  rcases h.2 with hn | ⟨g, cap, cur, hv, hbg, hg, rest⟩
  · exact .inl hn
  · refine .inr ⟨g, cap, cur, hv, hbg, ?_, rest⟩
    rw [hb.block g (by have := (Array.getElem?_eq_some_iff.1 hg).1; omega)]
    exact hg

theorem Own.grown {row : Option Nat} (h : Own w B E k v enc l) (hg : w.grownBy w' row) (hne : v.ownBlock = none ∨ v.ownBlock ≠ row) : Own w' B E k v enc l := World.ownsRow.kept h hg hne
theorem Own.alloc (h : Own w B E k v enc l) (o : Obj) : Own (w.alloc o) B E k v enc l := World.ownsRow.alloc h o
theorem Own.drew (h : Own w B E k v enc l) : Own w.drew B E k v enc l := h
theorem Own.drewN (h : Own w B E k v enc l) (n : Nat) : Own (w.drewN n) B E k v enc l := h
theorem Own.nil (w : World) (B : Nat) (E : TypeId) (k : Nat) (enc : α → List Value) : Own w B E k (.slice none 0 0) enc [] := World.ownsRow_nil w B E k
theorem Own.base {B' : Nat} (h : Own w B E k v enc l) (hB : B' ≤ B) : Own w B' E k v enc l := by
  refine ⟨h.1, ?_⟩
  rcases h.2 with hn | ⟨g, cap, cur, hv, hbg, rest⟩
  · exact .inl hn
  · exact .inr ⟨g, cap, cur, hv, by omega, rest⟩
/-- its value, written out -/
theorem Own.form (h : Own w B E k v enc l) : (v = .slice none 0 0 ∧ l = []) ∨ ∃ g cap, v = .slice (some ⟨g, 0, none⟩) l.length cap ∧ B ≤ g ∧ g < w.heap.size ∧ l.length ≤ cap ∧ cap ≤ 9223372036854775807 := by
  rcases h.2 with ⟨hv, hn⟩ | ⟨g, cap, cur, hv, hb, hg, hnc, hcm, _⟩
  · exact .inl ⟨hv, List.eq_nil_of_length_eq_zero hn⟩
  · unfold maxLen at hcm
    exact .inr ⟨g, cap, hv, hb, (Array.getElem?_eq_some_iff.1 hg).1, hnc, by omega⟩
end

/-- A row made later lies elsewhere. -/
theorem own_ne {α β : Type} {w w' : World} {B E k E' k' : Nat} {v v' : Value} {enc : α → List Value} {enc' : β → List Value} {l : List α} {l' : List β} (h : Own w B E k v enc l) (h' : Own w' w.heap.size E' k' v' enc' l') : v.ownBlock = none ∨ v.ownBlock ≠ v'.ownBlock := by
  cases hv : v.ownBlock with
  | none => exact .inl rfl
  | some g =>
    refine .inr fun e => ?_
    have h1 := (h.lt g hv).2
    have h2 := (h'.lt g e.symm).1
    omega
theorem ne_symm {v v' : Value} (h : v.ownBlock = none ∨ v.ownBlock ≠ v'.ownBlock) : v'.ownBlock = none ∨ v'.ownBlock ≠ v.ownBlock := by
  cases hv : v'.ownBlock with
  | none => exact .inl rfl
  | some g =>
    refine .inr fun e => ?_
    rcases h with h | h
    · rw [h] at e; cases e
    · exact h (by rw [hv, ← e])

/-- Only 'row' may have changed, and what is new: a grown world seen from below the row. -/
theorem below_of_grown {w w' : World} {row : Option Nat} {B : Nat} (hg : w.grownBy w' row) (hB : B ≤ w.heap.size) (hr : ∀ g, row = some g → B ≤ g) : Below B w w' :=
  (Below.refl B w).grown hg hB hr

theorem grownBy_trans {a b c : World} {row : Option Nat} (h : a.grownBy b row) (h' : b.grownBy c row) : a.grownBy c row :=
  ⟨h'.os.trans h.os, h'.tape.trans h.tape, h'.output.trans h.output, Nat.le_trans h.size h'.size, fun k hk hne => (h'.block k (Nat.lt_of_lt_of_le hk h.size) hne).trans (h.block k hk hne)⟩
theorem grownBy_drewN {a b : World} {row : Option Nat} (h : a.grownBy b row) (n : Nat) : a.grownBy (b.drewN n) row := ⟨h.os, h.tape, h.output, h.size, h.block⟩
theorem grownBy_of_below {a w : World} (h : Below a.heap.size a w) (row : Option Nat) : a.grownBy w row := ⟨h.os, h.tape, h.output, h.size, fun i hi _ => h.block i hi⟩
theorem below_drewN {B : Nat} {a w : World} (h : Below B a w) (n : Nat) : Below B a (w.drewN n) := ⟨h.os, h.tape, h.output, h.size, h.block⟩
theorem below_of_drewN {w : World} (n : Nat) (B : Nat) : Below B w (w.drewN n) := below_drewN (Below.refl _ _) n
/-- Two steps, each said of the world in which it began. -/
theorem below_step {a b c : World} (h : Below a.heap.size a b) (h' : Below b.heap.size b c) : Below a.heap.size a c := h.trans (h'.mono h.size)

/-! ### cells of an owned row, written in place -/
theorem take_set_snoc {ys P : List Value} {m : Nat} (h : ys.take m = P) (hm : m < ys.length) (u : Value) : (ys.set m u).take (m + 1) = P ++ [u] := by
  rw [List.take_succ_eq_append_getElem (by simpa using hm)]
  subst h
  simp [List.take_set_of_le]

/-! ### regions whose calls may make memory: the class of worlds that have only grown -/
structure Ext (w : World) where
  it : World
  below : Below w.heap.size w it
def gro (w : World) (x : Ext w) : World := x.it
theorem gro_below {w : World} (x : Ext w) : Below w.heap.size w (gro w x) := x.below
theorem gro_cell {w : World} {a : Addr} {u : Value} (h : w.cell? a = some u) (x : Ext w) : (gro w x).cell? a = some u := (x.below.cell (World.block_lt_of_cell? w a h)).trans h

section
variable {P : Program}
theorem wp_region_calm {id : Nat} {Q : Exit → Act → World → Prop} {a : Act} {w : World} {l : List Oper} (hm : P.follows .mixedOrders = true) (hB : Region.lexB .any l.toArray = true)
    (h : wpQuiet P l.toArray (fun w' => ∃ x, w' = gro w x) (fun a' => ∀ w', (∃ x, w' = gro w x) → Q .normal a' w') l a) : (Code.region id l.toArray true).wp P Q a w :=
  wp_region_quiet (C := fun w' => ∃ x, w' = gro w x) hm hB ⟨⟨w.drew, (Below.refl _ _).drew⟩, rfl⟩ (by simpa using h)

theorem calm_of {f : FuncId} {args : Array Value} {w : World} {x : Ext w} {v : Value}
    (h : Calls P f args (gro w x) fun e w' => e = .returned v ∧ Below (gro w x).heap.size (gro w x) w') : Calls P f args (gro w x) fun e w'' => e = .returned v ∧ ∃ y, w'' = gro w y :=
  h.mono fun _ w'' ⟨he, hb⟩ => ⟨he, ⟨w'', below_step x.below hb⟩, rfl⟩
theorem calm_of_same {f : FuncId} {args : Array Value} {w : World} {x : Ext w} {v : Value}
    (h : Calls P f args (gro w x) fun e w' => e = .returned v ∧ w' = gro w x) : Calls P f args (gro w x) fun e w'' => e = .returned v ∧ ∃ y, w'' = gro w y :=
  h.mono fun _ _ ⟨he, hw⟩ => ⟨he, x, hw⟩
theorem calm_of_drew {f : FuncId} {args : Array Value} {w : World} {x : Ext w} {v : Value}
    (h : Calls P f args (gro w x) fun e w' => e = .returned v ∧ ∃ n, w' = (gro w x).drewN n) : Calls P f args (gro w x) fun e w'' => e = .returned v ∧ ∃ y, w'' = gro w y :=
  h.mono fun _ _ ⟨he, n, hw⟩ => ⟨he, ⟨_, below_drewN x.below n⟩, hw⟩

instance (w : World) : Nonempty (Ext w) := ⟨⟨w, Below.refl _ _⟩⟩
theorem Sl.gro {α : Type} {w : World} {k : Nat} {v : Value} {enc : α → List Value} {l : List α} (h : Sl w k v enc l) (x : Ext w) : Sl (gro w x) k v enc l := h.below x.below
end

/-! ### small words -/
theorem new_cell (w : World) (cs : Array Value) (T : TypeId) (j : Nat) (u : Value) (h : cs[j]? = some u) : (w.alloc (.cells cs T)).cell? ⟨w.heap.size, j, none⟩ = some u :=
  (cell_of_row _ _ j cs T (0, 0) (heap_alloc_new w _)).trans h
def allTo (p : Nat → Bool) (n : Nat) : Bool := (List.range n).all p
theorem allTo_false {p : Nat → Bool} {n k : Nat} (hk : k < n) (h : p k = false) : allTo p n = false := by
  unfold allTo
  rw [List.all_eq_false]
  exact ⟨k, List.mem_range.2 hk, by simp [h]⟩
theorem allTo_true {p : Nat → Bool} {n : Nat} (h : ∀ i, i < n → p i = true) : allTo p n = true := by
  unfold allTo
  rw [List.all_eq_true]
  exact fun i hi => h i (List.mem_range.1 hi)
theorem allTo_get {p : Nat → Bool} {n : Nat} (h : allTo p n = true) : ∀ i, i < n → p i = true := by
  unfold allTo at h
  rw [List.all_eq_true] at h
  exact fun i hi => h i (List.mem_range.2 hi)
theorem allTo_step {p : Nat → Bool} {k : Nat} (h : ∀ i, i < k → p i = true) (hk : p k = true) : ∀ i, i < k + 1 → p i = true := fun i hi => by
  by_cases e : i = k
  · exact e ▸ hk
  · exact h i (by omega)

theorem Own.made0 {α : Type} (w : World) (B : Nat) (E : TypeId) (k : Nat) (enc : α → List Value) (hB : B ≤ w.heap.size) : Own (w.alloc (.cells #[] E)) B E k (.slice (some ⟨w.heap.size, 0, none⟩) 0 0) enc [] :=
  World.ownsRow_made w #[] 0 hB (by simp [maxLen]) (by simp)

/-! ### the first element of a list that meets a test -/
def idxGo {α : Type} (p : α → Bool) : List α → Int → Int
  | [], _ => -1
  | x :: l, i => if p x then i else idxGo p l (i + 1)
theorem idxGo_nonneg {α : Type} (p : α → Bool) (l : List α) (i : Int) (hi : 0 ≤ i) : decide (0 ≤ idxGo p l i) = l.any p := by
  induction l generalizing i with
  | nil => simp [idxGo]
  | cons x l ih =>
    unfold idxGo
    rw [List.any_cons]
    cases hp : p x
    · simp only [Bool.false_eq_true, if_false, Bool.false_or]
      exact ih (i + 1) (by omega)
    · simp [hi]
theorem idxGo_drop {α : Type} (p : α → Bool) (l : List α) (k : Nat) (i : Int) (hk : k < l.length) : idxGo p (l.drop k) i = if p l[k] then i else idxGo p (l.drop (k + 1)) (i + 1) := by
  rw [List.drop_eq_getElem_cons hk]
  rfl
theorem any_take_snoc {α : Type} (p : α → Bool) (l : List α) (k : Nat) (hk : k < l.length) (h : (l.take k).any p = false) (hp : p l[k] = false) : (l.take (k + 1)).any p = false := by
  rw [List.take_succ_eq_append_getElem hk, List.any_append, h]
  simp [hp]
theorem any_of_hit {α : Type} (p : α → Bool) (l : List α) (k : Nat) (hk : k < l.length) (hp : p l[k] = true) : l.any p = true := by
  rw [List.any_eq_true]
  exact ⟨l[k], List.getElem_mem _, hp⟩

/-- The call returns a slice of its own and a number; what was there stands. -/
def GivesOwnI {α : Type} (w : World) (E : TypeId) (k : Nat) (enc : α → List Value) (r : List α × Int) (e : Ending) (w' : World) : Prop :=
  ∃ v, e = .returned (.tuple #[v, .int .i64 r.2]) ∧ Own w' w.heap.size E k v enc r.1 ∧ Below w.heap.size w w'

/-! ### append of one element, made for the walk -/
section
variable {P : Program}
/-- 'out = append(out, x)': x's cells lie in the new block of their own. -/
theorem wpList_push {α : Type} {enc : α → List Value} {k : Nat} (w : World) {ops : Array Oper} {rest : List Oper} {o : Oper} {a : Act} {Q : Exit → Act → World → Prop} (hgd : o.guard = none) (s x : Operand) (t : TypeId)
    (ho : o.op = .call { callee := .builtin .append, args := #[s, x], argTypes := #[t, t] })
    {B : Nat} {E : TypeId} (i : TypeInfo) (z : Value) (bytes : Nat) (ht : P.underlying t = some (.slice E)) (hi : P.info? E = some i) (hz : i.zero = some z)
    (hsize : i.size = k) (hby : i.bytes = bytes) (hzs : z.cells.size = k) (hsz : 0 < k)
    (v : Value) (l : List α) (y : α) (hs : a.eval s = v) (hown : Own w B E k v enc l)
    (g : Nat) (hx : a.eval x = .slice (some ⟨g, 0, none⟩) 1 1) (cs : Array Value) (E' : TypeId) (hg : w.heap[g]? = some (.cells cs E' (0, 0))) (hcs : cs.toList = enc y) (hlen : (enc y).length = k) (h1 : ∀ u ∈ enc y, u.oneCell' = true)
    (h63 : l.length + 1 ≤ maxLen) (hbytes : (l.length + 1) * bytes ≤ 140737488355328) (hbase : B ≤ w.heap.size)
    (h : ∀ v' w', Own w' B E k v' enc (l ++ [y]) → w.grownBy w' v.ownBlock → wpList P ops Q rest (a.put o.dst v') w') : wpList P ops Q (o :: rest) a w := by
  refine wpList_append_own w hgd s x t ho B E i z k bytes ht hi hz hsize hby hzs hsz v l.length (l.flatMap enc) hs hown ⟨g, 0, none⟩ 1 1 (enc y) hx (by simpa using hlen) ?_ h1 h63 hbytes hbase ?_
  · intro j u hu
    have hadd : (⟨g, 0, none⟩ : Addr).add j = ⟨g, j, none⟩ := by unfold Addr.add; split <;> simp_all
    rw [hadd, cell_of_row w g j cs E' (0, 0) hg, ← hu, ← hcs]
    simp
  · intro v' w' hown' hgr _
    refine h v' w' ?_ hgr
    unfold Own
    simpa using hown'
end
end Go.Proofs.Ytlgcehdklpbknaa
