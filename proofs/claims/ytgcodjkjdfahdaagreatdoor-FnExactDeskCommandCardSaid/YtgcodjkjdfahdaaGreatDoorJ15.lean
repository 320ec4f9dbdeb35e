/- Lemmas for the claim (the walks of its functions and their plain laws), joined. No condition. -/
import Derived.Test.YtgcodjkjdfahdaaGreatDoorJ14
import Derived.Test.YtgcodjkjdfahdaaGreatDoorJ13
import Derived.OneCell
namespace Go.Proofs.YtgcodjkjdfahdaaGreatDoor
set_option linter.unusedSimpArgs false
set_option linter.unusedVariables false
def handC (t : Int) (x : TCue) : Int := if x.1 ≤ t ∧ t < x.1 + x.2.1 then x.2.2.1 else 0
def handsL (t : Int) : List TCue → Int
  | [] => 0
  | x :: l => handC t x + handsL t l
theorem handsL_append (t : Int) (a b : List TCue) : handsL t (a ++ b) = handsL t a + handsL t b := by
  induction a with
  | nil => simp [handsL]
  | cons x a ih => simp only [List.cons_append, handsL, ih]; omega
def bdCue (x : TCue) : Prop := (0 ≤ x.1 ∧ x.1 ≤ 20000) ∧ (0 ≤ x.2.1 ∧ x.2.1 ≤ 1000) ∧ (0 ≤ x.2.2.1 ∧ x.2.2.1 ≤ 4)
theorem handC_bd {x : TCue} (h : bdCue x) (t : Int) : 0 ≤ handC t x ∧ handC t x ≤ 4 := by
  obtain ⟨-, -, h1, h2⟩ := h
  unfold handC
  split <;> omega
theorem handsL_bd {l : List TCue} (h : ∀ x ∈ l, bdCue x) (t : Int) : 0 ≤ handsL t l ∧ handsL t l ≤ 4 * l.length := by
  induction l with
  | nil => simp [handsL]
  | cons x l ih =>
    have h1 := handC_bd (h x (by simp)) t
    have h2 := ih (fun y hy => h y (by simp [hy]))
    simp only [handsL, List.length_cons]
    omega
theorem handsL_take (t : Int) (l : List TCue) (k : Nat) (hk : k < l.length) : handsL t (l.take (k + 1)) = handsL t (l.take k) + handC t l[k] := by
  rw [List.take_succ_eq_append_getElem hk, handsL_append]
  simp [handsL]
def mostTo (l : List TCue) (m : List TCue) : Int := m.foldl (fun a c => max a (handsL c.1 l)) 0
def mostL (l : List TCue) : Int := mostTo l l
theorem mostTo_take (l : List TCue) (k : Nat) (hk : k < l.length) : mostTo l (l.take (k + 1)) = max (mostTo l (l.take k)) (handsL l[k].1 l) := by
  unfold mostTo
  rw [List.take_succ_eq_append_getElem hk, List.foldl_append]
  rfl
theorem foldl_max_le {f : TCue → Int} {h : Int} (m : List TCue) (a : Int) : m.foldl (fun a c => max a (f c)) a ≤ h ↔ a ≤ h ∧ ∀ c ∈ m, f c ≤ h := by
  induction m generalizing a with
  | nil => simp
  | cons x m ih =>
    rw [List.foldl_cons, ih]
    simp only [List.mem_cons, forall_eq_or_imp]
    constructor
    · rintro ⟨h1, h2⟩; exact ⟨by omega, by omega, h2⟩
    · rintro ⟨h1, h2, h3⟩; exact ⟨by omega, h3⟩
theorem mostTo_le {l m : List TCue} {h : Int} (h0 : 0 ≤ h) : mostTo l m ≤ h ↔ ∀ c ∈ m, handsL c.1 l ≤ h := by
  unfold mostTo
  rw [foldl_max_le]
  exact ⟨fun h => h.2, fun h => ⟨h0, h⟩⟩
theorem foldl_max_ge {f : TCue → Int} (m : List TCue) (a : Int) : a ≤ m.foldl (fun a c => max a (f c)) a := by
  induction m generalizing a with
  | nil => simp
  | cons x m ih => rw [List.foldl_cons]; have := ih (max a (f x)); omega
theorem mostTo_bd {l m : List TCue} (h : ∀ x ∈ l, bdCue x) (hl : l.length ≤ 6) : 0 ≤ mostTo l m ∧ mostTo l m ≤ 24 := by
  refine ⟨foldl_max_ge _ _, (mostTo_le (by omega)).2 fun c _ => ?_⟩
  have := (handsL_bd h c.1).2
  omega
theorem mostL_more {a b : List TCue} {h : Int} (h0 : 0 ≤ h) (hb : ∀ x ∈ b, bdCue x) (hm : h < mostL a) : h < mostL (a ++ b) := by
  rcases Int.lt_or_le h (mostL (a ++ b)) with h1 | h1
  · exact h1
  · exfalso
    have h2 := (mostTo_le h0).1 h1
    have h3 : mostL a ≤ h := (mostTo_le h0).2 fun c hc => by
      have := h2 c (by simp [hc])
      rw [handsL_append] at this
      have := (handsL_bd hb c.1).1
      omega
    omega
def shiftC (x : TCue) (by_ : Int) : TCue := (x.1 + by_, x.2.1, x.2.2.1, x.2.2.2 - by_)
def shiftL (l : List TCue) (sh : List Int) : List TCue := List.zipWith shiftC l sh
def sumZ : List Int → Int
  | [] => 0
  | x :: l => x + sumZ l
theorem sumZ_append (a b : List Int) : sumZ (a ++ b) = sumZ a + sumZ b := by
  induction a with
  | nil => simp [sumZ]
  | cons x a ih => simp only [List.cons_append, sumZ, ih]; omega
theorem sumZ_snoc (a : List Int) (x : Int) : sumZ (a ++ [x]) = sumZ a + x := by rw [sumZ_append]; simp [sumZ]
abbrev TBest := List Int × Int
def better (st : TBest) (s : Int) : Bool := decide (st.2 < 0) || decide (s < st.2)
def stepS (l : List TCue) (h : Int) (st : TBest) (sh : List Int) : TBest := if better st (sumZ sh) && decide (mostL (shiftL l sh) ≤ h) then (sh, sumZ sh) else st
def rangeI (n : Int) : List Int := (List.range (n + 1).toNat).map fun (k : Nat) => (k : Int)
theorem rangeI_mem {n x : Int} (h : x ∈ rangeI n) : 0 ≤ x ∧ x ≤ n := by
  unfold rangeI at h
  obtain ⟨k, hk, rfl⟩ := List.mem_map.1 h
  have := List.mem_range.1 hk
  omega
def walkS (l : List TCue) (h : Int) : List TCue → List Int → TBest → TBest
  | [], done, st => stepS l h st done
  | x :: rest, done, st => (rangeI x.2.2.2).foldl (fun st b => walkS l h rest (done ++ [b]) st) st
def stops (h : Int) (dn : List TCue) (s : Int) (st : TBest) : Bool := (decide (0 ≤ st.2) && decide (st.2 ≤ s)) || decide (h < mostL dn)
def walkP (h : Int) : List TCue → List TCue → List Int → Int → TBest → TBest
  | [], dn, sh, s, st => if stops h dn s st then st else (sh, s)
  | x :: rest, dn, sh, s, st => if stops h dn s st then st else (rangeI x.2.2.2).foldl (fun st b => walkP h rest (dn ++ [shiftC x b]) (sh ++ [b]) (s + b) st) st
theorem foldl_still {α β : Type} (f : β → α → β) (l : List α) (b : β) (h : ∀ x ∈ l, f b x = b) : l.foldl f b = b := by
  induction l with
  | nil => rfl
  | cons x l ih => rw [List.foldl_cons, h x (by simp)]; exact ih fun y hy => h y (by simp [hy])
theorem foldl_same {α β : Type} (f g : β → α → β) (l : List α) (b : β) (h : ∀ x ∈ l, ∀ b, f b x = g b x) : l.foldl f b = l.foldl g b := by
  induction l generalizing b with
  | nil => rfl
  | cons x l ih => rw [List.foldl_cons, List.foldl_cons, h x (by simp)]; exact ih _ fun y hy => h y (by simp [hy])
theorem shiftL_snoc (pre : List TCue) (x : TCue) (sh : List Int) (b : Int) (hl : sh.length = pre.length) : shiftL (pre ++ [x]) (sh ++ [b]) = shiftL pre sh ++ [shiftC x b] := by
  unfold shiftL
  rw [List.zipWith_append hl.symm]
  rfl
def okC (x : TCue) : Prop := (0 ≤ x.1 ∧ x.1 ≤ 10000) ∧ (1 ≤ x.2.1 ∧ x.2.1 ≤ 1000) ∧ (1 ≤ x.2.2.1 ∧ x.2.2.1 ≤ 4) ∧ (0 ≤ x.2.2.2 ∧ x.2.2.2 ≤ 6)
theorem bd_ok {x : TCue} {b : Int} (h : okC x) (hb : 0 ≤ b ∧ b ≤ 6) : bdCue (shiftC x b) := by
  obtain ⟨h1, h2, h3, h4⟩ := h
  refine ⟨⟨?_, ?_⟩, ⟨?_, ?_⟩, ⟨?_, ?_⟩⟩ <;> simp only [shiftC] <;> omega
theorem still_sum (l : List TCue) (h : Int) (rest : List TCue) : ∀ (sh : List Int) (st : TBest), 0 ≤ st.2 → st.2 ≤ sumZ sh → walkS l h rest sh st = st := by
  induction rest with
  | nil =>
    intro sh st h0 h1
    have e : better st (sumZ sh) = false := by
      unfold better
      rw [decide_eq_false (by omega), decide_eq_false (by omega)]
      rfl
    unfold walkS stepS
    rw [e]
    rfl
  | cons x rest ih =>
    intro sh st h0 h1
    unfold walkS
    refine foldl_still _ _ _ fun b hb => ih _ _ h0 ?_
    rw [sumZ_snoc]
    have := (rangeI_mem hb).1
    omega
theorem still_most (h : Int) (h0 : 0 ≤ h) (rest : List TCue) : ∀ (pre : List TCue) (sh : List Int) (st : TBest), (∀ x ∈ rest, okC x) → sh.length = pre.length → h < mostL (shiftL pre sh) → walkS (pre ++ rest) h rest sh st = st := by
  induction rest with
  | nil =>
    intro pre sh st _ hl hm
    unfold walkS stepS
    rw [List.append_nil, decide_eq_false (by omega), Bool.and_false]
    rfl
  | cons x rest ih =>
    intro pre sh st hok hl hm
    unfold walkS
    refine foldl_still _ _ _ fun b hb => ?_
    have hx := hok x (by simp)
    have hbb := rangeI_mem hb
    have e : pre ++ x :: rest = (pre ++ [x]) ++ rest := by simp
    rw [e]
    refine ih (pre ++ [x]) (sh ++ [b]) st (fun y hy => hok y (by simp [hy])) (by simp [hl]) ?_
    rw [shiftL_snoc _ _ _ _ hl]
    refine mostL_more h0 (fun y hy => ?_) hm
    rw [List.mem_singleton.1 hy]
    exact bd_ok hx (by have := hx.2.2.2.2; omega)
theorem walkP_eq (h : Int) (h0 : 0 ≤ h) (rest : List TCue) : ∀ (pre : List TCue) (sh : List Int) (st : TBest), (∀ x ∈ rest, okC x) → sh.length = pre.length →
    walkP h rest (shiftL pre sh) sh (sumZ sh) st = walkS (pre ++ rest) h rest sh st := by
  induction rest with
  | nil =>
    intro pre sh st hok hl
    unfold walkP walkS stepS stops better
    rw [List.append_nil]
    by_cases h1 : 0 ≤ st.2 ∧ st.2 ≤ sumZ sh
    · rw [decide_eq_true h1.1, decide_eq_true h1.2, decide_eq_false (show ¬ st.2 < 0 by omega), decide_eq_false (show ¬ sumZ sh < st.2 by omega)]
      rfl
    · have e1 : (decide (0 ≤ st.2) && decide (st.2 ≤ sumZ sh)) = false := by simpa using h1
      have e2 : (decide (st.2 < 0) || decide (sumZ sh < st.2)) = true := by simp; omega
      rw [e1, e2]
      by_cases h2 : h < mostL (shiftL pre sh)
      · rw [decide_eq_true h2, decide_eq_false (show ¬ mostL (shiftL pre sh) ≤ h by omega)]
        rfl
      · rw [decide_eq_false h2, decide_eq_true (show mostL (shiftL pre sh) ≤ h by omega)]
        rfl
  | cons x rest ih =>
    intro pre sh st hok hl
    unfold walkP
    by_cases h1 : 0 ≤ st.2 ∧ st.2 ≤ sumZ sh
    · rw [still_sum _ _ _ _ _ h1.1 h1.2]
      unfold stops
      rw [decide_eq_true h1.1, decide_eq_true h1.2]
      rfl
    by_cases h2 : h < mostL (shiftL pre sh)
    · rw [still_most h h0 _ _ _ _ hok hl h2]
      unfold stops
      rw [decide_eq_true h2, Bool.or_true]
      rfl
    have e : stops h (shiftL pre sh) (sumZ sh) st = false := by
      unfold stops
      rw [decide_eq_false h2, Bool.or_false]
      simpa using h1
    rw [e]
    unfold walkS
    refine foldl_same _ _ _ _ fun b hb st' => ?_
    have e2 : pre ++ x :: rest = (pre ++ [x]) ++ rest := by simp
    rw [e2, ← ih (pre ++ [x]) (sh ++ [b]) st' (fun y hy => hok y (by simp [hy])) (by simp [hl]), shiftL_snoc _ _ _ _ hl, sumZ_snoc]
end Go.Proofs.YtgcodjkjdfahdaaGreatDoor

namespace Go.Proofs.YtgcodjkjdfahdaaGreatDoor
open Go Go.RowKit Go.ChangeShapes Go.WideShapes
set_option linter.unusedSimpArgs false
set_option linter.unusedVariables false
theorem freeD {w : World} {b : Nat} {cs : Array Value} {t : TypeId} (h : w.heap[b]? = some (.cells cs t (0, 0))) (o : Nat) : w.frozen? ⟨b, o, none⟩ = false := by simp [World.frozen?, h]
theorem Own.aboveD {α : Type} {w w' : World} {B N : Nat} {E : TypeId} {k : Nat} {v : Value} {enc : α → List Value} {l : List α} (h : Own w B E k v enc l) (hN : N ≤ B) (hk : ∀ k, N ≤ k → w'.heap[k]? = w.heap[k]?) : Own w' B E k v enc l := by
  refine ⟨h.1, ?_⟩
  rcases h.2 with hz | ⟨g, cap, cur, hv, hbg, hg, rest⟩
  · exact .inl hz
  · exact .inr ⟨g, cap, cur, hv, hbg, (hk g (by omega)).trans hg, rest⟩
theorem Own.sliceD {α : Type} {w : World} {B : Nat} {E : TypeId} {k : Nat} {v : Value} {enc : α → List Value} {l : List α} (h : Own w B E k v enc l) (hk : ∀ x, (enc x).length = k) : ∃ A c, v = .slice A l.length c := by
  obtain ⟨-, A, c, hv, -⟩ := h.sl hk
  exact ⟨A, c, hv⟩
theorem Sl.sliceD {α : Type} {w : World} {k : Nat} {v : Value} {enc : α → List Value} {l : List α} (h : Sl w k v enc l) : ∃ A c, v = .slice A l.length c := by
  obtain ⟨-, A, c, hv, -⟩ := h
  exact ⟨A, c, hv⟩
def sameD (p : ByteArray) (C : List TCue) (T : List TTitle) (q : ByteArray) (p' : ByteArray) (C' : List TCue) (T' : List TTitle) (q' : ByteArray) : Bool := (p.toList == p'.toList) && (decide (C = C') && (decide (T = T') && (q.toList == q'.toList)))
theorem sameD_self (p : ByteArray) (C : List TCue) (T : List TTitle) (q : ByteArray) : sameD p C T q p C T q = true := by simp [sameD]
def totDesk (p : ByteArray) (C : List TCue) (T : List TTitle) (q : ByteArray) : Nat := p.size + C.length + totTitle T + q.size
section
variable {H : Type} {enc : TypeId × Value → H} {w : World} {base : Nat} {spare : Nat → Bool} {held : Bool}
set_option maxRecDepth 100000 in
theorem trod_Cues (n : Nat) (cs : List Value) (y : DataW H × List MemPlace) (h : DataW.trod enc Tryz.prog w base spare held n 38 cs = some y) : ∃ (v : Value) (l : List TCue), cs = [v] ∧ Sl w 4 v eCue l ∧ ∀ x ∈ l, okCue x := by
  have hv : ∃ v, cs = [v] := by
    rcases Go.Deep.open_slice Tryz.underlying38 h with ⟨hcs, _⟩ | ⟨a, len, cap, m, n', D, Pl, hcs, _⟩
    · exact ⟨_, hcs⟩
    · exact ⟨_, hcs⟩
  obtain ⟨v, rfl⟩ := hv
  obtain ⟨l, hl, hg⟩ := sl_of_trod (K := 4) Tryz.underlying38 (by kernel_rfl) (by omega) trod_Cue h
  exact ⟨v, l, rfl, hl, hg⟩
set_option maxRecDepth 100000 in
theorem trod_Titles (n : Nat) (cs : List Value) (y : DataW H × List MemPlace) (h : DataW.trod enc Tryz.prog w base spare held n 39 cs = some y) : ∃ (v : Value) (l : List TTitle), cs = [v] ∧ Sl w 4 v eTitle l ∧ ∀ x ∈ l, okTitle x := by
  have hv : ∃ v, cs = [v] := by
    rcases Go.Deep.open_slice Tryz.underlying39 h with ⟨hcs, _⟩ | ⟨a, len, cap, m, n', D, Pl, hcs, _⟩
    · exact ⟨_, hcs⟩
    · exact ⟨_, hcs⟩
  obtain ⟨v, rfl⟩ := hv
  obtain ⟨l, hl, hg⟩ := sl_of_trod (K := 4) Tryz.underlying39 (by kernel_rfl) (by omega) trod_Title h
  exact ⟨v, l, rfl, hl, hg⟩
set_option maxRecDepth 100000 in
theorem agg_of_Desk {r : Reach} {b0 : Nat} {v : Value} {d : DataW H} {p : List MemPlace} (hv : Value.okWide Tryz.prog w r b0 41 v) (h : DataW.Trod enc Tryz.prog w base spare held 41 v d p) :
    ∃ (s1 : ByteArray) (v1 v2 : Value) (C : List TCue) (T : List TTitle) (s2 : ByteArray), v = .agg #[.string s1, v1, v2, .string s2] ∧ s1.size ≤ maxLen ∧ Sl w 4 v1 eCue C ∧ Sl w 4 v2 eTitle T ∧ (∀ x ∈ T, okTitle x) ∧ s2.size ≤ maxLen := by
  obtain ⟨cs, rfl, -⟩ := okWide_struct Tryz.underlying41 hv
  obtain ⟨fuel, hf⟩ := h
  obtain ⟨hlen, hf'⟩ := struct_cells Tryz.underlying41 (by kernel_rfl) (by kernel_rfl) hf
  obtain ⟨v0, n0, y0, hv0, ht0⟩ := hf' 0 _ rfl
  obtain ⟨v1, n1, y1, hv1, ht1⟩ := hf' 1 _ rfl
  obtain ⟨v2, n2, y2, hv2, ht2⟩ := hf' 2 _ rfl
  obtain ⟨v3, n3, y3, hv3, ht3⟩ := hf' 3 _ rfl
  obtain ⟨x0, e0, -, wf0⟩ := DataW.trod_string Tryz.underlying9 ht0
  simp at e0
  subst e0
  obtain ⟨x1, C, e1, s1, g1⟩ := trod_Cues _ _ _ ht1
  simp at e1
  subst e1
  obtain ⟨x2, T, e2, s2, g2⟩ := trod_Titles _ _ _ ht2
  simp at e2
  subst e2
  obtain ⟨x3, e3, -, wf3⟩ := DataW.trod_string Tryz.underlying9 ht3
  simp at e3
  subst e3
  refine ⟨x0, v1, v2, C, T, x3, ?_, wf0, s1, s2, g2, wf3⟩
  have hsz : cs.toList.length = 4 := by simpa [Value.cells] using hlen
  have e : cs.toList = [.string x0, v1, v2, .string x3] := by
    simp only [Value.cells] at hv0 hv1 hv2 hv3
    match hcs : cs.toList, hsz with
    | [c0, c1, c2, c3], _ =>
      rw [hcs] at hv0 hv1 hv2 hv3
      simp at hv0 hv1 hv2 hv3
      rw [hv0, hv1, hv2, hv3]
  rw [← e]
end
set_option maxRecDepth 100000 in
set_option maxHeartbeats 2000000 in
theorem eqDesk (w : World) (p q p' q' : ByteArray) (v1 v2 t1 t2 : Value) (C C' : List TCue) (T T' : List TTitle) (hC : Sl w 4 v1 eCue C) (hT : Sl w 4 v2 eTitle T) (kC : Sl w 4 t1 eCue C') (kT : Sl w 4 t2 eTitle T') :
    Calls Tryz.prog 17 #[.agg #[.string p, v1, v2, .string q], .agg #[.string p', t1, t2, .string q']] w fun e w' => e = .returned (.bool (sameD p C T q p' C' T' q')) ∧ Below w.heap.size w w' := by
  obtain ⟨A1, c1, rfl⟩ := hC.sliceD
  obtain ⟨A2, c2, rfl⟩ := hT.sliceD
  obtain ⟨Ab1, cb1, rfl⟩ := kC.sliceD
  obtain ⟨Ab2, cb2, rfl⟩ := kT.sliceD
  obtain ⟨W, hW⟩ : ∃ W, W = (w.alloc (.cells #[.string p, .slice A1 C.length c1, .slice A2 T.length c2, .string q] 29)).alloc (.cells #[.string p', .slice Ab1 C'.length cb1, .slice Ab2 T'.length cb2, .string q'] 29) := ⟨_, rfl⟩
  have hb : Below w.heap.size w W := by rw [hW]; exact ((Below.refl w.heap.size w).alloc (Nat.le_refl _) _).alloc (by simp) _
  have g1 : W.heap[w.heap.size]? = some (.cells #[.string p, .slice A1 C.length c1, .slice A2 T.length c2, .string q] 29 (0, 0)) := by
    rw [hW]
    exact (((Below.refl (w.heap.size + 1) (w.alloc (.cells #[.string p, .slice A1 C.length c1, .slice A2 T.length c2, .string q] 29))).alloc (by simp) (.cells #[.string p', .slice Ab1 C'.length cb1, .slice Ab2 T'.length cb2, .string q'] 29)).block w.heap.size (by omega)).trans (heap_alloc_new w _)
  have g2 : W.heap[w.heap.size + 1]? = some (.cells #[.string p', .slice Ab1 C'.length cb1, .slice Ab2 T'.length cb2, .string q'] 29 (0, 0)) := by
    rw [hW]
    have e := heap_alloc_new (w.alloc (.cells #[.string p, .slice A1 C.length c1, .slice A2 T.length c2, .string q] 29)) (.cells #[.string p', .slice Ab1 C'.length cb1, .slice Ab2 T'.length cb2, .string q'] 29)
    rw [show (w.alloc (.cells #[.string p, .slice A1 C.length c1, .slice A2 T.length c2, .string q] 29)).heap.size = w.heap.size + 1 from by simp] at e
    exact e
  have z1 : w.heap.size < W.heap.size := lt_of_block g1
  have z2 : w.heap.size + 1 < W.heap.size := lt_of_block g2
  have a0 := cell_of_row W w.heap.size 0 _ _ (0, 0) g1
  have b0 := cell_of_row W (w.heap.size + 1) 0 _ _ (0, 0) g2
  have a1 := cell_of_row W w.heap.size 1 _ _ (0, 0) g1
  have b1 := cell_of_row W (w.heap.size + 1) 1 _ _ (0, 0) g2
  have a2 := cell_of_row W w.heap.size 2 _ _ (0, 0) g1
  have b2 := cell_of_row W (w.heap.size + 1) 2 _ _ (0, 0) g2
  have a3 := cell_of_row W w.heap.size 3 _ _ (0, 0) g1
  have b3 := cell_of_row W (w.heap.size + 1) 3 _ _ (0, 0) g2
  have HW := hd hW
  clear hW g1 g2
  by_cases hx : p = p'
  case neg =>
    have hq : (p.toList == p'.toList) = false := beq_eq_false_iff_ne.2 (fun e => hx (bytes_of_toList e))
    have HN := hd hq
    clear hx
    go_enter Tryz.func17, Tryz.ntmps17
    go_wp2_with fail
    go_ret
    exact ⟨by unfold sameD; rw [HN.out]; simp, by (rw [← HW.out]; exact hb)⟩
  subst hx
  by_cases hx : C = C'
  case neg =>
    have hq : decide (C = C') = false := decide_eq_false hx
    have HN := hd hq
    clear hx
    go_enter Tryz.func17, Tryz.ntmps17
    go_wp2_with fail
    rw [← HW.out]
    refine (eqCues _ _ _ _ _ (hC.below hb) (kC.below hb)).mono ?_
    rintro e w1 ⟨rfl, hb1⟩
    have H1 := below_step hb hb1
    replace a0 := (hb1.cell (p := ⟨w.heap.size, 0, none⟩) z1).trans a0
    replace b0 := (hb1.cell (p := ⟨w.heap.size + 1, 0, none⟩) z2).trans b0
    replace a1 := (hb1.cell (p := ⟨w.heap.size, 1, none⟩) z1).trans a1
    replace b1 := (hb1.cell (p := ⟨w.heap.size + 1, 1, none⟩) z2).trans b1
    replace a2 := (hb1.cell (p := ⟨w.heap.size, 2, none⟩) z1).trans a2
    replace b2 := (hb1.cell (p := ⟨w.heap.size + 1, 2, none⟩) z2).trans b2
    replace a3 := (hb1.cell (p := ⟨w.heap.size, 3, none⟩) z1).trans a3
    replace b3 := (hb1.cell (p := ⟨w.heap.size + 1, 3, none⟩) z2).trans b3
    have y1 := Nat.lt_of_lt_of_le z1 hb1.size
    have x1 := Nat.lt_of_lt_of_le z2 hb1.size
    clear hb1 z1 z2
    rw [hq]
    go_wp2_with fail
    go_ret
    exact ⟨by unfold sameD; rw [HN.out]; simp, by exact H1⟩
  subst hx
  by_cases hx : T = T'
  case neg =>
    have hq : decide (T = T') = false := decide_eq_false hx
    have HN := hd hq
    clear hx
    go_enter Tryz.func17, Tryz.ntmps17
    go_wp2_with fail
    rw [← HW.out]
    refine (eqCues _ _ _ _ _ (hC.below hb) (kC.below hb)).mono ?_
    rintro e w1 ⟨rfl, hb1⟩
    have H1 := below_step hb hb1
    replace a0 := (hb1.cell (p := ⟨w.heap.size, 0, none⟩) z1).trans a0
    replace b0 := (hb1.cell (p := ⟨w.heap.size + 1, 0, none⟩) z2).trans b0
    replace a1 := (hb1.cell (p := ⟨w.heap.size, 1, none⟩) z1).trans a1
    replace b1 := (hb1.cell (p := ⟨w.heap.size + 1, 1, none⟩) z2).trans b1
    replace a2 := (hb1.cell (p := ⟨w.heap.size, 2, none⟩) z1).trans a2
    replace b2 := (hb1.cell (p := ⟨w.heap.size + 1, 2, none⟩) z2).trans b2
    replace a3 := (hb1.cell (p := ⟨w.heap.size, 3, none⟩) z1).trans a3
    replace b3 := (hb1.cell (p := ⟨w.heap.size + 1, 3, none⟩) z2).trans b3
    have y1 := Nat.lt_of_lt_of_le z1 hb1.size
    have x1 := Nat.lt_of_lt_of_le z2 hb1.size
    clear hb1 z1 z2
    rw [decide_eq_true rfl]
    go_wp2_with fail
    refine (eqTitles _ _ _ _ _ (hT.below H1) (kT.below H1)).mono ?_
    rintro e w2 ⟨rfl, hb2⟩
    have H2 := below_step H1 hb2
    replace a0 := (hb2.cell (p := ⟨w.heap.size, 0, none⟩) y1).trans a0
    replace b0 := (hb2.cell (p := ⟨w.heap.size + 1, 0, none⟩) x1).trans b0
    replace a1 := (hb2.cell (p := ⟨w.heap.size, 1, none⟩) y1).trans a1
    replace b1 := (hb2.cell (p := ⟨w.heap.size + 1, 1, none⟩) x1).trans b1
    replace a2 := (hb2.cell (p := ⟨w.heap.size, 2, none⟩) y1).trans a2
    replace b2 := (hb2.cell (p := ⟨w.heap.size + 1, 2, none⟩) x1).trans b2
    replace a3 := (hb2.cell (p := ⟨w.heap.size, 3, none⟩) y1).trans a3
    replace b3 := (hb2.cell (p := ⟨w.heap.size + 1, 3, none⟩) x1).trans b3
    have y2 := Nat.lt_of_lt_of_le y1 hb2.size
    have x2 := Nat.lt_of_lt_of_le x1 hb2.size
    clear hb2 y1 x1
    rw [hq]
    go_wp2_with fail
    go_ret
    exact ⟨by unfold sameD; rw [HN.out]; simp, by exact H2⟩
  subst hx
  by_cases hx : q = q'
  case neg =>
    have hq : (q.toList == q'.toList) = false := beq_eq_false_iff_ne.2 (fun e => hx (bytes_of_toList e))
    have HN := hd hq
    clear hx
    go_enter Tryz.func17, Tryz.ntmps17
    go_wp2_with fail
    rw [← HW.out]
    refine (eqCues _ _ _ _ _ (hC.below hb) (kC.below hb)).mono ?_
    rintro e w1 ⟨rfl, hb1⟩
    have H1 := below_step hb hb1
    replace a0 := (hb1.cell (p := ⟨w.heap.size, 0, none⟩) z1).trans a0
    replace b0 := (hb1.cell (p := ⟨w.heap.size + 1, 0, none⟩) z2).trans b0
    replace a1 := (hb1.cell (p := ⟨w.heap.size, 1, none⟩) z1).trans a1
    replace b1 := (hb1.cell (p := ⟨w.heap.size + 1, 1, none⟩) z2).trans b1
    replace a2 := (hb1.cell (p := ⟨w.heap.size, 2, none⟩) z1).trans a2
    replace b2 := (hb1.cell (p := ⟨w.heap.size + 1, 2, none⟩) z2).trans b2
    replace a3 := (hb1.cell (p := ⟨w.heap.size, 3, none⟩) z1).trans a3
    replace b3 := (hb1.cell (p := ⟨w.heap.size + 1, 3, none⟩) z2).trans b3
    have y1 := Nat.lt_of_lt_of_le z1 hb1.size
    have x1 := Nat.lt_of_lt_of_le z2 hb1.size
    clear hb1 z1 z2
    rw [decide_eq_true rfl]
    go_wp2_with fail
    refine (eqTitles _ _ _ _ _ (hT.below H1) (kT.below H1)).mono ?_
    rintro e w2 ⟨rfl, hb2⟩
    have H2 := below_step H1 hb2
    replace a0 := (hb2.cell (p := ⟨w.heap.size, 0, none⟩) y1).trans a0
    replace b0 := (hb2.cell (p := ⟨w.heap.size + 1, 0, none⟩) x1).trans b0
    replace a1 := (hb2.cell (p := ⟨w.heap.size, 1, none⟩) y1).trans a1
    replace b1 := (hb2.cell (p := ⟨w.heap.size + 1, 1, none⟩) x1).trans b1
    replace a2 := (hb2.cell (p := ⟨w.heap.size, 2, none⟩) y1).trans a2
    replace b2 := (hb2.cell (p := ⟨w.heap.size + 1, 2, none⟩) x1).trans b2
    replace a3 := (hb2.cell (p := ⟨w.heap.size, 3, none⟩) y1).trans a3
    replace b3 := (hb2.cell (p := ⟨w.heap.size + 1, 3, none⟩) x1).trans b3
    have y2 := Nat.lt_of_lt_of_le y1 hb2.size
    have x2 := Nat.lt_of_lt_of_le x1 hb2.size
    clear hb2 y1 x1
    rw [decide_eq_true rfl]
    go_wp2_with fail
    go_ret
    exact ⟨by unfold sameD; rw [HN.out]; simp, by exact H2⟩
  subst hx
  go_enter Tryz.func17, Tryz.ntmps17
  go_wp2_with fail
  rw [← HW.out]
  refine (eqCues _ _ _ _ _ (hC.below hb) (kC.below hb)).mono ?_
  rintro e w1 ⟨rfl, hb1⟩
  have H1 := below_step hb hb1
  replace a0 := (hb1.cell (p := ⟨w.heap.size, 0, none⟩) z1).trans a0
  replace b0 := (hb1.cell (p := ⟨w.heap.size + 1, 0, none⟩) z2).trans b0
  replace a1 := (hb1.cell (p := ⟨w.heap.size, 1, none⟩) z1).trans a1
  replace b1 := (hb1.cell (p := ⟨w.heap.size + 1, 1, none⟩) z2).trans b1
  replace a2 := (hb1.cell (p := ⟨w.heap.size, 2, none⟩) z1).trans a2
  replace b2 := (hb1.cell (p := ⟨w.heap.size + 1, 2, none⟩) z2).trans b2
  replace a3 := (hb1.cell (p := ⟨w.heap.size, 3, none⟩) z1).trans a3
  replace b3 := (hb1.cell (p := ⟨w.heap.size + 1, 3, none⟩) z2).trans b3
  have y1 := Nat.lt_of_lt_of_le z1 hb1.size
  have x1 := Nat.lt_of_lt_of_le z2 hb1.size
  clear hb1 z1 z2
  rw [decide_eq_true rfl]
  go_wp2_with fail
  refine (eqTitles _ _ _ _ _ (hT.below H1) (kT.below H1)).mono ?_
  rintro e w2 ⟨rfl, hb2⟩
  have H2 := below_step H1 hb2
  replace a0 := (hb2.cell (p := ⟨w.heap.size, 0, none⟩) y1).trans a0
  replace b0 := (hb2.cell (p := ⟨w.heap.size + 1, 0, none⟩) x1).trans b0
  replace a1 := (hb2.cell (p := ⟨w.heap.size, 1, none⟩) y1).trans a1
  replace b1 := (hb2.cell (p := ⟨w.heap.size + 1, 1, none⟩) x1).trans b1
  replace a2 := (hb2.cell (p := ⟨w.heap.size, 2, none⟩) y1).trans a2
  replace b2 := (hb2.cell (p := ⟨w.heap.size + 1, 2, none⟩) x1).trans b2
  replace a3 := (hb2.cell (p := ⟨w.heap.size, 3, none⟩) y1).trans a3
  replace b3 := (hb2.cell (p := ⟨w.heap.size + 1, 3, none⟩) x1).trans b3
  have y2 := Nat.lt_of_lt_of_le y1 hb2.size
  have x2 := Nat.lt_of_lt_of_le x1 hb2.size
  clear hb2 y1 x1
  rw [decide_eq_true rfl]
  go_wp2_with fail
  go_ret
  exact ⟨by simp [sameD], by exact H2⟩
set_option maxHeartbeats 2000000 in
theorem szDesk_yes (w : World) (p q : ByteArray) (v1 v2 : Value) (C : List TCue) (T : List TTitle) (hp : p.size ≤ maxLen) (hq : q.size ≤ maxLen) (h1 : Sl w 4 v1 eCue C) (h2 : Sl w 4 v2 eTitle T) (hg : ∀ x ∈ T, okTitle x) (left : Int) (h0 : 0 ≤ left) (hl : left ≤ 1048576) (hle : (totDesk p C T q : Int) ≤ left) :
    Calls Tryz.prog 14 #[.agg #[.string p, v1, v2, .string q], .int .i64 left] w fun e w' => e = .returned (.int .i64 (left - (totDesk p C T q : Int))) ∧ Below w.heap.size w w' := by
  obtain ⟨A1, c1, rfl⟩ := h1.sliceD
  obtain ⟨A2, c2, rfl⟩ := h2.sliceD
  have mp : p.size ≤ 9223372036854775807 := by unfold maxLen at hp; omega
  have mq : q.size ≤ 9223372036854775807 := by unfold maxLen at hq; omega
  have HG := hd (fun (x : TTitle) (hx : x ∈ T) => (hg x hx).2.1)
  have e0 : (totDesk p C T q : Int) = (p.size : Int) + (C.length : Int) + (totTitle T : Int) + (q.size : Int) := by simp [totDesk]
  have hb := (Below.refl w.heap.size w).alloc (Nat.le_refl _) (.cells #[.string p, .slice A1 C.length c1, .slice A2 T.length c2, .string q] 41)
  have z0 : w.heap.size < (w.alloc (.cells #[.string p, .slice A1 C.length c1, .slice A2 T.length c2, .string q] 41)).heap.size := by simp
  replace h1 := h1.alloc (.cells #[.string p, .slice A1 C.length c1, .slice A2 T.length c2, .string q] 41)
  replace h2 := h2.alloc (.cells #[.string p, .slice A1 C.length c1, .slice A2 T.length c2, .string q] 41)
  have a0 := new_cell w #[.string p, .slice A1 C.length c1, .slice A2 T.length c2, .string q] 41 0 _ rfl
  have a1 := new_cell w #[.string p, .slice A1 C.length c1, .slice A2 T.length c2, .string q] 41 1 _ rfl
  have a2 := new_cell w #[.string p, .slice A1 C.length c1, .slice A2 T.length c2, .string q] 41 2 _ rfl
  have a3 := new_cell w #[.string p, .slice A1 C.length c1, .slice A2 T.length c2, .string q] 41 3 _ rfl
  clear hp hq hg
  have s0 : (p.size : Int) ≤ left := by omega
  have s1 : (C.length : Int) ≤ left - (p.size : Int) := by omega
  have s2 : (totTitle T : Int) ≤ left - (p.size : Int) - (C.length : Int) := by omega
  have s3 : (q.size : Int) ≤ left - (p.size : Int) - (C.length : Int) - (totTitle T : Int) := by omega
  have HE := hd (show left - (totDesk p C T q : Int) = left - (p.size : Int) - (C.length : Int) - (totTitle T : Int) - (q.size : Int) by omega)
  clear e0 hle
  go_enter Tryz.func14, Tryz.ntmps14
  go_wp2_with fail
  generalize w.alloc (.cells #[.string p, .slice A1 C.length c1, .slice A2 T.length c2, .string q] 41) = W at hb z0 a0 a1 a2 a3 h1 h2 ⊢
  refine (szCues_yes _ _ _ h1 _ (by omega) (by omega) (by omega)).mono ?_
  rintro e w1 ⟨rfl, rfl⟩
  go_wp2_with fail
  refine (szTitles_yes _ _ _ h2 HG.out _ (by omega) (by omega) (by omega)).mono ?_
  rintro e w2 ⟨rfl, hb2⟩
  have B2 := below_step hb hb2
  have d0 := (hb2.cell (p := ⟨w.heap.size, 0, none⟩) z0).trans a0
  have d1 := (hb2.cell (p := ⟨w.heap.size, 1, none⟩) z0).trans a1
  have d2 := (hb2.cell (p := ⟨w.heap.size, 2, none⟩) z0).trans a2
  have d3 := (hb2.cell (p := ⟨w.heap.size, 3, none⟩) z0).trans a3
  clear hb2 a0 a1 a2 a3
  go_wp2_with fail
  go_ret
  exact ⟨by rw [HE.out]; rfl, B2⟩
set_option maxHeartbeats 2000000 in
theorem szDesk_no (w : World) (p q : ByteArray) (v1 v2 : Value) (C : List TCue) (T : List TTitle) (hp : p.size ≤ maxLen) (hq : q.size ≤ maxLen) (h1 : Sl w 4 v1 eCue C) (h2 : Sl w 4 v2 eTitle T) (hg : ∀ x ∈ T, okTitle x) (left : Int) (h0 : 0 ≤ left) (hl : left ≤ 1048576) (hle : left < (totDesk p C T q : Int)) :
    Calls Tryz.prog 14 #[.agg #[.string p, v1, v2, .string q], .int .i64 left] w fun e w' => e = .returned (.int .i64 (-1)) ∧ Below w.heap.size w w' := by
  obtain ⟨A1, c1, rfl⟩ := h1.sliceD
  obtain ⟨A2, c2, rfl⟩ := h2.sliceD
  have mp : p.size ≤ 9223372036854775807 := by unfold maxLen at hp; omega
  have mq : q.size ≤ 9223372036854775807 := by unfold maxLen at hq; omega
  have HG := hd (fun (x : TTitle) (hx : x ∈ T) => (hg x hx).2.1)
  have e0 : (totDesk p C T q : Int) = (p.size : Int) + (C.length : Int) + (totTitle T : Int) + (q.size : Int) := by simp [totDesk]
  have hb := (Below.refl w.heap.size w).alloc (Nat.le_refl _) (.cells #[.string p, .slice A1 C.length c1, .slice A2 T.length c2, .string q] 41)
  have z0 : w.heap.size < (w.alloc (.cells #[.string p, .slice A1 C.length c1, .slice A2 T.length c2, .string q] 41)).heap.size := by simp
  replace h1 := h1.alloc (.cells #[.string p, .slice A1 C.length c1, .slice A2 T.length c2, .string q] 41)
  replace h2 := h2.alloc (.cells #[.string p, .slice A1 C.length c1, .slice A2 T.length c2, .string q] 41)
  have a0 := new_cell w #[.string p, .slice A1 C.length c1, .slice A2 T.length c2, .string q] 41 0 _ rfl
  have a1 := new_cell w #[.string p, .slice A1 C.length c1, .slice A2 T.length c2, .string q] 41 1 _ rfl
  have a2 := new_cell w #[.string p, .slice A1 C.length c1, .slice A2 T.length c2, .string q] 41 2 _ rfl
  have a3 := new_cell w #[.string p, .slice A1 C.length c1, .slice A2 T.length c2, .string q] 41 3 _ rfl
  clear hp hq hg
  by_cases s0 : (p.size : Int) ≤ left
  case neg =>
    clear e0 hle
    have s0 := Int.not_le.1 s0
    go_enter Tryz.func14, Tryz.ntmps14
    go_wp2_with fail
    go_ret
    exact ⟨rfl, hb⟩
  by_cases s1 : (C.length : Int) ≤ left - (p.size : Int)
  case neg =>
    clear e0 hle
    have s1 := Int.not_le.1 s1
    go_enter Tryz.func14, Tryz.ntmps14
    go_wp2_with fail
    generalize w.alloc (.cells #[.string p, .slice A1 C.length c1, .slice A2 T.length c2, .string q] 41) = W at hb z0 a0 a1 a2 a3 h1 h2 ⊢
    refine (szCues_no _ _ _ h1 _ (by omega) (by omega) (by omega)).mono ?_
    rintro e w1 ⟨rfl, rfl⟩
    go_wp2_with fail
    go_ret
    exact ⟨rfl, hb⟩
  by_cases s2 : (totTitle T : Int) ≤ left - (p.size : Int) - (C.length : Int)
  case neg =>
    clear e0 hle
    have s2 := Int.not_le.1 s2
    go_enter Tryz.func14, Tryz.ntmps14
    go_wp2_with fail
    generalize w.alloc (.cells #[.string p, .slice A1 C.length c1, .slice A2 T.length c2, .string q] 41) = W at hb z0 a0 a1 a2 a3 h1 h2 ⊢
    refine (szCues_yes _ _ _ h1 _ (by omega) (by omega) (by omega)).mono ?_
    rintro e w1 ⟨rfl, rfl⟩
    go_wp2_with fail
    refine (szTitles_no _ _ _ h2 HG.out _ (by omega) (by omega) (by omega)).mono ?_
    rintro e w2 ⟨rfl, hb2⟩
    have B2 := below_step hb hb2
    have d0 := (hb2.cell (p := ⟨w.heap.size, 0, none⟩) z0).trans a0
    have d1 := (hb2.cell (p := ⟨w.heap.size, 1, none⟩) z0).trans a1
    have d2 := (hb2.cell (p := ⟨w.heap.size, 2, none⟩) z0).trans a2
    have d3 := (hb2.cell (p := ⟨w.heap.size, 3, none⟩) z0).trans a3
    clear hb2 a0 a1 a2 a3
    go_wp2_with fail
    go_ret
    exact ⟨rfl, B2⟩
  have s3 : left - (p.size : Int) - (C.length : Int) - (totTitle T : Int) < (q.size : Int) := by omega
  clear e0 hle
  go_enter Tryz.func14, Tryz.ntmps14
  go_wp2_with fail
  generalize w.alloc (.cells #[.string p, .slice A1 C.length c1, .slice A2 T.length c2, .string q] 41) = W at hb z0 a0 a1 a2 a3 h1 h2 ⊢
  refine (szCues_yes _ _ _ h1 _ (by omega) (by omega) (by omega)).mono ?_
  rintro e w1 ⟨rfl, rfl⟩
  go_wp2_with fail
  refine (szTitles_yes _ _ _ h2 HG.out _ (by omega) (by omega) (by omega)).mono ?_
  rintro e w2 ⟨rfl, hb2⟩
  have B2 := below_step hb hb2
  have d0 := (hb2.cell (p := ⟨w.heap.size, 0, none⟩) z0).trans a0
  have d1 := (hb2.cell (p := ⟨w.heap.size, 1, none⟩) z0).trans a1
  have d2 := (hb2.cell (p := ⟨w.heap.size, 2, none⟩) z0).trans a2
  have d3 := (hb2.cell (p := ⟨w.heap.size, 3, none⟩) z0).trans a3
  clear hb2 a0 a1 a2 a3
  go_wp2_with fail
  go_ret
  exact ⟨rfl, B2⟩
end Go.Proofs.YtgcodjkjdfahdaaGreatDoor

namespace Go.Proofs.YtgcodjkjdfahdaaGreatDoor
open Go Go.RowKit Go.ChangeShapes Go.WideShapes
set_option linter.unusedSimpArgs false
set_option linter.unusedVariables false
def cmpI (a b : Int) : Int := if a < b then -1 else if b < a then 1 else 0
theorem cmpI_neg {a b : Int} (h : a < b) : cmpI a b = -1 := by simp [cmpI, h]
theorem cmpI_pos {a b : Int} (h : b < a) : cmpI a b = 1 := by simp [cmpI, h]; omega
theorem cmpI_zero {a b : Int} (h : a = b) : cmpI a b = 0 := by simp [cmpI, h]
theorem cmpI_lt (a b : Int) : decide (cmpI a b < 0) = decide (a < b) := by unfold cmpI; split <;> (try split) <;> simp <;> omega
theorem cmpI_eq (a b : Int) : (cmpI a b == 0) = (a == b) := by unfold cmpI; split <;> (try split) <;> simp <;> omega
def atK (l : List TTitle) (no : Int) : Nat := l.findIdx fun x => decide (no ≤ x.1)
def foundB (l : List TTitle) (no : Int) : Bool := decide (atK l no < l.length) && ((l.getD (atK l no) noT).1 == no)
theorem atK_le (l : List TTitle) (no : Int) : atK l no ≤ l.length := List.findIdx_le_length
theorem atK_eq {l : List TTitle} {no : Int} {k : Nat} (hk : k ≤ l.length) (h1 : ∀ j (hj : j < l.length), j < k → l[j].1 < no) (h2 : ∀ h : k < l.length, no ≤ l[k].1) : atK l no = k := by
  unfold atK
  rcases Nat.lt_or_ge k l.length with h | h
  · rw [List.findIdx_eq h]
    exact ⟨by simpa using h2 h, fun j hj => by have := h1 j (by omega) hj; simp; omega⟩
  · obtain rfl : k = l.length := by omega
    rw [List.findIdx_eq_length]
    intro x hx
    obtain ⟨j, hj, rfl⟩ := List.getElem_of_mem hx
    have := h1 j hj hj
    simp
    omega
theorem foundB_no {l : List TTitle} {no : Int} {k : Nat} (h : atK l no = k) (hk : ¬ k < l.length) : foundB l no = false := by simp [foundB, h, hk]
theorem foundB_at {l : List TTitle} {no : Int} {k : Nat} (h : atK l no = k) (hk : k < l.length) : foundB l no = (l[k].1 == no) := by simp [foundB, h, hk]
theorem found_lt {l : List TTitle} {no : Int} (h : foundB l no = true) : atK l no < l.length := by simp [foundB] at h; exact h.1
theorem nan_no (a : Int) (w : World) : Calls Tryz.prog 252 #[.int .i64 a] w fun e w' => e = .returned (.bool false) ∧ w' = w := by
  have q : (a != a) = false := by simp
  go_enter Tryz.func252, Tryz.ntmps252
  go_wp2_with fail
  go_ret
  exact ⟨rfl, rfl⟩
theorem compare_int (a b : Int) (w : World) : Calls Tryz.prog 207 #[.int .i64 a, .int .i64 b] w fun e w' => e = .returned (.int .i64 (cmpI a b)) ∧ w' = w := by
  rcases Int.lt_trichotomy a b with q | q | q
  · have HE := hd (cmpI_neg q)
    go_enter Tryz.func207, Tryz.ntmps207
    go_wp2_with (go_at_call 252; refine (nan_no _ _).mono ?_; rintro e w' ⟨rfl, rfl⟩)
    go_ret
    exact ⟨by rw [HE.out]; rfl, rfl⟩
  · subst q
    have HE := hd (cmpI_zero (rfl : a = a))
    go_enter Tryz.func207, Tryz.ntmps207
    go_wp2_with (go_at_call 252; refine (nan_no _ _).mono ?_; rintro e w' ⟨rfl, rfl⟩)
    go_ret
    exact ⟨by rw [HE.out]; rfl, rfl⟩
  · have HE := hd (cmpI_pos q)
    have q' : ¬ a < b := by omega
    go_enter Tryz.func207, Tryz.ntmps207
    go_wp2_with (go_at_call 252; refine (nan_no _ _).mono ?_; rintro e w' ⟨rfl, rfl⟩)
    go_ret
    exact ⟨by rw [HE.out]; rfl, rfl⟩
theorem place_cmp (w : World) (a : Int) (b : ByteArray) (c d no : Int) : Calls Tryz.prog 206 #[.agg #[.int .i64 a, .string b, .int .i64 c, .int .i64 d], .int .i64 no] w fun e w' => e = .returned (.int .i64 (cmpI a no)) ∧ Below w.heap.size w w' := by
  go_enter Tryz.func206, Tryz.ntmps206
  go_wp2_with (go_at_call 207; refine (compare_int _ _ _).mono ?_; rintro e w1 ⟨rfl, hw⟩; have hw := hw.symm; subst hw)
  go_ret
  exact ⟨rfl, (Below.refl _ _).alloc (Nat.le_refl _) _⟩
set_option maxHeartbeats 4000000 in
theorem search_titles (w : World) (v : Value) (l : List TTitle) (h : Sl w 4 v eTitle l) (no : Int) (hok : okTitles l = true) :
    Calls Tryz.prog 205 #[v, .int .i64 no, .func (.func 206) #[] #[]] w fun e w' => e = .returned (.tuple #[.int .i64 (atK l no : Nat), .bool (foundB l no)]) ∧ Below w.heap.size w w' := by
  have m1 := h.len
  obtain ⟨-, A, cp, rfl, -, -, -⟩ := id h
  have z20 := okTitles_len hok
  have HM := hd (fun i j (hij : i < j) (hj : j < l.length) => okTitles_mono hok hij hj)
  clear hok
  go_enter Tryz.func205, Tryz.ntmps205
  go_wp2_with fail
  go_loopw [9, 10, 11] (fun iv jv hv wr => ∃ i j : Nat, i ≤ j ∧ j ≤ l.length ∧ iv = .int .i64 i ∧ jv = .int .i64 j ∧ Below w.heap.size w wr ∧ Hid (∀ m (hm : m < l.length), m < i → l[m].1 < no) ∧ Hid (∀ m (hm : m < l.length), j ≤ m → no ≤ l[m].1)) (fun iv jv _ _ => (intOf jv).toNat - (intOf iv).toNat)
  case atStart => exact ⟨0, l.length, Nat.zero_le _, Nat.le_refl _, rfl, rfl, Below.refl _ _, hd (by omega), hd (by omega)⟩
  case round =>
    obtain ⟨i, j, hij, hj, rfl, rfl, hbel, H1, H2⟩ := hrel
    by_cases hlt : i < j
    · have hk1 : i ≤ (i + j) / 2 := by omega
      have hk2 : (i + j) / 2 < j := by omega
      have hkl : (i + j) / 2 < l.length := by omega
      obtain ⟨bb, o, rfl, -, p0, p1, p2, p3⟩ := (h.below hbel).Title_at hkl
      have HG := hd (fun (m : Nat) (hm : m < l.length) (hmk : m ≤ (i + j) / 2) (hl : l[(i + j) / 2].1 < no) => (show l[m].1 < no from by rcases Nat.lt_or_eq_of_le hmk with q | q; exact Int.lt_trans (HM.out m _ q hkl) hl; subst q; exact hl))
      have HL := hd (fun (m : Nat) (hm : m < l.length) (hmk : (i + j) / 2 ≤ m) (hl : no ≤ l[(i + j) / 2].1) => (show no ≤ l[m].1 from by rcases Nat.lt_or_eq_of_le hmk with q | q; exact Int.le_trans hl (Int.le_of_lt (HM.out _ m q hm)); subst q; exact hl))
      generalize l[(i + j) / 2] = x at p0 p1 p2 p3 HG HL
      obtain ⟨a, b, c, d⟩ := x
      dsimp only at p0 p1 p2 p3
      have hd1 := cmpI_lt a no
      rcases q : decide (a < no) with _ | _
      · have hc : decide (cmpI a no < 0) = false := hd1.trans q
        have q' : no ≤ a := by simpa using q
        clear hd1 q
        go_wp2_with fail
        refine (place_cmp _ _ _ _ _ _).mono ?_
        rintro e w2 ⟨rfl, hb2⟩
        have hbel2 := below_step hbel hb2
        go_wp2_with fail
        go_roundw
        case rel => exact ⟨i, (i + j) / 2, hk1, by omega, rfl, by first | rfl | go_num, hbel2, H1, hd (fun m hm hmk => HL.out m hm hmk q')⟩
        case measure => simp [intOf]; omega
      · have hc : decide (cmpI a no < 0) = true := hd1.trans q
        have q' : a < no := by simpa using q
        clear hd1 q
        go_wp2_with fail
        refine (place_cmp _ _ _ _ _ _).mono ?_
        rintro e w2 ⟨rfl, hb2⟩
        have hbel2 := below_step hbel hb2
        go_wp2_with fail
        go_roundw
        case rel => exact ⟨(i + j) / 2 + 1, j, by omega, by omega, by go_num, rfl, hbel2, hd (fun m hm hmk => HG.out m hm (by omega) q'), H2⟩
        case measure => simp [intOf]; omega
    · obtain rfl : i = j := by omega
      have HK := hd (atK_eq (l := l) (no := no) hj (fun m hm hmi => H1.out m hm hmi) (fun hh => H2.out i hh (Nat.le_refl _)))
      by_cases hil : i < l.length
      · obtain ⟨bb, o, rfl, -, p0, p1, p2, p3⟩ := (h.below hbel).Title_at hil
        have HF := hd (foundB_at HK.out hil)
        generalize l[i] = x at p0 p1 p2 p3 HF
        obtain ⟨a, b, c, d⟩ := x
        dsimp only at p0 p1 p2 p3
        have HE := hd (cmpI_eq a no)
        go_wp2_with fail
        refine (place_cmp _ _ _ _ _ _).mono ?_
        rintro e w2 ⟨rfl, hb2⟩
        have hbel2 := below_step hbel hb2
        go_wp2_with fail
        go_ret2
        exact ⟨by rw [HF.out, HK.out, ← HE.out]; rfl, hbel2⟩
      · have HF := hd (foundB_no HK.out hil)
        go_wp2_with fail
        go_ret2
        exact ⟨by rw [HF.out, HK.out]; rfl, hbel⟩
theorem place_impl (w : World) (v : Value) (l : List TTitle) (h : Sl w 4 v eTitle l) (no : Int) (hok : okTitles l = true) :
    Calls Tryz.prog 150 #[v, .int .i64 no] w fun e w' => e = .returned (.tuple #[.int .i64 (atK l no : Nat), .bool (foundB l no)]) ∧ Below w.heap.size w w' := by
  go_enter Tryz.func150, Tryz.ntmps150
  go_wp2_with fail
  refine (search_titles _ _ _ h no hok).mono ?_
  rintro e w1 ⟨rfl, hb⟩
  go_wp2_with fail
  go_ret2
  exact ⟨rfl, hb⟩
set_option maxHeartbeats 1000000 in
theorem at_spec (w : World) (v : Value) (l : List TTitle) (h : Sl w 4 v eTitle l) (no : Int) :
    Calls Tryz.prog 239 #[v, .int .i64 no] w fun e w' => e = .returned (.int .i64 (atK l no : Nat)) ∧ w' = w := by
  have m1 := h.len
  obtain ⟨-, A, cp, rfl, -, -, -⟩ := id h
  go_enter Tryz.func239, Tryz.ntmps239
  go_wp2_with fail
  go_loop [5] (fun i => ∃ k : Nat, k ≤ l.length ∧ i = .int .i64 k ∧ Hid (∀ m (hm : m < l.length), m < k → l[m].1 < no)) (fun i => l.length - (intOf i).toNat)
  case atStart => exact ⟨0, Nat.zero_le _, rfl, hd (by omega)⟩
  case round =>
    obtain ⟨k, hk, rfl, HT⟩ := hrel
    by_cases hlt : k < l.length
    · obtain ⟨bb, o, rfl, -, p0, -, -, -⟩ := h.Title_at hlt
      by_cases q : l[k].1 < no
      · have HT' : Hid (∀ m (hm : m < l.length), m < k + 1 → l[m].1 < no) := hd (fun m hm hmk => by
          rcases Nat.lt_or_ge m k with q1 | q1
          · exact HT.out m hm q1
          · obtain rfl : m = k := by omega
            exact q)
        go_wp2_with fail
        go_round
        case rel => exact ⟨k + 1, by omega, by go_num, HT'⟩
        case measure => simp [intOf]; omega
      · have q' : no ≤ l[k].1 := by omega
        have HK := hd (atK_eq (l := l) (no := no) hk HT.out (fun _ => q'))
        have q2 : decide (l[k].1 < no) = false := by simpa using q'
        clear q
        go_wp2_with fail
        go_ret
        exact ⟨by rw [HK.out]; rfl, rfl⟩
    · have HK := hd (atK_eq (l := l) (no := no) hk HT.out (fun hh => absurd hh hlt))
      go_wp2_with fail
      go_ret
      exact ⟨by rw [HK.out]; rfl, rfl⟩
end Go.Proofs.YtgcodjkjdfahdaaGreatDoor
