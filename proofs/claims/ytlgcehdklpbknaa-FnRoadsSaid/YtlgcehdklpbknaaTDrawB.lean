/- What the draw of halls and roads holds between two steps: a list, the home roads, the rows, the struct that holds the roads; all apart. No condition. -/
import Derived.Test.YtlgcehdklpbknaaRec
import Derived.Test.YtlgcehdklpbknaaField
import Derived.Test.YtlgcehdklpbknaaTour
import Derived.Deep.RegionWith
import Derived.Deep.RegionLaw
import Derived.Deep.CutRange
namespace Go.Proofs.Ytlgcehdklpbknaa
open Go Go.RowKit Go.ChangeShapes Go.WideShapes
set_option linter.unusedSimpArgs false
set_option linter.unusedVariables false
theorem Rec.touched {W W' : World} {B E : Nat} {T : TypeId} {cs : List Value} {bs : List (Option Nat)} (h : Rec W B E T cs) (ht : TouchL W W' bs) (hn : ∀ b ∈ bs, apart (some E) b) : Rec W' B E T cs := by
  have h1 : Own W B T cs.length (.slice (some ⟨E, 0, none⟩) 1 1) (fun _ : Unit => cs) [()] := by
    unfold Own
    unfold Rec at h
    simpa using h
  have h2 := h1.touched ht hn
  unfold Own at h2
  unfold Rec
  simpa using h2
def blkD (gr : Nat) (lv hv dv : Value) (M : List TRow) : List (Option Nat) := some gr :: lv.ownBlock :: hv.ownBlock :: blocksR dv M
structure HDS (N : Nat) (W : World) (gr : Nat) (lv hv dv : Value) (L : List THall) (H : List Int) (M : List TRow) : Prop where
  list : Own W N 142 3 lv eHall L
  home : Own W N 2 1 hv eI H
  days : OwnR W N dv M
  box : Rec W N gr 28 [hv, dv]
  ap : (blkD gr lv hv dv M).Pairwise apart
section
variable {N : Nat} {W W1 W2 W' : World} {gr g : Nat} {lv hv dv rv lv' hv' dv' rv' : Value} {L L' : List THall} {H H' : List Int} {M M' : List TRow} {R R' : List Int}
theorem HDS.lt (h : HDS N W gr lv hv dv L H M) : ∀ a ∈ blkD gr lv hv dv M, ∀ b, a = some b → N ≤ b ∧ b < W.heap.size := by
  intro a ha b hb
  simp only [blkD, List.mem_cons] at ha
  rcases ha with rfl | rfl | rfl | ha
  · injection hb with hb; subst hb; exact h.box.lt
  · exact h.list.lt b hb
  · exact h.home.lt b hb
  · exact h.days.lt a ha b hb
theorem HDS.touched {bs : List (Option Nat)} (h : HDS N W gr lv hv dv L H M) (ht : TouchL W W' bs) (hn : ∀ a ∈ blkD gr lv hv dv M, ∀ b ∈ bs, apart a b) : HDS N W' gr lv hv dv L H M :=
  ⟨h.list.touched ht (hn _ (by simp [blkD])), h.home.touched ht (hn _ (by simp [blkD])), h.days.touched ht (fun a ha => hn a (by simp [blkD, ha])), h.box.touched ht (hn _ (by simp [blkD])), h.ap⟩
theorem HDS.below (h : HDS N W gr lv hv dv L H M) (hb : Below W.heap.size W W') : HDS N W' gr lv hv dv L H M :=
  h.touched (bs := []) ⟨hb.os, hb.tape, hb.output, hb.size, fun k hk _ => hb.block k hk⟩ (fun _ _ b hb => by simp at hb)
theorem HDS.alloc (h : HDS N W gr lv hv dv L H M) (o : Obj) : HDS N (W.alloc o) gr lv hv dv L H M := h.below ((Below.refl _ _).alloc (Nat.le_refl _) o)
theorem HDS.drew (h : HDS N W gr lv hv dv L H M) : HDS N W.drew gr lv hv dv L H M := h.below (Below.refl _ _).drew
theorem apart_lt {a : Option Nat} {k : Nat} (h : ∀ b, a = some b → b < k) : apart a (some k) := by
  cases a with
  | none => exact .inl rfl
  | some b => exact .inr fun e => by have := h b rfl; injection e with e; omega
theorem apart_gt {a : Option Nat} {k : Nat} (h : ∀ b, a = some b → k < b) : apart a (some k) := by
  cases a with
  | none => exact .inl rfl
  | some b => exact .inr fun e => by have := h b rfl; injection e with e; omega
theorem HDS.src (h : HDS N W gr lv hv dv L H M) (hg : g < N) (G : W.grownBy W' (some g)) : HDS N W' gr lv hv dv L H M :=
  h.touched (TouchL.of_grown G) fun a ha b hb => by
    simp only [List.mem_singleton] at hb
    subst hb
    exact apart_gt fun b hb => by have := (h.lt a ha b hb).1; omega
/-- a store into a younger block -/
theorem HDS.young {E : Nat} (h : HDS N W gr lv hv dv L H M) (hE : ∀ a ∈ blkD gr lv hv dv M, ∀ b, a = some b → b < E) (j : Nat) (u : Value) : HDS N (W.setCell ⟨E, j, none⟩ u) gr lv hv dv L H M :=
  h.touched (TouchL.of_grown (grow_set W ⟨E, j, none⟩ u)) fun a ha b hb => by
    simp only [List.mem_singleton] at hb
    subst hb
    exact apart_lt (hE a ha)
/-- a value that has moved at the most into a new block -/
theorem apart_moved {x a c : Option Nat} {K : Nat} (h : apart x a) (hc : c = a ∨ c = some K) (hx : ∀ b, x = some b → b < K) : apart x c := by
  rcases hc with rfl | rfl
  · exact h
  · exact apart_lt hx
theorem HDS.parts (h : (blkD gr lv hv dv M).Pairwise apart) : (∀ a ∈ lv.ownBlock :: hv.ownBlock :: blocksR dv M, apart (some gr) a) ∧ (∀ a ∈ hv.ownBlock :: blocksR dv M, apart lv.ownBlock a) ∧ (∀ a ∈ blocksR dv M, apart hv.ownBlock a) ∧ (blocksR dv M).Pairwise apart := by
  simp only [blkD, List.pairwise_cons] at h
  exact ⟨h.1, h.2.1, h.2.2.1, h.2.2.2⟩
theorem HDS.push_list (h : HDS N W gr lv hv dv L H M) (G : W.grownBy W' lv.ownBlock) (O : Own W' N 142 3 lv' eHall L') (hb : lv'.ownBlock = lv.ownBlock ∨ lv'.ownBlock = some W.heap.size) : HDS N W' gr lv' hv dv L' H M := by
  obtain ⟨p1, p2, p3, p4⟩ := HDS.parts h.ap
  have hl := h.lt
  have ht := TouchL.of_grown G
  have one : ∀ {x : Option Nat}, apart x lv.ownBlock → ∀ b ∈ [lv.ownBlock], apart x b := fun hx b hb => by simp only [List.mem_singleton] at hb; subst hb; exact hx
  have new : ∀ {x : Option Nat}, x ∈ blkD gr lv hv dv M → apart x lv.ownBlock → apart x lv'.ownBlock := fun hm hx => apart_moved hx hb (fun b hb => (hl _ hm b hb).2)
  refine ⟨O, h.home.touched ht (one (apart_symm (p2 _ (by simp)))), h.days.touched ht (fun a ha => one (apart_symm (p2 _ (by simp [ha])))), h.box.touched ht (one (p1 _ (by simp))), ?_⟩
  simp only [blkD, List.pairwise_cons]
  refine ⟨fun a ha => ?_, fun a ha => ?_, p3, p4⟩
  · rcases List.mem_cons.1 ha with rfl | ha
    · exact new (by simp [blkD]) (p1 _ (by simp))
    · exact p1 _ (List.mem_cons_of_mem _ ha)
  · exact apart_symm (new (by simp only [blkD, List.mem_cons] at ha ⊢; exact .inr (.inr ha)) (apart_symm (p2 _ ha)))
theorem HDS.push_home (h : HDS N W gr lv hv dv L H M) (G : W.grownBy W' hv.ownBlock) (O : Own W' N 2 1 hv' eI H') (hb : hv'.ownBlock = hv.ownBlock ∨ hv'.ownBlock = some W.heap.size) : HDS N (W'.setCell ⟨gr, 0, none⟩ hv') gr lv hv' dv L H' M := by
  obtain ⟨p1, p2, p3, p4⟩ := HDS.parts h.ap
  have hl := h.lt
  have ht := TouchL.of_grown G
  have hs := TouchL.of_grown (grow_set W' ⟨gr, 0, none⟩ hv')
  have one : ∀ {x y : Option Nat}, apart x y → ∀ b ∈ [y], apart x b := fun hx b hb => by simp only [List.mem_singleton] at hb; subst hb; exact hx
  have new : ∀ {x : Option Nat}, x ∈ blkD gr lv hv dv M → apart x hv.ownBlock → apart x hv'.ownBlock := fun hm hx => apart_moved hx hb (fun b hb => (hl _ hm b hb).2)
  have nbox : apart (some gr) hv'.ownBlock := new (by simp [blkD]) (p1 _ (by simp))
  refine ⟨(h.list.touched ht (one (p2 _ (by simp)))).touched hs (one (apart_symm (p1 _ (by simp)))), O.touched hs (one (apart_symm nbox)), (h.days.touched ht (fun a ha => one (apart_symm (p3 _ ha)))).touched hs (fun a ha => one (apart_symm (p1 _ (by simp [ha])))), (h.box.touched ht (one (p1 _ (by simp)))).set 0 hv', ?_⟩
  simp only [blkD, List.pairwise_cons]
  refine ⟨fun a ha => ?_, fun a ha => ?_, fun a ha => ?_, p4⟩
  · simp only [List.mem_cons] at ha
    rcases ha with rfl | rfl | ha
    · exact p1 _ (by simp)
    · exact nbox
    · exact p1 _ (by simp [ha])
  · rcases List.mem_cons.1 ha with rfl | ha
    · exact new (by simp [blkD]) (p2 _ (by simp))
    · exact p2 _ (by simp [ha])
  · exact apart_symm (new (by simp [blkD, ha]) (apart_symm (p3 _ ha)))
theorem HDS.box_home (h : HDS N W gr lv hv dv L H M) (G : W.grownBy W' hv.ownBlock) : Rec W' N gr 28 [hv, dv] :=
  h.box.touched (TouchL.of_grown G) (fun b hb => by simp only [List.mem_singleton] at hb; subst hb; exact (HDS.parts h.ap).1 _ (by simp))
theorem HDS.box_days (h : HDS N W gr lv hv dv L H M) (G : W.grownBy W' dv.ownBlock) : Rec W' N gr 28 [hv, dv] :=
  h.box.touched (TouchL.of_grown G) (fun b hb => by simp only [List.mem_singleton] at hb; subst hb; exact (HDS.parts h.ap).1 _ (by simp [blocksR]))
theorem HDS.size (h : HDS N W gr lv hv dv L H M) : N ≤ W.heap.size := Nat.le_trans h.box.lt.1 (Nat.le_of_lt h.box.lt.2)
/-- a row beside them -/
structure HRow (N : Nat) (W : World) (gr : Nat) (lv hv dv : Value) (L : List THall) (H : List Int) (M : List TRow) (rv : Value) (R : List Int) : Prop where
  ds : HDS N W gr lv hv dv L H M
  row : Own W N 2 1 rv eI R
  ap : ∀ a ∈ blkD gr lv hv dv M, apart a rv.ownBlock
theorem HRow.src (h : HRow N W gr lv hv dv L H M rv R) (hg : g < N) (G : W.grownBy W' (some g)) : HRow N W' gr lv hv dv L H M rv R := ⟨h.ds.src hg G, h.row.src2 hg G, h.ap⟩
theorem HRow.alloc (h : HRow N W gr lv hv dv L H M rv R) (o : Obj) : HRow N (W.alloc o) gr lv hv dv L H M rv R := ⟨h.ds.alloc o, h.row.alloc o, h.ap⟩
theorem HDS.row (h : HDS N W gr lv hv dv L H M) : HRow N (W.alloc (.cells #[] 2)) gr lv hv dv L H M (.slice (some ⟨W.heap.size, 0, none⟩) 0 0) [] :=
  ⟨h.alloc _, Own.made0 W N 2 1 eI (Nat.le_trans h.box.lt.1 (Nat.le_of_lt h.box.lt.2)), fun a ha => apart_lt fun b hb => (h.lt a ha b hb).2⟩
theorem HRow.push (h : HRow N W gr lv hv dv L H M rv R) (G : W.grownBy W' rv.ownBlock) (O : Own W' N 2 1 rv' eI R') (hb : rv'.ownBlock = rv.ownBlock ∨ rv'.ownBlock = some W.heap.size) : HRow N W' gr lv hv dv L H M rv' R' :=
  ⟨h.ds.touched (TouchL.of_grown G) (fun a ha b hb => by simp only [List.mem_singleton] at hb; subst hb; exact h.ap a ha), O, fun a ha => apart_moved (h.ap a ha) hb (fun b hb => (h.ds.lt a ha b hb).2)⟩
theorem HRow.done (h : HRow N W gr lv hv dv L H M rv R) (G : W.grownBy W' dv.ownBlock) (O : Own W' N 25 1 dv' eV (M ++ [(rv, R)])) (hb : dv'.ownBlock = dv.ownBlock ∨ dv'.ownBlock = some W.heap.size) : HDS N (W'.setCell ⟨gr, 1, none⟩ dv') gr lv hv dv' L H (M ++ [(rv, R)]) := by
  obtain ⟨p1, p2, p3, p4⟩ := HDS.parts h.ds.ap
  have hl := h.ds.lt
  have ht := TouchL.of_grown G
  have hs := TouchL.of_grown (grow_set W' ⟨gr, 1, none⟩ dv')
  have one : ∀ {x y : Option Nat}, apart x y → ∀ b ∈ [y], apart x b := fun hx b hb => by simp only [List.mem_singleton] at hb; subst hb; exact hx
  have hdv : dv.ownBlock ∈ blkD gr lv hv dv M := by simp [blkD, blocksR]
  have new : ∀ {x : Option Nat}, x ∈ blkD gr lv hv dv M → apart x dv.ownBlock → apart x dv'.ownBlock := fun hm hx => apart_moved hx hb (fun b hb => (hl _ hm b hb).2)
  have newr : apart rv.ownBlock dv'.ownBlock := apart_moved (apart_symm (h.ap _ hdv)) hb (fun b hb => (h.row.lt b hb).2)
  have nbox : apart (some gr) dv'.ownBlock := new (by simp [blkD]) (p1 _ (by simp [blocksR]))
  have rbox : apart (some gr) rv.ownBlock := h.ap _ (by simp [blkD])
  have p4' := List.pairwise_cons.1 (show (dv.ownBlock :: M.map (·.1.ownBlock)).Pairwise apart from p4)
  have inM : ∀ x ∈ M, x.1.ownBlock ∈ blocksR dv M := fun x hx => by simp only [blocksR, List.mem_cons, List.mem_map]; exact .inr ⟨x, hx, rfl⟩
  have hrows : ∀ x ∈ M, Own (W'.setCell ⟨gr, 1, none⟩ dv') N 2 1 x.1 eI x.2 := fun x hx =>
    ((h.ds.days.2.1 x hx).touched ht (one (apart_symm (p4'.1 _ (List.mem_map.2 ⟨x, hx, rfl⟩))))).touched hs (one (apart_symm (p1 _ (by simp [inM x hx]))))
  have hnewrow := (h.row.touched ht (one (apart_symm (h.ap _ hdv)))).touched hs (one (apart_symm rbox))
  have pw : (dv'.ownBlock :: (M ++ [(rv, R)]).map (·.1.ownBlock)).Pairwise apart := by
    rw [List.map_append, List.pairwise_cons, List.pairwise_append]
    refine ⟨fun a ha => ?_, p4'.2, by simp, fun a ha b hb' => ?_⟩
    · rcases List.mem_append.1 ha with ha | ha
      · obtain ⟨x, hx, rfl⟩ := List.mem_map.1 ha
        exact apart_symm (new (by simp only [blkD, List.mem_cons]; exact .inr (.inr (.inr (inM x hx)))) (apart_symm (p4'.1 _ ha)))
      · simp only [List.map_cons, List.map_nil, List.mem_singleton] at ha
        subst ha
        exact apart_symm newr
    · simp only [List.map_cons, List.map_nil, List.mem_singleton] at hb'
      subst hb'
      obtain ⟨x, hx, rfl⟩ := List.mem_map.1 ha
      exact h.ap _ (by simp only [blkD, List.mem_cons]; exact .inr (.inr (.inr (inM x hx))))
  have allin : ∀ {x : Option Nat}, (∀ a ∈ blocksR dv M, apart x a) → apart x dv'.ownBlock → apart x rv.ownBlock → ∀ a ∈ blocksR dv' (M ++ [(rv, R)]), apart x a := fun h1 h2 h3 a ha => by
    simp only [blocksR, List.map_append, List.mem_cons, List.mem_append, List.map_cons, List.map_nil, List.mem_singleton] at ha
    rcases ha with rfl | ha | ha
    · exact h2
    · exact h1 a (by simp only [blocksR, List.mem_cons]; exact .inr ha)
    · rcases ha with rfl | ha
      · exact h3
      · cases ha
  refine ⟨(h.ds.list.touched ht (one (p2 _ (by simp [blocksR])))).touched hs (one (apart_symm (p1 _ (by simp)))), (h.ds.home.touched ht (one (p3 _ (by simp [blocksR])))).touched hs (one (apart_symm (p1 _ (by simp)))), ⟨O.touched hs (one (apart_symm nbox)), ?_, pw⟩, (h.ds.box.touched ht (one (p1 _ (by simp [blocksR])))).set 1 dv', ?_⟩
  · intro x hx
    rcases List.mem_append.1 hx with hx | hx
    · exact hrows x hx
    · simp only [List.mem_singleton] at hx
      subst hx
      exact hnewrow
  · simp only [blkD, List.pairwise_cons]
    refine ⟨fun a ha => ?_, fun a ha => ?_, ?_, pw⟩
    · simp only [List.mem_cons] at ha
      rcases ha with rfl | rfl | ha
      · exact p1 _ (by simp)
      · exact p1 _ (by simp)
      · exact allin (fun a ha => p1 a (by simp [ha])) nbox rbox a ha
    · rcases List.mem_cons.1 ha with rfl | ha
      · exact p2 _ (by simp)
      · exact allin (fun a ha => p2 a (by simp [ha])) (new (by simp [blkD]) (p2 _ (by simp [blocksR]))) (h.ap _ (by simp [blkD])) a ha
    · exact allin p3 (new (by simp [blkD]) (p3 _ (by simp [blocksR]))) (h.ap _ (by simp [blkD]))
end
/-- what is drawn: i halls of n -/
def HF (n : Nat) (L : List THall) (H : List Int) (M : List TRow) (i : Nat) : Prop :=
  L.length = i ∧ H.length = i ∧ M.length = i ∧ (∀ x ∈ L, okHallB x = true) ∧ (∀ d ∈ H, 0 ≤ d ∧ d ≤ 30) ∧ ∀ j (x : TRow), M[j]? = some x → x.2.length = n ∧ (∀ d ∈ x.2, 0 ≤ d ∧ d ≤ 30) ∧ x.2.getD j 0 = 0
theorem HF.nil (n : Nat) : HF n [] [] [] 0 := ⟨rfl, rfl, rfl, by simp, by simp, fun j x hx => by simp at hx⟩
theorem HF.push {n i : Nat} {L : List THall} {H : List Int} {M : List TRow} {a b c d : Int} {rv : Value} {R : List Int} (h : HF n L H M i) (ha : 0 ≤ a ∧ a ≤ b ∧ b ≤ 365) (hc : 0 ≤ c ∧ c ≤ 1000000) (hd : 0 ≤ d ∧ d ≤ 30) (hl : R.length = n) (hR : ∀ d ∈ R, 0 ≤ d ∧ d ≤ 30) (h0 : R.getD i 0 = 0) :
    HF n (L ++ [(a, b, c)]) (H ++ [d]) (M ++ [(rv, R)]) (i + 1) := by
  obtain ⟨h1, h2, h3, h4, h5, h6⟩ := h
  refine ⟨by simp [h1], by simp [h2], by simp [h3], fun x hx => ?_, fun x hx => ?_, fun j x hx => ?_⟩
  · rcases List.mem_append.1 hx with hx | hx
    · exact h4 x hx
    · rw [List.mem_singleton.1 hx]
      unfold okHallB
      rw [Bool.and_eq_true, Bool.and_eq_true]
      exact ⟨inB_mk ⟨by show 0 ≤ b; omega, ha.2.2⟩, inB_mk ⟨ha.1, ha.2.1⟩, inB_mk hc⟩
  · rcases List.mem_append.1 hx with hx | hx
    · exact h5 x hx
    · rw [List.mem_singleton.1 hx]; exact hd
  · rw [List.getElem?_append] at hx
    split at hx
    · exact h6 j x hx
    · rename_i hj
      have e : j - M.length = 0 := by
        rcases Nat.eq_zero_or_pos (j - M.length) with e | e
        · exact e
        · rw [List.getElem?_eq_none (by simp; omega)] at hx; cases hx
      rw [e] at hx
      simp only [List.getElem?_cons_zero, Option.some.injEq] at hx
      subst hx
      have : j = i := by omega
      subst this
      exact ⟨hl, hR, h0⟩
theorem daysOk_mk {R : List Int} {n : Nat} (h : R.length = n) (hR : ∀ d ∈ R, 0 ≤ d ∧ d ≤ 30) : daysOk R n = true := by
  unfold daysOk
  rw [Bool.and_eq_true, Bool.not_eq_true', decide_eq_true_eq]
  refine ⟨?_, h⟩
  rw [List.any_eq_false]
  intro x hx
  simp [inB_mk (hR x hx)]
theorem HF.ok {n : Nat} {L : List THall} {H : List Int} {M : List TRow} (h : HF n L H M n) (hn : n ≤ 6) : okHalls L H (rowsOf M) = true := by
  obtain ⟨h1, h2, h3, h4, h5, h6⟩ := h
  unfold okHalls validR
  rw [Bool.and_eq_true, Bool.and_eq_true, Bool.and_eq_true, Bool.and_eq_true, Bool.not_eq_true', decide_eq_true_eq, decide_eq_true_eq, h1]
  refine ⟨?_, hn, daysOk_mk h2 h5, by rw [rowsOf_len]; exact h3, allTo_true fun i hi => ?_⟩
  · rw [List.any_eq_false]
    intro x hx
    simp [h4 x hx]
  · have hM : i < M.length := by omega
    rw [rowOk_at hM, Bool.and_eq_true]
    obtain ⟨k1, k2, k3⟩ := h6 i M[i] (List.getElem?_eq_getElem hM)
    exact ⟨daysOk_mk k1 k2, by rw [k3]; rfl⟩
theorem halls_start (w : World) (A : Array Value) (T : TypeId) : HDS (w.heap.size + 1) (((((w.alloc (.cells A T)).alloc (.cells #[] 142)).alloc (.cells #[] 2)).alloc (.cells #[] 25)).alloc (.cells #[.slice (some ⟨w.heap.size + 1 + 1, 0, none⟩) 0 0, .slice (some ⟨w.heap.size + 1 + 1 + 1, 0, none⟩) 0 0] 28)) (w.heap.size + 1 + 1 + 1 + 1) (.slice (some ⟨w.heap.size + 1, 0, none⟩) 0 0) (.slice (some ⟨w.heap.size + 1 + 1, 0, none⟩) 0 0) (.slice (some ⟨w.heap.size + 1 + 1 + 1, 0, none⟩) 0 0) [] [] [] := by
  have z1 : (w.alloc (.cells A T)).heap.size = w.heap.size + 1 := by simp
  generalize w.alloc (.cells A T) = w1 at z1
  rw [← z1]
  have z2 : (w1.alloc (.cells #[] 142)).heap.size = w1.heap.size + 1 := by simp
  have O1 := Own.made0 w1 w1.heap.size 142 3 eHall (Nat.le_refl _)
  generalize w1.alloc (.cells #[] 142) = w2 at z2 O1
  have z3 : (w2.alloc (.cells #[] 2)).heap.size = w1.heap.size + 1 + 1 := by rw [← z2]; simp
  have O2 := Own.made0 w2 w1.heap.size 2 1 eI (by omega)
  rw [z2] at O2
  replace O1 := O1.alloc (.cells #[] 2)
  generalize w2.alloc (.cells #[] 2) = w3 at z3 O1 O2
  have z4 : (w3.alloc (.cells #[] 25)).heap.size = w1.heap.size + 1 + 1 + 1 := by rw [← z3]; simp
  have O3 := Own.made0 w3 w1.heap.size 25 1 eV (by omega)
  rw [z3] at O3
  replace O1 := O1.alloc (.cells #[] 25)
  replace O2 := O2.alloc (.cells #[] 25)
  generalize w3.alloc (.cells #[] 25) = w4 at z4 O1 O2 O3
  have R := rec_new w4 w1.heap.size 28 [.slice (some ⟨w1.heap.size + 1, 0, none⟩) 0 0, .slice (some ⟨w1.heap.size + 1 + 1, 0, none⟩) 0 0] (by omega)
  rw [z4] at R
  refine ⟨O1.alloc _, O2.alloc _, ⟨O3.alloc _, by simp, by simp⟩, R, ?_⟩
  simp only [blkD, blocksR, List.map_nil, List.pairwise_cons, List.mem_cons, List.not_mem_nil, or_false]
  refine ⟨?_, ?_, ?_, by simp⟩
  · rintro a (rfl | rfl | rfl) <;> exact .inr (fun e => by simp only [ownBlock_slice, Option.some.injEq] at e; omega)
  · rintro a (rfl | rfl) <;> exact .inr (fun e => by simp only [ownBlock_slice, Option.some.injEq] at e; omega)
  · rintro a rfl; exact .inr (fun e => by simp only [ownBlock_slice, Option.some.injEq] at e; omega)
end Go.Proofs.Ytlgcehdklpbknaa
