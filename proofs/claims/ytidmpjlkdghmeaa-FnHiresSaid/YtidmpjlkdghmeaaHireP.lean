/- Plain law of hires: the first free days are free, a lack is one, a hire that is added leaves none. No program in sight. -/
import Derived.Test.YtidmpjlkdghmeaaFree
import Derived.Test.YtidmpjlkdghmeaaAdd
namespace Go.Proofs.Ytidmpjlkdghmeaa
open Go Go.RowKit Go.ChangeShapes Go.WideShapes
set_option linter.unusedSimpArgs false
set_option linter.unusedVariables false

theorem ffGo_law (S : List Int) (L : List THire) (item days fr : Int) (hd : 1 ≤ days) : ∀ (f : Nat) (d r : Int), 0 ≤ r → r < days → fr ≤ d - r → d + f ≤ 10000 → (∀ j, d - r ≤ j → j < d → outOn L item j < stk S item) →
    (ffGo S L item days f d r).2 = 0 → fr ≤ (ffGo S L item days f d r).1 ∧ (ffGo S L item days f d r).1 + days ≤ 10000 ∧ ∀ j, (ffGo S L item days f d r).1 ≤ j → j < (ffGo S L item days f d r).1 + days → outOn L item j < stk S item
  | 0, d, r, _, _, _, _, _, h => by simp [ffGo] at h
  | f + 1, d, r, h0, h1, h2, h3, h4, h => by
    unfold ffGo at h ⊢
    by_cases hc : outOn L item d < stk S item
    · simp only [hc, decide_true, if_true] at h ⊢
      by_cases he : r + 1 = days
      · have e : (r + 1 == days) = true := by simpa using he
        rw [if_pos e]
        refine ⟨by show fr ≤ d - days + 1; omega, by show d - days + 1 + days ≤ 10000; omega, fun j a b => ?_⟩
        have a' : d - days + 1 ≤ j := a
        have b' : j < d - days + 1 + days := b
        by_cases hj : j = d
        · rw [hj]; exact hc
        · exact h4 j (by omega) (by omega)
      · have e : (r + 1 == days) = false := by simpa using he
        rw [e] at h ⊢
        refine ffGo_law S L item days fr hd f (d + 1) (r + 1) (by omega) (by omega) (by omega) (by omega) (fun j a b => ?_) h
        by_cases hj : j = d
        · rw [hj]; exact hc
        · exact h4 j (by omega) (by omega)
    · simp only [hc, decide_false, Bool.false_eq_true, if_false] at h ⊢
      have e : ((0 : Int) == days) = false := by simp; omega
      rw [e] at h ⊢
      exact ffGo_law S L item days fr hd f (d + 1) 0 (by omega) (by omega) (by omega) (by omega) (fun j a b => by omega) h

theorem ff_law (S : List Int) (L : List THire) (item fr days : Int) (h : (ffR S L item fr days).2 = 0) :
    (1 ≤ days ∧ days ≤ 1000) ∧ (0 ≤ item ∧ item < S.length) ∧ 0 ≤ (ffR S L item fr days).1 ∧ fr ≤ (ffR S L item fr days).1 ∧ (ffR S L item fr days).1 + days ≤ 10000 ∧ ∀ i, 0 ≤ i → i < days → (outR S L item ((ffR S L item fr days).1 + i)).2 = 0 ∧ (outR S L item ((ffR S L item fr days).1 + i)).1 < stk S item := by
  unfold ffR at h ⊢
  rcases h1 : okHires S L with _ | _
  · simp [h1] at h
  rcases h2 : inB item 0 ((S.length : Int) - 1) with _ | _
  · simp [h1, h2] at h
  rcases h3 : inB fr 0 10000 with _ | _
  · simp [h1, h2, h3] at h
  rcases h4 : inB days 1 1000 with _ | _
  · simp [h1, h2, h3, h4] at h
  simp only [h1, h2, h3, h4, if_true] at h ⊢
  have b2 := inB_true h2
  have b3 := inB_true h3
  have b4 := inB_true h4
  obtain ⟨r1, r2, r3⟩ := ffGo_law S L item days fr b4.1 (10000 - fr).toNat fr 0 (by omega) (by omega) (by omega) (by omega) (fun j a b => by omega) h
  generalize (ffGo S L item days (10000 - fr).toNat fr 0).1 = n at r1 r2 r3 ⊢
  refine ⟨b4, ⟨b2.1, by omega⟩, by omega, r1, r2, fun i i0 i1 => ?_⟩
  have hd : inB (n + i) 0 10000 = true := inB_mk ⟨by omega, by omega⟩
  unfold outR
  simp only [h1, h2, hd, if_true]
  exact ⟨trivial, r3 _ (by omega) (by omega)⟩

theorem lackTo_law (S : List Int) (L : List THire) : ∀ (M : List THire) (st : Int × Int), (∀ x ∈ M, x ∈ L) → (st.1 < 0 ∨ ∃ x ∈ L, st = (x.2.1, x.1) ∧ stk S x.1 < outOn L x.1 x.2.1) →
    ((M.foldl (lackStep S L) st).1 < 0 ∨ ∃ x ∈ L, M.foldl (lackStep S L) st = (x.2.1, x.1) ∧ stk S x.1 < outOn L x.1 x.2.1)
  | [], st, _, h => h
  | y :: M, st, hm, h => by
    refine lackTo_law S L M _ (fun x hx => hm x (List.mem_cons_of_mem _ hx)) ?_
    unfold lackStep
    split
    · next hc =>
      rw [Bool.and_eq_true, decide_eq_true_eq] at hc
      exact Or.inr ⟨y, hm y List.mem_cons_self, rfl, hc.1⟩
    · exact h

theorem lack_law (S : List Int) (L : List THire) (h : (lackR S L).2.2 = 0) :
    (0 ≤ (lackR S L).2.1 ∧ (lackR S L).2.1 < S.length) ∧ (outR S L (lackR S L).2.1 (lackR S L).1).2 = 0 ∧ stk S (lackR S L).2.1 < (outR S L (lackR S L).2.1 (lackR S L).1).1 := by
  rcases h1 : okHires S L with _ | _
  · rw [lackR_bad h1] at h; simp at h
  rcases hst : lackTo S L L.length with ⟨d, it⟩
  by_cases hd : d < 0
  · rw [lackR_no h1 hst hd] at h; simp at h
  rw [lackR_yes h1 hst hd]
  have hl : lackTo S L L.length = L.foldl (lackStep S L) (-1, 0) := by unfold lackTo; rw [List.take_length]
  rw [hl] at hst
  have hx := lackTo_law S L L (-1, 0) (fun x hx => hx) (Or.inl (by decide))
  rw [hst] at hx
  rcases hx with hx | ⟨x, hm, he, hs⟩
  · exact absurd hx hd
  obtain ⟨rfl, rfl⟩ := Prod.mk.inj he
  have bd := isHireB_bd (okHires_el h1 x hm)
  have e1 : inB x.1 0 ((S.length : Int) - 1) = true := inB_mk bd.1
  have e2 : inB x.2.1 0 10000 = true := inB_mk ⟨by omega, by omega⟩
  show (0 ≤ x.1 ∧ x.1 < (S.length : Int)) ∧ (outR S L x.1 x.2.1).2 = 0 ∧ stk S x.1 < (outR S L x.1 x.2.1).1
  unfold outR
  simp only [h1, e1, e2, if_true]
  exact ⟨⟨bd.1.1, by omega⟩, trivial, hs⟩

theorem outOn_app (L : List THire) (x : THire) (item day : Int) : outOn (L ++ [x]) item day = if outP item day x then outOn L item day + 1 else outOn L item day := by
  unfold outOn
  rw [List.filter_append, List.length_append]
  cases h : outP item day x <;> simp [h]

theorem add_law (S : List Int) (L : List THire) (x : THire) :
    ((addR S L x).2 ≠ 0 → ((addR S L x).2 != 9 || !(canR S L x).1) = true) ∧
    ((addR S L x).2 = 0 → (addR S L x).1 = L ++ [x] ∧ (canR S L x).1 = true ∧ (0 ≤ x.1 ∧ x.1 < S.length) ∧ (outR S (L ++ [x]) x.1 x.2.1).2 = 0 ∧ 1 ≤ (outR S (L ++ [x]) x.1 x.2.1).1 ∧ (outR S (L ++ [x]) x.1 x.2.1).1 ≤ stk S x.1) := by
  unfold addR canR
  rcases h1 : okHires S L with _ | _
  · exact ⟨fun _ => by simp, fun h => by simp at h⟩
  rcases h2 : isHireB S.length x with _ | _
  · exact ⟨fun _ => by simp, fun h => by simp at h⟩
  by_cases h3 : L.length = 40
  · exact ⟨fun _ => by simp [h3], fun h => by simp [h3] at h⟩
  rcases h4 : canB S L x with _ | _
  · exact ⟨fun _ => by simp [h3], fun h => by simp [h3] at h⟩
  simp only [if_true, if_neg h3]
  refine ⟨fun h => absurd rfl h, fun _ => ⟨trivial, trivial, ?_⟩⟩
  have bd := isHireB_bd h2
  have e1 : inB x.1 0 ((S.length : Int) - 1) = true := inB_mk bd.1
  have e2 : inB x.2.1 0 10000 = true := inB_mk ⟨by omega, by omega⟩
  have hok : okHires S (L ++ [x]) = true := by
    have h1' := h1
    unfold okHires at h1 ⊢
    simp only [Bool.and_eq_true, Bool.not_eq_true', decide_eq_true_eq, List.any_append, List.any_cons, List.any_nil, Bool.or_false, List.length_append, List.length_cons, List.length_nil] at h1 ⊢
    refine ⟨?_, h1.2.1, by omega⟩
    rw [h1.1, h2]
    rfl
  have hc : outOn L x.1 x.2.1 < stk S x.1 := by
    unfold canB at h4
    obtain ⟨k, hk⟩ : ∃ k, (x.2.2 - x.2.1).toNat = k + 1 := ⟨(x.2.2 - x.2.1).toNat - 1, by omega⟩
    rw [hk] at h4
    unfold canGo at h4
    by_cases hh : stk S x.1 ≤ outOn L x.1 x.2.1
    · simp [hh] at h4
    · omega
  have hp : outP x.1 x.2.1 x = true := by
    unfold outP
    simp only [beq_self_eq_true, Bool.true_and, Bool.and_eq_true, decide_eq_true_eq]
    omega
  unfold outR
  simp only [hok, e1, e2, if_true]
  rw [outOn_app, hp, if_pos rfl]
  have := outOn_bd L x.1 x.2.1
  exact ⟨⟨bd.1.1, by omega⟩, trivial, by show 1 ≤ outOn L x.1 x.2.1 + 1; omega, by show outOn L x.1 x.2.1 + 1 ≤ stk S x.1; omega⟩
end Go.Proofs.Ytidmpjlkdghmeaa
