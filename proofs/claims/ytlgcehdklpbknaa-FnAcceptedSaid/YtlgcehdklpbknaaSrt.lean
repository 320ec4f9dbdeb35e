/- Lists put in order by a key, equals as they stood: the plain laws of a merge and of an insertion. No condition. -/
import Derived.Test.YtlgcehdklpbknaaMem
namespace Go.Proofs.Ytlgcehdklpbknaa
open Go Go.RowKit
set_option linter.unusedSimpArgs false
set_option linter.unusedVariables false
section
variable {α : Type} (key : α → Int)
/-- two lists become one: of equals those of the first stand ahead -/
def mrg : List α → List α → List α
  | [], B => B
  | a :: A, [] => a :: A
  | a :: A, b :: B => if key b < key a then b :: mrg (a :: A) B else a :: mrg A (b :: B)
termination_by A B => A.length + B.length
theorem mrg_nil_left (B : List α) : mrg key [] B = B := by unfold mrg; rfl
theorem mrg_nil_right (A : List α) : mrg key A [] = A := by cases A <;> (unfold mrg; rfl)
theorem mrg_cons (a b : α) (A B : List α) : mrg key (a :: A) (b :: B) = if key b < key a then b :: mrg key (a :: A) B else a :: mrg key A (b :: B) := by
  conv => lhs; unfold mrg
theorem mrg_len : ∀ (A B : List α), (mrg key A B).length = A.length + B.length
  | [], B => by rw [mrg_nil_left]; simp
  | a :: A, [] => by rw [mrg_nil_right]; simp
  | a :: A, b :: B => by
    rw [mrg_cons]
    split
    · simp only [List.length_cons, mrg_len (a :: A) B]; omega
    · simp only [List.length_cons, mrg_len A (b :: B)]; omega
termination_by A B => A.length + B.length
theorem mrg_perm : ∀ (A B : List α), (mrg key A B).Perm (A ++ B)
  | [], B => by rw [mrg_nil_left]; exact List.Perm.refl _
  | a :: A, [] => by rw [mrg_nil_right, List.append_nil]
  | a :: A, b :: B => by
    rw [mrg_cons]
    split
    · exact ((mrg_perm (a :: A) B).cons b).trans List.perm_middle.symm
    · exact (mrg_perm A (b :: B)).cons a
termination_by A B => A.length + B.length
theorem mrg_mem {A B : List α} {x : α} : x ∈ mrg key A B ↔ x ∈ A ∨ x ∈ B := by
  rw [(mrg_perm key A B).mem_iff, List.mem_append]
def sorted (L : List α) : Prop := L.Pairwise fun x y => key x ≤ key y
theorem mrg_sorted : ∀ (A B : List α), sorted key A → sorted key B → sorted key (mrg key A B)
  | [], B, _, h => by rw [mrg_nil_left]; exact h
  | a :: A, [], h, _ => by rw [mrg_nil_right]; exact h
  | a :: A, b :: B, hA, hB => by
    obtain ⟨a1, a2⟩ := List.pairwise_cons.1 hA
    obtain ⟨b1, b2⟩ := List.pairwise_cons.1 hB
    rw [mrg_cons]
    split
    · next h =>
      refine List.pairwise_cons.2 ⟨fun y hy => ?_, mrg_sorted (a :: A) B hA b2⟩
      rcases (mrg_mem key).1 hy with hy | hy
      · rcases List.mem_cons.1 hy with rfl | hy
        · omega
        · have := a1 y hy; omega
      · exact b1 y hy
    · next h =>
      refine List.pairwise_cons.2 ⟨fun y hy => ?_, mrg_sorted A (b :: B) a2 hB⟩
      rcases (mrg_mem key).1 hy with hy | hy
      · exact a1 y hy
      · rcases List.mem_cons.1 hy with rfl | hy
        · omega
        · have := b1 y hy; omega
termination_by A B => A.length + B.length
/-- one element put in its place -/
theorem mrg_one (x : α) : ∀ (S : List α) (p : Nat), (∀ y ∈ S.drop p, key x < key y) → (∀ y ∈ S.take p, key y ≤ key x) → p ≤ S.length → mrg key S [x] = S.take p ++ x :: S.drop p
  | [], p, _, _, hp => by
    have : p = 0 := by simpa using hp
    subst this
    rw [mrg_nil_left]
    rfl
  | y :: S, 0, h1, _, _ => by
    rw [mrg_cons, if_pos (h1 y (by simp)), mrg_nil_right]
    rfl
  | y :: S, p + 1, h1, h2, hp => by
    have hy := h2 y (by simp)
    rw [mrg_cons, if_neg (by omega), mrg_one x S p (by simpa using h1) (fun z hz => h2 z (by simp [hz])) (by simpa using hp)]
    rfl
theorem mrg_assoc : ∀ (A B C : List α), mrg key (mrg key A B) C = mrg key A (mrg key B C)
  | [], B, C => by rw [mrg_nil_left, mrg_nil_left]
  | a :: A, [], C => by rw [mrg_nil_right, mrg_nil_left]
  | a :: A, b :: B, [] => by rw [mrg_nil_right, mrg_nil_right]
  | a :: A, b :: B, c :: C => by
    by_cases h1 : key b < key a
    · rw [mrg_cons key a b, if_pos h1]
      by_cases h2 : key c < key b
      · rw [mrg_cons key b c, if_pos h2, mrg_cons key b c, if_pos h2, mrg_cons key a c, if_pos (by omega)]
        have := mrg_assoc (a :: A) (b :: B) C
        rw [mrg_cons key a b, if_pos h1] at this
        rw [this]
      · rw [mrg_cons key b c, if_neg h2, mrg_cons key b c, if_neg h2, mrg_cons key a b, if_pos h1, mrg_assoc (a :: A) B (c :: C)]
    · rw [mrg_cons key a b, if_neg h1]
      by_cases h2 : key c < key b
      · rw [mrg_cons key b c, if_pos h2]
        by_cases h3 : key c < key a
        · rw [mrg_cons key a c, if_pos h3, mrg_cons key a c, if_pos h3]
          have := mrg_assoc (a :: A) (b :: B) C
          rw [mrg_cons key a b, if_neg h1] at this
          rw [this]
        · rw [mrg_cons key a c, if_neg h3, mrg_cons key a c, if_neg h3, mrg_assoc A (b :: B) (c :: C), mrg_cons key b c, if_pos h2]
      · rw [mrg_cons key b c, if_neg h2, mrg_cons key a c, if_neg (by omega), mrg_cons key a b, if_neg h1, mrg_assoc A (b :: B) (c :: C), mrg_cons key b c, if_neg h2]
termination_by A B C => A.length + B.length + C.length
/-- a merge in two halves -/
theorem mrg_split : ∀ (A1 B1 A2 B2 : List α), (∀ x ∈ A1, ∀ y ∈ B2, key x ≤ key y) → (∀ y ∈ B1, ∀ x ∈ A2, key y < key x) → mrg key (A1 ++ A2) (B1 ++ B2) = mrg key A1 B1 ++ mrg key A2 B2
  | [], [], A2, B2, _, _ => by rw [mrg_nil_left]; rfl
  | [], b :: B1, A2, B2, h1, h2 => by
    rw [mrg_nil_left]
    rcases A2 with _ | ⟨x, A2⟩
    · rw [List.append_nil, mrg_nil_left, mrg_nil_left]
    · have ih := mrg_split [] B1 (x :: A2) B2 (by simp) (fun y hy => h2 y (List.mem_cons_of_mem _ hy))
      rw [mrg_nil_left, List.nil_append] at ih
      rw [List.nil_append, List.cons_append, mrg_cons, if_pos (h2 b (List.mem_cons_self ..) x (List.mem_cons_self ..)), ih]
      rfl
  | a :: A1, [], A2, B2, h1, h2 => by
    rw [mrg_nil_right]
    rcases B2 with _ | ⟨y, B2⟩
    · rw [List.append_nil, mrg_nil_right, mrg_nil_right]
    · have ih := mrg_split A1 [] A2 (y :: B2) (fun x hx => h1 x (List.mem_cons_of_mem _ hx)) (by simp)
      rw [mrg_nil_right, List.nil_append] at ih
      have hay := h1 a (List.mem_cons_self ..) y (List.mem_cons_self ..)
      rw [List.nil_append, List.cons_append, mrg_cons, if_neg (by omega), ih]
      rfl
  | a :: A1, b :: B1, A2, B2, h1, h2 => by
    rw [List.cons_append, List.cons_append, mrg_cons, mrg_cons]
    split
    · have ih := mrg_split (a :: A1) B1 A2 B2 h1 (fun y hy => h2 y (List.mem_cons_of_mem _ hy))
      rw [List.cons_append] at ih
      rw [ih]
      rfl
    · have ih := mrg_split A1 (b :: B1) A2 B2 (fun x hx => h1 x (List.mem_cons_of_mem _ hx)) h2
      rw [List.cons_append] at ih
      rw [ih]
      rfl
termination_by A1 B1 => A1.length + B1.length
/-! ### put in order one by one -/
def srt (M : List α) : List α := M.foldl (fun S x => mrg key S [x]) []
theorem srt_nil : srt key ([] : List α) = [] := rfl
theorem srt_snoc (M : List α) (x : α) : srt key (M ++ [x]) = mrg key (srt key M) [x] := by
  unfold srt
  rw [List.foldl_append]
  rfl
theorem srt_one (x : α) : srt key [x] = [x] := by
  have := srt_snoc key [] x
  rw [srt_nil, mrg_nil_left] at this
  exact this
theorem snoc_ind {P : List α → Prop} (h0 : P []) (h1 : ∀ M x, P M → P (M ++ [x])) (M : List α) : P M := by
  have h : ∀ N : List α, P N.reverse := by
    intro N
    induction N with
    | nil => exact h0
    | cons x N ih => rw [List.reverse_cons]; exact h1 _ _ ih
  have := h M.reverse
  rwa [List.reverse_reverse] at this
theorem srt_app (A B : List α) : srt key (A ++ B) = mrg key (srt key A) (srt key B) := by
  refine snoc_ind (P := fun B => srt key (A ++ B) = mrg key (srt key A) (srt key B)) ?_ (fun M x ih => ?_) B
  · rw [List.append_nil, srt_nil, mrg_nil_right]
  · rw [← List.append_assoc, srt_snoc, ih, srt_snoc, mrg_assoc]
theorem srt_sorted (M : List α) : sorted key (srt key M) := by
  refine snoc_ind (P := fun M => sorted key (srt key M)) ?_ (fun M x ih => ?_) M
  · exact List.Pairwise.nil
  · rw [srt_snoc]
    exact mrg_sorted key _ _ ih (List.pairwise_singleton _ _)
theorem srt_perm (M : List α) : (srt key M).Perm M := by
  refine snoc_ind (P := fun M => (srt key M).Perm M) ?_ (fun M x ih => ?_) M
  · exact List.Perm.refl _
  · rw [srt_snoc]
    exact (mrg_perm key _ _).trans (ih.append_right _)
theorem srt_len (M : List α) : (srt key M).length = M.length := (srt_perm key M).length_eq
/-- where a place is found from behind -/
theorem srt_put (M : List α) (x : α) (p : Nat) (hp : p ≤ (srt key M).length) (h1 : ∀ y ∈ (srt key M).drop p, key x < key y) (h2 : ∀ h : 0 < p, key ((srt key M)[p - 1]'(by omega)) ≤ key x) : srt key (M ++ [x]) = (srt key M).take p ++ x :: (srt key M).drop p := by
  rw [srt_snoc]
  refine mrg_one key x _ p h1 (fun y hy => ?_) hp
  obtain ⟨j, hj, rfl⟩ := List.getElem_of_mem hy
  rw [List.length_take] at hj
  rw [List.getElem_take]
  have h3 := h2 (by omega)
  rcases Nat.lt_or_ge j (p - 1) with q | q
  · have := List.pairwise_iff_getElem.1 (srt_sorted key M) j (p - 1) (by omega) (by omega) q
    omega
  · have : j = p - 1 := by omega
    subst this
    exact h3
end
/-! ### one element on its way to the left -/
def insJ {α : Type} (L : List α) (i j : Nat) (x : α) : List α := L.take j ++ x :: ((L.drop j).take (i - j) ++ L.drop (i + 1))
section
variable {α : Type} {L : List α} {i : Nat} {x : α}
theorem insJ_len {j : Nat} (hi : i < L.length) (hj : j ≤ i) : (insJ L i j x).length = L.length := by simp [insJ]; omega
theorem insJ_at {j : Nat} (hi : i < L.length) (hj : j ≤ i) (m : Nat) : (insJ L i j x)[m]? = if m < j then L[m]? else if m = j then some x else if m ≤ i then L[m - 1]? else L[m]? := by
  unfold insJ
  by_cases h1 : m < j
  · rw [if_pos h1, List.getElem?_append_left (by simp; omega), List.getElem?_take, if_pos h1]
  · rw [if_neg h1, List.getElem?_append_right (by simp; omega)]
    have e : (L.take j).length = j := by simp; omega
    rw [e]
    by_cases h2 : m = j
    · subst h2
      simp
    · rw [if_neg h2, show m - j = (m - j - 1) + 1 by omega, List.getElem?_cons_succ]
      by_cases h3 : m ≤ i
      · rw [if_pos h3, List.getElem?_append_left (by simp; omega), List.getElem?_take, if_pos (by omega), List.getElem?_drop]
        congr 1
        omega
      · rw [if_neg h3, List.getElem?_append_right (by simp; omega), List.getElem?_drop]
        congr 1
        simp
        omega
theorem insJ_start (hi : i < L.length) (hx : L[i] = x) : insJ L i i x = L := by
  apply List.ext_getElem?
  intro m
  rw [insJ_at hi (Nat.le_refl _)]
  split
  · rfl
  · split
    · next h => subst h; rw [List.getElem?_eq_getElem hi, hx]
    · split
      · omega
      · rfl
theorem insJ_step {j : Nat} (hi : i < L.length) (hj : j + 1 ≤ i) : ((insJ L i (j + 1) x).set (j + 1) (L[j]'(by omega))).set j x = insJ L i j x := by
  apply List.ext_getElem?
  intro m
  rw [insJ_at hi (by omega)]
  by_cases h1 : m = j
  · subst h1
    rw [List.getElem?_set_self (by simp [insJ_len hi hj]; omega), if_neg (by omega), if_pos rfl]
  · rw [List.getElem?_set_ne (by omega)]
    by_cases h2 : m = j + 1
    · subst h2
      rw [List.getElem?_set_self (by simp [insJ_len hi hj]; omega), if_neg (by omega), if_neg (by omega), if_pos (by omega)]
      exact (List.getElem?_eq_getElem _).symm
    · rw [List.getElem?_set_ne (by omega), insJ_at hi hj]
      by_cases h3 : m < j
      · rw [if_pos (by omega), if_pos h3]
      · rw [if_neg (by omega), if_neg h2, if_neg h3, if_neg h1]
end
end Go.Proofs.Ytlgcehdklpbknaa
