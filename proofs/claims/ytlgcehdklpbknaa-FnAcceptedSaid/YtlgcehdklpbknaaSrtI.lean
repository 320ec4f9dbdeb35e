/- The library's insertion sort is the stable one: the plain law. No condition. -/
import Derived.Test.YtlgcehdklpbknaaSrt
import Derived.Sort.Defs
namespace Go.Proofs.Ytlgcehdklpbknaa
open Go Go.RowKit
set_option linter.unusedSimpArgs false
set_option linter.unusedVariables false
section
variable {α : Type} [Inhabited α] (key : α → Int)
omit [Inhabited α] in
theorem mrg_snoc_lt (x y : α) (h : key x < key y) : ∀ S : List α, mrg key (S ++ [y]) [x] = mrg key S [x] ++ [y]
  | [] => by rw [List.nil_append, mrg_cons, if_pos h, mrg_nil_right, mrg_nil_left]; rfl
  | z :: S => by
    rw [List.cons_append, mrg_cons, mrg_cons]
    split
    · rw [mrg_nil_right, mrg_nil_right]; rfl
    · rw [mrg_snoc_lt x y h S]; rfl
theorem mid0 (P C : List α) (x y : α) : (P ++ y :: x :: C).toArray[P.length]! = y := by
  rw [getElem!_pos _ _ (by simp)]
  simp
theorem mid1 (P C : List α) (x y : α) : (P ++ y :: x :: C).toArray[P.length + 1]! = x := by
  rw [getElem!_pos _ _ (by simp)]
  simp [List.getElem_append_right]
theorem swp_mid (P C : List α) (x y : α) : Sort.swp (P ++ y :: x :: C).toArray (P.length + 1) P.length = (P ++ x :: y :: C).toArray := by
  have e1 := mid0 P C x y
  have e2 := mid1 P C x y
  unfold Sort.swp
  rw [e1, e2]
  apply Array.toList_inj.1
  simp [List.set_append]
theorem ins_inner (lt : α → α → Bool) (hlt : ∀ x y, lt x y = decide (key x < key y)) (A : List α) (x : α) (S : List α) : sorted key S → ∀ C : List α, Sort.insInner lt A.length (A.length + S.length) (A ++ S ++ x :: C).toArray = (A ++ mrg key S [x] ++ C).toArray := by
  refine snoc_ind (P := fun S => sorted key S → ∀ C : List α, Sort.insInner lt A.length (A.length + S.length) (A ++ S ++ x :: C).toArray = (A ++ mrg key S [x] ++ C).toArray) ?_ (fun S y ih => ?_) S
  · intro _ C
    rw [mrg_nil_left]
    have : ∀ (a : Nat) (d : Array α), Sort.insInner lt a a d = d := by
      intro a d
      cases a with
      | zero => rfl
      | succ a => unfold Sort.insInner; simp
    simp [this]
  · intro hs C
    have hS : sorted key S := (List.pairwise_append.1 hs).1
    have hy : ∀ z ∈ S, key z ≤ key y := fun z hz => (List.pairwise_append.1 hs).2.2 z hz y (by simp)
    have e0 : A.length + (S ++ [y]).length = (A.length + S.length) + 1 := by simp; omega
    have e1 : A ++ (S ++ [y]) ++ x :: C = (A ++ S) ++ y :: x :: C := by simp
    have g1 := mid1 (A ++ S) C x y
    have g2 := mid0 (A ++ S) C x y
    rw [List.length_append] at g1 g2
    rw [e0, e1, Sort.insInner, g1, g2, hlt]
    by_cases h : key x < key y
    · rw [mrg_snoc_lt key x y h]
      have sw := swp_mid (A ++ S) C x y
      rw [List.length_append] at sw
      simp only [h, decide_true, Bool.and_true, gt_iff_lt]
      rw [if_pos (by simp; omega), sw, ih hS (y :: C)]
      simp
    · rw [mrg_one key x (S ++ [y]) (S ++ [y]).length (by simp) (by
        intro z hz
        rw [List.take_length] at hz
        rcases List.mem_append.1 hz with hz | hz
        · have := hy z hz; omega
        · rw [List.mem_singleton.1 hz]; omega) (Nat.le_refl _), List.take_length, List.drop_length]
      simp [h]
theorem ins_outer (lt : α → α → Bool) (hlt : ∀ x y, lt x y = decide (key x < key y)) (A : List α) : ∀ (C M D : List α), Sort.insOuter lt A.length (A.length + M.length + C.length) (A.length + M.length) (A ++ srt key M ++ C ++ D).toArray = (A ++ srt key (M ++ C) ++ D).toArray
  | [], M, D => by
    rw [Sort.insOuter, if_neg (by simp)]
    simp
  | x :: C, M, D => by
    rw [Sort.insOuter, if_pos (by simp)]
    have h1 := ins_inner key lt hlt A x (srt key M) (srt_sorted key M) (C ++ D)
    rw [srt_len] at h1
    have e : A ++ srt key M ++ x :: C ++ D = A ++ srt key M ++ x :: (C ++ D) := by simp
    rw [e, h1, ← srt_snoc]
    have h2 := ins_outer lt hlt A C (M ++ [x]) D
    have e2 : A.length + (M ++ [x]).length + C.length = A.length + M.length + (x :: C).length := by simp; omega
    have e3 : A.length + (M ++ [x]).length = A.length + M.length + 1 := by simp; omega
    rw [e2, e3] at h2
    have e4 : A ++ srt key (M ++ [x]) ++ (C ++ D) = A ++ srt key (M ++ [x]) ++ C ++ D := by simp
    have e5 : M ++ x :: C = M ++ [x] ++ C := by simp
    rw [e4, h2, e5]
/-- the library's insertion sort is the stable one -/
theorem ins_srt (lt : α → α → Bool) (hlt : ∀ x y, lt x y = decide (key x < key y)) (A M D : List α) : Sort.insertionSort lt (A ++ M ++ D).toArray A.length (A.length + M.length) = (A ++ srt key M ++ D).toArray := by
  unfold Sort.insertionSort
  rcases M with _ | ⟨x, M⟩
  · rw [Sort.insOuter, if_neg (by simp)]
    rfl
  · have := ins_outer key lt hlt A M [x] D
    rw [srt_one] at this
    have e : A.length + [x].length + M.length = A.length + (x :: M).length := by simp; omega
    rw [e] at this
    have e2 : A ++ [x] ++ M ++ D = A ++ x :: M ++ D := by simp
    rw [e2] at this
    exact this
end
end Go.Proofs.Ytlgcehdklpbknaa
