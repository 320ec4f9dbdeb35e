/- FnLogSums: the plain law. Sums over all names are the sum of all numbers. No condition. -/
import Derived.Test.YtiofpmmbgohnhaaDoorLRound
import Derived.Test.YtiofpmmbgohnhaaDoorLVal
import Derived.Test.YtiofpmmbgohnhaaDoorLSum
import Derived.Test.YtiofpmmbgohnhaaDoorLNam
namespace Go.Proofs.YtiofpmmbgohnhaaDoor
open Go Go.RowKit Go.ChangeShapes Go.WideShapes
set_option linter.unusedSimpArgs false
set_option linter.unusedVariables false
theorem wrap_bd (m : Int) : ∀ (l : List Int) (s : Int), (∀ x ∈ l, -m ≤ x ∧ x ≤ m) → 0 ≤ m → -(4611686018427387904) ≤ s - m * l.length → s + m * l.length ≤ 4611686018427387904 → l.foldl (fun s x => wrap64 (s + x)) s = s + l.sum
  | [], s, _, _, _, _ => by simp
  | x :: l, s, h, hm, h1, h2 => by
    have hx := h x List.mem_cons_self
    have hl : (m * ((x :: l).length : Nat) : Int) = m * (l.length : Int) + m := by
      rw [List.length_cons, show ((l.length + 1 : Nat) : Int) = (l.length : Int) + 1 by omega, Int.mul_add, Int.mul_one]
    rw [hl] at h1 h2
    have h0 : 0 ≤ m * (l.length : Int) := Int.mul_nonneg hm (by omega)
    show l.foldl (fun s x => wrap64 (s + x)) (wrap64 (s + x)) = _
    rw [IntWalk.wrap64_in _ ⟨by omega, by omega⟩, wrap_bd m l (s + x) (fun y hy => h y (List.mem_cons_of_mem _ hy)) hm (by omega) (by omega), List.sum_cons]
    omega
theorem sumI_bd' {l : List Int} (h : ∀ x ∈ l, -1000000 ≤ x ∧ x ≤ 1000000) (hl : l.length ≤ 1000) : sumI l = l.sum := by
  have := wrap_bd 1000000 l 0 h (by omega) (by omega) (by omega)
  unfold sumI
  rw [this]
  omega
/-- an entry's numbers of a name -/
def vals (l : List TEntry) (t : ByteArray) : List Int := (l.filter fun x => decide (x.2.1 = t)).map fun x => x.2.2
theorem vals_to (l : List TEntry) (t : ByteArray) : valTo l t l.length = vals l t := by unfold valTo vals; rw [List.take_length]
theorem vals_cons (x : TEntry) (l : List TEntry) (t : ByteArray) : vals (x :: l) t = if x.2.1 = t then x.2.2 :: vals l t else vals l t := by
  unfold vals
  by_cases h : x.2.1 = t
  · simp [h]
  · simp [h]
theorem sumTo_vals {l : List TEntry} {t : ByteArray} (h : ∀ x ∈ l, okEntryB x = true) : ∀ k, k ≤ l.length → sumTo l t 0 100000 k = (valTo l t k).sum
  | 0, _ => rfl
  | k + 1, hk => by
    have ih := sumTo_vals (t := t) h k (by omega)
    rw [sumTo_step (by omega), ih]
    have ho := h l[k] (List.getElem_mem (by omega))
    have hi : inB l[k].1 0 100000 = true := by
      unfold okEntryB at ho
      simp only [Bool.and_eq_true] at ho
      exact ho.1
    by_cases e : l[k].2.1 = t
    · rw [valTo_yes (by omega) e, List.sum_append]
      unfold hitS
      rw [hi, decide_eq_true e]
      simp
    · rw [valTo_no (by omega) e]
      unfold hitS
      rw [hi, decide_eq_false e]
      simp
theorem sum_split {α : Type} (a b : α → Int) : ∀ N : List α, (N.map fun t => a t + b t).sum = (N.map a).sum + (N.map b).sum
  | [] => rfl
  | x :: N => by
    have := sum_split a b N
    simp only [List.map_cons, List.sum_cons]
    omega
theorem sum_zero {w : ByteArray} (v : Int) : ∀ N : List ByteArray, w ∉ N → (N.map fun t => if w = t then v else 0).sum = 0
  | [], _ => rfl
  | x :: N, h => by
    have h1 : w ≠ x := fun e => h (e ▸ List.mem_cons_self)
    have := sum_zero v N fun hm => h (List.mem_cons_of_mem _ hm)
    simp only [List.map_cons, List.sum_cons, if_neg h1]
    omega
theorem sum_one {w : ByteArray} (v : Int) : ∀ N : List ByteArray, N.Nodup → w ∈ N → (N.map fun t => if w = t then v else 0).sum = v
  | [], _, h => by cases h
  | x :: N, hn, h => by
    obtain ⟨h1, h2⟩ := List.nodup_cons.1 hn
    simp only [List.map_cons, List.sum_cons]
    by_cases e : w = x
    · subst e
      rw [if_pos rfl, sum_zero v N h1]
      omega
    · rw [if_neg e, sum_one v N h2 (by rcases List.mem_cons.1 h with h | h; exact absurd h e; exact h)]
      omega
theorem all_names {N : List ByteArray} (hn : N.Nodup) : ∀ l : List TEntry, (∀ x ∈ l, x.2.1 ∈ N) → (N.map fun t => (vals l t).sum).sum = (l.map fun x => x.2.2).sum ∧ (N.map fun t => ((vals l t).length : Int)).sum = (l.length : Int)
  | [], _ => by
    have h1 : ∀ N : List ByteArray, (N.map fun t => (vals [] t).sum).sum = 0 ∧ (N.map fun t => ((vals [] t).length : Int)).sum = 0 := by
      intro N
      induction N with
      | nil => exact ⟨rfl, rfl⟩
      | cons x N ih => exact ⟨by simp only [List.map_cons, List.sum_cons, ih.1]; rfl, by simp only [List.map_cons, List.sum_cons, ih.2]; rfl⟩
    exact h1 N
  | x :: l, h => by
    obtain ⟨i1, i2⟩ := all_names hn l fun y hy => h y (List.mem_cons_of_mem _ hy)
    have hx := h x List.mem_cons_self
    have e1 : (fun t => (vals (x :: l) t).sum) = fun t => (if x.2.1 = t then x.2.2 else 0) + (vals l t).sum := funext fun t => by
      rw [vals_cons]; split <;> simp
    have e2 : (fun t => ((vals (x :: l) t).length : Int)) = fun t => (if x.2.1 = t then 1 else 0) + ((vals l t).length : Int) := funext fun t => by
      rw [vals_cons]; split <;> simp; omega
    rw [e1, e2, sum_split, sum_split, sum_one _ N hn hx, sum_one _ N hn hx, i1, i2]
    refine ⟨by simp only [List.map_cons, List.sum_cons], ?_⟩
    rw [List.length_cons]
    omega
theorem nmTo_law (l : List TEntry) : ∀ k, k ≤ l.length → (nmTo l k).Nodup ∧ (∀ x ∈ l.take k, x.2.1 ∈ nmTo l k) ∧ ∀ t ∈ nmTo l k, ∃ x ∈ l, x.2.1 = t
  | 0, _ => ⟨List.nodup_nil, fun x hx => by simp at hx, fun t ht => by simp [nmTo] at ht⟩
  | k + 1, hk => by
    obtain ⟨i1, i2, i3⟩ := nmTo_law l k (by omega)
    rw [nmTo_step (by omega), List.take_succ_eq_append_getElem (by omega)]
    by_cases h : Lib.containsS (nmTo l k) l[k].2.1 = true
    · rw [if_pos h]
      refine ⟨i1, fun x hx => ?_, i3⟩
      rcases List.mem_append.1 hx with hx | hx
      · exact i2 x hx
      · rw [List.mem_singleton.1 hx]
        exact (Lib.containsS_iff _ _).1 h
    · rw [if_neg h]
      have hm : l[k].2.1 ∉ nmTo l k := fun hm => h ((Lib.containsS_iff _ _).2 hm)
      refine ⟨?_, fun x hx => ?_, fun t ht => ?_⟩
      · rw [List.nodup_append]
        exact ⟨i1, by simp, fun a ha b hb => by rw [List.mem_singleton.1 hb]; exact fun e => hm (e ▸ ha)⟩
      · rcases List.mem_append.1 hx with hx | hx
        · exact List.mem_append_left _ (i2 x hx)
        · rw [List.mem_singleton.1 hx]
          exact List.mem_append_right _ (by simp)
      · rcases List.mem_append.1 ht with ht | ht
        · exact i3 t ht
        · rw [List.mem_singleton.1 ht]
          exact ⟨l[k], List.getElem_mem (by omega), rfl⟩
/-- all that the law asks of a fine list -/
theorem sums_law {l : List TEntry} (h : Fine l) (hl : l.length ≤ 50) : namesR (logAll l) = (nmTo l l.length, 0) ∧ (nmTo l l.length).length ≤ l.length ∧ ((nmTo l l.length).length = 0 ↔ l.length = 0) ∧
    (∀ t ∈ nmTo l l.length, sumR (logAll l) t 0 100000 = ((vals l t).sum, 0) ∧ valR (logAll l) t = (vals l t, 0) ∧ 0 < (vals l t).length ∧ (vals l t).length ≤ l.length ∧ sumI (vals l t) = (vals l t).sum ∧ -50000000 ≤ (vals l t).sum ∧ (vals l t).sum ≤ 50000000) ∧
    ((nmTo l l.length).map fun t => (vals l t).sum).sum = (l.map fun x => x.2.2).sum ∧ ((nmTo l l.length).map fun t => ((vals l t).length : Int)).sum = (l.length : Int) := by
  have hc : lc (logAll l) = 0 := lc_fine h hl (Nat.le_refl _)
  have hr : (readL (logAll l)).l = l := by rw [read_all h]
  obtain ⟨n1, n2, n3⟩ := nmTo_law l l.length (Nat.le_refl _)
  rw [List.take_length] at n2
  obtain ⟨a1, a2⟩ := all_names n1 l n2
  refine ⟨by unfold namesR; rw [if_pos hc, hr], nmTo_len l _, ⟨fun e => ?_, fun e => ?_⟩, fun t ht => ?_, a1, a2⟩
  · rcases l with _ | ⟨x, l⟩
    · rfl
    · have := n2 x List.mem_cons_self
      rw [List.eq_nil_of_length_eq_zero e] at this
      cases this
  · have := nmTo_len l l.length
    omega
  · obtain ⟨x, hx, ex⟩ := n3 t ht
    have hn : isNameB t = true := by
      have := h.1 x hx
      unfold okEntryB at this
      simp only [Bool.and_eq_true] at this
      rw [← ex]
      exact this.2.1
    have hw : lw (logAll l) t = 0 := by unfold lw; rw [if_pos hc, if_pos hn]
    have hs : sumTo l t 0 100000 l.length = (vals l t).sum := by rw [sumTo_vals h.1 _ (Nat.le_refl _), vals_to]
    have hlen : (vals l t).length ≤ l.length := by rw [← vals_to]; exact valTo_len l t _
    have hv : ∀ y ∈ vals l t, -1000000 ≤ y ∧ y ≤ 1000000 := fun y hy => by
      unfold vals at hy
      obtain ⟨z, hz, rfl⟩ := List.mem_map.1 hy
      obtain ⟨-, -, b⟩ := okEntryB_bd (a := z.1) (b := z.2.1) (c := z.2.2) (h.1 z ((List.mem_filter.1 hz).1))
      exact b
    have hb := sumTo_bd (t := t) (a := 0) (b := 100000) h.1 l.length (Nat.le_refl _)
    rw [hs] at hb
    refine ⟨?_, by unfold valR; rw [if_pos hw, hr, vals_to], ?_, hlen, sumI_bd' hv (by omega), by omega, by omega⟩
    · rw [sumR_good (lsC_good hw (by decide) (by decide)), hr, hs]
    · unfold vals
      rw [List.length_map]
      exact List.length_pos_of_mem (List.mem_filter.2 ⟨hx, by simp [ex]⟩)
end Go.Proofs.YtiofpmmbgohnhaaDoor
