/- FnLogs: the plain law. A log gives back its entries; what is cut off is lost from its line on. No condition. -/
import Derived.Test.YtiofpmmbgohnhaaDoorLSumP
namespace Go.Proofs.YtiofpmmbgohnhaaDoor
open Go Go.RowKit Go.ChangeShapes Go.WideShapes
set_option linter.unusedSimpArgs false
set_option linter.unusedVariables false
theorem ba_ext {a b : ByteArray} (h : a.data.toList = b.data.toList) : a = b := by
  obtain ⟨a⟩ := a
  obtain ⟨b⟩ := b
  congr 1
  exact Array.toList_inj.1 h
theorem add_step {l : List TEntry} (h : Fine l) (hl : l.length ≤ 50) {i : Nat} (hi : i < l.length) : addR (logTo l i).1 l[i] = ((logTo l (i + 1)).1, 0) := by
  have hz := logTo_size l h.1 (i + 1) (by omega)
  have e : (logTo l (i + 1)).1 = (logTo l i).1 ++ lineS (stampN (logTo l i).2 (wordsE l[i])) l[i] := by rw [logTo_succ l i hi]; rfl
  unfold addR
  rw [if_pos (lc_fine h hl (by omega)), read_log h (by omega)]
  show addG (logTo l i).1 (l.take i) (logTo l i).2 l[i] = _
  rw [addG_good (h.1 _ (List.getElem_mem hi)) (h.day hi) (by rw [← e]; omega), ← e]
theorem log_take {l : List TEntry} {k : Nat} (hk : k ≤ l.length) : (logTo l k).1.size ≤ (logAll l).size ∧ (logAll l).extract 0 (logTo l k).1.size = (logTo l k).1 := by
  obtain ⟨r, hr⟩ := log_prefix l k (l.length - k)
  rw [show k + (l.length - k) = l.length by omega] at hr
  have e : (logAll l).data.toList = (logTo l k).1.data.toList ++ r := hr
  refine ⟨?_, ba_ext ?_⟩
  · have := congrArg List.length e
    rw [List.length_append, size_list, size_list] at this
    omega
  · rw [Lib.extract_data, e]
    simp only [List.drop_zero, Nat.sub_zero]
    rw [← size_list, List.take_left]
theorem cut_inLog {l : List TEntry} (hf : Fine l) (cut : Nat) : ∀ n, n ≤ l.length → cut ≤ (logTo l n).1.size → ∃ k r, k ≤ n ∧ (logAll l).data.toList.take cut = (logTo l k).1.data.toList ++ r ∧ (10 : UInt8) ∉ r
  | 0, _, hc => by
    have e : (logTo l 0).1 = ByteArray.empty := rfl
    rw [e] at hc
    obtain rfl : cut = 0 := by simpa using hc
    exact ⟨0, [], Nat.le_refl _, by rw [e]; simp, by simp⟩
  | n + 1, hn, hc => by
    by_cases h : cut ≤ (logTo l n).1.size
    · obtain ⟨k, r, h1, h2, h3⟩ := cut_inLog hf cut n (by omega) h
      exact ⟨k, r, by omega, h2, h3⟩
    obtain ⟨r0, hr0⟩ := log_prefix l (n + 1) (l.length - (n + 1))
    rw [show n + 1 + (l.length - (n + 1)) = l.length by omega] at hr0
    have e0 : (logAll l).data.toList = (logTo l (n + 1)).1.data.toList ++ r0 := hr0
    by_cases he : cut = (logTo l (n + 1)).1.size
    · refine ⟨n + 1, [], Nat.le_refl _, ?_, by simp⟩
      rw [e0, he, ← size_list, List.take_left]
      simp
    · have hs := log_split l n (by omega)
      have hb := bare_no10 (logTo_bd l (n + 1)) (hf.1 l[n] (List.getElem_mem (by omega)))
      have hz := congrArg List.length hs
      rw [List.length_append, List.length_append, size_list, size_list] at hz
      simp only [List.length_singleton] at hz
      refine ⟨n, (bareL (logTo l (n + 1)).2 l[n]).take (cut - (logTo l n).1.size), by omega, ?_, fun hm => hb (List.mem_of_mem_take hm)⟩
      rw [e0, hs, List.append_assoc, List.append_assoc, List.take_append, List.take_of_length_le (by rw [size_list]; omega), size_list, List.take_append_of_le_length (by omega)]
/-- all that the law asks of a piece of a log -/
theorem cut_law {l : List TEntry} (h : Fine l) (hl : l.length ≤ 50) {cut : Nat} (hc : cut ≤ (logAll l).size) :
    ((logAll l).extract 0 cut).size = cut ∧ ∃ at_ : Nat, at_ ≤ cut ∧ checkL ((logAll l).extract 0 cut) = ((at_ : Int), 0) ∧ recL ((logAll l).extract 0 cut) = ((logAll l).extract 0 at_, (cut : Int) - at_, 0) ∧ ((logAll l).extract 0 at_).size = at_ ∧
      (entR ((logAll l).extract 0 at_)).2 = 0 ∧ (entR ((logAll l).extract 0 at_)).1.length ≤ l.length := by
  obtain ⟨k, r, h1, h2, h3⟩ := cut_inLog h cut l.length (Nat.le_refl _) hc
  have hs : ((logAll l).extract 0 cut).data.toList = (logTo l k).1.data.toList ++ r := by
    rw [Lib.extract_data]
    simpa using h2
  have hsz : ((logAll l).extract 0 cut).size = cut := by simp; omega
  have hr := read_at h h1 hs h3
  have hz := logAll_size h
  obtain ⟨z1, z2⟩ := log_take h1
  have hle : (logTo l k).1.size ≤ cut := by
    have := congrArg List.length hs
    rw [List.length_append, size_list, size_list, hsz] at this
    omega
  have e : ((logAll l).extract 0 cut).extract 0 (logTo l k).1.size = (logTo l k).1 := by
    apply ba_ext
    rw [Lib.extract_data, hs]
    simp only [List.drop_zero, Nat.sub_zero]
    rw [← size_list, List.take_left]
  refine ⟨hsz, (logTo l k).1.size, hle, ?_, ?_, by rw [z2], ?_, ?_⟩
  · unfold checkL
    rw [hsz, if_pos (by omega), hr]
    rfl
  · unfold recL
    rw [hsz, if_pos (by omega), hr]
    show (((logAll l).extract 0 cut).extract 0 (logTo l k).1.size, (cut : Int) - ((logTo l k).1.size : Nat), (0 : Int)) = _
    rw [e, z2]
  · rw [z2]
    exact lc_fine h hl h1
  · rw [z2]
    show (eL (logTo l k).1).length ≤ _
    rw [eL_good (lc_fine h hl h1), read_log h h1]
    show (l.take k).length ≤ _
    rw [List.length_take]
    omega
theorem ent_fine {l : List TEntry} (h : Fine l) (hl : l.length ≤ 50) : entR (logAll l) = (l, 0) := by
  have hc : lc (logAll l) = 0 := lc_fine h hl (Nat.le_refl _)
  unfold entR
  rw [eL_good hc, read_all h, hc]
end Go.Proofs.YtiofpmmbgohnhaaDoor
