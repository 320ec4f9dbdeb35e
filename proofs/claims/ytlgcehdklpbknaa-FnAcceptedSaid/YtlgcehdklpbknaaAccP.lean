/- FnAccepted: the plain law. All hires of an item are accepted just if there is no lack. No condition. -/
import Derived.Test.YtlgcehdklpbknaaMost
import Derived.Test.YtlgcehdklpbknaaOut
namespace Go.Proofs.Ytlgcehdklpbknaa
open Go Go.RowKit Go.ChangeShapes Go.WideShapes
set_option linter.unusedSimpArgs false
set_option linter.unusedVariables false
/-- hires that are out on a day -/
def cntH (P : List THire) (d : Int) : Nat := (P.filter fun x => decide (x.2.1 ≤ d) && decide (d < x.2.2)).length
/-- pieces that are out behind a day -/
def busy (F : List Int) (t : Int) : Nat := (F.filter fun y => decide (t < y)).length
theorem cntH_snoc (P : List THire) (x : THire) (d : Int) : cntH (P ++ [x]) d = cntH P d + if x.2.1 ≤ d ∧ d < x.2.2 then 1 else 0 := by
  unfold cntH
  rw [List.filter_append, List.length_append]
  congr 1
  by_cases q : x.2.1 ≤ d ∧ d < x.2.2
  · rw [if_pos q]; simp [q.1, q.2]
  · rw [if_neg q]
    have : (decide (x.2.1 ≤ d) && decide (d < x.2.2)) = false := by
      rw [Bool.and_eq_false_iff]
      by_cases h : x.2.1 ≤ d
      · exact .inr (by simp; omega)
      · exact .inl (by simpa using h)
    simp [this]
theorem busy_le (F : List Int) (t : Int) : busy F t ≤ F.length := List.length_filter_le _ _
theorem busy_set {F : List Int} {k : Nat} (hk : k < F.length) (v t : Int) : busy (F.set k v) t + (if t < F[k] then 1 else 0) = busy F t + (if t < v then 1 else 0) := by
  have e1 : F.set k v = F.take k ++ v :: F.drop (k + 1) := by rw [List.set_eq_take_append_cons_drop, if_pos hk]
  have e2 : F = F.take k ++ F[k] :: F.drop (k + 1) := by rw [← List.drop_eq_getElem_cons hk, List.take_append_drop]
  have e3 : busy F t = busy (F.take k) t + ((if t < F[k] then 1 else 0) + busy (F.drop (k + 1)) t) := by
    conv => lhs; rw [e2]
    unfold busy
    rw [List.filter_append, List.length_append, List.filter_cons]
    congr 1
    by_cases q : t < F[k]
    · simp [q]; omega
    · simp [q]
  rw [e1, e3]
  unfold busy
  rw [List.filter_append, List.length_append, List.filter_cons]
  by_cases q : t < v
  · simp [q]; omega
  · simp [q]; omega
theorem bestA_is (F : List Int) (fr : Int) : ∀ n, n ≤ F.length → (0 ≤ bestA F fr n → ∃ k, ∃ hk : k < F.length, bestA F fr n = (k : Int) ∧ k < n ∧ F[k] ≤ fr ∧ ∀ j (hj : j < F.length), j < n → F[j] ≤ fr → F[j] ≤ F[k]) ∧ (bestA F fr n < 0 → ∀ j (hj : j < F.length), j < n → fr < F[j]) := by
  intro n
  induction n with
  | zero => intro _; exact ⟨fun h => absurd h (by simp [bestA]), fun _ j hj h => absurd h (by omega)⟩
  | succ n ih =>
    intro hn
    have hnl : n < F.length := by omega
    obtain ⟨ih1, ih2⟩ := ih (by omega)
    have hg : F.getD n 0 = F[n] := by rw [List.getD_eq_getElem?_getD, List.getElem?_eq_getElem hnl]; rfl
    unfold bestA
    rw [hg]
    by_cases hb : 0 ≤ bestA F fr n
    · obtain ⟨k, hk, e, hkn, h1, h2⟩ := ih1 hb
      have hgk : F.getD (bestA F fr n).toNat 0 = F[k] := by rw [e, Int.toNat_natCast, List.getD_eq_getElem?_getD, List.getElem?_eq_getElem hk]; rfl
      rw [hgk]
      by_cases c : F[n] ≤ fr ∧ (bestA F fr n < 0 ∨ F[k] < F[n])
      · rw [if_pos c]
        refine ⟨fun _ => ⟨n, hnl, rfl, by omega, c.1, fun j hj hjn hf => ?_⟩, fun h => absurd h (by omega)⟩
        rcases Nat.lt_or_eq_of_le (Nat.le_of_lt_succ hjn) with q | q
        · have := h2 j hj q hf
          rcases c.2 with c2 | c2 <;> omega
        · subst q; exact Int.le_refl _
      · rw [if_neg c]
        refine ⟨fun _ => ⟨k, hk, e, by omega, h1, fun j hj hjn hf => ?_⟩, fun h => absurd h (by omega)⟩
        rcases Nat.lt_or_eq_of_le (Nat.le_of_lt_succ hjn) with q | q
        · exact h2 j hj q hf
        · subst q
          by_cases c2 : F[k] < F[j]
          · exact absurd ⟨hf, .inr c2⟩ c
          · omega
    · have hb' : bestA F fr n < 0 := by omega
      have h3 := ih2 hb'
      by_cases c : F[n] ≤ fr
      · rw [if_pos ⟨c, .inl hb'⟩]
        refine ⟨fun _ => ⟨n, hnl, rfl, by omega, c, fun j hj hjn hf => ?_⟩, fun h => absurd h (by omega)⟩
        rcases Nat.lt_or_eq_of_le (Nat.le_of_lt_succ hjn) with q | q
        · have := h3 j hj q; omega
        · subst q; exact Int.le_refl _
      · rw [if_neg (by rintro ⟨h, -⟩; exact c h)]
        refine ⟨fun h => absurd h hb, fun _ j hj hjn => ?_⟩
        rcases Nat.lt_or_eq_of_le (Nat.le_of_lt_succ hjn) with q | q
        · exact h3 j hj q
        · subst q; omega
/-- one hire more -/
theorem stepA_is (F : List Int) (c : Int) (x : THire) : (∃ k, ∃ hk : k < F.length, stepA (F, c) x = (F.set k x.2.2, c + 1) ∧ F[k] ≤ x.2.1 ∧ ∀ j (hj : j < F.length), F[j] ≤ x.2.1 → F[j] ≤ F[k]) ∨ (stepA (F, c) x = (F, c) ∧ ∀ j (hj : j < F.length), x.2.1 < F[j]) := by
  obtain ⟨h1, h2⟩ := bestA_is F x.2.1 F.length (Nat.le_refl _)
  by_cases hb : 0 ≤ bestA F x.2.1 F.length
  · obtain ⟨k, hk, e, -, h3, h4⟩ := h1 hb
    refine .inl ⟨k, hk, ?_, h3, fun j hj hf => h4 j hj hj hf⟩
    unfold stepA
    dsimp only
    rw [if_pos hb, e, Int.toNat_natCast]
  · refine .inr ⟨?_, fun j hj => h2 (by omega) j hj hj⟩
    unfold stepA
    dsimp only
    rw [if_neg hb]
/-- what is out is on pieces of their own -/
theorem out_step {P : List THire} {F : List Int} {x : THire} {k : Nat} (hx : x.2.1 < x.2.2) (hk : k < F.length) (hf : F[k] ≤ x.2.1) (h : ∀ d, cntH P d ≤ busy F d) (d : Int) : cntH (P ++ [x]) d ≤ busy (F.set k x.2.2) d := by
  have h1 := h d
  have h2 := busy_set hk x.2.2 d
  rw [cntH_snoc]
  split
  · next c => rw [if_neg (by omega), if_pos c.2] at h2; omega
  · next c =>
    by_cases q : d < F[k]
    · rw [if_pos q, if_pos (by omega)] at h2; omega
    · rw [if_neg q] at h2
      split at h2 <;> omega
/-- behind each day there is one on which as many are out as pieces are out behind it -/
theorem day_step {P : List THire} {F : List Int} {x : THire} {k : Nat} (hx0 : 0 ≤ x.2.1) (hx : x.2.1 < x.2.2) (hP : ∀ y ∈ P, y.2.2 ≤ x.2.2) (hk : k < F.length) (hf : F[k] ≤ x.2.1) (hbest : ∀ j (hj : j < F.length), F[j] ≤ x.2.1 → F[j] ≤ F[k]) (h : ∀ t, 0 ≤ t → ∃ d, t ≤ d ∧ busy F t ≤ cntH P d) (t : Int) (ht : 0 ≤ t) : ∃ d, t ≤ d ∧ busy (F.set k x.2.2) t ≤ cntH (P ++ [x]) d := by
  have zero : ∀ d, x.2.2 ≤ d → cntH P d = 0 := fun d hd => by
    unfold cntH
    rw [List.length_eq_zero_iff, List.filter_eq_nil_iff]
    intro y hy
    have := hP y hy
    simp
    omega
  have mid : ∀ t, x.2.1 ≤ t → t < x.2.2 → ∃ d, t ≤ d ∧ busy F t + 1 ≤ cntH (P ++ [x]) d := fun t h1 h2 => by
    obtain ⟨d, hd, hc⟩ := h t (by omega)
    by_cases q : d < x.2.2
    · refine ⟨d, hd, ?_⟩
      rw [cntH_snoc, if_pos ⟨by omega, q⟩]
      omega
    · have := zero d (by omega)
      refine ⟨t, Int.le_refl _, ?_⟩
      rw [cntH_snoc, if_pos ⟨h1, h2⟩]
      omega
  have hs := busy_set hk x.2.2 t
  rcases Int.lt_or_le t x.2.1 with q | q
  · rw [if_pos (show t < x.2.2 by omega)] at hs
    by_cases c : t < F[k]
    · rw [if_pos c] at hs
      obtain ⟨d, hd, hc⟩ := h t ht
      refine ⟨d, hd, ?_⟩
      rw [cntH_snoc]
      split <;> omega
    · rw [if_neg c] at hs
      have e : busy F t = busy F x.2.1 := by
        unfold busy
        congr 1
        refine List.filter_congr fun y hy => ?_
        obtain ⟨j, hj, rfl⟩ := List.getElem_of_mem hy
        by_cases g : F[j] ≤ x.2.1
        · have := hbest j hj g
          rw [decide_eq_decide]
          omega
        · rw [decide_eq_decide]
          omega
      obtain ⟨d, hd, hc⟩ := mid x.2.1 (Int.le_refl _) hx
      exact ⟨d, by omega, by omega⟩
  · rw [if_neg (show ¬ t < F[k] by omega)] at hs
    by_cases c : t < x.2.2
    · rw [if_pos c] at hs
      obtain ⟨d, hd, hc⟩ := mid t q c
      exact ⟨d, hd, by omega⟩
    · rw [if_neg c] at hs
      obtain ⟨d, hd, hc⟩ := h t ht
      refine ⟨d, hd, ?_⟩
      rw [cntH_snoc]
      split <;> omega
theorem filter_le {α : Type} {p q : α → Bool} : ∀ (L : List α), (∀ x ∈ L, p x = true → q x = true) → (L.filter p).length ≤ (L.filter q).length
  | [], _ => Nat.le_refl _
  | x :: L, h => by
    have ih := filter_le L fun y hy => h y (List.mem_cons_of_mem _ hy)
    rw [List.filter_cons, List.filter_cons]
    by_cases hp : p x = true
    · rw [if_pos hp, if_pos (h x (List.mem_cons_self ..) hp)]
      simpa using ih
    · rw [if_neg hp]
      split
      · simp; omega
      · exact ih
theorem cntH_take (M : List THire) (k : Nat) (d : Int) : cntH (M.take k) d ≤ cntH M d := by
  unfold cntH
  exact ((List.take_sublist k M).filter _).length_le
section
variable {m : Nat} {M : List THire} (hg : ∀ x ∈ M, 0 ≤ x.2.1 ∧ x.2.1 < x.2.2) (hs : sorted keyTo M)
include hg hs
theorem acc_pre (k : Nat) (hk : k ≤ M.length) (hn : (accA m (M.take k)).2 = k) : (∀ d, cntH (M.take k) d ≤ busy (accA m (M.take k)).1 d) ∧ ∀ t, 0 ≤ t → ∃ d, t ≤ d ∧ busy (accA m (M.take k)).1 t ≤ cntH (M.take k) d := by
  induction k with
  | zero =>
    refine ⟨fun d => by simp [cntH], fun t ht => ⟨t, Int.le_refl _, ?_⟩⟩
    have : busy (accA m (M.take 0)).1 t = 0 := by
      unfold busy accA
      rw [List.length_eq_zero_iff, List.filter_eq_nil_iff]
      intro y hy
      have := List.eq_of_mem_replicate (show y ∈ List.replicate m 0 from hy)
      subst this
      simp; omega
    omega
  | succ k ih =>
    have hkl : k < M.length := hk
    have hb := accA_bd m M k (by omega)
    rw [accA_snoc m M hkl] at hn ⊢
    have ih' := ih (by omega)
    obtain ⟨g1, g2⟩ := hg M[k] (List.getElem_mem hkl)
    have hP : ∀ y ∈ M.take k, y.2.2 ≤ M[k].2.2 := fun y hy => by
      obtain ⟨t, ht, htk, rfl⟩ := take_mem hy
      exact List.pairwise_iff_getElem.1 hs t k ht hkl htk
    rw [List.take_succ_eq_append_getElem hkl]
    generalize accA m (M.take k) = st at hn hb ih' ⊢
    obtain ⟨F, c⟩ := st
    dsimp only at hb ih'
    rcases stepA_is F c M[k] with ⟨j, hj, e, hf, hbest⟩ | ⟨e, -⟩
    · rw [e] at hn ⊢
      dsimp only at hn ⊢
      obtain ⟨i1, i2⟩ := ih' (by omega)
      exact ⟨out_step g2 hj hf i1, day_step g1 g2 hP hj hf hbest i2⟩
    · rw [e] at hn
      dsimp only at hn
      omega
theorem acc_le (h : (accA m M).2 = M.length) (d : Int) : cntH M d ≤ m := by
  have h1 := (acc_pre (m := m) hg hs M.length (Nat.le_refl _) (by rw [List.take_length]; exact h)).1 d
  have h2 := (accA_bd m M M.length (Nat.le_refl _)).1
  rw [List.take_length] at h1 h2
  have := busy_le (accA m M).1 d
  omega
theorem acc_eq (h : ∀ d, cntH M d ≤ m) : (accA m M).2 = M.length := by
  have key : ∀ k, k ≤ M.length → (accA m (M.take k)).2 = k := by
    intro k
    induction k with
    | zero => intro _; rfl
    | succ k ih =>
      intro hk
      have hkl : k < M.length := hk
      have hn := ih (by omega)
      have hb := accA_bd m M k (by omega)
      obtain ⟨-, i2⟩ := acc_pre (m := m) hg hs k (by omega) hn
      obtain ⟨g1, g2⟩ := hg M[k] (List.getElem_mem hkl)
      have hP : ∀ y ∈ M.take k, y.2.2 ≤ M[k].2.2 := fun y hy => by
        obtain ⟨t, ht, htk, rfl⟩ := take_mem hy
        exact List.pairwise_iff_getElem.1 hs t k ht hkl htk
      have hc := fun d => cntH_snoc (M.take k) M[k] d
      have hm := fun d => Nat.le_trans (cntH_take M (k + 1) d) (h d)
      rw [accA_snoc m M hkl]
      rw [List.take_succ_eq_append_getElem hkl] at hm
      generalize accA m (M.take k) = st at hn hb i2 ⊢
      obtain ⟨F, c⟩ := st
      dsimp only at hb i2 hn
      rcases stepA_is F c M[k] with ⟨j, hj, e, hf, hbest⟩ | ⟨e, hall⟩
      · rw [e]
        dsimp only
        omega
      · exfalso
        have hbz : busy F M[k].2.1 = m := by
          unfold busy
          rw [List.filter_eq_self.2 (fun y hy => by
            obtain ⟨j, hj, rfl⟩ := List.getElem_of_mem hy
            simpa using hall j hj)]
          exact hb.1
        obtain ⟨d, hd, hcd⟩ := i2 M[k].2.1 g1
        by_cases q : d < M[k].2.2
        · have h1 := hm d
          rw [hc d, if_pos ⟨hd, q⟩] at h1
          omega
        · have hz : cntH (M.take k) d = 0 := by
            unfold cntH
            rw [List.length_eq_zero_iff, List.filter_eq_nil_iff]
            intro y hy
            have := hP y hy
            simp
            omega
          have h1 := hm M[k].2.1
          rw [hc, if_pos ⟨Int.le_refl _, g2⟩] at h1
          omega
  have := key M.length (Nat.le_refl _)
  rwa [List.take_length] at this
end
theorem cntH_perm {A B : List THire} (h : A.Perm B) (d : Int) : cntH A d = cntH B d := (h.filter _).length_eq
theorem cnt_out (L : List THire) (item d : Int) : (cntH (ownH L item) d : Int) = outOn L item d := by
  unfold cntH ownH outOn
  rw [List.filter_filter]
  congr 2
  refine List.filter_congr fun x _ => ?_
  unfold outP
  rw [Bool.and_comm]
  congr 1
  first | (simp [bne]; done) | rfl
theorem max_from : ∀ (A : List THire), A ≠ [] → ∃ x ∈ A, ∀ y ∈ A, y.2.1 ≤ x.2.1
  | [], h => absurd rfl h
  | x :: A, _ => by
    rcases A with _ | ⟨z, A⟩
    · exact ⟨x, by simp, fun y hy => by rw [List.mem_singleton.1 hy]; exact Int.le_refl _⟩
    · obtain ⟨y, hy, h⟩ := max_from (z :: A) (by simp)
      by_cases q : y.2.1 ≤ x.2.1
      · refine ⟨x, by simp, fun u hu => ?_⟩
        rcases List.mem_cons.1 hu with rfl | hu
        · exact Int.le_refl _
        · exact Int.le_trans (h u hu) q
      · refine ⟨y, List.mem_cons_of_mem _ hy, fun u hu => ?_⟩
        rcases List.mem_cons.1 hu with rfl | hu
        · omega
        · exact h u hu
theorem mostGo_ge (L : List THire) (item : Int) : ∀ k, k ≤ L.length → 0 ≤ mostGo L item (L.take k) ∧ ∀ t (ht : t < L.length), t < k → outOn L item L[t].2.1 ≤ mostGo L item (L.take k) := by
  intro k
  induction k with
  | zero => intro _; exact ⟨by simp [mostGo], fun t ht h => absurd h (by omega)⟩
  | succ k ih =>
    intro hk
    obtain ⟨i1, i2⟩ := ih (by omega)
    rw [mostGo_snoc L item L k hk]
    refine ⟨by split <;> omega, fun t ht htk => ?_⟩
    rcases Nat.lt_or_eq_of_le (Nat.le_of_lt_succ htk) with q | q
    · have := i2 t ht q
      split <;> omega
    · subst q
      split <;> omega
theorem mostGo_le (L : List THire) (item m : Int) (hm : 0 ≤ m) (h : ∀ d, outOn L item d ≤ m) : ∀ k, k ≤ L.length → mostGo L item (L.take k) ≤ m := by
  intro k
  induction k with
  | zero => intro _; simpa [mostGo] using hm
  | succ k ih =>
    intro hk
    have := ih (by omega)
    rw [mostGo_snoc L item L k hk]
    have := h L[k].2.1
    split <;> omega
theorem out_most (L : List THire) (item d : Int) : outOn L item d ≤ mostGo L item L := by
  obtain ⟨h0, h1⟩ := mostGo_ge L item L.length (Nat.le_refl _)
  rw [List.take_length] at h0 h1
  by_cases q : L.filter (outP item d) = []
  · unfold outOn
    rw [q]
    simpa using h0
  · obtain ⟨x, hx, hmax⟩ := max_from _ q
    have hxm := (List.mem_filter.1 hx).1
    have hxo := (List.mem_filter.1 hx).2
    obtain ⟨t, ht, rfl⟩ := List.getElem_of_mem hxm
    refine Int.le_trans ?_ (h1 t ht ht)
    unfold outOn
    refine Int.ofNat_le.2 (filter_le L fun y hy hp => ?_)
    have h2 := hmax y (List.mem_filter.2 ⟨hy, hp⟩)
    unfold outP at hp hxo ⊢
    simp only [Bool.and_eq_true, decide_eq_true_eq] at hp hxo ⊢
    exact ⟨hp.1, h2, by omega⟩
/-- all hires of an item are accepted just if there is no lack -/
theorem acc_law {L : List THire} (hgood : Good L) (item : Int) (m : Nat) : (0 ≤ (accA m (srt keyTo (ownH L item))).2 ∧ (accA m (srt keyTo (ownH L item))).2 ≤ ((ownH L item).length : Int)) ∧ ((accA m (srt keyTo (ownH L item))).2 = ((ownH L item).length : Int) ↔ mostGo L item L ≤ (m : Int)) := by
  have hl := srt_len keyTo (ownH L item)
  have hb := accA_bd m (srt keyTo (ownH L item)) _ (Nat.le_refl _)
  rw [List.take_length, hl] at hb
  have hg : ∀ x ∈ srt keyTo (ownH L item), 0 ≤ x.2.1 ∧ x.2.1 < x.2.2 := fun x hx => by
    have h1 := (srt_perm keyTo (ownH L item)).mem_iff.1 hx
    have h2 := hgood x (List.mem_filter.1 h1).1
    exact ⟨h2.1, h2.2.1⟩
  have hs := srt_sorted keyTo (ownH L item)
  refine ⟨⟨hb.2.1, hb.2.2⟩, fun h => ?_, fun h => ?_⟩
  · have h1 := acc_le hg hs (by rw [hl]; exact h)
    have := mostGo_le L item m (by omega) (fun d => by
      rw [← cnt_out, ← cntH_perm (srt_perm keyTo (ownH L item)) d]
      exact Int.ofNat_le.2 (h1 d)) L.length (Nat.le_refl _)
    rwa [List.take_length] at this
  · rw [← hl]
    refine acc_eq hg hs fun d => ?_
    rw [cntH_perm (srt_perm keyTo (ownH L item)) d]
    have h1 := out_most L item d
    rw [← cnt_out] at h1
    omega
/-! ### the days of all hires -/
theorem sum_set {F : List Int} {k : Nat} (hk : k < F.length) (v : Int) : (F.set k v).sum = F.sum - F[k] + v := by
  have e1 : F.set k v = F.take k ++ v :: F.drop (k + 1) := by rw [List.set_eq_take_append_cons_drop, if_pos hk]
  have e2 : F = F.take k ++ F[k] :: F.drop (k + 1) := by rw [← List.drop_eq_getElem_cons hk, List.take_append_drop]
  have e3 : F.sum = (F.take k).sum + (F[k] + (F.drop (k + 1)).sum) := by
    conv => lhs; rw [e2]
    rw [List.sum_append, List.sum_cons]
  rw [e1, List.sum_append, List.sum_cons, e3]
  omega
theorem sum_nonneg : ∀ (F : List Int), (∀ x ∈ F, 0 ≤ x) → 0 ≤ F.sum
  | [], _ => by simp
  | x :: F, h => by
    have := sum_nonneg F fun y hy => h y (by simp [hy])
    have := h x (by simp)
    rw [List.sum_cons]
    omega
theorem el_le_sum : ∀ (F : List Int), (∀ x ∈ F, 0 ≤ x) → ∀ k (hk : k < F.length), F[k] ≤ F.sum
  | [], _, k, hk => absurd hk (by simp)
  | x :: F, h, k, hk => by
    have h1 := sum_nonneg F fun y hy => h y (by simp [hy])
    have h2 := h x (by simp)
    rw [List.sum_cons]
    rcases k with _ | k
    · simp; omega
    · have := el_le_sum F (fun y hy => h y (by simp [hy])) k (by simpa using hk)
      simp only [List.getElem_cons_succ]
      omega
theorem wrap_sumA (l : List Int) (s : Int) (h0 : ∀ x ∈ l, 0 ≤ x) (hs : 0 ≤ s) (hb : s + l.sum ≤ 4611686018427387904) : l.foldl (fun s x => wrap64 (s + x)) s = s + l.sum := by
  induction l generalizing s with
  | nil => simp
  | cons x l ih =>
    have hx := h0 x (List.mem_cons_self)
    have hl : ∀ y ∈ l, 0 ≤ y := fun y hy => h0 y (List.mem_cons_of_mem _ hy)
    have hl0 : 0 ≤ l.sum := sum_nonneg l hl
    rw [List.sum_cons] at hb ⊢
    show l.foldl (fun s x => wrap64 (s + x)) (wrap64 (s + x)) = _
    rw [IntWalk.wrap64_in _ ⟨by omega, by omega⟩, ih (s + x) hl (by omega) (by omega)]
    omega
theorem sumI_sumA (l : List Int) (h0 : ∀ x ∈ l, 0 ≤ x) (hb : l.sum ≤ 4611686018427387904) : sumI l = l.sum := by
  have := wrap_sumA l 0 h0 (by omega) (by omega)
  unfold sumI
  rw [this]
  omega
def totD (L : List THire) (k : Nat) : Int := ((L.take k).map fun x => x.2.2 - x.2.1).sum
theorem totD_succ {L : List THire} {k : Nat} (hk : k < L.length) : totD L (k + 1) = totD L k + (L[k].2.2 - L[k].2.1) := by
  unfold totD
  rw [List.take_succ_eq_append_getElem hk, List.map_append, List.sum_append]
  simp
theorem totD_bd {L : List THire} (hg : Good L) (k : Nat) (hk : k ≤ L.length) : 0 ≤ totD L k ∧ totD L k ≤ 10000 * k := by
  induction k with
  | zero => simp [totD]
  | succ k ih =>
    have := ih (by omega)
    have := hg L[k] (List.getElem_mem hk)
    rw [totD_succ hk]
    omega
theorem days_sum {S : List Int} {L : List THire} (ok : okHires S L = true) (k : Nat) (hk : k ≤ L.length) : (∀ x ∈ daysTo S L k, 0 ≤ x) ∧ (daysTo S L k).sum = totD L k := by
  have hg := good_of ok
  have h40 := (okHires_stock ok).2.2.2
  induction k with
  | zero =>
    refine ⟨fun x hx => ?_, ?_⟩
    · have := List.eq_of_mem_replicate (show x ∈ List.replicate S.length 0 from hx)
      omega
    · show (List.replicate S.length (0 : Int)).sum = _
      simp [totD]
  | succ k ih =>
    have hkl : k < L.length := hk
    obtain ⟨i1, i2⟩ := ih (by omega)
    have hb := totD_bd hg k (by omega)
    obtain ⟨⟨t0, t1⟩, u0, u1, u2⟩ := isHireB_bd (okHires_el ok L[k] (List.getElem_mem hkl))
    have hl := daysTo_len S L k
    rw [daysTo_snoc S L k hkl, totD_succ hkl]
    have hm : L[k].1.toNat < (daysTo S L k).length := by rw [hl]; omega
    generalize daysTo S L k = st at i1 i2 hm ⊢
    have h1 := el_le_sum st i1 _ hm
    have h0 := i1 _ (List.getElem_mem hm)
    unfold daysStep
    have hgd : st.getD L[k].1.toNat 0 = st[L[k].1.toNat] := by rw [List.getD_eq_getElem?_getD, List.getElem?_eq_getElem hm]; rfl
    have hw : wrap64 (st[L[k].1.toNat] + (L[k].2.2 - L[k].2.1)) = st[L[k].1.toNat] + (L[k].2.2 - L[k].2.1) := IntWalk.wrap64_in _ (by omega)
    rw [hgd, hw]
    refine ⟨fun x hx => ?_, ?_⟩
    · rcases List.mem_or_eq_of_mem_set hx with hx | rfl
      · exact i1 x hx
      · omega
    · rw [sum_set hm]
      omega
theorem days_law {S : List Int} {L : List THire} (ok : okHires S L = true) : sumI (daysTo S L L.length) = totD L L.length := by
  obtain ⟨h1, h2⟩ := days_sum ok L.length (Nat.le_refl _)
  have hb := totD_bd (good_of ok) L.length (Nat.le_refl _)
  have h40 := (okHires_stock ok).2.2.2
  rw [sumI_sumA _ h1 (by omega), h2]
/-- how many are asked for -/
def askN (L : List THire) (item : Int) (k : Nat) : Int := ((ownH (L.take k) item).length : Nat)
/-! ### what the law asks -/
theorem acc_facts (S : List Int) (L : List THire) (item : Int) : (accR S L item).2 = 0 → okHires S L = true ∧ (0 ≤ item ∧ item ≤ (S.length : Int) - 1) ∧ (0 ≤ (accR S L item).1 ∧ (accR S L item).1 ≤ askN L item L.length) ∧ ((accR S L item).1 = askN L item L.length ↔ (mostR S L item).1 ≤ S.getD item.toNat 0) := by
  intro h
  unfold accR at h ⊢
  unfold mostR
  rcases h1 : okHires S L with _ | _
  · rw [h1] at h; simp at h
  · rcases h2 : inB item 0 ((S.length : Int) - 1) with _ | _
    · rw [h1, h2] at h; simp at h
    · have hb := inB_true h2
      have hs := (okHires_stock h1).1
      have hit : item.toNat < S.length := by omega
      have hy := hs S[item.toNat] (List.getElem_mem hit)
      have hg : S.getD item.toNat 0 = S[item.toNat] := by rw [List.getD_eq_getElem?_getD, List.getElem?_eq_getElem hit]; rfl
      have key := acc_law (good_of h1) item (S.getD item.toNat 0).toNat
      have hm : ((S.getD item.toNat 0).toNat : Int) = S.getD item.toNat 0 := by rw [hg]; omega
      simp only [if_true]
      unfold askN
      rw [List.take_length]
      rw [hm] at key
      exact ⟨trivial, hb, key.1, key.2⟩
theorem day_facts (S : List Int) (L : List THire) : (daysR S L).2 = 0 → okHires S L = true ∧ sumI (daysR S L).1 = totD L L.length := by
  intro h
  unfold daysR at h ⊢
  rcases h1 : okHires S L with _ | _
  · rw [h1] at h; simp at h
  · simp only [if_true]
    exact ⟨trivial, days_law h1⟩
theorem out_facts (S : List Int) (L : List THire) (item day : Int) : (outR S L item day).2 = 0 → (mostR S L item).2 = 0 ∧ (outR S L item day).1 ≤ (mostR S L item).1 := by
  intro h
  unfold outR at h ⊢
  unfold mostR
  rcases h1 : okHires S L with _ | _
  · rw [h1] at h; simp at h
  · rcases h2 : inB item 0 ((S.length : Int) - 1) with _ | _
    · rw [h1, h2] at h; simp at h
    · rcases h3 : inB day 0 10000 with _ | _
      · rw [h1, h2, h3] at h; simp at h
      · simp only [if_true]
        exact ⟨trivial, out_most L item day⟩
theorem askN_succ {L : List THire} {item : Int} {k : Nat} (hk : k < L.length) : askN L item (k + 1) = if (L[k].1 == item) = true then askN L item k + 1 else askN L item k := by
  unfold askN ownH
  rw [List.take_succ_eq_append_getElem hk, List.filter_append, List.length_append]
  by_cases q : L[k].1 = item
  · rw [if_pos (by simpa using q)]
    simp [q]
  · rw [if_neg (by simpa using q)]
    simp [q]
theorem askN_bd (L : List THire) (item : Int) (k : Nat) : 0 ≤ askN L item k ∧ askN L item k ≤ k := by
  unfold askN ownH
  have h1 := List.length_filter_le (fun x : THire => !(x.1 != item)) (L.take k)
  have h2 := List.length_take_le k L
  omega
end Go.Proofs.Ytlgcehdklpbknaa
