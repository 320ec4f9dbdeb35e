/- Lemmas for the claim (the walks of its functions and their plain laws), joined. No condition. -/
import Derived.Test.YtgcodjkjdfahdaaGreatDoorJ22
import Derived.Test.YtgcodjkjdfahdaaGreatDoorJ26
namespace Go.Proofs.YtgcodjkjdfahdaaGreatDoor
open Go Go.RowKit Go.ChangeShapes Go.WideShapes
set_option linter.unusedSimpArgs false
set_option linter.unusedVariables false
theorem shk_step {a b c : World} {bs : List (Option Nat)} (h : TouchL a b bs) (h' : TouchL b c bs) : TouchL a c bs := (h.trans h').mono (by intro x hx; simpa using hx)
def kidsS (l : List TCue) (h : Int) (rest : List TCue) (sh : List Int) (st : TBest) (k : Nat) : TBest := ((List.range k).map fun (k : Nat) => (k : Int)).foldl (fun st b => walkS l h rest (sh ++ [b]) st) st
theorem kidsS_succ (l : List TCue) (h : Int) (rest : List TCue) (sh : List Int) (st : TBest) (k : Nat) : kidsS l h rest sh st (k + 1) = walkS l h rest (sh ++ [(k : Int)]) (kidsS l h rest sh st k) := by
  unfold kidsS
  rw [List.range_succ, List.map_append, List.foldl_append]
  rfl
theorem kidsS_all (l : List TCue) (h : Int) (x : TCue) (rest : List TCue) (sh : List Int) (st : TBest) (k : Nat) (hk : (k : Int) = x.2.2.2 + 1) : kidsS l h rest sh st k = walkS l h (x :: rest) sh st := by
  rw [walkS]
  unfold kidsS rangeI
  rw [← hk, Int.toNat_natCast]
theorem walkS_bd (l : List TCue) (h : Int) (rest : List TCue) : ∀ (sh : List Int) (st : TBest), (∀ x ∈ rest, okC x) → (∀ x ∈ sh, 0 ≤ x ∧ x ≤ 6) → sh.length + rest.length ≤ 6 → (-1 ≤ st.2 ∧ st.2 ≤ 1000) → -1 ≤ (walkS l h rest sh st).2 ∧ (walkS l h rest sh st).2 ≤ 1000 := by
  induction rest with
  | nil =>
    intro sh st _ hs hl hst
    unfold walkS stepS
    split
    · have := sumZ_bd sh hs
      simp only [List.length_nil] at hl
      simp only
      omega
    · exact hst
  | cons x rest ih =>
    intro sh st hok hs hl hst
    unfold walkS
    have hx := hok x (by simp)
    have key : ∀ (m : List Int), (∀ b ∈ m, 0 ≤ b ∧ b ≤ 6) → ∀ st : TBest, (-1 ≤ st.2 ∧ st.2 ≤ 1000) → -1 ≤ (m.foldl (fun st b => walkS l h rest (sh ++ [b]) st) st).2 ∧ (m.foldl (fun st b => walkS l h rest (sh ++ [b]) st) st).2 ≤ 1000 := by
      intro m
      induction m with
      | nil => intro _ st hst; exact hst
      | cons b m ihm =>
        intro hm st hst
        rw [List.foldl_cons]
        refine ihm (fun y hy => hm y (by simp [hy])) _ ?_
        refine ih _ _ (fun y hy => hok y (by simp [hy])) ?_ ?_ hst
        · intro y hy
          rcases List.mem_append.1 hy with h | h
          · exact hs y h
          · rw [List.mem_singleton.1 h]; exact hm b (by simp)
        · simp only [List.length_append, List.length_cons, List.length_nil] at hl ⊢; omega
    refine key _ (fun b hb => ?_) st hst
    have := rangeI_mem hb
    have := hx.2.2.2.2
    omega
theorem kidsS_bd (l : List TCue) (h : Int) (rest : List TCue) (sh : List Int) (st : TBest) (hok : ∀ x ∈ rest, okC x) (hs : ∀ x ∈ sh, 0 ≤ x ∧ x ≤ 6) (hl : sh.length + 1 + rest.length ≤ 6) (hst : -1 ≤ st.2 ∧ st.2 ≤ 1000) : ∀ k, k ≤ 7 → -1 ≤ (kidsS l h rest sh st k).2 ∧ (kidsS l h rest sh st k).2 ≤ 1000
  | 0, _ => hst
  | k + 1, hk => by
    rw [kidsS_succ]
    refine walkS_bd _ _ _ _ _ hok ?_ (by simp only [List.length_append, List.length_cons, List.length_nil]; omega) (kidsS_bd l h rest sh st hok hs hl hst k (by omega))
    intro y hy
    rcases List.mem_append.1 hy with h | h
    · exact hs y h
    · rw [List.mem_singleton.1 h]; omega
set_option maxRecDepth 100000 in
set_option maxHeartbeats 8000000 in
theorem all_shifts (w0 : World) (B N gL gl gh gb : Nat) (vL : Value) (l : List TCue) (h : Int) (hL : Sl w0 4 vL eCue l) (hl : l.length ≤ 6) (hok : ∀ x ∈ l, okC x) (hB1 : w0.heap.size ≤ gl) (hB2 : w0.heap.size ≤ gb) (rest : List TCue) :
    ∀ (pre : List TCue) (W : World) (vs : Value) (sh : List Int) (st : TBest), l = pre ++ rest → sh.length = pre.length → Below w0.heap.size w0 W → BestAt W B N gL gl gh gb vL h st →
      (∀ W', TouchL W W' [some gl, some gb] → Sl W' 1 vs eI sh) → (∀ x ∈ sh, 0 ≤ x ∧ x ≤ 6) → (-1 ≤ st.2 ∧ st.2 ≤ 1000) →
    Calls Tryz.prog 137 #[vL, vs, .func (.func 138) #[] #[.pointer (some ⟨gl, 0, none⟩), .pointer (some ⟨gL, 0, none⟩), .pointer (some ⟨gh, 0, none⟩), .pointer (some ⟨gb, 0, none⟩)]] W fun e W' =>
      e = .returned (.tuple #[]) ∧ BestAt W' B N gL gl gh gb vL h (walkS l h rest sh st) ∧ TouchL W W' [some gl, some gb] := by
  obtain ⟨AL, cL, rfl⟩ := hL.isSlice
  have HOK := hd hok
  have HENT := hd (enters_of Tryz.func138 (by kernel_rfl) rfl)
  obtain ⟨i0, hi, hz0, hz1, hz2⟩ := info_parts info_i64
  clear hok
  induction rest with
  | nil =>
    intro pre W vs sh st hpre hlen hb H hs hsh hst
    obtain ⟨As, cs, rfl⟩ := (hs W (TouchL.refl _ _)).isSlice
    have hll : sh.length = l.length := by rw [hpre, List.append_nil]; exact hlen
    have HW := hd (show walkS l h [] sh st = stepS l h st sh from rfl)
    have HH := hd H
    have HS := hd hs
    have kl : ((sh.length : Int) == (l.length : Int)) = true := by rw [hll]; simp
    have HLL := hd hll
    clear hpre hlen hll H hs
    go_enter Tryz.func137, Tryz.ntmps137
    go_wp2_with fail
    refine (best_step W B N gL gl gh gb _ l h st HH.out (hL.below hb) _ sh (HS.out W (TouchL.refl _ _)) HLL.out hl HOK.out hsh hst).mono ?_
    rintro e w1 ⟨rfl, h1, h2⟩
    have H1 := hd h1
    have H2 := hd h2
    clear h1 h2
    go_wp2_with fail
    refine bodyPost_ret (results_none rfl _ _ _) rfl ?_
    exact ⟨rfl, by rw [HW.out]; exact H1.out, H2.out⟩
  | cons x rest ih =>
    intro pre W vs sh st hpre hlen hb H hs hsh hst
    have HIH := hd ih
    obtain ⟨As, cs, rfl⟩ := (hs W (TouchL.refl _ _)).isSlice
    have hpl : pre.length < l.length := by rw [hpre]; simp
    have hxk : l[pre.length]'hpl = x := by simp [hpre]
    have hsl : sh.length < l.length := by omega
    have hxl : l[sh.length]'hsl = x := by simp [hlen, hpre]
    have hrest : sh.length + 1 + rest.length = l.length := by rw [hpre, List.length_append, List.length_cons]; omega
    have kl : ((sh.length : Int) == (l.length : Int)) = false := by simp; omega
    have hxok := HOK.out x (by rw [hpre]; simp)
    obtain ⟨-, -, -, d1, d2⟩ := hxok
    have HPRE := hd (show l = (pre ++ [x]) ++ rest by rw [hpre]; simp)
    have HLEN := hd hlen
    have HS := hd hs
    have HSH := hd hsh
    have HKB := hd (kidsS_bd l h rest sh st (fun y hy => HOK.out y (by rw [hpre]; simp [hy])) hsh (by omega) hst)
    have HXL := hd hxl
    have BT := hd (show ∀ w' : World, TouchL W w' [some gl, some gb] → Below w0.heap.size w0 w' from fun w' ht => hb.trans (below_touched ht hb.size (fun b hbm g hg => by
      simp only [List.mem_cons, List.mem_nil_iff, or_false] at hbm
      rcases hbm with rfl | rfl
      · injection hg with hg; omega
      · injection hg with hg; omega)))
    have HALL := hd (kidsS_all l h x rest sh st)
    obtain ⟨l1, l2, l3, l4, l5, l6⟩ := H.lt
    have H0 : BestAt W B N gL gl gh gb (.slice AL l.length cL) h (kidsS l h rest sh st 0) := H
    have hs6 : sh.length ≤ 6 := by omega
    clear hpre hlen hs hsh hst ih hb hpl hxk hxl H
    go_enter Tryz.func137, Tryz.ntmps137
    go_wp2_with fail
    go_loopw [6] (fun bv wr => ∃ k : Nat, (k : Int) ≤ x.2.2.2 + 1 ∧ bv = .int .i64 k ∧ BestAt wr B N gL gl gh gb (.slice AL l.length cL) h (kidsS l h rest sh st k) ∧ TouchL W wr [some gl, some gb]) (fun bv _ => 10 - (intOf bv).toNat)
    case atStart => exact ⟨0, by omega, rfl, H0, TouchL.refl _ _⟩
    case round =>
      obtain ⟨k, hk, rfl, hst, htr⟩ := hrel
      clear H0
      have hbr := BT.out wr htr
      obtain ⟨bb, oo, hA, -, -, -, -, p3⟩ := (hL.below hbr).Cue_at hsl
      subst hA
      rw [HXL.out] at p3
      have HST := hd hst
      have HTR := hd htr
      have zr := htr.size
      have HSW := hd (show ∀ W', TouchL wr W' [some gl, some gb] → Sl W' 1 (.slice As sh.length cs) eI sh from fun W' ht => HS.out W' (shk_step HTR.out ht))
      clear hst htr
      by_cases hlt : (k : Int) ≤ x.2.2.2
      · have HSUCC := hd (kidsS_succ l h rest sh st k)
        have hkb := HKB.out k (by omega)
        go_wp2_with fail
        refine (clone_I _ _ sh (HSW.out wr (TouchL.refl _ _)) (by omega)).mono ?_
        rintro e w1 ⟨v1, rfl, O1, B1⟩
        have z1 := B1.size
        obtain ⟨A1, c1, rfl⟩ := O1.isSlice
        go_wp2_with (at_builtin; refine wpList_push_at _ rfl _ _ 56 rfl i0 (.int .i64 0) 8 Tryz.underlying56 hi hz0 hz1 hz2 rfl (by decide) _ _ (k : Int) rfl (O1.alloc _) w1.heap.size rfl #[.int .i64 (k : Int)] 2 (heap_alloc_new _ _) rfl rfl (by intro u hu; simp [eI] at hu; subst hu; rfl) (by unfold maxLen; omega) (by omega) (by simp; omega) ?_)
        intro v2 w2 hown2 hgr2 hat
        have B2 : Below wr.heap.size wr w2 := (B1.alloc B1.size (.cells #[.int .i64 (k : Int)] 2)).grown hgr2 (by simp; omega) (fun g hg => (O1.lt g hg).1)
        have HO2 := hd hown2
        have HAP := hd (show ∀ b ∈ [some gl, some gb], apart v2.ownBlock b from fun b hbm => by
          rcases hv : v2.ownBlock with _ | g
          · exact .inl rfl
          · refine .inr fun e => ?_
            have h1 := (HO2.out.lt g hv).1
            simp only [List.mem_cons, List.mem_nil_iff, or_false] at hbm
            rcases hbm with rfl | rfl
            · injection e with e; omega
            · injection e with e; omega)
        have HT2 := hd (touch_none B2 [some gl, some gb])
        have H2 := hd (HST.out.below B2)
        have HB2 := hd (BT.out w2 (shk_step HTR.out HT2.out))
        have HS2 := hd (show ∀ W', TouchL w2 W' [some gl, some gb] → Sl W' 1 v2 eI (sh ++ [(k : Int)]) from fun W' ht => (HO2.out.touched ht HAP.out).sl eI_len)
        have HSH2 := hd (show ∀ y ∈ sh ++ [(k : Int)], 0 ≤ y ∧ y ≤ 6 from fun y hy => by
          rcases List.mem_append.1 hy with h | h
          · exact HSH.out y h
          · rw [List.mem_singleton.1 h]; omega)
        have HL2 := hd (show (sh ++ [(k : Int)]).length = (pre ++ [x]).length by simp [HLEN.out])
        clear hown2 hgr2 hat B2 O1 B1
        go_wp2_with fail
        refine (HIH.out (pre ++ [x]) w2 v2 (sh ++ [(k : Int)]) (kidsS l h rest sh st k) HPRE.out HL2.out HB2.out H2.out HS2.out HSH2.out hkb).mono ?_
        rintro e w3 ⟨rfl, h3, t3⟩
        have H3 := hd h3
        have T3 := hd (shk_step (shk_step HTR.out HT2.out) t3)
        clear h3 t3
        go_wp2_with fail
        go_roundw
        case rel => exact ⟨k + 1, by omega, by go_num, by rw [HSUCC.out]; exact H3.out, T3.out⟩
        case measure => simp [intOf]; omega
      · have hlt' : x.2.2.2 < (k : Int) := by omega
        have HE := hd (HALL.out k (by omega))
        go_wp2_with fail
        go_end0
        exact ⟨rfl, by rw [← HE.out]; exact HST.out, HTR.out⟩
theorem okC_of {l : List TCue} (h : okCues l = true) : l.length ≤ 6 ∧ ∀ x ∈ l, okC x := by
  unfold okCues at h
  rw [Bool.and_eq_true] at h
  refine ⟨of_decide_eq_true h.2, fun x hx => ?_⟩
  have h1 : l.any (fun x => !okCueB x) = false := by simpa using h.1
  rw [List.any_eq_false] at h1
  have h2 := h1 x hx
  have h3 : okCueB x = true := by simpa using h2
  unfold okCueB at h3
  simp only [Bool.and_eq_true] at h3
  exact ⟨inB_true h3.1, inB_true h3.2.1, inB_true h3.2.2.1, inB_true h3.2.2.2⟩
def cueC (l : List TCue) (h : Int) : Int := if okCues l then (if inB h 0 24 then 0 else 2) else 1
def bestS (l : List TCue) (h : Int) : TBest := walkS l h l [] ([], -1)
def leastR (l : List TCue) (h : Int) : List Int × Int := if cueC l h = 0 then (if (bestS l h).2 < 0 then ([], 3) else ((bestS l h).1, 0)) else ([], cueC l h)
theorem cueC_bad {l : List TCue} {h : Int} (h1 : okCues l = false) : cueC l h = 1 := by unfold cueC; rw [h1]; rfl
theorem cueC_range {l : List TCue} {h : Int} (h1 : okCues l = true) (h2 : inB h 0 24 = false) : cueC l h = 2 := by unfold cueC; rw [h1, h2]; rfl
theorem cueC_good {l : List TCue} {h : Int} (h1 : okCues l = true) (h2 : inB h 0 24 = true) : cueC l h = 0 := by unfold cueC; rw [h1, h2]; rfl
theorem cueC_zero {l : List TCue} {h : Int} (h0 : cueC l h = 0) : okCues l = true ∧ inB h 0 24 = true := by
  rcases h1 : okCues l with _ | _
  · rw [cueC_bad h1] at h0; cases h0
  rcases h2 : inB h 0 24 with _ | _
  · rw [cueC_range h1 h2] at h0; cases h0
  exact ⟨rfl, rfl⟩
theorem leastR_bad {l : List TCue} {h c : Int} (h1 : cueC l h = c) (hc : c ≠ 0) : leastR l h = ([], c) := by unfold leastR; rw [h1, if_neg hc]
theorem leastR_none {l : List TCue} {h : Int} (h1 : cueC l h = 0) (h2 : (bestS l h).2 < 0) : leastR l h = ([], 3) := by unfold leastR; rw [if_pos h1, if_pos h2]
theorem leastR_some {l : List TCue} {h : Int} (h1 : cueC l h = 0) (h2 : ¬ (bestS l h).2 < 0) : leastR l h = ((bestS l h).1, 0) := by unfold leastR; rw [if_pos h1, if_neg h2]
def shOk (l : List TCue) (st : TBest) : Prop := st.1.length ≤ l.length ∧ ∀ x ∈ st.1, 0 ≤ x ∧ x ≤ 6
theorem walkS_sh (l : List TCue) (h : Int) (rest : List TCue) : ∀ (sh : List Int) (st : TBest), (∀ x ∈ rest, okC x) → (∀ x ∈ sh, 0 ≤ x ∧ x ≤ 6) → sh.length + rest.length ≤ l.length → shOk l st → shOk l (walkS l h rest sh st) := by
  induction rest with
  | nil =>
    intro sh st _ hs hl hst
    unfold walkS stepS
    split
    · exact ⟨by simpa using hl, hs⟩
    · exact hst
  | cons x rest ih =>
    intro sh st hok hs hl hst
    unfold walkS
    have hx := hok x (by simp)
    have key : ∀ (m : List Int), (∀ b ∈ m, 0 ≤ b ∧ b ≤ 6) → ∀ st : TBest, shOk l st → shOk l (m.foldl (fun st b => walkS l h rest (sh ++ [b]) st) st) := by
      intro m
      induction m with
      | nil => intro _ st hst; exact hst
      | cons b m ihm =>
        intro hm st hst
        rw [List.foldl_cons]
        refine ihm (fun y hy => hm y (by simp [hy])) _ ?_
        refine ih _ _ (fun y hy => hok y (by simp [hy])) ?_ ?_ hst
        · intro y hy
          rcases List.mem_append.1 hy with h | h
          · exact hs y h
          · rw [List.mem_singleton.1 h]; exact hm b (by simp)
        · simp only [List.length_append, List.length_cons, List.length_nil] at hl ⊢; omega
    refine key _ (fun b hb => ?_) st hst
    have := rangeI_mem hb
    have := hx.2.2.2.2
    omega
theorem leastR_sh (l : List TCue) (h : Int) : (leastR l h).1.length ≤ 6 ∧ ∀ x ∈ (leastR l h).1, 0 ≤ x ∧ x ≤ 6 := by
  by_cases h1 : cueC l h = 0
  · by_cases h2 : (bestS l h).2 < 0
    · rw [leastR_none h1 h2]; simp
    · rw [leastR_some h1 h2]
      have h3 := okC_of (cueC_zero h1).1
      have h4 := walkS_sh l h l [] ([], -1) h3.2 (by simp) (by simp) ⟨by simp, by simp⟩
      exact ⟨Nat.le_trans h4.1 h3.1, h4.2⟩
  · rw [leastR_bad rfl h1]; simp
theorem cueC_impl (w : World) (v : Value) (l : List TCue) (h : Sl w 4 v eCue l) (n : Int) :
    Calls Tryz.prog 136 #[v, .int .i64 n] w fun e w' => e = .returned (.int .i64 (cueC l n)) ∧ Below w.heap.size w w' := by
  obtain ⟨A, c, rfl⟩ := h.isSlice
  rcases h1 : okCues l with _ | _
  · have HR := hd (cueC_bad (h := n) h1)
    go_enter Tryz.func136, Tryz.ntmps136
    go_wp2_with fail
    refine (cues_impl _ _ _ h).mono ?_
    rintro e w1 ⟨rfl, hb⟩
    rw [h1]
    go_wp2_with fail
    go_ret
    exact ⟨by rw [HR.out]; rfl, hb⟩
  rcases h2 : inB n 0 24 with _ | _
  all_goals
    have HR := hd (show cueC l n = _ by first | exact cueC_range h1 h2 | exact cueC_good h1 h2)
    go_enter Tryz.func136, Tryz.ntmps136
    go_wp2_with fail
    refine (cues_impl _ _ _ h).mono ?_
    rintro e w1 ⟨rfl, hb⟩
    rw [h1]
    go_wp2_with fail
    refine (in_impl _ _ _ _).mono ?_
    rintro e ww ⟨rfl, hw⟩
    have hw := hw.symm
    subst hw
    rw [h2]
    go_wp2_with fail
    go_ret
    exact ⟨by rw [HR.out]; rfl, hb⟩
set_option maxRecDepth 100000 in
set_option maxHeartbeats 8000000 in
theorem least_impl (w : World) (v : Value) (l : List TCue) (h : Sl w 4 v eCue l) (n : Int) :
    Calls Tryz.prog 76 #[v, .int .i64 n] w (GivesOwnI w 2 1 eI (leastR l n)) := by
  obtain ⟨A, c, rfl⟩ := h.isSlice
  have b0 : Below w.heap.size w ((w.alloc (.cells #[.slice A l.length c] 26)).alloc (.cells #[.int .i64 n] 2)) := ((Below.refl w.heap.size w).alloc (Nat.le_refl _) _).alloc (by simp) _
  have gL : ((w.alloc (.cells #[.slice A l.length c] 26)).alloc (.cells #[.int .i64 n] 2)).heap[w.heap.size]? = some (.cells #[.slice A l.length c] 26 (0, 0)) :=
    (((Below.refl (w.heap.size + 1) (w.alloc (.cells #[.slice A l.length c] 26))).alloc (by simp) _).block w.heap.size (by omega)).trans (heap_alloc_new w _)
  have gH : ((w.alloc (.cells #[.slice A l.length c] 26)).alloc (.cells #[.int .i64 n] 2)).heap[w.heap.size + 1]? = some (.cells #[.int .i64 n] 2 (0, 0)) := by
    have e := heap_alloc_new (w.alloc (.cells #[.slice A l.length c] 26)) (.cells #[.int .i64 n] 2)
    rw [show (w.alloc (.cells #[.slice A l.length c] 26)).heap.size = w.heap.size + 1 from by simp] at e
    exact e
  have z0 : ((w.alloc (.cells #[.slice A l.length c] 26)).alloc (.cells #[.int .i64 n] 2)).heap.size = w.heap.size + 2 := by simp
  have cL := cell_of_one gL
  have cH := cell_of_one gH
  obtain ⟨cc, hcc⟩ : ∃ cc, cueC l n = cc := ⟨_, rfl⟩
  have HCC := hd hcc
  go_enter Tryz.func76, Tryz.ntmps76
  go_wp2_with fail
  generalize ((w.alloc (.cells #[.slice A l.length c] 26)).alloc (.cells #[.int .i64 n] 2)) = W at b0 gL gH cL cH z0 ⊢
  have Z0 := hd z0
  refine (cueC_impl _ _ _ (h.below b0) _).mono ?_
  rintro e w1 ⟨rfl, hb1⟩
  rw [hcc]
  have B1 := below_step b0 hb1
  by_cases hc : cc = 0
  case neg =>
    have kc : (cc != 0) = true := by simpa using hc
    have HR := hd (leastR_bad hcc hc)
    clear hcc hc z0
    go_wp2_with fail
    go_ret2
    exact kis_nil HR.out _ B1
  subst hc
  obtain ⟨o1, o2⟩ := cueC_zero HCC.out
  obtain ⟨hl6, hok⟩ := okC_of o1
  have hn := inB_true o2
  have q1 := (hb1.block w.heap.size (by omega)).trans gL
  have q2 := (hb1.block (w.heap.size + 1) (by omega)).trans gH
  have y1 := cell_of_one q1
  have z1 : w.heap.size + 2 ≤ w1.heap.size := by have := hb1.size; omega
  have HOK := hd hok
  clear hcc o1 o2 gL gH cL cH b0 hb1 hok z0
  have b3 : Below w1.heap.size w1 (((w1.alloc (.cells #[] 2)).alloc (.cells #[.slice (some ⟨w1.heap.size, 0, none⟩) 0 0] 56)).alloc (.cells #[.int .i64 (-1)] 2)) := (((Below.refl w1.heap.size w1).alloc (Nat.le_refl _) _).alloc (by simp) _).alloc (by simp; omega) _
  have O0 := ((Own.made0 w1 w1.heap.size 2 1 eI (Nat.le_refl _)).alloc (.cells #[.slice (some ⟨w1.heap.size, 0, none⟩) 0 0] 56)).alloc (.cells #[.int .i64 (-1)] 2)
  have gB : (((w1.alloc (.cells #[] 2)).alloc (.cells #[.slice (some ⟨w1.heap.size, 0, none⟩) 0 0] 56)).alloc (.cells #[.int .i64 (-1)] 2)).heap[w1.heap.size + 1]? = some (.cells #[.slice (some ⟨w1.heap.size, 0, none⟩) 0 0] 56 (0, 0)) := by
    have e := heap_alloc_new (w1.alloc (.cells #[] 2)) (.cells #[.slice (some ⟨w1.heap.size, 0, none⟩) 0 0] 56)
    rw [show (w1.alloc (.cells #[] 2)).heap.size = w1.heap.size + 1 from by simp] at e
    exact (((Below.refl (w1.heap.size + 2) ((w1.alloc (.cells #[] 2)).alloc (.cells #[.slice (some ⟨w1.heap.size, 0, none⟩) 0 0] 56))).alloc (by simp) _).block (w1.heap.size + 1) (by omega)).trans e
  have gM : (((w1.alloc (.cells #[] 2)).alloc (.cells #[.slice (some ⟨w1.heap.size, 0, none⟩) 0 0] 56)).alloc (.cells #[.int .i64 (-1)] 2)).heap[w1.heap.size + 1 + 1]? = some (.cells #[.int .i64 (-1)] 2 (0, 0)) := by
    have e := heap_alloc_new ((w1.alloc (.cells #[] 2)).alloc (.cells #[.slice (some ⟨w1.heap.size, 0, none⟩) 0 0] 56)) (.cells #[.int .i64 (-1)] 2)
    rw [show ((w1.alloc (.cells #[] 2)).alloc (.cells #[.slice (some ⟨w1.heap.size, 0, none⟩) 0 0] 56)).heap.size = w1.heap.size + 1 + 1 from by simp] at e
    exact e
  have z3 : (((w1.alloc (.cells #[] 2)).alloc (.cells #[.slice (some ⟨w1.heap.size, 0, none⟩) 0 0] 56)).alloc (.cells #[.int .i64 (-1)] 2)).heap.size = w1.heap.size + 1 + 1 + 1 := by simp
  have y3 : (((w1.alloc (.cells #[] 2)).alloc (.cells #[.slice (some ⟨w1.heap.size, 0, none⟩) 0 0] 56)).alloc (.cells #[.int .i64 (-1)] 2)).cell? ⟨w.heap.size, 0, none⟩ = some (.slice A l.length c) := (b3.cell (p := ⟨w.heap.size, 0, none⟩) (show w.heap.size < w1.heap.size by omega)).trans y1
  go_wp2_with fail
  generalize (((w1.alloc (.cells #[] 2)).alloc (.cells #[.slice (some ⟨w1.heap.size, 0, none⟩) 0 0] 56)).alloc (.cells #[.int .i64 (-1)] 2)) = W3 at b3 O0 gB gM z3 y3 ⊢
  have B3 := below_step B1 b3
  have hap : ∀ b ∈ [some (w1.heap.size + 1 + 1), some (w1.heap.size + 1)], apart (Value.slice (some ⟨w1.heap.size, 0, none⟩) 0 0).ownBlock b := fun b hb => by
    simp only [List.mem_cons, List.mem_nil_iff, or_false] at hb
    rcases hb with rfl | rfl
    · exact .inr (fun e => by have : some w1.heap.size = some (w1.heap.size + 1 + 1) := e; injection this with this; omega)
    · exact .inr (fun e => by have : some w1.heap.size = some (w1.heap.size + 1) := e; injection this with this; omega)
  have HBA : BestAt W3 w.heap.size (w1.heap.size + 1 + 1 + 1) w.heap.size (w1.heap.size + 1 + 1) (w.heap.size + 1) (w1.heap.size + 1) (.slice A l.length c) n ([], -1) :=
    ⟨⟨by omega, by omega, by omega, by omega, by omega, by omega⟩, ⟨by omega, by omega, by omega, by omega, by omega⟩, (b3.block w.heap.size (by omega)).trans q1, (b3.block (w.heap.size + 1) (by omega)).trans q2, gM, _, gB, O0.base (by omega), hap⟩
  have HBB := hd HBA
  clear HBA gB gM O0 q1 q2 y1 hap b3
  refine (all_shifts w w.heap.size (w1.heap.size + 1 + 1 + 1) w.heap.size (w1.heap.size + 1 + 1) (w.heap.size + 1) (w1.heap.size + 1) _ l n h hl6 HOK.out (by omega) (by omega) l [] W3 (.slice none 0 0) [] ([], -1) rfl rfl B3 HBB.out (fun W' _ => Sl.nil _ _ _) (by simp) ⟨by decide, by decide⟩).mono ?_
  rintro e w4 ⟨rfl, h4, t4⟩
  have B4 := B3.trans (below_touched t4 B3.size (fun b hb g hg => by
    simp only [List.mem_cons, List.mem_nil_iff, or_false] at hb
    rcases hb with rfl | rfl
    · injection hg with hg; omega
    · injection hg with hg; omega))
  have k1 := cell_of_one h4.cl
  obtain ⟨vb, k0, O4, -⟩ := h4.cb
  have k2 := cell_of_one k0
  have HBS := hd (show bestS l n = walkS l n l [] ([], -1) from rfl)
  rw [← HBS.out] at k1 O4
  clear h4 t4 k0 y3 z3 HBS
  by_cases hneg : (bestS l n).2 < 0
  · have HR := hd (leastR_none HCC.out hneg)
    generalize bestS l n = st at k1 O4 hneg
    clear O4 k2
    go_wp2_with fail
    go_ret2
    exact kis_nil HR.out _ B4
  · have HR := hd (leastR_some HCC.out hneg)
    have hneg' : 0 ≤ (bestS l n).2 := by omega
    generalize bestS l n = st at k1 O4 hneg hneg' HR
    obtain ⟨A4, c4, rfl⟩ := O4.isSlice
    go_wp2_with fail
    go_ret2
    exact kis HR.out O4 B4
end Go.Proofs.YtgcodjkjdfahdaaGreatDoor

namespace Go.Proofs.YtgcodjkjdfahdaaGreatDoor
open Go Go.RowKit Go.ChangeShapes Go.WideShapes
set_option linter.unusedSimpArgs false
set_option linter.unusedVariables false
theorem cueC_spec (w : World) (v : Value) (l : List TCue) (h : Sl w 4 v eCue l) (n : Int) :
    Calls Tryz.prog 236 #[v, .int .i64 n] w fun e w' => e = .returned (.int .i64 (cueC l n)) ∧ Below w.heap.size w w' := by
  obtain ⟨A, c, rfl⟩ := h.isSlice
  rcases h1 : okCues l with _ | _
  · have HR := hd (cueC_bad (h := n) h1)
    go_enter Tryz.func236, Tryz.ntmps236
    go_wp2_with fail
    refine (cues_spec _ _ _ h).mono ?_
    rintro e w1 ⟨rfl, hb⟩
    rw [h1]
    go_wp2_with fail
    go_ret
    exact ⟨by rw [HR.out]; rfl, hb⟩
  rcases h2 : inB n 0 24 with _ | _
  all_goals
    have HR := hd (show cueC l n = _ by first | exact cueC_range h1 h2 | exact cueC_good h1 h2)
    go_enter Tryz.func236, Tryz.ntmps236
    go_wp2_with fail
    refine (cues_spec _ _ _ h).mono ?_
    rintro e w1 ⟨rfl, hb⟩
    rw [h1]
    go_wp2_with fail
    refine (in_spec _ _ _ _).mono ?_
    rintro e ww ⟨rfl, hw⟩
    have hw := hw.symm
    subst hw
    rw [h2]
    go_wp2_with fail
    go_ret
    exact ⟨by rw [HR.out]; rfl, hb⟩
theorem own_intsK (w : World) (v : Value) (l : List Int) (h : Sl w 1 v eI l) (hl : l.length ≤ 1048576) :
    Calls Tryz.prog 283 #[v] w (GivesOwn w 2 1 eI l) := by
  obtain ⟨-, A, c, rfl, -, -, hA⟩ := id h
  obtain ⟨i0, hi, hz0, hz1, hz2⟩ := info_parts info_i64
  clear hA
  go_enter Tryz.func283, Tryz.ntmps283
  go_wp2_with (at_builtin; refine wpList_append_sl _ rfl _ _ 56 rfl i0 (.int .i64 0) 8 Tryz.underlying56 hi hz0 hz1 hz2 rfl (by decide) eI_len (by intro y u hu; simp [eI] at hu; subst hu; rfl) _ [] rfl (Own.made0 w w.heap.size 2 1 eI (Nat.le_refl _)) _ l rfl (h.alloc _) (by unfold maxLen; simp; omega) (by simp; omega) (by simp) ?_)
  intro v' w1 hown hgr
  have hbel := ((Below.refl w.heap.size w).alloc (Nat.le_refl _) (.cells #[] 2)).grown hgr (by simp) (by intro g hg; simp [Value.ownBlock] at hg; omega)
  go_wp2_with fail
  go_ret
  exact ⟨_, rfl, by simpa using hown, hbel⟩
theorem shiftC_spec (w : World) (a b c d by_ : Int) (h1 : -100000 ≤ a ∧ a ≤ 100000) (h2 : -100000 ≤ d ∧ d ≤ 100000) (h3 : -100000 ≤ by_ ∧ by_ ≤ 100000) :
    Calls Tryz.prog 282 #[.agg #[.int .i64 a, .int .i64 b, .int .i64 c, .int .i64 d], .int .i64 by_] w fun e w' => e = .returned (.agg #[.int .i64 (a + by_), .int .i64 b, .int .i64 c, .int .i64 (d - by_)]) ∧ Below w.heap.size w w' := by
  have hb := ((Below.refl w.heap.size w).alloc (Nat.le_refl _) (.cells #[.int .i64 a, .int .i64 b, .int .i64 c, .int .i64 d] 92)).alloc (by simp) (.cells #[.int .i64 (a + by_), .int .i64 b, .int .i64 c, .int .i64 (d - by_)] 92)
  have k1 : IntKind.i64.wrap (a + by_) = a + by_ := IntWalk.i64_in _ (by omega)
  have k2 : IntKind.i64.wrap (d - by_) = d - by_ := IntWalk.i64_in _ (by omega)
  go_enter Tryz.func282, Tryz.ntmps282
  go_wp2_with fail
  exact bodyPost_ret (v := .agg #[.int .i64 (a + by_), .int .i64 b, .int .i64 c, .int .i64 (d - by_)]) (by simp [results, Tryz.results282, go_sem]) rfl ⟨rfl, hb⟩
set_option maxRecDepth 100000 in
set_option maxHeartbeats 2000000 in
theorem hands_specN (w : World) (v : Value) (l : List TCue) (h : Sl w 4 v eCue l) (hb : ∀ x ∈ l, bdCue x) (hl : l.length ≤ 6) (t : Int) :
    Calls Tryz.prog 287 #[v, .int .i64 t] w fun e w' => e = .returned (.int .i64 (handsL t l)) ∧ ∃ n, w' = w.drewN n := by
  obtain ⟨-, A, c, rfl, -, -, -⟩ := id h
  have HB := hd hb
  have HBT := hd (hands_take_bd hb hl t)
  clear hb
  go_enter Tryz.func287, Tryz.ntmps287
  go_wp2_with fail
  go_loopw [5, 6] (fun sv iv wr => ∃ k : Nat, k ≤ l.length ∧ iv = .int .i64 k ∧ sv = .int .i64 (handsL t (l.take k)) ∧ ∃ n, wr = w.drewN n) (fun _ iv _ => l.length - (intOf iv).toNat)
  case atStart => exact ⟨0, Nat.zero_le _, rfl, rfl, 0, (World.drewN_zero w).symm⟩
  case round =>
    obtain ⟨k, hk, rfl, rfl, nn, hdr⟩ := hrel
    have hbel : Below w.heap.size w wr := by rw [hdr]; exact below_drewN (Below.refl _ _) nn
    have HDR := hd (fun m => (show wr.drewN m = w.drewN (nn + m) by rw [hdr, World.drewN_drewN]))
    have HDE := hd hdr
    clear hdr
    by_cases hlt : k < l.length
    · have HS := hd (handsL_take t l k hlt)
      obtain ⟨s1, s2⟩ := HBT.out k
      obtain ⟨⟨a1, a2⟩, ⟨b1, b2⟩, c1, c2⟩ := HB.out _ (List.getElem_mem hlt)
      obtain ⟨bb, o, rfl, -, p0, p1, p2, p3⟩ := (h.below hbel).Cue_at hlt
      generalize l[k] = x at p0 p1 p2 p3 HS a1 a2 b1 b2 c1 c2
      obtain ⟨xa, xb, xc, xd⟩ := x
      dsimp only at p0 p1 p2 p3 a1 a2 b1 b2 c1 c2
      generalize handsL t (l.take k) = s at s1 s2 HS ⊢
      have k1 : IntKind.i64.wrap (xa + xb) = xa + xb := IntWalk.i64_in _ (by omega)
      have k2 : IntKind.i64.wrap (xa + xb - 1) = xa + xb - 1 := IntWalk.i64_in _ (by omega)
      rcases hq : inB t xa (xa + xb - 1) with _ | _
      · have h3 : ¬ (xa ≤ t ∧ t < xa + xb) := by have := inB_false hq; omega
        replace HS := hd (HS.out.trans (by rw [handC_no h3, Int.add_zero]))
        clear h3
        have HQ := hd (fun w => show Calls Tryz.prog 158 #[.int .i64 t, .int .i64 xa, .int .i64 (xa + xb - 1)] w fun e w' => e = .returned (.bool false) ∧ w' = w from hq ▸ in_spec t xa (xa + xb - 1) w)
        clear hq
        go_wp2_with fail
        go_quiet ((go_at_call 158; exact Calls.quiet_of_same (HQ.out _)))
        go_wp2_with fail
        go_roundw
        case rel => exact ⟨k + 1, by omega, by go_num, by rw [HS.out], _, HDR.out _⟩
        case measure => simp [intOf]; omega
      · have h3 := inB_true hq
        replace HS := hd (HS.out.trans (by rw [handC_yes (by omega) (by omega)]))
        have HQ := hd (fun w => show Calls Tryz.prog 158 #[.int .i64 t, .int .i64 xa, .int .i64 (xa + xb - 1)] w fun e w' => e = .returned (.bool true) ∧ w' = w from hq ▸ in_spec t xa (xa + xb - 1) w)
        clear hq h3
        go_wp2_with fail
        go_quiet ((go_at_call 158; exact Calls.quiet_of_same (HQ.out _)))
        clear k1 k2
        go_wp2_with fail
        go_roundw
        case rel => exact ⟨k + 1, by omega, by go_num, by rw [HS.out], _, HDR.out _⟩
        case measure => simp [intOf]; omega
    · have HE := hd (handsL_all t l k (by omega))
      go_wp2_with fail
      go_ret
      exact ⟨by show Ending.returned (.int .i64 (handsL t (l.take k))) = _; rw [HE.out], nn, HDE.out⟩
set_option maxRecDepth 100000 in
set_option maxHeartbeats 2000000 in
theorem most_specN (w : World) (v : Value) (l : List TCue) (h : Sl w 4 v eCue l) (hb : ∀ x ∈ l, bdCue x) (hl : l.length ≤ 6) :
    Calls Tryz.prog 281 #[v] w fun e w' => e = .returned (.int .i64 (mostL l)) ∧ ∃ n, w' = w.drewN n := by
  obtain ⟨-, A, c, rfl, -, -, -⟩ := id h
  have HB := hd hb
  clear hb
  go_enter Tryz.func281, Tryz.ntmps281
  go_wp2_with fail
  go_loopw [3, 4] (fun sv iv wr => ∃ k : Nat, k ≤ l.length ∧ iv = .int .i64 k ∧ sv = .int .i64 (mostTo l (l.take k)) ∧ ∃ n, wr = w.drewN n) (fun _ iv _ => l.length - (intOf iv).toNat)
  case atStart => exact ⟨0, Nat.zero_le _, rfl, rfl, 0, (World.drewN_zero w).symm⟩
  case round =>
    obtain ⟨k, hk, rfl, rfl, nn, hdr⟩ := hrel
    have hbel : Below w.heap.size w wr := by rw [hdr]; exact below_drewN (Below.refl _ _) nn
    have HDR := hd (fun m => (show wr.drewN m = w.drewN (nn + m) by rw [hdr, World.drewN_drewN]))
    have HDE := hd hdr
    clear hdr
    by_cases hlt : k < l.length
    · have HS := hd (mostTo_take l k hlt)
      obtain ⟨bb, o, hA, -, p0, p1, p2, p3⟩ := (h.below hbel).Cue_at hlt
      subst hA
      generalize l[k] = x at p0 p1 p2 p3 HS
      obtain ⟨xa, xb, xc, xd⟩ := x
      dsimp only at p0 p1 p2 p3
      generalize mostTo l (l.take k) = s at HS ⊢
      go_wp2_with fail
      refine (hands_specN _ _ l (h.below hbel) HB.out hl _).mono ?_
      rintro e w2 ⟨rfl, n2, hd2⟩
      have HD2 := hd (hd2.trans (HDR.out n2))
      clear hd2
      go_wp2_with fail
      refine (max_spec _ _ _).mono ?_
      rintro e w3 ⟨rfl, hw⟩
      have hw := hw.symm
      subst hw
      go_wp2_with fail
      go_roundw
      case rel => exact ⟨k + 1, by omega, by go_num, by rw [HS.out], _, HD2.out⟩
      case measure => simp [intOf]; omega
    · have HE := hd (show mostTo l (l.take k) = mostL l by unfold mostL; rw [List.take_of_length_le (by omega)])
      go_wp2_with fail
      go_ret
      exact ⟨by show Ending.returned (.int .i64 (mostTo l (l.take k))) = _; rw [HE.out], nn, HDE.out⟩
end Go.Proofs.YtgcodjkjdfahdaaGreatDoor
