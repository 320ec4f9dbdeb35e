/- symMerge at hires: two sorted stretches become one, equals as they stood; over any program that bears these bodies. No condition but that the row is held. -/
import Derived.Test.YtlgcehdklpbknaaRot
namespace Go.Proofs.Ytlgcehdklpbknaa
open Go Go.RowKit Go.ChangeShapes Go.WideShapes Go.Shelf Go.Lib Go.Sort
set_option linter.unusedSimpArgs false
set_option linter.unusedVariables false
section
variable {α : Type} {key : α → Int}
theorem sorted_le {U : List α} (h : sorted key U) {i j : Nat} (hij : i ≤ j) (hj : j < U.length) : key (U[i]'(by omega)) ≤ key U[j] := by
  rcases Nat.lt_or_eq_of_le hij with q | q
  · exact List.pairwise_iff_getElem.1 h i j (by omega) hj q
  · subst q; exact Int.le_refl _
theorem mrg_left (x : α) (V : List α) (p : Nat) (h1 : ∀ y ∈ V.take p, key y < key x) (h2 : ∀ y ∈ V.drop p, key x ≤ key y) : mrg key [x] V = V.take p ++ x :: V.drop p := by
  have e1 := mrg_split key [] (V.take p) [x] (V.drop p) (by simp) (fun y hy x' hx' => by rw [List.mem_singleton] at hx'; subst hx'; exact h1 y hy)
  have e2 := mrg_split key [x] [] [] (V.drop p) (fun x' hx' y hy => by rw [List.mem_singleton] at hx'; subst hx'; exact h2 y hy) (by simp)
  rw [List.take_append_drop, List.nil_append, mrg_nil_left] at e1
  rw [mrg_nil_left, mrg_nil_right, List.append_nil, List.nil_append] at e2
  rw [e1, e2]
  rfl
theorem take_mem {V : List α} {p : Nat} {y : α} (hy : y ∈ V.take p) : ∃ t, ∃ ht : t < V.length, t < p ∧ V[t] = y := by
  obtain ⟨t, ht, e⟩ := List.getElem_of_mem hy
  rw [List.length_take] at ht
  rw [List.getElem_take] at e
  exact ⟨t, by omega, by omega, e⟩
theorem drop_mem {V : List α} {p : Nat} {y : α} (hy : y ∈ V.drop p) : ∃ t, ∃ ht : t < V.length, p ≤ t ∧ V[t] = y := by
  obtain ⟨t, ht, e⟩ := List.getElem_of_mem hy
  rw [List.length_drop] at ht
  rw [List.getElem_drop] at e
  exact ⟨p + t, by omega, by omega, e⟩
theorem parts_le {U V : List α} (sU : sorted key U) (sV : sorted key V) {i j : Nat} (h : i = 0 ∨ V.length ≤ j ∨ ∃ (hi : i - 1 < U.length) (hj : j < V.length), key U[i - 1] ≤ key V[j]) : ∀ x ∈ U.take i, ∀ y ∈ V.drop j, key x ≤ key y := by
  intro x hx y hy
  obtain ⟨s, hs, hsi, rfl⟩ := take_mem hx
  obtain ⟨t, ht, htj, rfl⟩ := drop_mem hy
  rcases h with h | h | ⟨hi, hj, h⟩
  · omega
  · omega
  · have h1 := sorted_le sU (show s ≤ i - 1 by omega) hi
    have h2 := sorted_le sV htj ht
    omega
theorem parts_lt {U V : List α} (sU : sorted key U) (sV : sorted key V) {i j : Nat} (h : j = 0 ∨ U.length ≤ i ∨ ∃ (hj : j - 1 < V.length) (hi : i < U.length), key V[j - 1] < key U[i]) : ∀ y ∈ V.take j, ∀ x ∈ U.drop i, key y < key x := by
  intro y hy x hx
  obtain ⟨t, ht, htj, rfl⟩ := take_mem hy
  obtain ⟨s, hs, hsi, rfl⟩ := drop_mem hx
  rcases h with h | h | ⟨hj, hi, h⟩
  · omega
  · omega
  · have h1 := sorted_le sV (show t ≤ j - 1 by omega) hj
    have h2 := sorted_le sU hsi hs
    omega
end
/-- what is asked of the function that compares: in every world that the sort passes through -/
def CmpSt (Pr : Program) (g : Nat) (cb : Array Value) (cf : THire → THire → Int) (z : Nat) (w : World) (blk off n : Nat) : Prop :=
  ∀ (W : World) (M : List THire), St z w blk off n M W → ∀ x y : THire, Calls Pr g (#[.agg (eHire x).toArray, .agg (eHire y).toArray] ++ cb) W fun e w' => e = .returned (.int .i64 (cf x y)) ∧ ∃ q os', w' = grow (W.drewN q) os'
theorem swpL_mid' (A B C : List THire) (x y : THire) : swpL (A ++ x :: (B ++ y :: C)) (A.length + 1 + B.length) A.length = A ++ y :: (B ++ x :: C) := by
  have e1 : (A ++ x :: (B ++ y :: C)).toArray[A.length]! = x := by rw [bang_at (by simp)]; simp
  have e2 : (A ++ x :: (B ++ y :: C)).toArray[A.length + 1 + B.length]! = y := by
    rw [bang_at (by simp; omega), List.getElem_append_right (by omega)]
    have : A.length + 1 + B.length - A.length = B.length + 1 := by omega
    simp [this]
  have hn : ¬ (A.length + 1 + B.length < A.length) := by omega
  unfold swpL swp
  rw [e1, e2]
  simp [List.set_append, hn, show A.length + 1 + B.length - A.length = B.length + 1 by omega]
theorem St.load_at {k : Nat} {w W : World} {blk off n : Nat} {M : List THire} (P : Program) (hk : ∀ x : THire, (eHire x).length = k) (R : Row k w blk off n) (h : St k w blk off n M W) {i : Nat} (hi : i < M.length) {x : THire} (hx : M[i] = x) (q : Nat) (os : Array Obj) :
    Sem.run P (loadCellsFrom ⟨blk, off + i * k, none⟩ 0 k #[]) (grow (W.drewN q) os) = .ok (eHire x).toArray (grow (W.drewN q) os) := by
  subst hx
  exact (h.class q os).load P hk R hi
/-- two elements that change places: what is read, what is stored (in the order of the text), what the row holds then -/
theorem swap_facts {k : Nat} {w W : World} {blk off n : Nat} (P : Program) (hk : ∀ x : THire, (eHire x).length = k) (R : Row k w blk off n) {A B C : List THire} {x y : THire} (h : St k w blk off n (A ++ x :: (B ++ y :: C)) W) {i j : Nat} (hi : i = A.length) (hj : j = A.length + 1 + B.length) :
    Sem.run P (loadCellsFrom ⟨blk, off + i * k, none⟩ 0 k #[]) W.drew = .ok (eHire x).toArray W.drew ∧ Sem.run P (loadCellsFrom ⟨blk, off + j * k, none⟩ 0 k #[]) W.drew = .ok (eHire y).toArray W.drew ∧
    Sem.run P (storeCells ⟨blk, off + i * k, none⟩ (eHire y) 0) W.drew = .ok () (W.drew.setCells blk (off + i * k) (eHire y)) ∧
    Sem.run P (storeCells ⟨blk, off + j * k, none⟩ (eHire x) 0) (W.drew.setCells blk (off + i * k) (eHire y)) = .ok () ((W.drew.setCells blk (off + i * k) (eHire y)).setCells blk (off + j * k) (eHire x)) ∧
    St k w blk off n (A ++ y :: (B ++ x :: C)) ((W.drew.setCells blk (off + i * k) (eHire y)).setCells blk (off + j * k) (eHire x)) := by
  have l1 : A.length < (A ++ x :: (B ++ y :: C)).length := by simp
  have l2 : A.length + 1 + B.length < (A ++ x :: (B ++ y :: C)).length := by simp; omega
  subst hi hj
  have lx := h.drew.load P hk R l1
  have ly := h.drew.load P hk R l2
  rw [mid_x] at lx
  rw [mid_y] at ly
  have HN := h.swap hk R l1 l2
  rw [mid_x, mid_y, swpL_mid] at HN
  exact ⟨lx, ly, h.drew.store1 P hk R l1 y, h.drew.store2 P hk R l1 l2 y x, HN⟩
theorem swap_facts' {k : Nat} {w W : World} {blk off n : Nat} (P : Program) (hk : ∀ x : THire, (eHire x).length = k) (R : Row k w blk off n) {A B C : List THire} {x y : THire} (h : St k w blk off n (A ++ x :: (B ++ y :: C)) W) {i j : Nat} (hi : i = A.length) (hj : j = A.length + 1 + B.length) :
    Sem.run P (loadCellsFrom ⟨blk, off + i * k, none⟩ 0 k #[]) W.drew = .ok (eHire x).toArray W.drew ∧ Sem.run P (loadCellsFrom ⟨blk, off + j * k, none⟩ 0 k #[]) W.drew = .ok (eHire y).toArray W.drew ∧
    Sem.run P (storeCells ⟨blk, off + j * k, none⟩ (eHire x) 0) W.drew = .ok () (W.drew.setCells blk (off + j * k) (eHire x)) ∧
    Sem.run P (storeCells ⟨blk, off + i * k, none⟩ (eHire y) 0) (W.drew.setCells blk (off + j * k) (eHire x)) = .ok () ((W.drew.setCells blk (off + j * k) (eHire x)).setCells blk (off + i * k) (eHire y)) ∧
    St k w blk off n (A ++ y :: (B ++ x :: C)) ((W.drew.setCells blk (off + j * k) (eHire x)).setCells blk (off + i * k) (eHire y)) := by
  have l1 : A.length < (A ++ x :: (B ++ y :: C)).length := by simp
  have l2 : A.length + 1 + B.length < (A ++ x :: (B ++ y :: C)).length := by simp; omega
  subst hi hj
  have lx := h.drew.load P hk R l1
  have ly := h.drew.load P hk R l2
  rw [mid_x] at lx
  rw [mid_y] at ly
  have HN := h.swap hk R l2 l1
  rw [mid_x, mid_y, swpL_mid'] at HN
  exact ⟨lx, ly, h.drew.store1 P hk R l2 x, h.drew.store2 P hk R l2 l1 x y, HN⟩
theorem row_u (A : List THire) (x : THire) (T : List THire) {i : Nat} (hi : i = A.length) (h : i < (A ++ x :: T).length) : (A ++ x :: T)[i] = x := by subst hi; simp
theorem row_v (A : List THire) (x : THire) (V C : List THire) {t i : Nat} (ht : t < V.length) (hi : i = A.length + 1 + t) (h : i < (A ++ x :: (V ++ C)).length) : (A ++ x :: (V ++ C))[i] = V[t] := by
  subst hi
  rw [List.getElem_append_right (by omega)]
  simp [show A.length + 1 + t - A.length = t + 1 by omega, List.getElem_append_left ht]
set_option maxRecDepth 1000000 in
set_option maxHeartbeats 4000000 in
theorem sym_one {Pr : Program} {z : Nat} (L : Lay Pr z) (key : THire → Int) (cf : THire → THire → Int) (hcf : ∀ x y, cf x y < 0 ↔ key x < key y) (g : Nat) (cb : Array Value) (eg : ∀ args w, (callFunc g args).run Pr w = .ok (.enter g args) w) {w : World} {blk off n : Nat} (R : Row z w blk off n) (HC : CmpSt Pr g cb cf z w blk off n) (cap : Nat) (A : List THire) (x : THire) (V C : List THire) (hV : 0 < V.length) (sV : sorted key V) (W : World) (h : St z w blk off n (A ++ x :: (V ++ C)) W) (a m b : Nat) (ha : a = A.length) (hm : m = a + 1) (hb : b = a + 1 + V.length) :
    Calls Pr 156 #[.slice (some ⟨blk, off, none⟩) n cap, .int .i64 a, .int .i64 m, .int .i64 b, .func (.func g) #[] cb] W fun e w' => e = .returned (.tuple #[]) ∧ St z w blk off n (A ++ (mrg key [x] V ++ C)) w' := by
  have mixed := L.mixed; have t0 := L.t0; have a0 := L.a0; have z0 := L.z0; have v0 := L.v0; have ti := L.ti; have ai := L.ai; have zi := L.zi; have vi := L.vi; have tb := L.tb; have ab := L.ab; have zb := L.zb; have vb := L.vb; have tu := L.tu; have au := L.au; have zu := L.zu; have vu := L.vu; have ts := L.ts; have asl := L.asl; have zs := L.zs; have vs := L.vs; have ah := L.ah; have zh := L.zh
  have us := run_underlying L.ts
  have HK := hd L.hk
  have HS := hd h
  have hn := R.sm
  have HR := hd R
  have HCS := hd HC
  have HCF := hd hcf
  have HSV := hd sV
  have hbn : b ≤ n := by have := h.len; simp at this; omega
  have HA := hd ha
  have HB := hd hb
  have HF := L.fsm
  have hab : a + 1 < b := by omega
  have e1 : (m : Int) - (a : Int) = 1 := by omega
  have hm1 : a < m := by omega
  have hm2 : m ≤ a + 1 := by omega
  clear h R L HC hcf sV ha hb hm
  go_enter HF, Try.ntmps156
  clear HF
  go_wp2_with fail
  go_loopw [10, 11, 12] (fun iv jv hv wr => ∃ i j : Nat, iv = .int .i64 i ∧ jv = .int .i64 j ∧ a + 1 ≤ i ∧ i ≤ j ∧ j ≤ b ∧ Hid (St z w blk off n (A ++ x :: (V ++ C)) wr) ∧ Hid (∀ t (ht : t < V.length), a + 1 + t < i → key V[t] < key x) ∧ Hid (∀ t (ht : t < V.length), j ≤ a + 1 + t → key x ≤ key V[t])) (fun iv jv _ _ => (intOf jv).toNat - (intOf iv).toNat)
  case atStart => exact ⟨m, b, rfl, rfl, by omega, by omega, Nat.le_refl _, HS, hd (by omega), hd (by have := HB.out; omega)⟩
  case round =>
    obtain ⟨i, j, rfl, rfl, hi, hij, hjb, HW, H1, H2⟩ := hrel
    clear HS
    by_cases hlt : i < j
    · as_aux_lemma =>
      have k1 : i ≤ (i + j) / 2 := by omega
      have k2 : (i + j) / 2 < j := by omega
      have k3 : a + 1 ≤ (i + j) / 2 := by omega
      obtain ⟨t, ht⟩ : ∃ t, (i + j) / 2 = a + 1 + t := ⟨(i + j) / 2 - (a + 1), by omega⟩
      have htv : t < V.length := by have := HB.out; omega
      have hwl := HW.out.len
      have lj := fun n' os' => HW.out.load_at Pr HK.out HR.out (i := (i + j) / 2) (by omega) (row_v A x V C htv (by have := HA.out; omega) _) n' os'
      have lp := fun n' os' => HW.out.load_at Pr HK.out HR.out (i := a) (by omega) (row_u A x (V ++ C) HA.out _) n' os'
      have hcg := fun n' os' => HCS.out _ _ (HW.out.class n' os') V[t] x
      have HC1 := hd (HCF.out V[t] x)
      have G1 := hd (fun (t' : Nat) (ht' : t' < V.length) (h : t' ≤ t) => sorted_le HSV.out h htv)
      have G2 := hd (fun (t' : Nat) (ht' : t' < V.length) (h : t ≤ t') => show key (V[t]'htv) ≤ key (V[t']'ht') from sorted_le HSV.out h ht')
      have CLS := hd HW.out.class
      generalize V[t] = y at lj hcg HC1 G1 G2
      have c1 : ((i : Int) + (j : Int)) / 2 < (n : Int) := by omega
      have c3 : (0 : Int) ≤ ((i : Int) + (j : Int)) / 2 := by omega
      have c4 : (((i : Int) + (j : Int)) / 2).toNat = (i + j) / 2 := by omega
      have c2 : (a : Int) < (n : Int) := by omega
      replace ht := hd ht
      clear hwl k3
      by_cases hlv : cf y x < 0
      · go_wp2_with fail
        go_quiet_grown (first | (go_at_fn g; refine Calls.grown_of (hcg _ _)))
        go_wp2_with fail
        go_roundw
        case rel => exact ⟨(i + j) / 2 + 1, j, by rw [show (((i + j) / 2 + 1 : Nat) : Int) = ((i : Int) + (j : Int)) / 2 + 1 by omega], rfl, by omega, by omega, hjb, hd (CLS.out nq osq), hd (fun t' ht' h => by have h1 := G1.out t' ht' (by have := ht.out; omega); have := HC1.out.1 hlv; omega), H2⟩
        case measure => simp only [intOf]; omega
      · have hlv' : 0 ≤ cf y x := by omega
        go_wp2_with fail
        go_quiet_grown (first | (go_at_fn g; refine Calls.grown_of (hcg _ _)))
        go_wp2_with fail
        go_roundw
        case rel => exact ⟨i, (i + j) / 2, rfl, by rw [show (((i + j) / 2 : Nat) : Int) = ((i : Int) + (j : Int)) / 2 by omega], hi, k1, by omega, hd (CLS.out nq osq), H1, hd (fun t' ht' h => by have h1 := G2.out t' ht' (by have := ht.out; omega); have h2 : ¬ key y < key x := (fun e => absurd (HC1.out.2 e) (Int.not_lt.2 hlv)); omega)⟩
        case measure => simp only [intOf]; omega
    · as_aux_lemma =>
      obtain rfl : i = j := by omega
      obtain ⟨p, rfl⟩ : ∃ p, i = a + 1 + p := ⟨i - (a + 1), by omega⟩
      have hpv : p ≤ V.length := by have := HB.out; omega
      have HE := hd (mrg_left (key := key) x V p (fun y hy => by obtain ⟨t, ht, htp, rfl⟩ := take_mem hy; exact H1.out t ht (by omega)) (fun y hy => by obtain ⟨t, ht, htp, rfl⟩ := drop_mem hy; exact H2.out t ht (by omega)))
      clear H1 H2 hij hi hlt
      go_wp2_with fail
      as_aux_lemma =>
      go_loopw [13] (fun kv wr => ∃ t : Nat, t ≤ p ∧ kv = .int .i64 (a + t : Nat) ∧ Hid (St z w blk off n (A ++ (V.take t ++ x :: (V.drop t ++ C))) wr)) (fun kv _ => a + p - (intOf kv).toNat)
      case atStart => exact ⟨0, Nat.zero_le _, rfl, hd (by simpa using HW.out)⟩
      case round =>
        obtain ⟨t, htp, rfl, HV⟩ := hrel
        clear HW
        by_cases hlt : t < p
        · as_aux_lemma =>
          have htv : t < V.length := by omega
          have HV2 := hd (show St z w blk off n ((A ++ V.take t) ++ x :: ([] ++ V[t] :: (V.drop (t + 1) ++ C))) wr by have := HV.out; rw [List.drop_eq_getElem_cons htv] at this; simpa only [List.append_assoc, List.nil_append, List.cons_append] using this)
          have HT := hd (show (A ++ V.take t) ++ V[t] :: ([] ++ x :: (V.drop (t + 1) ++ C)) = A ++ (V.take (t + 1) ++ x :: (V.drop (t + 1) ++ C)) by rw [List.take_succ_eq_append_getElem htv]; simp only [List.append_assoc, List.nil_append, List.cons_append])
          have hP : (A ++ V.take t).length = a + t := by have := HA.out; simp; omega
          obtain ⟨lx, ly, s1, s2, HN⟩ := swap_facts Pr HK.out HR.out HV2.out (i := a + t) (j := a + t + 1) hP.symm (by rw [hP]; rfl)
          rw [HT.out] at HN
          replace HN := hd HN
          have hsx := HK.out x
          have hsy := HK.out V[t]
          clear HV HV2 HT hP
          generalize V[t] = y at ly s1 s2 hsy HN
          generalize eHire x = cx at lx s2 hsx HN
          generalize eHire y = cy at ly s1 s2 hsy HN
          have q1 : (0 : Int) ≤ (a : Int) + (t : Int) := by omega
          have q2 : (a : Int) + (t : Int) < (n : Int) := by omega
          have q3 : ((a : Int) + (t : Int)).toNat = a + t := by omega
          have r1 : (0 : Int) ≤ (a : Int) + (t : Int) + 1 := by omega
          have r2 : (a : Int) + (t : Int) + 1 < (n : Int) := by omega
          have r3 : ((a : Int) + (t : Int) + 1).toNat = a + t + 1 := by omega
          go_wp2_with fail
          go_big_region_o
          all_goals go_wp2_with fail
          exact ⟨⟨t + 1, by omega, by rw [show ((a + (t + 1) : Nat) : Int) = (a : Int) + (t : Int) + 1 by omega], HN⟩, by simp only [intOf]; omega⟩
        · obtain rfl : t = p := by omega
          go_wp2_with fail
          refine bodyPost_ret (results_none rfl _ _ _) rfl ?_
          exact ⟨rfl, by rw [HE.out]; have := HV.out; simpa only [List.append_assoc, List.cons_append] using this⟩
theorem row_u' (A U T : List THire) {t i : Nat} (ht : t < U.length) (hi : i = A.length + t) (h : i < (A ++ (U ++ T)).length) : (A ++ (U ++ T))[i] = U[t] := by
  subst hi
  rw [List.getElem_append_right (by omega)]
  simp [List.getElem_append_left ht]
theorem row_y (A U : List THire) (y : THire) (T : List THire) {i : Nat} (hi : i = A.length + U.length) (h : i < (A ++ (U ++ y :: T)).length) : (A ++ (U ++ y :: T))[i] = y := by
  subst hi
  rw [List.getElem_append_right (by omega)]
  simp [List.getElem_append_right]
set_option maxRecDepth 1000000 in
set_option maxHeartbeats 4000000 in
theorem sym_last {Pr : Program} {z : Nat} (L : Lay Pr z) (key : THire → Int) (cf : THire → THire → Int) (hcf : ∀ x y, cf x y < 0 ↔ key x < key y) (g : Nat) (cb : Array Value) (eg : ∀ args w, (callFunc g args).run Pr w = .ok (.enter g args) w) {w : World} {blk off n : Nat} (R : Row z w blk off n) (HC : CmpSt Pr g cb cf z w blk off n) (cap : Nat) (A U : List THire) (y : THire) (C : List THire) (hU : 1 < U.length) (sU : sorted key U) (W : World) (h : St z w blk off n (A ++ (U ++ y :: C)) W) (a m b : Nat) (ha : a = A.length) (hm : m = a + U.length) (hb : b = m + 1) :
    Calls Pr 156 #[.slice (some ⟨blk, off, none⟩) n cap, .int .i64 a, .int .i64 m, .int .i64 b, .func (.func g) #[] cb] W fun e w' => e = .returned (.tuple #[]) ∧ St z w blk off n (A ++ (mrg key U [y] ++ C)) w' := by
  have mixed := L.mixed; have t0 := L.t0; have a0 := L.a0; have z0 := L.z0; have v0 := L.v0; have ti := L.ti; have ai := L.ai; have zi := L.zi; have vi := L.vi; have tb := L.tb; have ab := L.ab; have zb := L.zb; have vb := L.vb; have tu := L.tu; have au := L.au; have zu := L.zu; have vu := L.vu; have ts := L.ts; have asl := L.asl; have zs := L.zs; have vs := L.vs; have ah := L.ah; have zh := L.zh
  have us := run_underlying L.ts
  have HK := hd L.hk
  have HS := hd h
  have hn := R.sm
  have HR := hd R
  have HCS := hd HC
  have HCF := hd hcf
  have HSU := hd sU
  have hbn : b ≤ n := by have := h.len; simp at this; omega
  have HA := hd ha
  have HM := hd hm
  have HF := L.fsm
  have e0 : ((m : Int) - (a : Int) == 1) = false := by simp; omega
  have e1 : (b : Int) - (m : Int) = 1 := by omega
  have hm1 : a + 1 < m := by omega
  have hm2 : m < b := by omega
  clear h R L HC hcf sU ha hb hm
  go_enter HF, Try.ntmps156
  clear HF
  go_wp2_with fail
  go_loopw [14, 15, 16] (fun iv jv hv wr => ∃ i j : Nat, iv = .int .i64 i ∧ jv = .int .i64 j ∧ a ≤ i ∧ i ≤ j ∧ j ≤ m ∧ Hid (St z w blk off n (A ++ (U ++ y :: C)) wr) ∧ Hid (∀ t (ht : t < U.length), a + t < i → key U[t] ≤ key y) ∧ Hid (∀ t (ht : t < U.length), j ≤ a + t → key y < key U[t])) (fun iv jv _ _ => (intOf jv).toNat - (intOf iv).toNat)
  case atStart => exact ⟨a, m, rfl, rfl, Nat.le_refl _, by omega, Nat.le_refl _, HS, hd (by omega), hd (by have := HM.out; omega)⟩
  case round =>
    obtain ⟨i, j, rfl, rfl, hi, hij, hjb, HW, H1, H2⟩ := hrel
    clear HS
    by_cases hlt : i < j
    · as_aux_lemma =>
      have k1 : i ≤ (i + j) / 2 := by omega
      have k2 : (i + j) / 2 < j := by omega
      obtain ⟨t, ht⟩ : ∃ t, (i + j) / 2 = a + t := ⟨(i + j) / 2 - a, by omega⟩
      have htv : t < U.length := by have := HM.out; omega
      have hwl := HW.out.len
      have lj := fun n' os' => HW.out.load_at Pr HK.out HR.out (i := m) (by omega) (row_y A U y C (by have := HA.out; have := HM.out; omega) _) n' os'
      have lp := fun n' os' => HW.out.load_at Pr HK.out HR.out (i := (i + j) / 2) (by omega) (row_u' A U (y :: C) htv (by have := HA.out; omega) _) n' os'
      have hcg := fun n' os' => HCS.out _ _ (HW.out.class n' os') y U[t]
      have HC1 := hd (HCF.out y U[t])
      have G1 := hd (fun (t' : Nat) (ht' : t' < U.length) (h : t' ≤ t) => show key (U[t']'ht') ≤ key (U[t]'htv) from sorted_le HSU.out h htv)
      have G2 := hd (fun (t' : Nat) (ht' : t' < U.length) (h : t ≤ t') => show key (U[t]'htv) ≤ key (U[t']'ht') from sorted_le HSU.out h ht')
      have CLS := hd HW.out.class
      generalize U[t] = x at lp hcg HC1 G1 G2
      have c1 : ((i : Int) + (j : Int)) / 2 < (n : Int) := by omega
      have c3 : (0 : Int) ≤ ((i : Int) + (j : Int)) / 2 := by omega
      have c4 : (((i : Int) + (j : Int)) / 2).toNat = (i + j) / 2 := by omega
      have c2 : (m : Int) < (n : Int) := by omega
      replace ht := hd ht
      clear hwl
      by_cases hlv : cf y x < 0
      · go_wp2_with fail
        go_quiet_grown (first | (go_at_fn g; refine Calls.grown_of (hcg _ _)))
        go_wp2_with fail
        go_roundw
        case rel => exact ⟨i, (i + j) / 2, rfl, by rw [show (((i + j) / 2 : Nat) : Int) = ((i : Int) + (j : Int)) / 2 by omega], hi, k1, by omega, hd (CLS.out nq osq), H1, hd (fun t' ht' h => by have h1 := G2.out t' ht' (by have := ht.out; omega); have := HC1.out.1 hlv; omega)⟩
        case measure => simp only [intOf]; omega
      · have hlv' : 0 ≤ cf y x := by omega
        have hd1 : decide (cf y x < 0) = false := by simpa using hlv'
        go_wp2_with fail
        go_quiet_grown (first | (go_at_fn g; refine Calls.grown_of (hcg _ _)))
        go_wp2_with fail
        go_roundw
        case rel => exact ⟨(i + j) / 2 + 1, j, by rw [show (((i + j) / 2 + 1 : Nat) : Int) = ((i : Int) + (j : Int)) / 2 + 1 by omega], rfl, by omega, by omega, hjb, hd (CLS.out nq osq), hd (fun t' ht' h => by have h1 := G1.out t' ht' (by have := ht.out; omega); have h2 : ¬ key y < key x := (fun e => absurd (HC1.out.2 e) (Int.not_lt.2 hlv')); omega), H2⟩
        case measure => simp only [intOf]; omega
    · as_aux_lemma =>
      obtain rfl : i = j := by omega
      obtain ⟨p, hp⟩ : ∃ p, i = a + p := ⟨i - a, by omega⟩
      have hpv : p ≤ U.length := by have := HM.out; omega
      have HE := hd (mrg_one key y U p (fun x hx => by obtain ⟨t, ht, htp, rfl⟩ := drop_mem hx; exact H2.out t ht (by omega)) (fun x hx => by obtain ⟨t, ht, htp, rfl⟩ := take_mem hx; exact H1.out t ht (by omega)) hpv)
      replace hp := hd hp
      clear H1 H2 hij hlt
      go_wp2_with fail
      as_aux_lemma =>
      go_loopw [17] (fun kv wr => ∃ k t : Nat, kv = .int .i64 k ∧ i ≤ k ∧ k ≤ m ∧ Hid (k = a + t) ∧ Hid (St z w blk off n (A ++ (U.take t ++ y :: (U.drop t ++ C))) wr)) (fun kv _ => (intOf kv).toNat)
      case atStart => exact ⟨m, U.length, rfl, hjb, Nat.le_refl _, HM, hd (by simpa using HW.out)⟩
      case round =>
        obtain ⟨k, t, rfl, hik, hkm, HKT, HV⟩ := hrel
        clear HW
        by_cases hlt : i < k
        · as_aux_lemma =>
          obtain ⟨s, rfl⟩ : ∃ s, t = s + 1 := ⟨t - 1, by have := HKT.out; omega⟩
          have hsv : s < U.length := by have := HKT.out; have := HM.out; omega
          have HV2 := hd (show St z w blk off n ((A ++ U.take s) ++ U[s] :: ([] ++ y :: (U.drop (s + 1) ++ C))) wr by have := HV.out; rw [List.take_succ_eq_append_getElem hsv] at this; simpa only [List.append_assoc, List.nil_append, List.cons_append] using this)
          have HT := hd (show (A ++ U.take s) ++ y :: ([] ++ U[s] :: (U.drop (s + 1) ++ C)) = A ++ (U.take s ++ y :: (U.drop s ++ C)) by rw [List.drop_eq_getElem_cons hsv]; simp only [List.append_assoc, List.nil_append, List.cons_append])
          have hP : (A ++ U.take s).length = k - 1 := by have := HA.out; have := HKT.out; simp; omega
          obtain ⟨lx, ly, s1, s2, HN⟩ := swap_facts' Pr HK.out HR.out HV2.out (i := k - 1) (j := k) hP.symm (by rw [hP]; simp; omega)
          rw [HT.out] at HN
          replace HN := hd HN
          have HKT' := hd (show k - 1 = a + s by have := HKT.out; omega)
          have hsx := HK.out U[s]
          have hsy := HK.out y
          clear HV HV2 HT hP HKT
          generalize U[s] = x at lx s1 s2 hsx HN
          generalize eHire x = cx at lx s1 s2 hsx HN
          generalize eHire y = cy at ly s2 hsy HN
          have q2 : (k : Int) < (n : Int) := by omega
          have r1 : (0 : Int) ≤ (k : Int) - 1 := by omega
          have r2 : (k : Int) - 1 < (n : Int) := by omega
          have r3 : ((k : Int) - 1).toNat = k - 1 := by omega
          go_wp2_with fail
          go_big_region_o
          all_goals go_wp2_with fail
          exact ⟨⟨k - 1, s, by rw [show ((k - 1 : Nat) : Int) = (k : Int) - 1 by omega], by omega, by omega, HKT', HN⟩, by simp only [intOf]; omega⟩
        · obtain rfl : k = i := by omega
          go_wp2_with fail
          refine bodyPost_ret (results_none rfl _ _ _) rfl ?_
          exact ⟨rfl, by rw [HE.out]; have h1 := HKT.out; have h2 := hp.out; obtain rfl : t = p := by omega
                         have := HV.out; simpa only [List.append_assoc, List.cons_append] using this⟩
end Go.Proofs.Ytlgcehdklpbknaa
