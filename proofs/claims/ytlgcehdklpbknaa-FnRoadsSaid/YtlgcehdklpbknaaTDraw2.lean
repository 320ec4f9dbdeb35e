/- What the reference draws for the laws on tours: valid halls and roads, a tour of some halls. No condition but that the bytes read. -/
import Derived.Test.YtlgcehdklpbknaaTDraw
import Derived.Test.YtlgcehdklpbknaaVisitS
namespace Go.Proofs.Ytlgcehdklpbknaa
open Go Go.RowKit Go.ChangeShapes Go.WideShapes
set_option linter.unusedSimpArgs false
set_option linter.unusedVariables false
set_option maxRecDepth 100000 in
set_option maxHeartbeats 8000000 in
theorem draw_a2halls (w0 : World) (v : Value) (l : List UInt8) (hS : Sl w0 1 v eU l) (hl : l.length ≤ 1048576) :
    Calls Try.prog 11 #[v] w0 fun e w' => ∃ (lv hv dv : Value) (L : List THall) (H : List Int) (M : List TRow), e = .returned (.tuple #[lv, .agg #[hv, dv]]) ∧ Own w' w0.heap.size 142 3 lv eHall L ∧ Own w' w0.heap.size 2 1 hv eI H ∧ OwnR w' w0.heap.size dv M ∧ L.length ≤ 6 ∧ okHalls L H (rowsOf M) = true ∧ Below w0.heap.size w0 w' := by
  have R0 := rec_new w0 w0.heap.size 28 [.slice none 0 0, .slice none 0 0] (Nat.le_refl _)
  have hSA := hS.alloc (.cells #[.slice none 0 0, .slice none 0 0] 28)
  have K0 := (Below.refl w0.heap.size w0).alloc (Nat.le_refl _) (.cells #[.slice none 0 0, .slice none 0 0] 28)
  have hz0 : (w0.alloc (.cells #[.slice none 0 0, .slice none 0 0] 28)).heap.size = w0.heap.size + 1 := by simp
  have hv : ∃ A n c, v = .slice A n c := by obtain ⟨A, c, h⟩ := hS.isSlice; exact ⟨A, _, c, h⟩
  go_enter Try.func11, Try.ntmps11
  go_wp2_with fail
  generalize w0.alloc (.cells #[.slice none 0 0, .slice none 0 0] 28) = wa at R0 hSA K0 hz0 ⊢
  refine (from_src wa v hv).mono ?_
  rintro e w ⟨rfl, S', K, hz⟩
  replace R0 := R0.below K
  replace K0 := K0.trans (K.mono K0.size)
  have hg1 : w0.heap.size + 1 = wa.heap.size := by omega
  clear hz0 K
  generalize wa.heap.size = g at S' hz hg1 ⊢
  have hgw : w0.heap.size < g := by omega
  have hgs : g < w.heap.size := by omega
  have hws : w0.heap.size ≤ w.heap.size := by omega
  clear hg1 hz
  go_wp2_with fail
  refine (pick_src wa v l hSA hl _ _ _ S' (by omega) 6 (by omega)).mono ?_
  rintro e w1 ⟨q, ⟨q1, q2⟩, rfl, S1, G1⟩
  go_wp2_with fail
  refine (draw_halls wa v l hSA hl _ _ _ S1 (by omega) q q1 (by omega)).mono ?_
  rintro e w2 ⟨lv, hv', dv, L, H, M, rfl, O1, O2, O3, hL, hok, S2, G2⟩
  have R1 := (R0.keep G1 (by simp; omega)).keep G2 (by simp; omega)
  have K2 := (K0.grown G1 K0.size (fun b hb => by injection hb with hb; omega)).grown G2 (by have := G1.size; omega) (fun b hb => by injection hb with hb; omega)
  have hb1 : w.heap.size ≤ w1.heap.size := G1.size
  replace O1 := O1.base (show w0.heap.size + 1 ≤ w1.heap.size by omega)
  replace O2 := O2.base (show w0.heap.size + 1 ≤ w1.heap.size by omega)
  replace O3 := O3.base (show w0.heap.size + 1 ≤ w1.heap.size by omega)
  obtain ⟨Al, cl, rfl⟩ := O1.slice
  obtain ⟨Ah, ch, rfl⟩ := O2.slice
  obtain ⟨Ad, cd, rfl⟩ := O3.1.slice
  clear S' S1 S2 G1 G2 R0 K0
  have RX := rec_new w2 (w0.heap.size + 1) 28 [.slice Ah H.length ch, .slice Ad M.length cd] (by have := R1.lt.2; omega)
  have RR := R1.alloc (.cells #[.slice Ah H.length ch, .slice Ad M.length cd] 28)
  replace O1 := O1.alloc (.cells #[.slice Ah H.length ch, .slice Ad M.length cd] 28)
  replace O2 := O2.alloc (.cells #[.slice Ah H.length ch, .slice Ad M.length cd] 28)
  replace O3 := O3.alloc (.cells #[.slice Ah H.length ch, .slice Ad M.length cd] 28)
  replace K2 := K2.alloc K2.size (.cells #[.slice Ah H.length ch, .slice Ad M.length cd] 28)
  have c0 := RX.cell 0 _ rfl
  have c1 := RX.cell 1 _ rfl
  have r0 := RR.cell 0 _ rfl
  have r1 := RR.cell 1 _ rfl
  have q0 := RR.free 0
  have q1' := RR.free 1
  have hbb : w2.heap.size ≠ w0.heap.size := by have := R1.lt.2; omega
  have hb9 : w0.heap.size ≤ w0.heap.size := Nat.le_refl _
  clear R1 RX
  go_upto_region 3 with fail
  generalize w2.alloc (.cells #[.slice Ah H.length ch, .slice Ad M.length cd] 28) = wb at O1 O2 O3 K2 RR c0 c1 r0 r1 q0 q1' ⊢
  generalize w2.heap.size = gr at c0 c1 hbb ⊢
  go_region
  all_goals
    go_wp2_with fail
    have t0 := TouchL.of_grown (grow_set wb ⟨w0.heap.size, 0, none⟩ (.slice Ah H.length ch))
    have t1 := TouchL.of_grown (grow_set (wb.setCell ⟨w0.heap.size, 0, none⟩ (.slice Ah H.length ch)) ⟨w0.heap.size, 1, none⟩ (.slice Ad M.length cd))
    have one : ∀ {x : Option Nat}, (∀ b, x = some b → w0.heap.size + 1 ≤ b) → ∀ b ∈ [some w0.heap.size], apart x b := fun hx b hb => by simp only [List.mem_singleton] at hb; subst hb; exact apart_gt fun b hb => by have := hx b hb; omega
    have Z1 := (O1.touched t0 (one fun b hb => (O1.lt b hb).1)).touched t1 (one fun b hb => (O1.lt b hb).1)
    have Z2 := (O2.touched t0 (one fun b hb => (O2.lt b hb).1)).touched t1 (one fun b hb => (O2.lt b hb).1)
    have Z3 := (O3.touched t0 (fun a ha => one fun b hb => (O3.lt a ha b hb).1)).touched t1 (fun a ha => one fun b hb => (O3.lt a ha b hb).1)
    have RZ := (RR.set 0 (.slice Ah H.length ch)).set 1 (.slice Ad M.length cd)
    have KZ := (K2.setCell (p := ⟨w0.heap.size, 0, none⟩) hb9 (.slice Ah H.length ch)).setCell (p := ⟨w0.heap.size, 1, none⟩) hb9 (.slice Ad M.length cd)
    generalize ((wb.setCell ⟨w0.heap.size, 0, none⟩ (.slice Ah H.length ch)).setCell ⟨w0.heap.size, 1, none⟩ (.slice Ad M.length cd)) = WZ at Z1 Z2 Z3 RZ KZ ⊢
    refine bodyPost_ret (v := .tuple #[.slice Al L.length cl, .agg #[.slice Ah H.length ch, .slice Ad M.length cd]]) ?_ rfl ?_
    · refine (results_t_cell Try.results11 _ _ _).trans ?_
      show (((loadVar 28 ⟨w0.heap.size, 0, none⟩).run Try.prog WZ.drew).andThen fun x w₂ => Result.ok (Value.tuple #[.slice Al L.length cl, x]) w₂) = _
      rw [load_roads WZ.drew _ _ _ ⟨_, _, _, rfl⟩ ⟨_, _, _, rfl⟩ (RZ.cell 0 _ rfl) (RZ.cell 1 _ rfl)]
      rfl
    · exact ⟨_, _, _, L, H, M, rfl, Z1.drew.base (Nat.le_succ _), Z2.drew.base (Nat.le_succ _), Z3.drew.base (Nat.le_succ _), by omega, hok, below_drewN KZ 1⟩
theorem Sl.dropped {α : Type} {w : World} {k n c : Nat} {A : Option Addr} {enc : α → List Value} {l : List α} (h : Sl w k (.slice A n c) enc l) (i : Nat) (hi : i ≤ l.length) :
    Sl w k (.slice (if c = i then A else A.map (·.add (i * k))) (l.length - i) (c - i)) enc (l.drop i) := by
  obtain ⟨h1, A', c', hv, hc, hc', h2⟩ := h
  injection hv with e1 e2 e3
  subst e1 e3
  refine ⟨by simp; omega, _, _, by rw [List.length_drop], by rw [List.length_drop]; omega, by omega, fun j x hx => ?_⟩
  rw [List.getElem?_drop] at hx
  obtain ⟨b, o, hA, hb, h3⟩ := h2 (i + j) x hx
  have hlt : i + j < l.length := (List.getElem?_eq_some_iff.1 hx).1
  subst hA
  refine ⟨b, o + i * k, ?_, hb, fun m u hu => ?_⟩
  · rw [if_neg (by omega)]
    simp only [Option.map_some, Addr.add]
    split
    · next h0 => rw [h0]; rfl
    · rfl
  · have := h3 m u hu
    rw [show o + i * k + j * k + m = o + (i + j) * k + m by rw [Nat.add_mul]; omega]
    exact this
theorem tourOk_nodup {q : Nat} {T : List Int} (h : T.Nodup) (hb : ∀ x ∈ T, 0 ≤ x ∧ x < (q : Int)) : tourOk q T = true := by
  refine allTo_true fun i hi => ?_
  unfold tourOkAt
  rw [show T.getD i 0 = T[i] from by simp [hi], Bool.and_eq_true, Bool.not_eq_true']
  have hm := hb _ (List.getElem_mem hi)
  refine ⟨inB_mk ⟨hm.1, by omega⟩, ?_⟩
  unfold hasI
  rw [List.any_eq_false]
  intro y hy
  simp only [beq_iff_eq]
  intro e
  subst e
  obtain ⟨j, hj, he⟩ := List.getElem_of_mem hy
  rw [List.getElem_take] at he
  have hji : j < i := by rw [List.length_take] at hj; omega
  have := (List.nodup_iff_pairwise_ne.1 h)
  rw [List.pairwise_iff_getElem] at this
  exact this j i (by omega) hi hji he
theorem nodup_put {T : List Int} {i : Int} {k : Nat} (h : T.Nodup) (hi : ∀ x ∈ T, x < i) : (T.take k ++ [i] ++ T.drop k).Nodup := by
  have p : (T.take k ++ [i] ++ T.drop k).Perm (i :: T) := by
    rw [List.append_assoc, List.singleton_append]
    refine (List.perm_middle).trans (List.Perm.cons _ ?_)
    rw [List.take_append_drop]
  rw [p.nodup_iff, List.nodup_cons]
  exact ⟨fun hm => by have := hi i hm; omega, h⟩
theorem mem_put {T : List Int} {i : Int} {k : Nat} {x : Int} (h : x ∈ T.take k ++ [i] ++ T.drop k) : x = i ∨ x ∈ T := by
  simp only [List.mem_append, List.mem_singleton] at h
  rcases h with (h | h) | h
  · exact .inr (List.mem_of_mem_take h)
  · exact .inl h
  · exact .inr (List.mem_of_mem_drop h)
set_option maxRecDepth 100000 in
set_option maxHeartbeats 8000000 in
theorem draw_a2tour (w0 : World) (v : Value) (l : List UInt8) (hS : Sl w0 1 v eU l) (hl : l.length ≤ 1048576) (q : Nat) (hq : q ≤ 6) :
    Calls Try.prog 15 #[v, .int .i64 q] w0 fun e w' => ∃ (u : Value) (T : List Int), e = .returned u ∧ Own w' w0.heap.size 2 1 u eI T ∧ T.length ≤ q ∧ tourOk q T = true ∧ Below w0.heap.size w0 w' := by
  obtain ⟨iI64, hiI64, hz0I64, hz1I64, hz2I64⟩ := info_parts info_i64
  have hv : ∃ A n c, v = .slice A n c := by obtain ⟨A, c, h⟩ := hS.isSlice; exact ⟨A, _, c, h⟩
  go_enter Try.func15, Try.ntmps15
  go_wp2_with fail
  refine (from_src w0 v hv).mono ?_
  rintro e w ⟨rfl, S', K, hz⟩
  have hB0 : w0.heap.size ≤ w.heap.size := by omega
  have hgB : w0.heap.size < w.heap.size := by omega
  have K0 := hd (K.alloc K.size (.cells #[] 2))
  generalize hg0 : w0.heap.size = g at S' hgB ⊢
  have hg1 : w0.heap.size ≤ g := by omega
  have O0 := hd (Own.made0 w w.heap.size 2 1 eI (Nat.le_refl _))
  have S0 := hd (S'.more (.cells #[] 2))
  clear hz S' K hg0
  go_wp2_with fail
  have hNW : w.heap.size ≤ (w.alloc (.cells #[] 2)).heap.size := by simp
  generalize w.alloc (.cells #[] 2) = W0 at O0 S0 K0 hNW ⊢
  generalize w.heap.size = N at O0 hB0 hgB hNW ⊢
  go_loopw [6, 7] (fun ov iv wr => ∃ (i : Nat) (o : Value) (T : List Int), o = ov ∧ iv = .int .i64 i ∧ i ≤ q ∧ Hid (Own wr N 2 1 o eI T) ∧ T.length ≤ i ∧ Hid (T.Nodup ∧ ∀ x ∈ T, 0 ≤ x ∧ x < (i : Int)) ∧ Hid (Src w0 v g (20 + 4 * i) wr) ∧ Hid (Below w0.heap.size w0 wr) ∧ N ≤ wr.heap.size) (fun _ iv _ => q - (intOf iv).toNat)
  case atStart => exact ⟨0, _, [], rfl, rfl, Nat.zero_le _, O0, by simp, hd ⟨by simp, by simp⟩, hd (S0.out.le (by omega)), K0, hNW⟩
  case round =>
    obtain ⟨i, o, T, rfl, rfl, hi, O, hT, HT, S, K, hNr⟩ := hrel
    clear O0 S0 K0 hNW
    by_cases hlt : i < q
    case neg =>
      have hiq : i = q := by omega
      subst hiq
      go_wp2_with fail
      go_ret
      exact ⟨_, T, rfl, O.out.base hB0, hT, tourOk_nodup HT.out.1 HT.out.2, K.out⟩
    go_wp2_with fail
    refine (one_src w0 v l hS hl _ g _ S.out (by omega) 2 (by omega)).mono ?_
    rintro e w1 ⟨b, rfl, S', G'⟩
    replace hNr := Nat.le_trans hNr G'.size
    replace O := hd (O.out.src2 hgB G')
    replace S := hd S'
    replace K := hd (K.out.grown G' K.out.size (fun b hb => by injection hb with hb; omega))
    clear S' G'
    rcases b with _ | _
    · go_wp2_with fail
      go_roundw
      case rel => exact ⟨i + 1, _, T, rfl, by go_num, by omega, O, by omega, hd ⟨HT.out.1, fun x hx => by have := HT.out.2 x hx; omega⟩, hd (S.out.le (by omega)), K, hNr⟩
      case measure => simp [intOf]; omega
    obtain ⟨Ao, co, rfl⟩ := O.out.slice
    go_wp2_with fail
    refine (pick_src w0 v l hS hl _ g _ S.out (by omega) ((T.length : Int) + 1) (by omega)).mono ?_
    rintro e w2 ⟨kk, ⟨k1, k2⟩, rfl, S', G'⟩
    replace hNr := Nat.le_trans hNr G'.size
    replace O := hd (O.out.src2 hgB G')
    replace S := hd S'
    replace K := hd (K.out.grown G' K.out.size (fun b hb => by injection hb with hb; omega))
    clear S' G'
    obtain ⟨k, rfl⟩ : ∃ k : Nat, kk = (k : Int) := ⟨kk.toNat, by omega⟩
    have hk : k ≤ T.length := by omega
    have SL := hd (O.out.sl eI_len)
    obtain ⟨hcap, hcap2⟩ := SL.out.cap
    go_wp2_with fail
    refine (own_ints _ _ _ (SL.out.taken k hk) (by simp; omega)).mono ?_
    rintro e w3 ⟨v3, rfl, O3, B3⟩
    have hkl : (T.take k).length ≤ 6 := by simp; omega
    generalize hT1 : T.take k = T1 at O3 hkl
    have HT1 := hd hT1
    clear hT1
    obtain ⟨A3, c3, rfl⟩ := O3.slice
    have S3 := hd (S.out.below B3)
    have K3 := hd (K.out.trans (B3.mono K.out.size))
    have hs3 := B3.size
    have hKs := K.out.size
    clear S K O
    go_wp2_with (at_builtin; refine wpList_push2 _ rfl (.tmp 28) (.tmp 30) 25 rfl iI64 (.int .i64 0) 8 Try.underlying25 hiI64 hz0I64 hz1I64 hz2I64 rfl (by decide) _ T1 (i : Int) rfl (O3.alloc _) w3.heap.size rfl #[.int .i64 i] 2 (heap_alloc_new _ _) rfl rfl (by intro u hu; simp [eI] at hu; subst hu; rfl) (by unfold maxLen; omega) (by omega) (by simp; omega) ?_)
    intro v4 w4 O4 hg4 ho4
    have B4 := ((Below.refl w2.heap.size w3).alloc hs3 (.cells #[.int .i64 i] 2)).grown hg4 (by simp; omega) (fun b hb => (O3.lt b hb).1)
    replace SL := hd (SL.out.below (B3.trans B4))
    have S4 := hd (S3.out.below2 (show g < w2.heap.size by omega) B4)
    have K4 := hd (K3.out.trans (B4.mono hKs))
    have hs4 := B4.size
    clear hg4 ho4 O3 S3 K3
    obtain ⟨A4, c4, rfl⟩ : ∃ A c, v4 = .slice A (T1.length + 1) c := (by obtain ⟨A, c, h⟩ := O4.slice; exact ⟨A, c, by rw [h]; simp⟩)
    by_cases hck : co = k
    · have hTk : T.length = k := by omega
      have SD := hd (show ∀ n c, n = 0 → c ≤ 9223372036854775807 → Sl w4 1 (.slice Ao n c) eI (T.drop k) from fun n c hn hc => by
        subst hn
        rw [List.drop_of_length_le (by omega)]
        exact ⟨by simp, Ao, c, rfl, by simp, hc, fun i x hx => by simp at hx⟩)
      go_wp2_with (at_builtin; refine wpList_append_sl _ rfl (.tmp 32) (.tmp 35) 25 rfl iI64 (.int .i64 0) 8 Try.underlying25 hiI64 hz0I64 hz1I64 hz2I64 rfl (by decide) eI_len (by intro y u hu; simp [eI] at hu; subst hu; rfl) (.slice A4 (T1.length + 1) c4) (T1 ++ [(i : Int)]) rfl O4 _ (T.drop k) rfl (SD.out _ _ (by omega) (by omega)) (by unfold maxLen; simp; omega) (by simp; omega) (by omega) ?_)
      intro v5 w5 O5 hg5
      have B5 := (Below.refl w2.heap.size w4).grown hg5 (by omega) (fun b hb => (O4.lt b hb).1)
      have S5 := hd (S4.out.below2 (show g < w2.heap.size by omega) B5)
      have K5 := hd (K4.out.trans (B5.mono hKs))
      have hs5 := B5.size
      have hp := nodup_put (k := k) HT.out.1 (fun x hx => (HT.out.2 x hx).2)
      have hb' := hd (show ∀ x ∈ T.take k ++ [(i : Int)] ++ T.drop k, 0 ≤ x ∧ x < ((i + 1 : Nat) : Int) from fun x hx => by
        rcases mem_put hx with rfl | hx
        · omega
        · have := HT.out.2 x hx; omega)
      have hlen : (T.take k ++ [(i : Int)] ++ T.drop k).length ≤ i + 1 := by simp; omega
      replace O5 := hd (show Own w5 N 2 1 v5 eI (T.take k ++ [(i : Int)] ++ T.drop k) from by rw [HT1.out, List.append_assoc]; exact O5.base hNr)
      have hp := hd hp
      generalize T.take k ++ [(i : Int)] ++ T.drop k = T2 at O5 hp hb' hlen
      clear hg5 S4 K4 SL SD B3 B4 B5
      go_wp2_with fail
      go_roundw
      case rel => exact ⟨i + 1, _, T2, rfl, by go_num, by omega, O5, hlen, hd ⟨hp.out, hb'.out⟩, hd (S5.out.le (by omega)), K5, by omega⟩
      case measure => simp [intOf]; omega
    · have SD := hd (show Sl w4 1 (.slice (Ao.map (fun x => x.add k)) (T.length - k) (co - k)) eI (T.drop k) from by
        have := SL.out.dropped k hk
        rw [if_neg hck, Nat.mul_one] at this
        exact this)
      go_wp2_with (at_builtin; refine wpList_append_sl _ rfl (.tmp 32) (.tmp 35) 25 rfl iI64 (.int .i64 0) 8 Try.underlying25 hiI64 hz0I64 hz1I64 hz2I64 rfl (by decide) eI_len (by intro y u hu; simp [eI] at hu; subst hu; rfl) (.slice A4 (T1.length + 1) c4) (T1 ++ [(i : Int)]) rfl O4 _ (T.drop k) rfl SD.out (by unfold maxLen; simp; omega) (by simp; omega) (by omega) ?_)
      intro v5 w5 O5 hg5
      have B5 := (Below.refl w2.heap.size w4).grown hg5 (by omega) (fun b hb => (O4.lt b hb).1)
      have S5 := hd (S4.out.below2 (show g < w2.heap.size by omega) B5)
      have K5 := hd (K4.out.trans (B5.mono hKs))
      have hs5 := B5.size
      have hp := nodup_put (k := k) HT.out.1 (fun x hx => (HT.out.2 x hx).2)
      have hb' := hd (show ∀ x ∈ T.take k ++ [(i : Int)] ++ T.drop k, 0 ≤ x ∧ x < ((i + 1 : Nat) : Int) from fun x hx => by
        rcases mem_put hx with rfl | hx
        · omega
        · have := HT.out.2 x hx; omega)
      have hlen : (T.take k ++ [(i : Int)] ++ T.drop k).length ≤ i + 1 := by simp; omega
      replace O5 := hd (show Own w5 N 2 1 v5 eI (T.take k ++ [(i : Int)] ++ T.drop k) from by rw [HT1.out, List.append_assoc]; exact O5.base hNr)
      have hp := hd hp
      generalize T.take k ++ [(i : Int)] ++ T.drop k = T2 at O5 hp hb' hlen
      clear hg5 S4 K4 SL SD B3 B4 B5
      go_wp2_with fail
      go_roundw
      case rel => exact ⟨i + 1, _, T2, rfl, by go_num, by omega, O5, hlen, hd ⟨hp.out, hb'.out⟩, hd (S5.out.le (by omega)), K5, by omega⟩
      case measure => simp [intOf]; omega
end Go.Proofs.Ytlgcehdklpbknaa
