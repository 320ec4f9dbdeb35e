/- The fewest titles: the reference's side. No condition but that the slice reads. -/
import Derived.Test.YtlgcehdklpbknaaShowI
namespace Go.Proofs.Ytlgcehdklpbknaa
open Go Go.RowKit Go.ChangeShapes Go.WideShapes
set_option linter.unusedSimpArgs false
set_option linter.unusedVariables false
theorem putL_step {T : List Int} {x : Int} {k : Nat} (hk : k < T.length) : putL (T.drop k) x = if x ≤ T[k] then (if x < T[k] then x :: T.drop k else T.drop k) else T[k] :: putL (T.drop (k + 1)) x := by
  rw [List.drop_eq_getElem_cons hk]
  rfl
set_option maxRecDepth 100000 in
set_option maxHeartbeats 4000000 in
theorem put_spec (w : World) (v : Value) (T : List Int) (h : Sl w 1 v eI T) (hT : T.length ≤ 20) (x : Int) :
    Calls Try.prog 118 #[v, .int .i64 x] w fun e w' => ∃ v', e = .returned v' ∧ Own w' w.heap.size 2 1 v' eI (putL T x) ∧ Below w.heap.size w w' := by
  obtain ⟨A, c, rfl⟩ := h.slice
  obtain ⟨i0, hi, hz0, hz1, hz2⟩ := info_parts info_i64
  go_enter Try.func118, Try.ntmps118
  go_wp2_with fail
  have ho0 := Own.made0 w w.heap.size 2 1 eI (Nat.le_refl _)
  have hb0 := (Below.refl w.heap.size w).alloc (Nat.le_refl _) (.cells #[] 2)
  go_loopw [5, 6, 7] (fun ov bv i wr => ∃ (k : Nat) (b : Bool) (o : List Int), k ≤ T.length ∧ i = .int .i64 k ∧ bv = .bool b ∧ Own wr w.heap.size 2 1 ov eI o ∧ Below w.heap.size w wr ∧ o.length ≤ k + 1 ∧ (b = false → o.length ≤ k) ∧ Hid (if b then o ++ T.drop k = putL T x else o ++ putL (T.drop k) x = putL T x)) (fun _ _ i _ => T.length - (intOf i).toNat)
  case atStart => exact ⟨0, false, [], Nat.zero_le _, rfl, rfl, ho0, hb0, by simp, fun _ => Nat.zero_le _, hd (by simp)⟩
  case round =>
    obtain ⟨k, b, o, hk, rfl, rfl, hown, hbel, hol, holf, HI⟩ := hrel
    clear ho0 hb0
    by_cases hlt : k < T.length
    · obtain ⟨bb, oo, rfl, hbb, hc0⟩ := h.int_at hlt
      have HCc := hd (fun (w' : World) (hb' : Below w.heap.size w w') => (hb'.cell (p := ⟨bb, oo + k, none⟩) hbb).trans hc0)
      have hc := HCc.out wr hbel
      clear hc0
      have HD := hd (show T.drop k = T[k] :: T.drop (k + 1) from List.drop_eq_getElem_cons hlt)
      have HP := hd (putL_step (x := x) hlt)
      generalize T[k] = y at hc HCc HD HP
      rcases b with _ | _
      · have hI : o ++ putL (T.drop k) x = putL T x := by simpa using HI.out
        have hol2 := holf rfl
        by_cases q1 : x ≤ y
        · by_cases q2 : x < y
          · have HE := hd (show (o ++ [x]) ++ [y] ++ T.drop (k + 1) = putL T x by rw [← hI, HP.out, if_pos q1, if_pos q2, HD.out]; simp)
            clear HI hI HP HD
            go_wp2_with (at_builtin; refine wpList_push _ rfl _ _ 25 rfl i0 (.int .i64 0) 8 Try.underlying25 hi hz0 hz1 hz2 rfl (by decide) _ _ (x : Int) rfl (hown.alloc _) wr.heap.size rfl #[.int .i64 (x : Int)] 2 (heap_alloc_new _ _) rfl rfl (by intro u hu; simp [eI] at hu; subst hu; rfl) (by unfold maxLen; first | omega | (simp; omega)) (by first | omega | (simp; omega)) (by have := hbel.size; simp; omega) ?_)
            intro v2 w2 O2 g2
            have B2 := (hbel.alloc hbel.size (.cells #[.int .i64 (x : Int)] 2)).grown g2 (by have := hbel.size; simp; omega) (fun g hg => (hown.lt g hg).1)
            clear g2
            have hc2 := HCc.out w2 B2
            go_wp2_with (at_builtin; refine wpList_push _ rfl _ _ 25 rfl i0 (.int .i64 0) 8 Try.underlying25 hi hz0 hz1 hz2 rfl (by decide) _ _ (y : Int) rfl (O2.alloc _) w2.heap.size rfl #[.int .i64 (y : Int)] 2 (heap_alloc_new _ _) rfl rfl (by intro u hu; simp [eI] at hu; subst hu; rfl) (by unfold maxLen; first | omega | (simp; omega)) (by first | omega | (simp; omega)) (by have := B2.size; simp; omega) ?_)
            intro v3 w3 O3 g3
            have B3 := (B2.alloc B2.size (.cells #[.int .i64 (y : Int)] 2)).grown g3 (by have := B2.size; simp; omega) (fun g hg => (O2.lt g hg).1)
            clear g3
            go_wp2_with fail
            go_roundw
            case rel => exact ⟨k + 1, true, o ++ [x] ++ [y], by omega, by go_num, rfl, by simpa using O3, B3, by simp; omega, (fun e => by cases e), hd (by simpa using HE.out)⟩
            case measure => simp [intOf]; omega
          · have HE := hd (show o ++ [y] ++ T.drop (k + 1) = putL T x by rw [← hI, HP.out, if_pos q1, if_neg q2, HD.out]; simp)
            clear HI hI HP HD
            go_wp2_with (at_builtin; refine wpList_push _ rfl _ _ 25 rfl i0 (.int .i64 0) 8 Try.underlying25 hi hz0 hz1 hz2 rfl (by decide) _ _ (y : Int) rfl (hown.alloc _) wr.heap.size rfl #[.int .i64 (y : Int)] 2 (heap_alloc_new _ _) rfl rfl (by intro u hu; simp [eI] at hu; subst hu; rfl) (by unfold maxLen; first | omega | (simp; omega)) (by first | omega | (simp; omega)) (by have := hbel.size; simp; omega) ?_)
            intro v3 w3 O3 g3
            have B3 := (hbel.alloc hbel.size (.cells #[.int .i64 (y : Int)] 2)).grown g3 (by have := hbel.size; simp; omega) (fun g hg => (hown.lt g hg).1)
            clear g3
            go_wp2_with fail
            go_roundw
            case rel => exact ⟨k + 1, true, o ++ [y], by omega, by go_num, rfl, O3, B3, by simp; omega, (fun e => by cases e), hd (by simpa using HE.out)⟩
            case measure => simp [intOf]; omega
        · have HE := hd (show o ++ [y] ++ putL (T.drop (k + 1)) x = putL T x by rw [← hI, HP.out, if_neg q1]; simp)
          clear HI hI HP HD
          go_wp2_with (at_builtin; refine wpList_push _ rfl _ _ 25 rfl i0 (.int .i64 0) 8 Try.underlying25 hi hz0 hz1 hz2 rfl (by decide) _ _ (y : Int) rfl (hown.alloc _) wr.heap.size rfl #[.int .i64 (y : Int)] 2 (heap_alloc_new _ _) rfl rfl (by intro u hu; simp [eI] at hu; subst hu; rfl) (by unfold maxLen; first | omega | (simp; omega)) (by first | omega | (simp; omega)) (by have := hbel.size; simp; omega) ?_)
          intro v3 w3 O3 g3
          have B3 := (hbel.alloc hbel.size (.cells #[.int .i64 (y : Int)] 2)).grown g3 (by have := hbel.size; simp; omega) (fun g hg => (hown.lt g hg).1)
          clear g3
          go_wp2_with fail
          go_roundw
          case rel => exact ⟨k + 1, false, o ++ [y], by omega, by go_num, rfl, O3, B3, by simp; omega, (fun _ => by simp; omega), hd (by simpa using HE.out)⟩
          case measure => simp [intOf]; omega
      · have HE := hd (show o ++ [y] ++ T.drop (k + 1) = putL T x by have := HI.out; rw [if_pos rfl, HD.out] at this; rw [← this]; simp)
        clear HI HP HD
        go_wp2_with (at_builtin; refine wpList_push _ rfl _ _ 25 rfl i0 (.int .i64 0) 8 Try.underlying25 hi hz0 hz1 hz2 rfl (by decide) _ _ (y : Int) rfl (hown.alloc _) wr.heap.size rfl #[.int .i64 (y : Int)] 2 (heap_alloc_new _ _) rfl rfl (by intro u hu; simp [eI] at hu; subst hu; rfl) (by unfold maxLen; first | omega | (simp; omega)) (by first | omega | (simp; omega)) (by have := hbel.size; simp; omega) ?_)
        intro v3 w3 O3 g3
        have B3 := (hbel.alloc hbel.size (.cells #[.int .i64 (y : Int)] 2)).grown g3 (by have := hbel.size; simp; omega) (fun g hg => (hown.lt g hg).1)
        clear g3
        go_wp2_with fail
        go_roundw
        case rel => exact ⟨k + 1, true, o ++ [y], by omega, by go_num, rfl, O3, B3, by simp; omega, (fun e => by cases e), hd (by simpa using HE.out)⟩
        case measure => simp [intOf]; omega
    · obtain rfl : k = T.length := by omega
      rcases b with _ | _
      · have HE := hd (show o ++ [x] = putL T x by have := HI.out; simpa [putL] using this)
        clear HI
        go_wp2_with (at_builtin; refine wpList_push _ rfl _ _ 25 rfl i0 (.int .i64 0) 8 Try.underlying25 hi hz0 hz1 hz2 rfl (by decide) _ _ (x : Int) rfl (hown.alloc _) wr.heap.size rfl #[.int .i64 (x : Int)] 2 (heap_alloc_new _ _) rfl rfl (by intro u hu; simp [eI] at hu; subst hu; rfl) (by unfold maxLen; first | omega | (simp; omega)) (by first | omega | (simp; omega)) (by have := hbel.size; simp; omega) ?_)
        intro v3 w3 O3 g3
        have B3 := (hbel.alloc hbel.size (.cells #[.int .i64 (x : Int)] 2)).grown g3 (by have := hbel.size; simp; omega) (fun g hg => (hown.lt g hg).1)
        clear g3
        go_wp2_with fail
        go_ret
        exact ⟨_, rfl, by rw [← HE.out]; exact O3, B3⟩
      · have HE := hd (show o = putL T x by have := HI.out; simpa using this)
        clear HI
        go_wp2_with fail
        go_ret
        exact ⟨_, rfl, by rw [← HE.out]; exact hown, hbel⟩
theorem showR_len (l : List TTitle) (g : Int) : (showR l g).1.length ≤ l.length := by
  unfold showR
  split
  · split
    · split
      · simp only [sortedI_len]
        unfold castI
        rw [List.length_map, List.length_take, ord_len]
        exact Nat.min_le_right _ _
      · simp
    · simp
  · simp
theorem sum_stuck {l : List TTitle} {k : Nat} (hk : ∀ hk : k < (ordL l).length, wh l ((ordL l)[k]) ≤ 0) (j : Nat) (hkj : k ≤ j) (hj : j ≤ l.length) : sumW l j ≤ sumW l k := by
  induction j with
  | zero => have : k = 0 := by omega
            subst this
            exact Int.le_refl _
  | succ j ih =>
    rcases Nat.lt_or_eq_of_le hkj with q | q
    · have h1 := ih (by omega) (by omega)
      rw [sumW_succ l (by rw [ord_len]; omega)]
      have h2 := hk (by rw [ord_len]; omega)
      rcases Nat.lt_or_eq_of_le (Nat.le_of_lt_succ q) with q' | q'
      · have := ord_lex l q' (by rw [ord_len]; omega)
        omega
      · subst q'
        omega
    · subst q
      exact Int.le_refl _
theorem bst_cases {l : List TTitle} {k : Nat} : (∃ hk : k < (ordL l).length, 0 < wh l ((ordL l)[k]) ∧ bst l (sortedI (castI ((ordL l).take k))) l.length = (((ordL l)[k] : Int), wh l ((ordL l)[k]))) ∨ ((∀ hk : k < (ordL l).length, wh l ((ordL l)[k]) ≤ 0) ∧ bst l (sortedI (castI ((ordL l).take k))) l.length = (-1, 0)) := by
  by_cases q : ∃ hk : k < (ordL l).length, 0 < wh l ((ordL l)[k])
  · obtain ⟨hk, hp⟩ := q
    exact .inl ⟨hk, hp, (bst_some hk hp l.length (Nat.le_refl _)).2 (ord_mem.1 (List.getElem_mem hk))⟩
  · have q' : ∀ hk : k < (ordL l).length, wh l ((ordL l)[k]) ≤ 0 := fun hk => by
      have : ¬ 0 < wh l ((ordL l)[k]) := fun e => q ⟨hk, e⟩
      omega
    exact .inr ⟨q', bst_none q' l.length (Nat.le_refl _)⟩
theorem bst_bd {l : List TTitle} (h : okTitles l = true) (T : List Int) (i : Nat) : 0 ≤ (bst l T i).2 ∧ (bst l T i).2 ≤ 30 := by
  induction i with
  | zero => simp [bst]
  | succ i ih =>
    unfold bst
    split
    · exact wh_bd h i
    · exact ih
set_option maxRecDepth 100000 in
set_option maxHeartbeats 4000000 in
theorem show_spec (w : World) (v : Value) (l : List TTitle) (h : Sl w 4 v eTitle l) (g : Int) (hg : -9223372036854775808 ≤ g ∧ g ≤ 9223372036854775807) :
    Calls Try.prog 57 #[v, .int .i64 g] w (GivesOwnI w 2 1 eI (showR l g)) := by
  have m1 := h.len
  obtain ⟨A, c, rfl⟩ := h.slice
  rcases h1 : okTitles l with _ | _
  · have HR := hd (show showR l g = ([], 1) by simp [showR, h1])
    go_enter Try.func57, Try.ntmps57
    go_wp2_with fail
    refine (titles_spec0 _ _ _ h).mono ?_
    rintro e w1 ⟨rfl, hb⟩
    rw [h1]
    go_wp2_with fail
    go_ret2
    exact GivesOwnI.is_nil HR.out _ hb
  · rcases h2 : inB g 0 600 with _ | _
    · have HR := hd (show showR l g = ([], 2) by simp [showR, h1, h2])
      go_enter Try.func57, Try.ntmps57
      go_wp2_with fail
      refine (titles_spec0 _ _ _ h).mono ?_
      rintro e w1 ⟨rfl, hb⟩
      rw [h1]
      go_wp2_with fail
      refine (in_spec _ _ _ _).mono ?_
      rintro e w2 ⟨rfl, rfl⟩
      rw [h2]
      go_wp2_with fail
      go_ret2
      exact GivesOwnI.is_nil HR.out _ hb
    · have HO := hd h1
      have hgb := inB_true h2
      have HRs := hd (fun k (e : firstW l g = some k) => show showR l g = (sortedI (castI ((ordL l).take k)), 0) by simp [showR, h1, h2, e])
      have HRn := hd (fun (e : firstW l g = none) => show showR l g = ([], 3) by simp [showR, h1, h2, e])
      have z20 := okTitles_len h1
      go_enter Try.func57, Try.ntmps57
      go_wp2_with fail
      refine (titles_spec0 _ _ _ h).mono ?_
      rintro e w1 ⟨rfl, hb⟩
      rw [h1]
      clear h1
      go_wp2_with fail
      refine (in_spec _ _ _ _).mono ?_
      rintro e w2 ⟨rfl, rfl⟩
      rw [h2]
      clear h2
      go_wp2_with fail
      have hT := h.below hb
      have hwz := hb.size
      have ho0 := Own.made0 w2 w2.heap.size 2 1 eI (Nat.le_refl _)
      have hbel0 := (Below.refl w2.heap.size w2).alloc (Nat.le_refl _) (.cells #[] 2)
      go_loopw [6, 7] (fun ov s wr => ∃ k : Nat, k ≤ l.length ∧ s = .int .i64 (sumW l k) ∧ Own wr w2.heap.size 2 1 ov eI (sortedI (castI ((ordL l).take k))) ∧ Below w2.heap.size w2 wr ∧ Hid (∀ j, j < k → sumW l j < g)) (fun _ s _ => (g - intOf s).toNat)
      case atStart => exact ⟨0, Nat.zero_le _, by rw [sumW_zero], by simpa [sortedI, castI] using ho0, hbel0, hd (by omega)⟩
      case round =>
        obtain ⟨k, hk, rfl, hown, hbel, HJ⟩ := hrel
        clear ho0 hbel0
        have hsb := sumW_bd HO.out k hk
        by_cases hge : g ≤ sumW l k
        · have HF := hd (firstW_some hk hge HJ.out)
          go_wp2_with fail
          go_ret2
          exact GivesOwnI.is (HRs.out k HF.out) (hown.base hwz) (hb.trans (hbel.mono hwz))
        · have hlt : sumW l k < g := by omega
          clear hge
          have HL := hd (show (sortedI (castI ((ordL l).take k))).length = k by rw [sortedI_len, cast_take_len l hk])
          have HB := hd (bst_cases (l := l) (k := k))
          have HP := hd (fun hk : k < (ordL l).length => put_ord hk)
          have HSS := hd (fun hk : k < (ordL l).length => sumW_succ l hk)
          generalize sortedI (castI ((ordL l).take k)) = T at hown HL HB HP
          obtain ⟨Ao, co, rfl⟩ := hown.slice
          generalize hs : sumW l k = s at hsb hlt HSS
          have HS := hd hs
          clear hs
          go_wp2_with fail
          go_loopw [8, 9, 10] (fun bv mv i wi => ∃ n : Nat, n ≤ l.length ∧ i = .int .i64 n ∧ bv = .int .i64 (bst l T n).1 ∧ mv = .int .i64 (bst l T n).2 ∧ Own wi w2.heap.size 2 1 (.slice Ao T.length co) eI T ∧ Below w2.heap.size w2 wi) (fun _ _ i _ => l.length - (intOf i).toNat)
          case atStart => exact ⟨0, Nat.zero_le _, rfl, rfl, rfl, hown, hbel⟩
          case round =>
            obtain ⟨n, hn, rfl, rfl, rfl, hown1, hbel1⟩ := hrel
            clear hown hbel
            by_cases hnl : n < l.length
            · have HN := hd (show bst l T (n + 1) = if (bst l T n).2 < wh l n ∧ hasI T n = false then ((n : Int), wh l n) else bst l T n from rfl)
              have hb2 := okTitleB_bd (okTitles_at HO.out n hnl)
              have HW := hd (wh_at hnl)
              have hwb := wh_bd HO.out n
              have hbb := bst_bd HO.out T n
              obtain ⟨bb, o, rfl, hbk, p0, p1, p2, p3⟩ := (hT.below hbel1).Title_at hnl
              generalize l[n] = x at p0 p1 p2 p3 hb2 HW
              obtain ⟨x0, x1, x2, x3⟩ := x
              obtain ⟨-, -, q2, q3⟩ := hb2
              dsimp only at p0 p1 p2 p3 q2 q3
              clear p0 p1
              go_wp2_with fail
              go_quiet (fail)
              have HW' := hd (show wh l n = x2 - x3 from HW.out)
              have ho1 := hown1.drewN nq
              have hb1 := below_drewN hbel1 nq
              clear hown1 hbel1 p2 p3 HW
              generalize x2 - x3 = y at HW' ⊢
              generalize bst l T n = bp at HN hbb ⊢
              obtain ⟨bp1, bp2⟩ := bp
              dsimp only at hbb ⊢
              have hy : 0 ≤ y ∧ y ≤ 30 := by rw [← HW'.out]; exact hwb
              clear hwb q2 q3
              by_cases hyy : bp2 < y
              · rcases hh : hasI T (n : Int) with _ | _
                · have HN' := hd (show bst l T (n + 1) = ((n : Int), y) by rw [HN.out, HW'.out, if_pos ⟨hyy, hh⟩])
                  have HHH := hd hh
                  clear hh
                  go_wp2_with fail
                  refine (has_spec _ _ T (ho1.sl eI_len) _).mono ?_
                  rintro e w5 ⟨rfl, hw⟩
                  have hw := hw.symm
                  subst hw
                  rw [HHH.out]
                  go_wp2_with fail
                  go_roundw
                  case rel => exact ⟨n + 1, by omega, by go_num, by rw [HN'.out], by rw [HN'.out], ho1, hb1⟩
                  case measure => simp [intOf]; omega
                · have HN' := hd (show bst l T (n + 1) = (bp1, bp2) by rw [HN.out, if_neg (by rw [hh]; simp)])
                  have HHH := hd hh
                  clear hh
                  go_wp2_with fail
                  refine (has_spec _ _ T (ho1.sl eI_len) _).mono ?_
                  rintro e w5 ⟨rfl, hw⟩
                  have hw := hw.symm
                  subst hw
                  rw [HHH.out]
                  go_wp2_with fail
                  go_roundw
                  case rel => exact ⟨n + 1, by omega, by go_num, by rw [HN'.out], by rw [HN'.out], ho1, hb1⟩
                  case measure => simp [intOf]; omega
              · have HN' := hd (show bst l T (n + 1) = (bp1, bp2) by rw [HN.out, HW'.out, if_neg (by rintro ⟨e, -⟩; exact hyy e)])
                go_wp2_with fail
                go_roundw
                case rel => exact ⟨n + 1, by omega, by go_num, by rw [HN'.out], by rw [HN'.out], ho1, hb1⟩
                case measure => simp [intOf]; omega
            · obtain rfl : n = l.length := by omega
              rcases HB.out with ⟨hko, hpo, hbe⟩ | ⟨hno, hbe⟩
              · rw [hbe]
                clear hbe
                have HP' := hd (HP.out hko)
                have HSS' := hd (HSS.out hko)
                have hwx := wh_bd HO.out (ordL l)[k]
                generalize (ordL l)[k] = x at hpo hwx HP' HSS'
                go_wp2_with fail
                refine (put_spec _ _ T (hown1.sl eI_len) (by have := HL.out; omega) _).mono ?_
                rintro e w6 ⟨v', rfl, ho6, hb6⟩
                have hbw := hbel1.trans (hb6.mono hbel1.size)
                have how := ho6.base hbel1.size
                clear ho6 hb6 hown1 hbel1
                obtain ⟨A6, c6, rfl⟩ := how.slice
                go_wp2_with fail
                go_roundw
                case rel => exact ⟨k + 1, by rw [ord_len] at hko; omega, by rw [HSS'.out], by rw [← HP'.out]; exact how, hbw, hd fun j hj => by
                  rcases Nat.lt_or_eq_of_le (Nat.le_of_lt_succ hj) with q | q
                  · exact HJ.out j q
                  · rw [q, HS.out]; exact hlt⟩
                case measure => simp [intOf]; omega
              · rw [hbe]
                clear hbe
                go_wp2_with fail
                go_ret2
                have hN : firstW l g = none := firstW_none fun j hj => by
                  rcases Nat.lt_or_ge j k with q | q
                  · exact HJ.out j q
                  · have := sum_stuck hno j q hj
                    have := HS.out
                    omega
                exact GivesOwnI.is_nil (HRn.out hN) _ (hb.trans (hbel1.mono hwz))
end Go.Proofs.Ytlgcehdklpbknaa
