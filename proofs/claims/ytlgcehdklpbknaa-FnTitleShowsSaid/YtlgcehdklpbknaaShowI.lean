/- The fewest titles: the program's side. No condition but that the slice reads. -/
import Derived.Test.YtlgcehdklpbknaaShowP
import Derived.Test.YtlgcehdklpbknaaSrtC
import Derived.Test.YtlgcehdklpbknaaFind
import Derived.Test.YtlgcehdklpbknaaWith
import Derived.Laws.EntriesVeiled
namespace Go.Proofs.Ytlgcehdklpbknaa
open Go Go.RowKit Go.ChangeShapes Go.WideShapes
set_option linter.unusedSimpArgs false
set_option linter.unusedVariables false
theorem wh_at {l : List TTitle} {i : Nat} (hi : i < l.length) : wh l i = l[i].2.2.1 - l[i].2.2.2 := by
  unfold wh
  rw [List.getD_eq_getElem?_getD, List.getElem?_eq_getElem hi]
  rfl
theorem whole_fn (W : World) (A : Option Addr) (c b0 : Nat) (l : List TTitle) (hb : W.cell? ⟨b0, 0, none⟩ = some (.slice A l.length c)) (h : Sl W 4 (.slice A l.length c) eTitle l) (ok : okTitles l = true) (i : Nat) (hi : i < l.length) :
    Calls Try.prog 112 #[.int .i64 (i : Nat), .pointer (some ⟨b0, 0, none⟩)] W fun e W' => e = .returned (.int .i64 (wh l i)) ∧ ∃ q, W' = W.drewN q := by
  have z20 := okTitles_len ok
  have hb2 := okTitleB_bd (okTitles_at ok i hi)
  have HW := hd (wh_at hi)
  obtain ⟨b, o, rfl, hb1, p0, p1, p2, p3⟩ := h.Title_at hi
  generalize l[i] = x at p0 p1 p2 p3 hb2 HW
  obtain ⟨x0, x1, x2, x3⟩ := x
  obtain ⟨-, -, q2, q3⟩ := hb2
  dsimp only at p0 p1 p2 p3 q2 q3
  clear p0 p1 ok
  go_enter Try.func112, Try.ntmps112
  go_wp2_with fail
  go_quiet (fail)
  go_wp2_with fail
  go_ret
  exact ⟨by rw [HW.out]; rfl, _, rfl⟩
theorem cmp_fn (W : World) (A : Option Addr) (c b0 b1 : Nat) (l : List TTitle) (hb : W.cell? ⟨b0, 0, none⟩ = some (.slice A l.length c)) (hf : W.cell? ⟨b1, 0, none⟩ = some (.func (.func 112) #[] #[.pointer (some ⟨b0, 0, none⟩)]))
    (h : Sl W 4 (.slice A l.length c) eTitle l) (ok : okTitles l = true) (i j : Nat) (hi : i < l.length) (hj : j < l.length) :
    Calls Try.prog 114 #[.int .i64 (i : Nat), .int .i64 (j : Nat), .pointer (some ⟨b1, 0, none⟩)] W fun e W' => e = .returned (.int .i64 (cmpI (wh l j) (wh l i))) ∧ ∃ q, W' = W.drewN q := by
  have WH := hd (show ∀ n i, i < l.length → Calls Try.prog 112 #[.int .i64 (i : Nat), .pointer (some ⟨b0, 0, none⟩)] (W.drewN n) (fun e W' => e = .returned (.int .i64 (wh l i)) ∧ ∃ q, W' = (W.drewN n).drewN q) from fun n i hi => whole_fn (W.drewN n) A c b0 l hb (h.drewN n) ok i hi)
  clear hb h ok
  go_enter Try.func114, Try.ntmps114
  go_wp2_with fail
  go_quiet (first | (go_at_call 112; exact Calls.quiet_of (WH.out _ _ (by assumption))) | (go_at_call 98; exact Calls.quiet_of_same (compare_int _ _ _)))
  go_wp2_with fail
  go_ret
  exact ⟨rfl, _, rfl⟩
section
variable {α β : Type} (key : β → Int) (f : α → β)
theorem mrg_map : ∀ (A B : List α), (mrg (fun x => key (f x)) A B).map f = mrg key (A.map f) (B.map f)
  | [], B => by rw [mrg_nil_left, List.map_nil, mrg_nil_left]
  | a :: A, [] => by rw [mrg_nil_right, List.map_nil, mrg_nil_right]
  | a :: A, b :: B => by
    rw [mrg_cons, List.map_cons, List.map_cons, mrg_cons]
    split
    · rw [List.map_cons, mrg_map (a :: A) B, List.map_cons]
    · rw [List.map_cons, mrg_map A (b :: B), List.map_cons]
termination_by A B => A.length + B.length
theorem srt_map (M : List α) : (srt (fun x => key (f x)) M).map f = srt key (M.map f) := by
  refine snoc_ind (P := fun M => (srt (fun x => key (f x)) M).map f = srt key (M.map f)) rfl (fun M x ih => ?_) M
  rw [srt_snoc, mrg_map, ih, List.map_append, List.map_singleton, srt_snoc]
end
def fins (n : Nat) : List (Fin n) := (List.range n).attach.map fun x => ⟨x.1, List.mem_range.1 x.2⟩
theorem fins_val (n : Nat) : (fins n).map (fun i => i.val) = List.range n := by
  unfold fins
  rw [List.map_map]
  exact List.attach_map_subtype_val _
theorem fins_len (n : Nat) : (fins n).length = n := by
  have := congrArg List.length (fins_val n)
  simpa using this
theorem fins_ord (l : List TTitle) : (srt (fun i : Fin l.length => keyW l i.val) (fins l.length)).map (fun i => ((i.val : Nat) : Int)) = castI (ordL l) := by
  have h := srt_map (keyW l) (fun i : Fin l.length => i.val) (fins l.length)
  rw [fins_val] at h
  unfold castI ordL
  rw [← h, List.map_map]
  rfl
theorem fins_cast (n : Nat) : (fins n).map (fun i => ((i.val : Nat) : Int)) = castI (List.range n) := by
  unfold castI
  rw [← fins_val n, List.map_map]
  rfl
theorem order_sort (w2 w : World) (A : Option Addr) (c b0 b1 : Nat) (l : List TTitle) (hb : w2.cell? ⟨b0, 0, none⟩ = some (.slice A l.length c)) (hf : w2.cell? ⟨b1, 0, none⟩ = some (.func (.func 112) #[] #[.pointer (some ⟨b0, 0, none⟩)]))
    (h : Sl w2 4 (.slice A l.length c) eTitle l) (ok : okTitles l = true) (hbel : Below w2.heap.size w2 w) (E : Nat) (v : Value) (ho : Own w w2.heap.size E 1 v eI (castI (List.range l.length))) (hn : 0 < l.length) :
    Calls Try.prog 113 #[v, .func (.func 114) #[] #[.pointer (some ⟨b1, 0, none⟩)]] w (GivesSorted w w2.heap.size E v (castI (ordL l))) := by
  haveI : Inhabited (Fin l.length) := ⟨⟨0, hn⟩⟩
  rw [← fins_cast] at ho
  rw [← fins_ord]
  refine stable_fn (fun i : Fin l.length => ((i.val : Nat) : Int)) (fun i => keyW l i.val) 114 #[.pointer (some ⟨b1, 0, none⟩)] (enters_of Try.func114 (by kernel_rfl) rfl) (fun x y => cmpI (wh l y.val) (wh l x.val)) ?_ w w2.heap.size E v (fins l.length) ho ?_ ?_ ?_
  · intro x y
    show decide (cmpI (wh l y.val) (wh l x.val) < 0) = _
    rw [cmpI_lt]
    unfold keyW
    simp
  · intro e
    have := congrArg List.length e
    rw [fins_len, List.length_nil] at this
    omega
  · rw [fins_len]
    exact okTitles_len ok
  · intro g hg w' hw x y
    have hb2 : Below w2.heap.size w2 w' := hbel.trans (below_of_grown hw hbel.size (fun g' e => by
      cases e
      exact (ho.lt g hg).1))
    exact cmp_fn w' A c b0 b1 l ((hb2.cell (World.block_lt_of_cell? w2 _ hb)).trans hb) ((hb2.cell (World.block_lt_of_cell? w2 _ hf)).trans hf) (h.below hb2) ok x.val y.val x.isLt y.isLt
theorem ord_cast_len (l : List TTitle) : (castI (ordL l)).length = l.length := by simp [castI, ord_len]
theorem cast_take (l : List TTitle) {k : Nat} (hk : k < (ordL l).length) : castI ((ordL l).take (k + 1)) = castI ((ordL l).take k) ++ [((ordL l)[k] : Int)] := by
  unfold castI
  rw [List.take_succ_eq_append_getElem hk, List.map_append]
  rfl
theorem cast_take_len (l : List TTitle) {k : Nat} (hk : k ≤ l.length) : (castI ((ordL l).take k)).length = k := by simp [castI, ord_len]; omega
theorem sl_int {w : World} {g E : Nat} {x : Int} (hg : w.heap[g]? = some (.cells #[.int .i64 x] E (0, 0))) : Sl w 1 (.slice (some ⟨g, 0, none⟩) 1 1) eI [x] := by
  refine ⟨by simp, some ⟨g, 0, none⟩, 1, rfl, by simp, by omega, fun i y hy => ?_⟩
  rcases i with _ | i
  · have hy' : x = y := by simpa using hy
    subst hy'
    refine ⟨g, 0, rfl, (Array.getElem?_eq_some_iff.1 hg).1, fun j u hu => ?_⟩
    rcases j with _ | j
    · have hu' : Value.int .i64 x = u := by simpa [eI] using hu
      subst hu'
      exact (cell_of_row _ _ 0 _ E (0, 0) hg).trans rfl
    · simp [eI] at hu
  · simp at hy
theorem order_any (w2 w : World) (A : Option Addr) (c b0 b1 : Nat) (l : List TTitle) (hb : w2.cell? ⟨b0, 0, none⟩ = some (.slice A l.length c)) (hf : w2.cell? ⟨b1, 0, none⟩ = some (.func (.func 112) #[] #[.pointer (some ⟨b0, 0, none⟩)]))
    (h : Sl w2 4 (.slice A l.length c) eTitle l) (ok : okTitles l = true) (hbel : Below w2.heap.size w2 w) (E : Nat) (v : Value) (ho : Own w w2.heap.size E 1 v eI (castI (List.range l.length))) :
    Calls Try.prog 113 #[v, .func (.func 114) #[] #[.pointer (some ⟨b1, 0, none⟩)]] w (GivesSorted w w2.heap.size E v (castI (ordL l))) := by
  rcases Nat.eq_zero_or_pos l.length with q | q
  · have hl : l = [] := List.eq_nil_of_length_eq_zero q
    subst hl
    obtain ⟨p, cp, rfl⟩ := ho.slice
    refine (stable_nil w p cp _).mono ?_
    rintro e w' ⟨rfl, rfl⟩
    exact ⟨rfl, ho, ⟨rfl, rfl, rfl, Nat.le_refl _, fun _ _ _ => rfl⟩⟩
  · exact order_sort w2 w A c b0 b1 l hb hf h ok hbel E v ho q
set_option maxRecDepth 100000 in
set_option maxHeartbeats 4000000 in
theorem show_impl (w : World) (v : Value) (l : List TTitle) (h : Sl w 4 v eTitle l) (g : Int) (hg : -9223372036854775808 ≤ g ∧ g ≤ 9223372036854775807) :
    Calls Try.prog 55 #[v, .int .i64 g] w (GivesOwnI w 2 1 eI (showR l g)) := by
  have m1 := h.len
  obtain ⟨A, c, rfl⟩ := h.slice
  have hb0 := (Below.refl w.heap.size w).alloc (Nat.le_refl _) (.cells #[.slice A l.length c] 51)
  have b0 := new_cell w #[.slice A l.length c] 51 0 (.slice A l.length c) rfl
  have hgs : w.heap.size < (w.alloc (.cells #[.slice A l.length c] 51)).heap.size := by simp
  rcases h1 : okTitles l with _ | _
  · have HR := hd (show showR l g = ([], 1) by simp [showR, h1])
    go_enter Try.func55, Try.ntmps55
    go_wp2_with fail
    generalize (w.alloc (.cells #[.slice A l.length c] 51)) = W at hb0 b0 hgs ⊢
    refine (titles_impl _ _ _ (h.below hb0)).mono ?_
    rintro e w1 ⟨rfl, hb⟩
    rw [h1]
    have hb1 := below_step hb0 hb
    go_wp2_with fail
    go_ret2
    exact GivesOwnI.is_nil HR.out _ hb1
  · rcases h2 : inB g 0 600 with _ | _
    · have HR := hd (show showR l g = ([], 2) by simp [showR, h1, h2])
      go_enter Try.func55, Try.ntmps55
      go_wp2_with fail
      generalize (w.alloc (.cells #[.slice A l.length c] 51)) = W at hb0 b0 hgs ⊢
      refine (titles_impl _ _ _ (h.below hb0)).mono ?_
      rintro e w1 ⟨rfl, hb⟩
      rw [h1]
      have hb1 := below_step hb0 hb
      go_wp2_with fail
      refine (in_impl _ _ _ _).mono ?_
      rintro e w2 ⟨rfl, rfl⟩
      rw [h2]
      go_wp2_with fail
      go_ret2
      exact GivesOwnI.is_nil HR.out _ hb1
    · have HO := hd h1
      have hgb := inB_true h2
      have HRs := hd (fun k (e : firstW l g = some k) => show showR l g = (sortedI (castI ((ordL l).take k)), 0) by simp [showR, h1, h2, e])
      have HRn := hd (fun (e : firstW l g = none) => show showR l g = ([], 3) by simp [showR, h1, h2, e])
      have z20 := okTitles_len h1
      go_enter Try.func55, Try.ntmps55
      go_wp2_with fail
      generalize (w.alloc (.cells #[.slice A l.length c] 51)) = W at hb0 b0 hgs ⊢
      refine (titles_impl _ _ _ (h.below hb0)).mono ?_
      rintro e w1 ⟨rfl, hb⟩
      rw [h1]
      have hb1 := below_step hb0 hb
      have b01 := (hb.cell (p := ⟨w.heap.size, 0, none⟩) hgs).trans b0
      have hg1 := Nat.lt_of_lt_of_le hgs hb.size
      clear b0 hgs hb0 h1
      go_wp2_with fail
      refine (in_impl _ _ _ _).mono ?_
      rintro e w2 ⟨rfl, rfl⟩
      rw [h2]
      clear h2
      go_wp2_with fail
      obtain ⟨Z, hZ⟩ : ∃ Z, Z = w2.alloc (.cells #[.func (.func 112) #[] #[.pointer (some ⟨w.heap.size, 0, none⟩)]] 88) := ⟨_, rfl⟩
      have hbZ : Below w2.heap.size w2 Z := by rw [hZ]; exact (Below.refl _ _).alloc (Nat.le_refl _) _
      have c1 : Z.cell? ⟨w2.heap.size, 0, none⟩ = some (.func (.func 112) #[] #[.pointer (some ⟨w.heap.size, 0, none⟩)]) := by rw [hZ]; exact new_cell w2 _ _ 0 _ rfl
      have hs : w2.heap.size + 1 = Z.heap.size := by rw [hZ]; simp
      rw [← hZ, hs]
      have c0 := (hbZ.cell (p := ⟨w.heap.size, 0, none⟩) hg1).trans b01
      have hbw := below_step hb1 hbZ
      have hT := h.below hbw
      have hzl : w2.heap.size < Z.heap.size := by omega
      have hg2 : w.heap.size < Z.heap.size := by omega
      have hZw : w.heap.size ≤ Z.heap.size := hbw.size
      clear hZ hs hbZ hb hb1 b01 hg1
      generalize w2.heap.size = b1 at c1 hzl ⊢
      clear w2 W
      obtain ⟨i0, hi, hz0, hz1, hz2⟩ := info_parts info_i64
      have ho0 := Own.made0 Z Z.heap.size 2 1 eI (Nat.le_refl _)
      have hbel0 := (Below.refl Z.heap.size Z).alloc (Nat.le_refl _) (.cells #[] 2)
      go_loopw [7, 25] (fun ov i wr => ∃ k : Nat, k ≤ l.length ∧ i = .int .i64 k ∧ Own wr Z.heap.size 2 1 ov eI (castI (List.range k)) ∧ Below Z.heap.size Z wr) (fun _ i _ => l.length - (intOf i).toNat)
      case atStart => exact ⟨0, Nat.zero_le _, rfl, ho0, hbel0⟩
      case round =>
        obtain ⟨k, hk, rfl, hown, hbel⟩ := hrel
        clear ho0 hbel0
        have hlen : (castI (List.range k)).length = k := by simp [castI]
        by_cases hlt : k < l.length
        · have HY := hd (show castI (List.range (k + 1)) = castI (List.range k) ++ [(k : Int)] by simp [castI, List.range_succ])
          generalize castI (List.range k) = L at hown hlen HY
          go_wp2_with (at_builtin; refine wpList_push _ rfl _ _ 25 rfl i0 (.int .i64 0) 8 Try.underlying25 hi hz0 hz1 hz2 rfl (by decide) _ _ (k : Int) rfl (hown.alloc _) wr.heap.size rfl #[.int .i64 (k : Int)] 2 (heap_alloc_new _ _) rfl rfl (by intro u hu; simp [eI] at hu; subst hu; rfl) (by unfold maxLen; omega) (by omega) (by have := hbel.size; simp; omega) ?_)
          intro v' w3 hown2 hgr2
          have hbel2 := (hbel.alloc hbel.size (.cells #[.int .i64 (k : Int)] 2)).grown hgr2 (by have := hbel.size; simp; omega) (fun g hg => (hown.lt g hg).1)
          clear hown hgr2
          go_wp2_with fail
          go_roundw
          case rel => exact ⟨k + 1, by omega, by go_num, by rw [HY.out]; exact hown2, hbel2⟩
          case measure => simp [intOf]; omega
        · obtain rfl : k = l.length := by omega
          have hsrt := order_any Z wr A c w.heap.size b1 l c0 c1 hT HO.out hbel 2 _ hown
          go_wp2_with fail
          refine hsrt.mono ?_
          rintro e w4 ⟨rfl, ho4, hg4⟩
          have hb4 := hbel.grown hg4 hbel.size (fun g hg => (hown.lt g hg).1)
          clear hsrt hown hbel hg4
          have hzb4 := hb4.size
          obtain ⟨Ao, co, rfl⟩ := ho4.slice
          rw [ord_cast_len] at ho4 ⊢
          go_wp2_with fail
          have hord := ho4.sl eI_len
          have out0 := Own.made0 w4 w4.heap.size 2 1 eI (Nat.le_refl _)
          have bel0 := (Below.refl w4.heap.size w4).alloc (Nat.le_refl _) (.cells #[] 2)
          have WH := hd (show ∀ w', Below w4.heap.size w4 w' → ∀ i, i < l.length → Calls Try.prog 112 #[.int .i64 (i : Nat), .pointer (some ⟨w.heap.size, 0, none⟩)] w' (fun e W' => e = .returned (.int .i64 (wh l i)) ∧ ∃ q, W' = w'.drewN q) from fun w' hw' i hi => by
            have hZ' : Below Z.heap.size Z w' := hb4.trans (hw'.mono hzb4)
            exact whole_fn w' A c w.heap.size l ((hZ'.cell hg2).trans c0) (hT.below hZ') HO.out i hi)
          have HC1 := hd (show ∀ w', Below w4.heap.size w4 w' → w'.cell? ⟨b1, 0, none⟩ = some (.func (.func 112) #[] #[.pointer (some ⟨w.heap.size, 0, none⟩)]) from fun w' hw' => ((hb4.trans (hw'.mono hzb4)).cell hzl).trans c1)
          have HBW := hd (show ∀ w', Below w4.heap.size w4 w' → Below w.heap.size w w' from fun w' hw' => hbw.trans ((hb4.trans (hw'.mono hzb4)).mono hZw))
          have hwz : w.heap.size ≤ w4.heap.size := by omega
          clear hT c0 c1 hbw hb4
          go_loopw [9, 10, 39] (fun ov sv i wr => ∃ k : Nat, k ≤ l.length ∧ i = .int .i64 k ∧ sv = .int .i64 (sumW l k) ∧ Own wr w4.heap.size 2 1 ov eI (castI ((ordL l).take k)) ∧ Below w4.heap.size w4 wr ∧ Hid (∀ j, j < k → sumW l j < g)) (fun _ _ i _ => l.length - (intOf i).toNat)
          case atStart => exact ⟨0, Nat.zero_le _, rfl, rfl, out0, bel0, hd (fun j hj => absurd hj (by omega))⟩
          case round =>
            obtain ⟨k, hk, rfl, rfl, hown, hbel, HJ⟩ := hrel
            clear out0 bel0
            have hsb := sumW_bd HO.out k hk
            by_cases hlt : k < l.length
            · have hltc : k < (castI (ordL l)).length := by rw [ord_cast_len]; exact hlt
              have hlto : k < (ordL l).length := by rw [ord_len]; exact hlt
              obtain ⟨b, o, rfl, hbo, hc⟩ := (hord.below hbel).int_at hltc
              have hx : (castI (ordL l))[k] = (((ordL l)[k] : Nat) : Int) := by simp [castI]
              rw [hx] at hc
              have hxl : (ordL l)[k] < l.length := ord_mem.1 (List.getElem_mem hlto)
              have HY := hd (cast_take l hlto)
              have HS := hd (sumW_succ l hlto)
              have hxw := wh_bd HO.out ((ordL l)[k])
              have HK := hd (cast_take_len l hk)
              by_cases hge : g ≤ sumW l k
              · go_wp2_with fail
                refine (sort_ints _ _ _ _ _ hown (by rw [cast_take_len l hk]; omega)).mono ?_
                rintro e w6 ⟨rfl, ho6, hg6⟩
                have hb6 := hbel.grown hg6 hbel.size (fun g hg => (hown.lt g hg).1)
                clear hown hbel hg6
                go_wp2_with fail
                go_ret2
                exact GivesOwnI.is (HRs.out k (firstW_some hk hge HJ.out)) (ho6.base hwz) (HBW.out _ hb6)
              · have hlg : sumW l k < g := by omega
                clear hge hx hltc
                go_wp2_with fail
                generalize (ordL l)[k] = x at hc hxl HY HS hxw
                generalize castI ((ordL l).take k) = L at hown HY HK
                have HJ2 : Hid (∀ j, j < k + 1 → sumW l j < g) := hd (fun j hj => by
                  rcases Nat.lt_or_eq_of_le (Nat.le_of_lt_succ hj) with q | q
                  · exact HJ.out j q
                  · rw [q]; exact hlg)
                have hLn := HK.out
                have hL20 : L.length ≤ 20 := by omega
                have bd : Below w4.heap.size w4 wr.drew := hbel.drew
                have bda : Below w4.heap.size w4 (wr.drew.alloc (.cells #[.int .i64 (x : Int)] 2)) := bd.alloc bd.size _
                have r0 := HC1.out _ bd
                have r1 := HC1.out _ bda
                have r1b : ((wr.alloc (.cells #[.int .i64 (x : Int)] 2)).drew).cell? ⟨b1, 0, none⟩ = some (.func (.func 112) #[] #[.pointer (some ⟨w.heap.size, 0, none⟩)]) := r1
                have hownd := hown.drew
                have hld := hown.lt
                clear hc
                go_region_law (first | ((first | (go_simp; go_at_call 112) | (guard_target =~ Calls _ _ _ _ _)); (first | (refine (WH.out wr.drew bd x hxl).mono ?_; rintro e w5 ⟨rfl, q5, hw5⟩; have B5 : Below w4.heap.size w4 w5 := (by rw [hw5]; exact below_drewN bd q5); have O5 := hownd.drewN q5; rw [← hw5] at O5; clear hw5) | (refine (WH.out (wr.drew.alloc (.cells #[.int .i64 (x : Int)] 2)) bda x hxl).mono ?_; rintro e w5 ⟨rfl, q5, hw5⟩; have B5 : Below w4.heap.size w4 w5 := (by rw [hw5]; exact below_drewN bda q5); have O5 := (hownd.alloc (.cells #[.int .i64 (x : Int)] 2)).drewN q5; rw [← hw5] at O5; have H5 : w5.heap[wr.drew.heap.size]? = some (.cells #[.int .i64 (x : Int)] 2 (0, 0)) := (by rw [hw5]; exact heap_alloc_new wr.drew _); clear hw5) | (refine (WH.out w3 B3 x hxl).mono ?_; rintro e w5 ⟨rfl, q5, hw5⟩; have B5 : Below w4.heap.size w4 w5 := (by rw [hw5]; exact below_drewN B3 q5); have O5 := O3.drewN q5; rw [← hw5] at O5; clear hw5))) | (refine step_append_sl (w5.alloc (.cells #[.int .i64 (x : Int)] 2)) rfl (.tmp 46) (.tmp 48) 25 rfl i0 (.int .i64 0) 8 Try.underlying25 hi hz0 hz1 hz2 rfl (by decide) eI_len (by intro y u hu; simp [eI] at hu; subst hu; rfl) _ L rfl (O5.alloc _) _ [(x : Int)] rfl (sl_int (heap_alloc_new w5 _)) (by unfold maxLen; simp; omega) (by simp; omega) (by have := B5.size; simp; omega) ?_; intro v3 w3 O3 hg3; have B3 : Below w4.heap.size w4 w3 := (B5.alloc B5.size (.cells #[.int .i64 (x : Int)] 2)).grown hg3 (B5.alloc B5.size (.cells #[.int .i64 (x : Int)] 2)).size (fun g hg => (O5.lt g hg).1)) | (refine step_append_sl w5 rfl (.tmp 46) (.tmp 48) 25 rfl i0 (.int .i64 0) 8 Try.underlying25 hi hz0 hz1 hz2 rfl (by decide) eI_len (by intro y u hu; simp [eI] at hu; subst hu; rfl) _ L rfl O5 _ [(x : Int)] rfl (sl_int H5) (by unfold maxLen; simp; omega) (by simp; omega) B5.size ?_; intro v3 w3 O3 hg3; have B3 : Below w4.heap.size w4 w3 := B5.grown hg3 B5.size (fun g hg => (O5.lt g hg).1)) | (refine step_append_sl (wr.drew.alloc (.cells #[.int .i64 (x : Int)] 2)) rfl (.tmp 46) (.tmp 48) 25 rfl i0 (.int .i64 0) 8 Try.underlying25 hi hz0 hz1 hz2 rfl (by decide) eI_len (by intro y u hu; simp [eI] at hu; subst hu; rfl) _ L rfl (hownd.alloc _) _ [(x : Int)] rfl (sl_int (heap_alloc_new wr.drew _)) (by unfold maxLen; simp; omega) (by simp; omega) bda.size ?_; intro v3 w3 O3 hg3; have B3 : Below w4.heap.size w4 w3 := bda.grown hg3 bda.size (fun g hg => (hownd.lt g hg).1); have r3 := HC1.out w3 B3))
                all_goals go_wp2_with fail
                all_goals have HSW := hd (show Value.int .i64 (IntKind.i64.wrap (sumW l k + wh l x)) = .int .i64 (sumW l (k + 1)) by rw [HS.out, IntWalk.i64_in _ (by omega)])
                all_goals have HSP := hd (show Value.int .i64 (sumW l k + wh l x) = .int .i64 (sumW l (k + 1)) by rw [HS.out])
                all_goals go_roundw
                all_goals first
                  | (case rel =>
                      first
                      | exact ⟨k + 1, by omega, by go_num, (by first | exact HSP.out | exact HSW.out), by rw [HY.out]; exact O3, B3, HJ2⟩
                      | exact ⟨k + 1, by omega, by go_num, (by first | exact HSP.out | exact HSW.out), by rw [HY.out]; exact O5, B5, HJ2⟩)
                  | (case measure => simp [intOf]; omega)
            · obtain rfl : k = l.length := by omega
              by_cases hge : g ≤ sumW l l.length
              · go_wp2_with fail
                refine (sort_ints _ _ _ _ _ hown (by rw [cast_take_len l hk]; omega)).mono ?_
                rintro e w6 ⟨rfl, ho6, hg6⟩
                have hb6 := hbel.grown hg6 hbel.size (fun g hg => (hown.lt g hg).1)
                clear hown hbel hg6
                go_wp2_with fail
                go_ret2
                exact GivesOwnI.is (HRs.out l.length (firstW_some hk hge HJ.out)) (ho6.base hwz) (HBW.out _ hb6)
              · have hlg : sumW l l.length < g := by omega
                have hN : firstW l g = none := firstW_none fun j hj => by
                  rcases Nat.lt_or_eq_of_le hj with q | q
                  · exact HJ.out j q
                  · rw [q]; exact hlg
                clear hge
                go_wp2_with fail
                go_ret2
                exact GivesOwnI.is_nil (HRn.out hN) _ (HBW.out _ hbel)
end Go.Proofs.Ytlgcehdklpbknaa
