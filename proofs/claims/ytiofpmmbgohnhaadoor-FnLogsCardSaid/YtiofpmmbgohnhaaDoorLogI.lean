/- LogOf: the program's function. No condition but the library's table. -/
import Derived.Test.YtiofpmmbgohnhaaDoorLogS
import Derived.Deep.Cut
namespace Go.Proofs.YtiofpmmbgohnhaaDoor
open Go Go.RowKit Go.ChangeShapes Go.WideShapes
set_option linter.unusedSimpArgs false
set_option linter.unusedVariables false

set_option maxHeartbeats 1000000 in
theorem entryPred (w : World) (a : Int) (b : ByteArray) (c : Int) : Calls Tryd.prog 64 #[.agg #[.int .i64 a, .string b, .int .i64 c]] w fun e w' => e = .returned (.bool (!okEntryB (a, b, c))) ∧ Below w.heap.size w w' := by
  have hb := (Below.refl w.heap.size w).alloc (Nat.le_refl _) (.cells #[.int .i64 a, .string b, .int .i64 c] 38)
  have p0 := new_cell w #[.int .i64 a, .string b, .int .i64 c] 38 0 _ rfl
  have p1 := new_cell w #[.int .i64 a, .string b, .int .i64 c] 38 1 _ rfl
  have p2 := new_cell w #[.int .i64 a, .string b, .int .i64 c] 38 2 _ rfl
  rcases q : okEntryB (a, b, c) with _ | _
  all_goals
    go_enter Tryd.func64, Tryd.ntmps64
    go_wp2_with fail
    generalize (w.alloc (.cells #[.int .i64 a, .string b, .int .i64 c] 38)) = W at hb p0 p1 p2 ⊢
    refine (entry_impl _ a b c).mono ?_
    rintro e w1 ⟨rfl, hb1⟩
    have hb2 := below_step hb hb1
    rw [q]
    go_wp2_with fail
    go_ret
    exact ⟨rfl, hb2⟩
set_option maxHeartbeats 1000000 in
theorem index_entries (w : World) (v : Value) (l : List TEntry) (h : Sl w 3 v eEntry l) :
    Calls Tryd.prog 113 #[v, .func (.func 64) #[] #[]] w fun e w' => e = .returned (.int .i64 (idxGo (fun x => !okEntryB x) l 0)) ∧ Below w.heap.size w w' := by
  have m1 := h.len
  obtain ⟨-, A, c, rfl, -, -, -⟩ := id h
  go_enter Tryd.func113, Tryd.ntmps113
  go_wp2_with fail
  go_loopw [8] (fun i wr => ∃ k : Nat, k ≤ l.length ∧ i = .int .i64 k ∧ Below w.heap.size w wr ∧ Hid (idxGo (fun x => !okEntryB x) (l.drop k) k = idxGo (fun x => !okEntryB x) l 0)) (fun i _ => l.length - (intOf i).toNat)
  case atStart => exact ⟨0, Nat.zero_le _, rfl, Below.refl _ _, hd (by simp)⟩
  case round =>
    obtain ⟨k, hk, rfl, hbel, HT⟩ := hrel
    by_cases hlt : k < l.length
    · obtain ⟨b, o, rfl, hb, p0, p1, p2⟩ := (h.below hbel).Entry_at hlt
      have HS := hd (HT.out.symm.trans (idxGo_drop (fun x => !okEntryB x) l k k hlt))
      generalize l[k] = x at p0 p1 p2 HS
      obtain ⟨xa, xb, xc⟩ := x
      dsimp only at p0 p1 p2
      rcases hp : !okEntryB (xa, xb, xc) with _ | _
      · go_wp2_with fail
        refine (entryPred _ _ _ _).mono ?_
        rintro e w2 ⟨rfl, hb2⟩
        have hbel2 := below_step hbel hb2
        rw [hp]
        go_wp2_with fail
        go_roundw
        case rel => exact ⟨k + 1, by omega, by go_num, hbel2, hd (by have := HS.out; rw [hp] at this; exact this.symm)⟩
        case measure => simp [intOf]; omega
      · go_wp2_with fail
        refine (entryPred _ _ _ _).mono ?_
        rintro e w2 ⟨rfl, hb2⟩
        have hbel2 := below_step hbel hb2
        rw [hp]
        go_wp2_with fail
        go_ret
        exact ⟨by rw [HS.out, hp]; rfl, hbel2⟩
    · go_wp2_with fail
      go_ret
      exact ⟨by rw [← HT.out, List.drop_of_length_le (by omega)]; rfl, hbel⟩
theorem contains_entries (w : World) (v : Value) (l : List TEntry) (h : Sl w 3 v eEntry l) :
    Calls Tryd.prog 63 #[v, .func (.func 64) #[] #[]] w fun e w' => e = .returned (.bool (l.any (fun x => !okEntryB x))) ∧ Below w.heap.size w w' := by
  rw [← idxGo_nonneg (fun x => !okEntryB x) l 0 (by omega)]
  go_enter Tryd.func63, Tryd.ntmps63
  go_wp2_with fail
  refine (index_entries _ _ _ h).mono ?_
  rintro e w' ⟨rfl, hb⟩
  go_wp2_with fail
  go_ret
  exact ⟨rfl, hb⟩
set_option maxHeartbeats 2000000 in
theorem logof_impl (w : World) (v : Value) (l : List TEntry) (h : Sl w 3 v eEntry l) (hl : l.length ≤ 1048576) (ht : Tab w) :
    Calls Tryd.prog 14 #[v] w (GivesLog w (logR l)) := by
  have m1 := h.len
  have HT := hd ht
  clear ht
  obtain ⟨A, c, rfl⟩ := h.isSlice
  rcases q0 : (l.any fun x => !okEntryB x) with _ | _
  case true =>
    have HE := hd (show logR l = (ByteArray.empty, 7) by unfold logR; rw [if_pos q0])
    go_enter Tryd.func14, Tryd.ntmps14
    go_wp2_with fail
    refine (contains_entries _ _ _ h).mono ?_
    rintro e w1 ⟨rfl, hb1⟩
    rw [q0]
    go_wp2_with fail
    go_ret2
    exact ⟨by rw [HE.out]; rfl, hb1⟩
  case false =>
    have HOK := hd q0
    go_enter Tryd.func14, Tryd.ntmps14
    go_wp2_with fail
    refine (contains_entries _ _ _ h).mono ?_
    rintro e w1 ⟨rfl, hb1⟩
    rw [q0]
    clear q0
    go_wp2_with fail
    go_loopw [4] (fun i wr => ∃ k : Nat, 1 ≤ k ∧ k ≤ l.length + 1 ∧ i = .int .i64 k ∧ Below w.heap.size w wr ∧ Hid (∀ j, j < k → dayBad l j = false)) (fun i _ => l.length + 1 - (intOf i).toNat)
    case atStart => exact ⟨1, Nat.le_refl _, by omega, rfl, hb1, hd (bad_zero l)⟩
    case round =>
      obtain ⟨k, hk1, hk, rfl, hbel, HB⟩ := hrel
      clear hb1
      by_cases hlt : k < l.length
      · obtain ⟨m, rfl⟩ : ∃ m, k = m + 1 := ⟨k - 1, by omega⟩
        obtain ⟨b, o, rfl, -, p0, -, -⟩ := (h.below hbel).Entry_at hlt
        obtain ⟨b', o', hA', -, q0, -, -⟩ := (h.below hbel).Entry_at (show m < l.length by omega)
        injection hA' with hA'
        injection hA' with hb' ho' _
        subst hb' ho'
        have HD := hd (dayBad_at hlt)
        have hmi : ((m : Int) + 1 - 1) = (m : Int) := by omega
        generalize l[m + 1].1 = x at p0 HD
        generalize l[m].1 = y at q0 HD
        rcases q : decide (x < y) with _ | _
        · have HN := hd (bad_next HB.out (HD.out.trans q))
          have q' : y ≤ x := by simpa using q
          clear q
          go_wp2_with fail
          go_quiet (fail)
          go_wp2_with fail
          go_roundw
          case rel => exact ⟨m + 1 + 1, by omega, by omega, by go_num, by first | exact below_drewN hbel _ | exact hbel, HN⟩
          case measure => simp [intOf]; omega
        · have HE := hd (show logR l = (ByteArray.empty, 6) by unfold logR; rw [if_neg (by rw [HOK.out]; simp), if_neg (by rw [rise_bad hlt (HD.out.trans q)]; simp)])
          have q' : x < y := by simpa using q
          clear q
          go_wp2_with fail
          go_quiet (fail)
          go_wp2_with fail
          go_ret2
          exact ⟨by rw [HE.out]; rfl, by first | exact below_drewN hbel _ | exact hbel⟩
      · have HR := hd (rise_of hlt HB.out)
        have hge : l.length ≤ k := by omega
        have hdk : decide (k < l.length) = false := by simp; omega
        clear hlt HB
        go_wp2_with fail
        go_loopw [5, 6, 31] (fun ov st i wr => ∃ k : Nat, k ≤ l.length ∧ i = .int .i64 k ∧ ov = .string (logTo l k).1 ∧ st = .int .i64 (logTo l k).2 ∧ (logTo l k).1.size ≤ 4000 ∧ Below w.heap.size w wr) (fun _ _ i _ => l.length - (intOf i).toNat)
        case atStart => exact ⟨0, Nat.zero_le _, rfl, rfl, rfl, by simp [logTo, logFrom], hbel⟩
        case round =>
          obtain ⟨n, hn, rfl, rfl, rfl, hsz, hbel2⟩ := hrel
          clear hge hk hdk
          by_cases hlt : n < l.length
          · obtain ⟨b, o, rfl, -, p0, p1, p2⟩ := (h.below hbel2).Entry_at hlt
            have HX := hd (okAll_of HOK.out l[n] (List.getElem_mem hlt))
            have HS := hd (logTo_succ l n hlt)
            have hbd := hd (logTo_bd l n)
            generalize l[n] = x at p0 p1 p2 HX HS
            obtain ⟨xa, xb, xc⟩ := x
            dsimp only at p0 p1 p2
            have HB2 := hd (stampN_bd (logTo l n).2 (wordsS xa xb xc))
            have hln := (lineS_size (x := (xa, xb, xc)) HB2.out HX.out).2
            have hws := words_size HX.out
            have sd := decS_size (n := stampN (logTo l n).2 (wordsS xa xb xc)) (by have := HB2.out; omega)
            have HTR := hd (HT.out.below hbel2)
            have bx := hbel2.alloc hbel2.size (.cells #[.int .i64 xa, .string xb, .int .i64 xc] 38)
            have r0 := new_cell wr #[.int .i64 xa, .string xb, .int .i64 xc] 38 0 _ rfl
            have r1 := new_cell wr #[.int .i64 xa, .string xb, .int .i64 xc] 38 1 _ rfl
            have r2 := new_cell wr #[.int .i64 xa, .string xb, .int .i64 xc] 38 2 _ rfl
            have hg : wr.heap.size < (wr.alloc (.cells #[.int .i64 xa, .string xb, .int .i64 xc] 38)).heap.size := by simp
            go_wp2_with fail
            generalize (wr.alloc (.cells #[.int .i64 xa, .string xb, .int .i64 xc] 38)) = W at bx r0 r1 r2 hg ⊢
            refine (stampOf_impl _ _ hbd.out _ _ _ HX.out (HT.out.below bx)).mono ?_
            rintro e w2 ⟨rfl, hb2⟩
            have b2 := below_step bx hb2
            replace r0 := (hb2.cell (p := ⟨wr.heap.size, 0, none⟩) hg).trans r0
            replace r1 := (hb2.cell (p := ⟨wr.heap.size, 1, none⟩) hg).trans r1
            replace r2 := (hb2.cell (p := ⟨wr.heap.size, 2, none⟩) hg).trans r2
            clear hb2 bx p0 p1 p2
            go_wp2_with fail
            refine (words_impl _ _ _ _ HX.out (HT.out.below b2)).mono ?_
            rintro e w3 ⟨rfl, hb3⟩
            have b3 := below_step b2 hb3
            clear hb3 r0 r1 r2
            go_wp2_with fail
            refine (dec_impl _ _ (by have := HB2.out; omega) (HT.out.below b3)).mono ?_
            rintro e w4 ⟨rfl, hb4⟩
            have b4 := below_step b3 hb4
            clear hb4 b2 b3
            have HN1 := hd (show (logTo l n).1 ++ (wordsS xa xb xc ++ ⟨#[32]⟩ ++ decS (stampN (logTo l n).2 (wordsS xa xb xc)) ++ ⟨#[10]⟩) = (logTo l (n + 1)).1 by rw [HS.out]; rfl)
            have HN2 := hd (show stampN (logTo l n).2 (wordsS xa xb xc) = (logTo l (n + 1)).2 by rw [HS.out]; rfl)
            have hszn : ((logTo l n).1 ++ (wordsS xa xb xc ++ ⟨#[32]⟩ ++ decS (stampN (logTo l n).2 (wordsS xa xb xc)) ++ ⟨#[10]⟩)).size = (logTo l (n + 1)).1.size := by rw [HN1.out]
            by_cases q : 4000 < (logTo l (n + 1)).1.size
            · have HE := hd (show logR l = (ByteArray.empty, 5) by
                unfold logR
                rw [if_neg (by rw [HOK.out]; simp), if_pos HR.out, if_pos]
                have := logTo_mono l (n + 1) (l.length - (n + 1))
                rw [show n + 1 + (l.length - (n + 1)) = l.length by omega] at this
                show 4000 < (logTo l l.length).1.size
                omega)
              have hq : (4000 : Int) < ((logTo l (n + 1)).1.size : Int) := by omega
              clear hszn hln q
              go_upto_region 14 with (fail)
              rw [HN1.out]
              go_wp2_with fail
              go_ret2
              exact ⟨by rw [HE.out]; rfl, b4⟩
            · have hq : (logTo l (n + 1)).1.size ≤ 4000 := by omega
              clear hszn hln q
              go_upto_region 14 with (fail)
              rw [HN1.out, HN2.out]
              go_wp2_with fail
              go_roundw
              case rel => exact ⟨n + 1, by omega, by go_num, rfl, rfl, hq, b4⟩
              case measure => simp [intOf]; omega
          · have hfin : n = l.length := by omega
            have HE := hd (show logR l = ((logTo l n).1, 0) by unfold logR; rw [if_neg (by rw [HOK.out]; simp), if_pos HR.out, if_neg (by show ¬ 4000 < (logTo l l.length).1.size; rw [← hfin]; omega)]; rw [hfin]; rfl)
            clear hfin
            go_wp2_with fail
            go_ret2
            exact ⟨by rw [HE.out]; rfl, hbel2⟩
end Go.Proofs.YtiofpmmbgohnhaaDoor
