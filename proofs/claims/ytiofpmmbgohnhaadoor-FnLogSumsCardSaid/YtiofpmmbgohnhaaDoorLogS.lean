/- LogOf: the reference's function and the program's. No condition but the library's table. -/
import Derived.Test.YtiofpmmbgohnhaaDoorLogP
import Derived.Lib.AppendStr
namespace Go.Proofs.YtiofpmmbgohnhaaDoor
open Go Go.RowKit Go.ChangeShapes Go.WideShapes
set_option linter.unusedSimpArgs false
set_option linter.unusedVariables false

theorem flatMap_eU (l : List UInt8) : l.flatMap eU = l.map fun b => Value.int .u8 (b.toNat : Int) := by
  induction l with
  | nil => rfl
  | cons x l ih => simp [List.flatMap_cons, eU, ih]
theorem own_str {w : World} {B E : Nat} {v : Value} {L : List UInt8} {s : ByteArray} (h : w.ownsRow B E 1 v (L.length + s.size) (L.flatMap eU ++ Lib.strCells s)) : Own w B E 1 v eU (L ++ s.data.toList) := by
  unfold Own
  have e1 : (L ++ s.data.toList).length = L.length + s.size := by rw [List.length_append, Array.length_toList]; rfl
  rw [e1, List.flatMap_append, flatMap_eU s.data.toList]
  exact h
set_option maxHeartbeats 1000000 in
theorem line_spec (w : World) (st : Int) (hst : 0 ≤ st ∧ st ≤ 65518) (g o : Nat) (x : TEntry) (p0 : w.cell? ⟨g, o, none⟩ = some (.int .i64 x.1)) (p1 : w.cell? ⟨g, o + 1, none⟩ = some (.string x.2.1)) (p2 : w.cell? ⟨g, o + 2, none⟩ = some (.int .i64 x.2.2)) (h : okEntryB x = true) :
    Calls Tryd.prog 111 #[.int .i64 st, .pointer (some ⟨g, o, none⟩)] w fun e w' => e = .returned (.string (lineS st x)) ∧ Below w.heap.size w w' := by
  obtain ⟨a, b, c⟩ := x
  have H1 := hd (words_spec w g o a b c p0 p1 p2 h)
  have hw := words_size h
  have s1 := decS_size (n := st) (by omega)
  have H2 := hd (fun w : World => dec_spec w st (by omega))
  have HE := hd (show lineS st (a, b, c) = wordsS a b c ++ ⟨#[32]⟩ ++ decS st ++ ⟨#[10]⟩ from rfl)
  clear p0 p1 p2 h
  go_enter Tryd.func111, Tryd.ntmps111
  go_wp2_with fail
  refine H1.out.mono ?_
  rintro e w1 ⟨rfl, hb1⟩
  go_wp2_with fail
  refine (H2.out _).mono ?_
  rintro e w2 ⟨rfl, hb2⟩
  have hb3 := below_step hb1 hb2
  go_wp2_with fail
  go_ret
  exact ⟨by rw [HE.out]; rfl, hb3⟩
set_option maxHeartbeats 2000000 in
theorem make_spec (w : World) (v : Value) (l : List TEntry) (h : Sl w 3 v eEntry l) (hl : l.length ≤ 1048576) (hok : (l.any fun x => !okEntryB x) = false) :
    Calls Tryd.prog 58 #[v] w fun e w' => e = .returned (.string (logAll l)) ∧ Below w.heap.size w w' := by
  have m1 := h.len
  obtain ⟨A, c, rfl⟩ := h.isSlice
  have HOK := hd (okAll_of hok)
  have HSZ := hd (logTo_size l (okAll_of hok))
  have HCV := hd (fun (w : World) (v : Value) (l : List UInt8) (hv : Sl w 1 v eU l) => conv_bytes (P := Tryd.prog) w 22 9 5 Tryd.underlying22 Tryd.underlying5 Tryd.underlying9 hv)
  obtain ⟨i0, hi, hz0, hz1, hz2⟩ := info_parts info_u8
  have O0 := Own.made0 w w.heap.size 5 1 eU (Nat.le_refl _)
  have b0 := (Below.refl w.heap.size w).alloc (Nat.le_refl _) (.cells #[] 5)
  clear hok
  go_enter Tryd.func58, Tryd.ntmps58
  go_wp2_with fail
  go_loopw [3, 4, 5] (fun ov st i wr => ∃ (k : Nat) (L : List UInt8), k ≤ l.length ∧ i = .int .i64 k ∧ st = .int .i64 (logTo l k).2 ∧ Own wr w.heap.size 5 1 ov eU L ∧ Hid (L = (logTo l k).1.data.toList) ∧ Below w.heap.size w wr) (fun _ _ i _ => l.length - (intOf i).toNat)
  case atStart => exact ⟨0, [], Nat.zero_le _, rfl, rfl, O0, hd rfl, b0⟩
  case round =>
    obtain ⟨k, L, hk, rfl, rfl, hO, HL, hbel⟩ := hrel
    clear O0 b0
    by_cases hlt : k < l.length
    · obtain ⟨b, o, rfl, hbb, p0, p1, p2⟩ := (h.below hbel).Entry_at hlt
      have HX := hd (HOK.out l[k] (List.getElem_mem hlt))
      have HS := hd (logTo_succ l k hlt)
      have hbd := hd (logTo_bd l k)
      have hsz := HSZ.out k hk
      have hsz2 : L.length ≤ 82837504 := by rw [HL.out, Array.length_toList]; show (logTo l k).1.size ≤ _; omega
      generalize l[k] = x at p0 p1 p2 HX HS
      have HB2 := hd (stampN_bd (logTo l k).2 (wordsE x))
      have hln := (lineS_size HB2.out HX.out).2
      have H1 := hd (show Calls Tryd.prog 110 #[.pointer (some ⟨b, o + k * 3, none⟩)] wr _ from words_spec wr b (o + k * 3) x.1 x.2.1 x.2.2 p0 p1 p2 HX.out)
      have hws : (wordsS x.1 x.2.1 x.2.2).size ≤ 1048576 := by have := words_size (a := x.1) (b := x.2.1) (c := x.2.2) HX.out; omega
      go_wp2_with fail
      refine H1.out.mono ?_
      rintro e w1 ⟨rfl, hb1⟩
      go_wp2_with fail
      refine (l27Stamp_spec _ _ hbd.out _ hws).mono ?_
      rintro e w2 ⟨rfl, hw⟩
      have hw := hw.symm
      subst hw
      have hbel1 := below_step hbel hb1
      have r0 := (hb1.cell (p := ⟨b, o + k * 3, none⟩) hbb).trans p0
      have r1 := (hb1.cell (p := ⟨b, o + k * 3 + 1, none⟩) hbb).trans p1
      have r2 := (hb1.cell (p := ⟨b, o + k * 3 + 2, none⟩) hbb).trans p2
      have hO1 := hO.below hb1 (Nat.le_refl _)
      have H2 := hd (line_spec w1 (stampN (logTo l k).2 (wordsS x.1 x.2.1 x.2.2)) HB2.out b (o + k * 3) x r0 r1 r2 HX.out)
      clear p0 p1 p2 r0 r1 r2 hO hb1 hbb
      go_wp2_with fail
      refine H2.out.mono ?_
      rintro e w3 ⟨rfl, hb3⟩
      have hbel3 := below_step hbel1 hb3
      have hO3 := hO1.below hb3 (Nat.le_refl _)
      clear hO1 hb3
      go_wp2_with (at_builtin; refine Lib.wpList_append_own_string _ rfl _ _ 22 9 rfl w.heap.size 5 i0 Tryd.underlying22 Tryd.underlying9 hi hz0 hz1 hz2 _ L.length (L.flatMap eU) rfl hO3 (lineS (stampN (logTo l k).2 (wordsE x)) x) rfl (by unfold maxLen; omega) (by omega) hbel3.size ?_)
      intro v' w4 hown hgr _
      have hb4 := hbel3.grown hgr hbel3.size (fun g hg => (hO3.lt g hg).1)
      have hO4 : Own w4 w.heap.size 5 1 v' eU (L ++ (lineS (stampN (logTo l k).2 (wordsE x)) x).data.toList) := own_str hown
      have HN := hd (show L ++ (lineS (stampN (logTo l k).2 (wordsE x)) x).data.toList = (logTo l (k + 1)).1.data.toList by rw [HS.out, HL.out]; show _ = ((logTo l k).1 ++ _).data.toList; rw [ByteArray.data_append, Array.toList_append])
      have HT := hd (show stampN (logTo l k).2 (wordsE x) = (logTo l (k + 1)).2 by rw [HS.out]; rfl)
      clear hown hgr hO3
      go_wp2_with fail
      go_roundw
      case rel => exact ⟨k + 1, _, by omega, by go_num, by rw [← HT.out]; rfl, hO4, HN, hb4⟩
      case measure => simp [intOf]; omega
    · obtain rfl : k = l.length := by omega
      have hc := HCV.out wr _ L (hO.sl eU_len)
      have HE := hd (show logAll l = ⟨L.toArray⟩ by rw [HL.out]; rfl)
      obtain ⟨A1, c1, rfl⟩ := hO.isSlice
      go_wp2_with fail
      go_ret
      exact ⟨by rw [HE.out]; rfl, hbel⟩
theorem rise_of {l : List TEntry} {k : Nat} (hk : ¬ k < l.length) (h : ∀ j, j < k → dayBad l j = false) : daysRise l = true := allTo_true fun i hi => by rw [h i (by omega)]; rfl
theorem rise_bad {l : List TEntry} {k : Nat} (hk : k < l.length) (h : dayBad l k = true) : daysRise l = false := allTo_false hk (by rw [h]; rfl)
theorem dayBad_at {l : List TEntry} {m : Nat} (h : m + 1 < l.length) : dayBad l (m + 1) = decide (l[m + 1].1 < l[m].1) := by
  unfold dayBad
  simp [h, show m < l.length by omega]
theorem any_bad_of {l : List TEntry} {k : Nat} (hk : k < l.length) (h : okEntryB l[k] = false) : (l.any fun x => !okEntryB x) = true := any_of_hit _ l k hk (by rw [h]; rfl)
theorem any_next {l : List TEntry} {k : Nat} (hk : k < l.length) (h0 : ((l.take k).any fun x => !okEntryB x) = false) (h : okEntryB l[k] = true) : ((l.take (k + 1)).any fun x => !okEntryB x) = false := any_take_snoc _ l k hk h0 (by rw [h]; rfl)
theorem bad_next {l : List TEntry} {k : Nat} (h0 : ∀ j, j < k → dayBad l j = false) (h : dayBad l k = false) : ∀ j, j < k + 1 → dayBad l j = false := fun j hj => by
  by_cases e : j = k
  · exact e ▸ h
  · exact h0 j (by omega)
theorem bad_zero (l : List TEntry) : ∀ j, j < 1 → dayBad l j = false := fun j hj => by
  obtain rfl : j = 0 := (by omega)
  unfold dayBad
  rfl
def GivesLog (w : World) (r : ByteArray × Int) (e : Ending) (w' : World) : Prop := e = .returned (.tuple #[.string r.1, .int .i64 r.2]) ∧ Below w.heap.size w w'
set_option maxHeartbeats 2000000 in
theorem logof_spec (w : World) (v : Value) (l : List TEntry) (h : Sl w 3 v eEntry l) (hl : l.length ≤ 1048576) :
    Calls Tryd.prog 9 #[v] w (GivesLog w (logR l)) := by
  have m1 := h.len
  obtain ⟨A, c, rfl⟩ := h.isSlice
  go_enter Tryd.func9, Tryd.ntmps9
  go_wp2_with fail
  go_loop [4] (fun i => ∃ k : Nat, k ≤ l.length ∧ i = .int .i64 k ∧ Hid (((l.take k).any fun x => !okEntryB x) = false)) (fun i => l.length - (intOf i).toNat)
  case atStart => exact ⟨0, Nat.zero_le _, rfl, hd (by simp)⟩
  case round =>
    obtain ⟨k, hk, rfl, HA⟩ := hrel
    by_cases hlt : k < l.length
    · obtain ⟨b, o, rfl, -, p0, p1, p2⟩ := h.Entry_at hlt
      rcases q : okEntryB l[k] with _ | _
      · have HE := hd (show logR l = (ByteArray.empty, 7) by unfold logR; rw [if_pos (any_bad_of hlt q)])
        have H1 := hd (okE_spec w b (o + k * 3) l[k].1 l[k].2.1 l[k].2.2 p0 p1 p2)
        have HQ := hd (show okEntryB (l[k].1, l[k].2.1, l[k].2.2) = false from q)
        clear q p0 p1 p2
        go_wp2_with fail
        refine H1.out.mono ?_
        rintro e w1 ⟨rfl, hw⟩
        have hw := hw.symm
        subst hw
        rw [HQ.out]
        go_wp2_with fail
        go_ret2
        exact ⟨by rw [HE.out]; rfl, Below.refl _ _⟩
      · have HN := hd (any_next hlt HA.out q)
        have H1 := hd (okE_spec w b (o + k * 3) l[k].1 l[k].2.1 l[k].2.2 p0 p1 p2)
        have HQ := hd (show okEntryB (l[k].1, l[k].2.1, l[k].2.2) = true from q)
        clear q p0 p1 p2
        go_wp2_with fail
        refine H1.out.mono ?_
        rintro e w1 ⟨rfl, hw⟩
        have hw := hw.symm
        subst hw
        rw [HQ.out]
        go_wp2_with fail
        go_round
        case rel => exact ⟨k + 1, by omega, by go_num, HN⟩
        case measure => simp [intOf]; omega
    · have HOK := hd (show (l.any fun x => !okEntryB x) = false by have := HA.out; rwa [List.take_of_length_le (by omega)] at this)
      have hge : l.length ≤ k := by omega
      clear hlt HA
      go_wp2_with fail
      go_loopw [5] (fun i wr => ∃ k : Nat, 1 ≤ k ∧ k ≤ l.length + 1 ∧ i = .int .i64 k ∧ Below w.heap.size w wr ∧ Hid (∀ j, j < k → dayBad l j = false)) (fun i _ => l.length + 1 - (intOf i).toNat)
      case atStart => exact ⟨1, Nat.le_refl _, by omega, rfl, Below.refl _ _, hd (bad_zero l)⟩
      case round =>
        obtain ⟨k, hk1, hk, rfl, hbel, HB⟩ := hrel
        by_cases hlt : k < l.length
        · obtain ⟨m, rfl⟩ : ∃ m, k = m + 1 := ⟨k - 1, by omega⟩
          obtain ⟨b, o, rfl, -, p0, -, -⟩ := (h.below hbel).Entry_at hlt
          obtain ⟨b', o', hA', -, q0, -, -⟩ := (h.below hbel).Entry_at (show m < l.length by omega)
          injection hA' with hA'
          injection hA' with hb' ho' _
          subst hb' ho'
          have HD := hd (dayBad_at hlt)
          have hmi : ((m : Int) + 1 - 1) = (m : Int) := by omega
          generalize l[m + 1].1 = x at p0 HD
          generalize l[m].1 = y at q0 HD
          rcases q : decide (x < y) with _ | _
          · have HN := hd (bad_next HB.out (HD.out.trans q))
            have q' : y ≤ x := by simpa using q
            clear q
            go_wp2_with fail
            go_quiet (fail)
            go_wp2_with fail
            go_roundw
            case rel => exact ⟨m + 1 + 1, by omega, by omega, by go_num, by first | exact below_drewN hbel _ | exact hbel, HN⟩
            case measure => simp [intOf]; omega
          · have HE := hd (show logR l = (ByteArray.empty, 6) by unfold logR; rw [if_neg (by rw [HOK.out]; simp), if_neg (by rw [rise_bad hlt (HD.out.trans q)]; simp)])
            have q' : x < y := by simpa using q
            clear q
            go_wp2_with fail
            go_quiet (fail)
            go_wp2_with fail
            go_ret2
            exact ⟨by rw [HE.out]; rfl, by first | exact below_drewN hbel _ | exact hbel⟩
        · have HR := hd (rise_of hlt HB.out)
          have HSZ := hd (logTo_size l (okAll_of HOK.out) l.length (Nat.le_refl _))
          have hsz : (logAll l).size ≤ 82837504 := by have := HSZ.out; show (logTo l l.length).1.size ≤ _; omega
          have H1 := hd (make_spec wr _ l (h.below hbel) hl HOK.out)
          by_cases q : 4000 < (logAll l).size
          · have HE := hd (show logR l = (ByteArray.empty, 5) by unfold logR; rw [if_neg (by rw [HOK.out]; simp), if_pos HR.out, if_pos q])
            go_wp2_with fail
            refine H1.out.mono ?_
            rintro e w1 ⟨rfl, hb1⟩
            have hb2 := below_step hbel hb1
            go_wp2_with fail
            go_ret2
            exact ⟨by rw [HE.out]; rfl, hb2⟩
          · have HE := hd (show logR l = (logAll l, 0) by unfold logR; rw [if_neg (by rw [HOK.out]; simp), if_pos HR.out, if_neg q])
            have q' : (logAll l).size ≤ 4000 := by omega
            clear q
            go_wp2_with fail
            refine H1.out.mono ?_
            rintro e w1 ⟨rfl, hb1⟩
            have hb2 := below_step hbel hb1
            go_wp2_with fail
            go_ret2
            exact ⟨by rw [HE.out]; rfl, hb2⟩
end Go.Proofs.YtiofpmmbgohnhaaDoor
