/- Texts of the claim, joined: each says at its head what it proves. No condition. -/
import Derived.Test.YtgcodjkjdfahdaaGreatDoorJ48
import Derived.Test.YtgcodjkjdfahdaaGreatDoorJ49
import Derived.Test.YtgcodjkjdfahdaaGreatDoorJ9
/- The lines of a text for the console: the reference's RunDesk. No condition. -/
namespace Go.Proofs.YtgcodjkjdfahdaaGreatDoor
open Go Go.RowKit Go.ChangeShapes Go.WideShapes
set_option linter.unusedSimpArgs false
set_option linter.unusedVariables false
theorem new_spec28 (w : World) : Calls Tryz.prog 37 #[] w fun e w' => e = .returned (.agg #[.string ⟨#[97, 98, 99, 100]⟩, .slice none 0 0, .slice none 0 0, .string ⟨#[]⟩]) ∧ Below w.heap.size w w' := by
  have hb := (Below.refl w.heap.size w).alloc (Nat.le_refl _) (.cells #[.string ⟨#[97, 98, 99, 100]⟩, .slice none 0 0, .slice none 0 0, .string ⟨#[]⟩] 29)
  go_enter Tryz.func37, Tryz.ntmps37
  go_wp2_with fail
  exact bodyPost_ret (v := .agg #[.string ⟨#[97, 98, 99, 100]⟩, .slice none 0 0, .slice none 0 0, .string ⟨#[]⟩]) (by simp [results, Tryz.results37, go_sem]) rfl ⟨rfl, hb⟩
set_option maxRecDepth 100000 in
set_option maxHeartbeats 8000000 in
theorem lines_spec (w : World) (v : Value) (M : List ByteArray) (h : Sl w 1 v eS M) (hl : M.length ≤ 300000) (hm : ∀ x ∈ M, x.size ≤ 30000) :
    Calls Tryz.prog 42 #[v] w fun e w' => e = .returned (.string (catL M)) ∧ Below w.heap.size w w' := by
  obtain ⟨i0, hi, hz0, hz1, hz2⟩ := info_parts info_u8
  have HCV := hd (fun (w : World) (v : Value) (l : List UInt8) (hv : Sl w 1 v eU l) => conv_bytes (P := Tryz.prog) w 22 9 5 Tryz.underlying22 Tryz.underlying5 Tryz.underlying9 hv)
  have O0 := Own.made0 w w.heap.size 5 1 eU (Nat.le_refl _)
  have b0 := (Below.refl w.heap.size w).alloc (Nat.le_refl _) (.cells #[] 5)
  have HM := hd hm
  have HV := hd h
  obtain ⟨A, c, rfl⟩ := h.isSlice
  clear hm h
  go_enter Tryz.func42, Tryz.ntmps42
  go_wp2_with fail
  go_loopw [3, 4] (fun ov iv wr => ∃ (k : Nat) (L : List UInt8), k ≤ M.length ∧ iv = .int .i64 k ∧ Own wr w.heap.size 5 1 ov eU L ∧ Hid (L = (catTo M k).data.toList) ∧ Below w.heap.size w wr) (fun _ iv _ => M.length - (intOf iv).toNat)
  case atStart => exact ⟨0, [], Nat.zero_le _, rfl, O0, hd rfl, b0⟩
  case round =>
    obtain ⟨k, L, hk, rfl, hO, HL, hbel⟩ := hrel
    clear O0 b0
    by_cases hlt : k < M.length
    · obtain ⟨b, o, hA, -, hcell⟩ := (HV.out.below hbel).str_at hlt
      subst hA
      have HC := hd (catTo_succ M k hlt)
      have sz1 := catTo_size HM.out k
      have sz2 := HM.out _ (List.getElem_mem hlt)
      have sz3 : 30001 * k ≤ 30001 * 300000 := Nat.mul_le_mul (Nat.le_refl _) (by omega)
      have hLz : L.length ≤ 9100000000 := by rw [HL.out, size_list]; omega
      generalize M[k] = y at hcell HC sz2
      go_wp2_with (at_builtin; refine Lib.wpList_append_own_string _ rfl _ _ 22 9 rfl w.heap.size 5 i0 Tryz.underlying22 Tryz.underlying9 hi hz0 hz1 hz2 _ L.length (L.flatMap eU) rfl hO y rfl (by unfold maxLen; omega) (by omega) hbel.size ?_)
      intro v' w4 hown hgr _
      have hb4 := hbel.grown hgr hbel.size (fun g hg => (hO.lt g hg).1)
      have hO4 : Own w4 w.heap.size 5 1 v' eU (L ++ y.data.toList) := own_str hown
      have hyl : y.data.toList.length = y.size := size_list y
      have hL2 : (L ++ y.data.toList).length ≤ 9200000000 := by rw [List.length_append]; omega
      have HN := hd (show (L ++ y.data.toList) ++ [10] = (catTo M (k + 1)).data.toList by rw [HC.out, HL.out, toList_append, toList_append, List.append_assoc]; rfl)
      generalize L ++ y.data.toList = L2 at hO4 hL2 HN
      have HO4 := hd hO4
      obtain ⟨A4, c4, rfl⟩ := hO4.isSlice
      have hs4 := hb4.size
      clear hown hgr hO hcell hO4
      go_wp2_with (at_builtin; refine wpList_push _ rfl _ _ 22 rfl i0 (.int .u8 0) 1 Tryz.underlying22 hi hz0 hz1 hz2 rfl (by decide) _ L2 (10 : UInt8) rfl (HO4.out.alloc _) w4.heap.size rfl #[.int .u8 10] 5 (heap_alloc_new _ _) rfl rfl (by intro u hu; simp [eU] at hu; subst hu; rfl) (by unfold maxLen; omega) (by omega) (by simp; omega) ?_)
      intro v5 w5 hown5 hgr5
      have hb5 := (hb4.alloc hs4 (.cells #[.int .u8 10] 5)).grown hgr5 (by simp; omega) (fun q hq => (HO4.out.lt q hq).1)
      clear hgr5
      go_wp2_with fail
      go_roundw
      case rel => exact ⟨k + 1, _, by omega, by go_num, hown5, HN, hb5⟩
      case measure => simp [intOf]; omega
    · obtain rfl : k = M.length := by omega
      have hc := HCV.out wr _ L (hO.sl eU_len)
      have HE := hd (show catL M = ⟨L.toArray⟩ by rw [HL.out, catTo_all])
      obtain ⟨A1, c1, rfl⟩ := hO.isSlice
      go_wp2_with fail
      go_ret
      exact ⟨by rw [HE.out]; rfl, hbel⟩
theorem apart_none (a : Option Nat) : apart a none := by
  rcases a with _ | k
  · exact .inl rfl
  · exact .inr (fun e => by cases e)
theorem sat_new (w : World) (B : Nat) (hB : B ≤ w.heap.size) (d : TDk) (v1 v2 : Value) (O1 : Own w B 92 4 v1 eCue d.2.1) (O2 : Own w B 95 4 v2 eTitle d.2.2.1) (T : TypeId) :
    SAt (w.alloc (.cells #[.string d.1, v1, v2, .string d.2.2.2, .slice none 0 0, .slice none 0 0, .slice none 0 0] T)) B w.heap.size d (.slice none 0 0) [] := by
  have hn := fun i u (h : #[.string d.1, v1, v2, .string d.2.2.2, .slice none 0 0, .slice none 0 0, .slice none 0 0][i]? = some u) => new_cell w #[.string d.1, v1, v2, .string d.2.2.2, .slice none 0 0, .slice none 0 0, .slice none 0 0] T i u h
  exact ⟨⟨v1, v2, ⟨by simp, hn 0 _ rfl, hn 1 _ rfl, hn 2 _ rfl, hn 3 _ rfl⟩, O1.alloc _, O2.alloc _, fun k e => by have := (O1.lt k e).2; omega, fun k e => by have := (O2.lt k e).2; omega, (show apart v1.ownBlock none from apart_none _), (show apart v2.ownBlock none from apart_none _)⟩, by simp, hB, fun i => free2 (heap_alloc_new w _) i, hn 4 _ rfl, Own.nil _ _ _ _ _, fun k e => by simp [Value.ownBlock] at e, ⟨_, hn 5 _ rfl⟩, ⟨_, hn 6 _ rfl⟩⟩
theorem full_err : errS 5 = fullS := by
  refine ba_ext ?_
  unfold errS fullS
  rw [toList_append]
  decide
/-- what is kept from line to line -/
def RSt (w : World) (B g : Nat) (NL : Nat) (vl : Value) (L0 : List ByteArray) (T : TDk × List ByteArray) (vo : Value) (W : World) : Prop :=
  SAt W B g T.1 vo T.2 ∧ Own W NL 9 1 vl eS L0 ∧ apart vl.ownBlock (some g) ∧ apart vl.ownBlock vo.ownBlock ∧ Below w.heap.size w W
theorem RSt.next {w : World} {B g NL : Nat} {vl : Value} {L0 : List ByteArray} {T : TDk × List ByteArray} {vo : Value} {W W' : World} (H : RSt w B g NL vl L0 T vo W) (hB : w.heap.size ≤ B) {d : TDk} {L : List ByteArray} (hr : SRes B g vo W d L W') : ∃ vo', RSt w B g NL vl L0 (d, L) vo' W' := by
  obtain ⟨hS, hO, a1, a2, hb⟩ := H
  obtain ⟨vo', h1, h2⟩ := hr
  refine ⟨vo', h1, hO.touched h2.1 (fun b hb => ?_), a1, ?_, ?_⟩
  · simp only [List.mem_cons, List.not_mem_nil, or_false] at hb
    rcases hb with rfl | rfl
    · exact a1
    · exact a2
  · rcases h2.2 with q | q
    · rw [q]; exact a2
    · rcases hk : vl.ownBlock with _ | k
      · exact .inl rfl
      · refine .inr fun e => ?_
        have h3 := (hO.lt k hk).2
        have h4 := q k e.symm
        omega
  · exact hb.trans ((Fr.below hS h2).mono hB)
set_option maxRecDepth 100000 in
set_option maxHeartbeats 8000000 in
theorem run_spec (w : World) (text : ByteArray) (hz : text.size ≤ 1048576) :
    Calls Tryz.prog 13 #[.string text] w fun e w' => e = .returned (.string (runR text)) ∧ Below w.heap.size w w' := by
  have HRR := hd (show runR text = catL (outL (trimL (partsB 10 text))) from rfl)
  have HSPL := hd (fun W => split_spec W text 10 hz)
  obtain ⟨L0, hL0⟩ : ∃ L0, partsB 10 text = L0 := ⟨_, rfl⟩
  have hl0 := partsB_len_le 10 text
  have hwz := partsB_size 10 text
  have hp0 := partsB_pos 10 text
  rw [hL0] at hl0 hwz hp0
  replace HRR := hd (show runR text = catL (outL (trimL L0)) by rw [HRR.out, hL0])
  replace HSPL := hd (hL0 ▸ HSPL.out)
  clear hL0
  go_enter Tryz.func13, Tryz.ntmps13
  go_wp2_with fail
  refine (new_spec28 w).mono ?_
  rintro e w1 ⟨rfl, B1⟩
  have HSA := hd (sat_new w1 w1.heap.size (Nat.le_refl _) d0K (.slice none 0 0) (.slice none 0 0) (Own.nil _ _ _ _ _) (Own.nil _ _ _ _ _) 67)
  have B2 := B1.alloc B1.size (.cells #[.string ⟨#[97, 98, 99, 100]⟩, .slice none 0 0, .slice none 0 0, .string ⟨#[]⟩, .slice none 0 0, .slice none 0 0, .slice none 0 0] 67)
  have hg2 : w1.heap.size < (w1.alloc (.cells #[.string ⟨#[97, 98, 99, 100]⟩, .slice none 0 0, .slice none 0 0, .string ⟨#[]⟩, .slice none 0 0, .slice none 0 0, .slice none 0 0] 67)).heap.size := by simp
  replace HSA := hd (show SAt (w1.alloc (.cells #[.string ⟨#[97, 98, 99, 100]⟩, .slice none 0 0, .slice none 0 0, .string ⟨#[]⟩, .slice none 0 0, .slice none 0 0, .slice none 0 0] 67)) w1.heap.size w1.heap.size d0K (.slice none 0 0) [] from HSA.out)
  go_wp2_with fail
  generalize w1.alloc (.cells #[.string ⟨#[97, 98, 99, 100]⟩, .slice none 0 0, .slice none 0 0, .string ⟨#[]⟩, .slice none 0 0, .slice none 0 0, .slice none 0 0] 67) = W1 at HSA B2 hg2 ⊢
  have hBg := hd B1.size
  generalize w1.heap.size = g at HSA hg2 hBg ⊢
  refine (HSPL.out W1).mono ?_
  rintro e W2 ⟨v0, rfl, O0, B3⟩
  have S0 := O0.sl eS_len
  obtain ⟨b, o, c, rfl, hb, hc, hcell⟩ := S0.strs hp0
  have HRS := hd (show RSt w g g W1.heap.size (.slice (some ⟨b, o, none⟩) L0.length c) L0 (runTo L0 0) (.slice none 0 0) W2 from ⟨HSA.out.below B3, O0, .inr (fun e => by have h1 := (O0.lt b rfl).1; have e2 : some b = some g := e; injection e2 with e2; omega), apart_none _, below_step B2 B3⟩)
  have hlast := hcell (L0.length - 1) (L0[L0.length - 1]'(by omega)) (List.getElem?_eq_getElem (by omega))
  have HTR := hd (show trimL L0 = if (L0[L0.length - 1]'(by omega)) = ⟨#[]⟩ then L0.take (L0.length - 1) else L0 by
    unfold trimL
    rw [List.getD_eq_getElem?_getD, List.getElem?_eq_getElem (show L0.length - 1 < L0.length by omega)]
    rfl)
  generalize L0[L0.length - 1]'(by omega) = x at hlast HTR
  have HSB := hd (fun (W : World) (S0 : Sl W 1 (.slice (some ⟨b, o, none⟩) L0.length c) eS L0) (n : Nat) (L : List ByteArray) (h : (n = L0.length ∧ L = L0) ∨ (n = L0.length - 1 ∧ L = L0.take (L0.length - 1))) => (by
    rcases h with ⟨rfl, rfl⟩ | ⟨rfl, rfl⟩
    · exact S0
    · exact S0.takenT (L0.length - 1) (by omega) : Sl W 1 (.slice (some ⟨b, o, none⟩) n c) eS L))
  have HLN := hd (show (trimL L0).length ≤ L0.length ∧ ∀ x ∈ trimL L0, x.size ≤ 1048576 from by
    have hz2 : ∀ x ∈ L0, x.size ≤ 1048576 := fun x hx => Nat.le_trans (hwz x hx) hz
    unfold trimL
    split
    · exact ⟨by rw [List.length_take]; omega, fun x hx => hz2 x (List.mem_of_mem_take hx)⟩
    · exact ⟨Nat.le_refl _, hz2⟩)
  obtain ⟨m, hm⟩ : ∃ m, L0.length = m + 1 := ⟨L0.length - 1, by omega⟩
  have hm1 : L0.length - 1 = m := by omega
  have hml : m ≤ 1048576 := by omega
  rw [hm1] at hlast HTR HSB
  rw [hm] at hc HSB HRS ⊢
  clear hwz hp0 hl0 hcell S0 O0 B3 B2 HSA hg2
  have hmi : ((m + 1 : Nat) : Int) - 1 = (m : Int) := by omega
  obtain ⟨n, L, hnL, hnl, hcase⟩ : ∃ (n : Nat) (L : List ByteArray), Hid ((∀ W, Sl W 1 (.slice (some ⟨b, o, none⟩) (m + 1) c) eS L0 → Sl W 1 (.slice (some ⟨b, o, none⟩) n c) eS L) ∧ L.length = n ∧ trimL L0 = L) ∧ n ≤ 1048577 ∧ ((x = ⟨#[]⟩ ∧ n = m) ∨ (x ≠ ⟨#[]⟩ ∧ n = m + 1)) := by
    by_cases hx : x = ⟨#[]⟩
    · refine ⟨m, L0.take m, hd ⟨fun W S => HSB.out W S m _ (.inr ⟨rfl, rfl⟩), by rw [List.length_take]; omega, by rw [HTR.out, if_pos hx]⟩, by omega, .inl ⟨hx, rfl⟩⟩
    · exact ⟨m + 1, L0, hd ⟨fun W S => HSB.out W S (m + 1) _ (.inl ⟨rfl, rfl⟩), hm, by rw [HTR.out, if_neg hx]⟩, by omega, .inr ⟨hx, rfl⟩⟩
  replace HRR := hd (show runR text = catL (outL L) by rw [HRR.out, hnL.out.2.2])
  replace HLN := hd (show ∀ y ∈ L, y.size ≤ 1048576 from fun y hy => HLN.out.2 y (by rw [hnL.out.2.2]; exact hy))
  have SL := hd hnL.out.1
  have HLL := hd hnL.out.2.1
  replace HRS := hd (show RSt w g g W1.heap.size (.slice (some ⟨b, o, none⟩) (m + 1) c) L0 (runTo L 0) (.slice none 0 0) W2 from HRS.out)
  clear hnL HSB HTR hm hm1
  rcases hcase with ⟨hx, hnm⟩ | ⟨hx, hnm⟩
  · have hx1 := list_true hx
    subst hnm
    clear hx
    go_wp2_with fail
    clear hlast hx1
    go_loopw [5] (fun iv wr => ∃ (k : Nat) (vo : Value), k ≤ n ∧ k ≤ 60 ∧ iv = .int .i64 k ∧ Hid (RSt w g g W1.heap.size (.slice (some ⟨b, o, none⟩) (n + 1) c) L0 (runTo L k) vo wr)) (fun iv _ => n - (intOf iv).toNat)
    case atStart => exact ⟨0, _, Nat.zero_le _, Nat.zero_le _, rfl, HRS⟩
    case round =>
      obtain ⟨k, vo, hk, hk60, rfl, HX⟩ := hrel
      clear HRS
      have hsl := (runTo_small L k (by rw [HLL.out]; omega))
      have hsl2 : (runTo L k).2.length ≤ 240060 := Nat.le_trans hsl.1 (Nat.mul_le_mul (Nat.le_refl 4001) hk60)
      have HSM := hd hsl.2
      clear hsl
      by_cases hlt : k < n
      · have hLk : k < L.length := by rw [HLL.out]; exact hlt
        have hlti : ((k : Int) < ((n : Nat) : Int)) := by omega
        by_cases h60 : k = 60
        · subst h60
          have HMO := hd (show outL L = (runTo L 60).2 ++ [fullS] by unfold outL; rw [if_neg (by omega)])
          have HRE := hd (report_err wr g g (runTo L 60).1 vo (runTo L 60).2 HX.out.1 (by omega) 5 (by decide))
          have HM := hd (show ∀ x ∈ (runTo L 60).2 ++ [fullS], x.size ≤ 30000 from fun y hy => by
            rcases List.mem_append.1 hy with hy | hy
            · exact HSM.out y hy
            · rw [List.mem_singleton.1 hy]; decide)
          have hMl : ((runTo L 60).2 ++ [fullS]).length ≤ 300000 := by rw [List.length_append, List.length_singleton]; omega
          go_wp2_with fail
          refine HRE.out.mono ?_
          rintro e w4 ⟨rfl, hr⟩
          rw [full_err] at hr
          obtain ⟨vo', HY⟩ := HX.out.next hBg.out hr
          have HY1 := hd HY
          have SV := hd (HY.1.out.sl eS_len)
          obtain ⟨AO, cO, hvo⟩ := HY.1.out.isSlice
          generalize hMM : (runTo L 60).2 ++ [fullS] = MM at HMO HM hMl HY1 SV hvo
          subst hvo
          have c4 := HY1.out.1.c4
          have HRM := hd (show runR text = catL MM by rw [HRR.out, HMO.out])
          clear HY hr HX HRE hMM
          go_wp2_with fail
          refine (lines_spec w4 _ MM SV.out hMl HM.out).mono ?_
          rintro e w5 ⟨rfl, hb5⟩
          go_wp2_with fail
          go_ret
          exact ⟨by rw [HRM.out]; rfl, below_step HY1.out.2.2.2.2 hb5⟩
        · have SW := SL.out wr (HX.out.2.1.sl eS_len)
          obtain ⟨b', o', hA, -, hcx⟩ := SW.str_at hLk
          injection hA with hA
          injection hA with ee1 ee2 _
          subst ee1 ee2
          have hxz := HLN.out _ (List.getElem_mem hLk)
          have HST := hd (runTo_succ L k hLk)
          have HOK := runTo_ok L k (by omega)
          generalize L[k] = y at hcx hxz HST
          have HDO := hd (do_spec wr g g (runTo L k).1 HOK vo (runTo L k).2 y hxz HX.out.1 (by omega))
          have HCC := cmd_code HOK y
          have hkn : ¬ ((60 : Int) ≤ (k : Int)) := by omega
          have hkn2 : ((k : Int) < 60) := by omega
          clear SW
          go_wp2_with fail
          refine HDO.out.mono ?_
          rintro e w4 ⟨rfl, hy, hn⟩
          rcases HCC with h0 | h7
          · have hr := hy h0
            have HSS := hd (show runTo L (k + 1) = ((cmdR (runTo L k).1 y).1, (runTo L k).2 ++ (cmdR (runTo L k).1 y).2.1) by rw [HST.out]; unfold stepR; rw [if_pos h0])
            rw [decide_eq_true h0]
            obtain ⟨vo', HY⟩ := HX.out.next hBg.out hr
            have HY2 := hd (show RSt w g g W1.heap.size (.slice (some ⟨b, o, none⟩) (n + 1) c) L0 (runTo L (k + 1)) vo' w4 by rw [HSS.out]; exact HY)
            clear HY hr hy hn h0 HDO hcx HX
            go_wp2_with fail
            go_roundw
            case rel => exact ⟨k + 1, vo', by omega, by omega, by go_num, HY2⟩
            case measure => simp [intOf]; omega
          · have h0 : ¬ (cmdR (runTo L k).1 y).2.2 = 0 := by rw [h7]; decide
            have hr := hn h0
            have HSS := hd (show runTo L (k + 1) = ((runTo L k).1, (runTo L k).2 ++ [qS]) by rw [HST.out]; unfold stepR; rw [if_neg h0])
            rw [decide_eq_false h0]
            obtain ⟨vo', HY⟩ := HX.out.next hBg.out hr
            have HY1 := hd HY
            have HSY := hd (say_spec w4 g g _ vo' _ qS HY.1 (by show (runTo L k).2.length ≤ 1000000; omega))
            clear HY hr hy hn h0 h7 HDO hcx HX
            go_wp2_with fail
            refine HSY.out.mono ?_
            rintro e w5 ⟨rfl, hr5⟩
            obtain ⟨vo5, HY5⟩ := HY1.out.next hBg.out hr5
            have HY2 := hd (show RSt w g g W1.heap.size (.slice (some ⟨b, o, none⟩) (n + 1) c) L0 (runTo L (k + 1)) vo5 w5 by rw [HSS.out]; exact HY5)
            clear HY5 hr5 HSY
            go_wp2_with fail
            go_roundw
            case rel => exact ⟨k + 1, vo5, by omega, by omega, by go_num, HY2⟩
            case measure => simp [intOf]; omega
      · obtain rfl : k = n := by omega
        have HMO := hd (show outL L = (runTo L L.length).2 by unfold outL; rw [if_pos (by rw [HLL.out]; omega)])
        rw [HLL.out] at HMO
        have SV := hd (HX.out.1.out.sl eS_len)
        have HRM := hd (show runR text = catL (runTo L (k)).2 by rw [HRR.out, HMO.out])
        have HLS := hd (fun v (hv : Sl wr 1 v eS (runTo L (k)).2) => lines_spec wr v _ hv (by omega) HSM.out)
        obtain ⟨AO, cO, hvo⟩ := HX.out.1.out.isSlice
        have hni : ¬ (((k : Nat) : Int) < ((k : Nat) : Int)) := by omega
        generalize (runTo L (k)).2.length = q at hvo
        subst hvo
        have c4 := HX.out.1.c4
        go_wp2_with fail
        refine (HLS.out _ SV.out).mono ?_
        rintro e w5 ⟨rfl, hb5⟩
        go_wp2_with fail
        go_ret
        exact ⟨by rw [HRM.out]; rfl, below_step HX.out.2.2.2.2 hb5⟩
  · have hx1 := list_false hx
    subst hnm
    clear hx
    go_wp2_with fail
    clear hlast hx1
    go_loopw [5] (fun iv wr => ∃ (k : Nat) (vo : Value), k ≤ (m + 1) ∧ k ≤ 60 ∧ iv = .int .i64 k ∧ Hid (RSt w g g W1.heap.size (.slice (some ⟨b, o, none⟩) (m + 1) c) L0 (runTo L k) vo wr)) (fun iv _ => (m + 1) - (intOf iv).toNat)
    case atStart => exact ⟨0, _, Nat.zero_le _, Nat.zero_le _, rfl, HRS⟩
    case round =>
      obtain ⟨k, vo, hk, hk60, rfl, HX⟩ := hrel
      clear HRS
      have hsl := (runTo_small L k (by rw [HLL.out]; omega))
      have hsl2 : (runTo L k).2.length ≤ 240060 := Nat.le_trans hsl.1 (Nat.mul_le_mul (Nat.le_refl 4001) hk60)
      have HSM := hd hsl.2
      clear hsl
      by_cases hlt : k < (m + 1)
      · have hLk : k < L.length := by rw [HLL.out]; exact hlt
        have hlti : ((k : Int) < (((m + 1) : Nat) : Int)) := by omega
        by_cases h60 : k = 60
        · subst h60
          have HMO := hd (show outL L = (runTo L 60).2 ++ [fullS] by unfold outL; rw [if_neg (by omega)])
          have HRE := hd (report_err wr g g (runTo L 60).1 vo (runTo L 60).2 HX.out.1 (by omega) 5 (by decide))
          have HM := hd (show ∀ x ∈ (runTo L 60).2 ++ [fullS], x.size ≤ 30000 from fun y hy => by
            rcases List.mem_append.1 hy with hy | hy
            · exact HSM.out y hy
            · rw [List.mem_singleton.1 hy]; decide)
          have hMl : ((runTo L 60).2 ++ [fullS]).length ≤ 300000 := by rw [List.length_append, List.length_singleton]; omega
          go_wp2_with fail
          refine HRE.out.mono ?_
          rintro e w4 ⟨rfl, hr⟩
          rw [full_err] at hr
          obtain ⟨vo', HY⟩ := HX.out.next hBg.out hr
          have HY1 := hd HY
          have SV := hd (HY.1.out.sl eS_len)
          obtain ⟨AO, cO, hvo⟩ := HY.1.out.isSlice
          generalize hMM : (runTo L 60).2 ++ [fullS] = MM at HMO HM hMl HY1 SV hvo
          subst hvo
          have c4 := HY1.out.1.c4
          have HRM := hd (show runR text = catL MM by rw [HRR.out, HMO.out])
          clear HY hr HX HRE hMM
          go_wp2_with fail
          refine (lines_spec w4 _ MM SV.out hMl HM.out).mono ?_
          rintro e w5 ⟨rfl, hb5⟩
          go_wp2_with fail
          go_ret
          exact ⟨by rw [HRM.out]; rfl, below_step HY1.out.2.2.2.2 hb5⟩
        · have SW := SL.out wr (HX.out.2.1.sl eS_len)
          obtain ⟨b', o', hA, -, hcx⟩ := SW.str_at hLk
          injection hA with hA
          injection hA with ee1 ee2 _
          subst ee1 ee2
          have hxz := HLN.out _ (List.getElem_mem hLk)
          have HST := hd (runTo_succ L k hLk)
          have HOK := runTo_ok L k (by omega)
          generalize L[k] = y at hcx hxz HST
          have HDO := hd (do_spec wr g g (runTo L k).1 HOK vo (runTo L k).2 y hxz HX.out.1 (by omega))
          have HCC := cmd_code HOK y
          have hkn : ¬ ((60 : Int) ≤ (k : Int)) := by omega
          have hkn2 : ((k : Int) < 60) := by omega
          clear SW
          go_wp2_with fail
          refine HDO.out.mono ?_
          rintro e w4 ⟨rfl, hy, hn⟩
          rcases HCC with h0 | h7
          · have hr := hy h0
            have HSS := hd (show runTo L (k + 1) = ((cmdR (runTo L k).1 y).1, (runTo L k).2 ++ (cmdR (runTo L k).1 y).2.1) by rw [HST.out]; unfold stepR; rw [if_pos h0])
            rw [decide_eq_true h0]
            obtain ⟨vo', HY⟩ := HX.out.next hBg.out hr
            have HY2 := hd (show RSt w g g W1.heap.size (.slice (some ⟨b, o, none⟩) (m + 1) c) L0 (runTo L (k + 1)) vo' w4 by rw [HSS.out]; exact HY)
            clear HY hr hy hn h0 HDO hcx HX
            go_wp2_with fail
            go_roundw
            case rel => exact ⟨k + 1, vo', by omega, by omega, by go_num, HY2⟩
            case measure => simp [intOf]; omega
          · have h0 : ¬ (cmdR (runTo L k).1 y).2.2 = 0 := by rw [h7]; decide
            have hr := hn h0
            have HSS := hd (show runTo L (k + 1) = ((runTo L k).1, (runTo L k).2 ++ [qS]) by rw [HST.out]; unfold stepR; rw [if_neg h0])
            rw [decide_eq_false h0]
            obtain ⟨vo', HY⟩ := HX.out.next hBg.out hr
            have HY1 := hd HY
            have HSY := hd (say_spec w4 g g _ vo' _ qS HY.1 (by show (runTo L k).2.length ≤ 1000000; omega))
            clear HY hr hy hn h0 h7 HDO hcx HX
            go_wp2_with fail
            refine HSY.out.mono ?_
            rintro e w5 ⟨rfl, hr5⟩
            obtain ⟨vo5, HY5⟩ := HY1.out.next hBg.out hr5
            have HY2 := hd (show RSt w g g W1.heap.size (.slice (some ⟨b, o, none⟩) (m + 1) c) L0 (runTo L (k + 1)) vo5 w5 by rw [HSS.out]; exact HY5)
            clear HY5 hr5 HSY
            go_wp2_with fail
            go_roundw
            case rel => exact ⟨k + 1, vo5, by omega, by omega, by go_num, HY2⟩
            case measure => simp [intOf]; omega
      · obtain rfl : k = m + 1 := by omega
        have HMO := hd (show outL L = (runTo L L.length).2 by unfold outL; rw [if_pos (by rw [HLL.out]; omega)])
        rw [HLL.out] at HMO
        have SV := hd (HX.out.1.out.sl eS_len)
        have HRM := hd (show runR text = catL (runTo L ((m + 1))).2 by rw [HRR.out, HMO.out])
        have HLS := hd (fun v (hv : Sl wr 1 v eS (runTo L ((m + 1))).2) => lines_spec wr v _ hv (by omega) HSM.out)
        obtain ⟨AO, cO, hvo⟩ := HX.out.1.out.isSlice
        have hni : ¬ ((((m + 1) : Nat) : Int) < (((m + 1) : Nat) : Int)) := by omega
        generalize (runTo L ((m + 1))).2.length = q at hvo
        subst hvo
        have c4 := HX.out.1.c4
        go_wp2_with fail
        refine (HLS.out _ SV.out).mono ?_
        rintro e w5 ⟨rfl, hb5⟩
        go_wp2_with fail
        go_ret
        exact ⟨by rw [HRM.out]; rfl, below_step HX.out.2.2.2.2 hb5⟩
end Go.Proofs.YtgcodjkjdfahdaaGreatDoor
