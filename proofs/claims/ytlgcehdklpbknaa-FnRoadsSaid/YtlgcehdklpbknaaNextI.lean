/- NextHalls: the program's function, and slices.Clone of integers. No condition but that the slices read. -/
import Derived.Test.YtlgcehdklpbknaaNextS
import Derived.Deep.RegionHeld3
import Derived.Lib.SliceRun
namespace Go.Proofs.Ytlgcehdklpbknaa
open Go Go.RowKit Go.ChangeShapes Go.WideShapes
set_option linter.unusedSimpArgs false
set_option linter.unusedVariables false

set_option maxHeartbeats 1000000 in
theorem clone_ints (w : World) (v : Value) (l : List Int) (h : Sl w 1 v eI l) (hl : l.length ≤ 1048576) :
    Calls Try.prog 64 #[v] w (GivesOwn w 2 1 eI l) := by
  obtain ⟨-, A, c, rfl, -, -, hA⟩ := id h
  obtain ⟨i0, hi, hz0, hz1, hz2⟩ := info_parts info_i64
  have q : ∀ (w : World) (a : Option Addr) (n c n' c' : Nat), (binOp .eql 25 (.slice a n c) (.slice none n' c')).run Try.prog w = .ok (.bool a.isNone) w := fun w a n c n' c' => Go.Lib.run_eql_slice_nil w _ _ a n c n' c' Try.underlying25
  rcases A with _ | ad
  · have hnil : l = [] := by
      rcases l with _ | ⟨y, l⟩
      · rfl
      · obtain ⟨b, o, he, -⟩ := hA 0 y rfl
        cases he
    subst hnil
    go_enter Try.func64, Try.ntmps64
    go_wp2_with fail
    go_ret
    exact ⟨_, rfl, Own.nil _ _ _ _ _, Below.refl _ _⟩
  · clear hA
    go_enter Try.func64, Try.ntmps64
    go_wp2_with (at_builtin; refine wpList_append_sl _ rfl _ _ 25 rfl i0 (.int .i64 0) 8 Try.underlying25 hi hz0 hz1 hz2 rfl (by decide) eI_len (by intro y u hu; simp [eI] at hu; subst hu; rfl) _ [] rfl (Own.made0 w w.heap.size 2 1 eI (Nat.le_refl _)) _ l rfl (h.alloc _) (by unfold maxLen; simp; omega) (by simp; omega) (by simp) ?_)
    intro v' w1 hown hgr
    have hbel := ((Below.refl w.heap.size w).alloc (Nat.le_refl _) (.cells #[] 2)).grown hgr (by simp) (by intro g hg; simp [Value.ownBlock] at hg; omega)
    go_wp2_with fail
    go_ret
    exact ⟨_, rfl, by simpa using hown, hbel⟩

def GivesTwo (w : World) (l : List THall) (H : List Int) (R : List (List Int)) (T : List Int) (e : Ending) (w' : World) : Prop :=
  ∃ v u, e = .returned (.tuple #[v, u, .bool true]) ∧ Own w' w.heap.size 2 1 v eI (showsT l H R startT T) ∧ Own w' w.heap.size 2 1 u eI (theresT l H R startT T) ∧ Below w.heap.size w w'
theorem days_ok (w : World) (v : Value) (l : List THall) (h : Sl w 3 v eHall l) (v1 v2 : Value) (H : List Int) (L : List TRow) (h1 : Sl w 1 v1 eI H) (h2 : SlR w v2 L) (vt : Value) (T : List Int) (ht : Sl w 1 vt eI T) (ok : HallsOk l H (rowsOf L)) (hT : tourOk l.length T = true) (hTl : T.length ≤ 1048576) (hlate : lateT l H (rowsOf L) T = false) :
    Calls Try.prog 71 #[v, .agg #[v1, v2], vt] w (GivesTwo w l H (rowsOf L) T) :=
  (days_impl w v l h v1 v2 H L h1 h2 vt T ht ok hT hTl).mono fun e w' hg => by
    rcases hg with ⟨hq, -⟩ | ⟨-, hg⟩
    · rw [hlate] at hq; cases hq
    · exact hg
theorem days_late (w : World) (v : Value) (l : List THall) (h : Sl w 3 v eHall l) (v1 v2 : Value) (H : List Int) (L : List TRow) (h1 : Sl w 1 v1 eI H) (h2 : SlR w v2 L) (vt : Value) (T : List Int) (ht : Sl w 1 vt eI T) (ok : HallsOk l H (rowsOf L)) (hT : tourOk l.length T = true) (hTl : T.length ≤ 1048576) (hlate : lateT l H (rowsOf L) T = true) :
    Calls Try.prog 71 #[v, .agg #[v1, v2], vt] w fun e w' => e = .returned (.tuple #[.slice none 0 0, .slice none 0 0, .bool false]) ∧ Below w.heap.size w w' :=
  (days_impl w v l h v1 v2 H L h1 h2 vt T ht ok hT hTl).mono fun e w' hg => by
    rcases hg with ⟨-, hg⟩ | ⟨hq, -⟩
    · exact hg
    · rw [hlate] at hq; cases hq

set_option maxRecDepth 100000 in
set_option maxHeartbeats 4000000 in
theorem nh_impl (w : World) (v : Value) (l : List THall) (h : Sl w 3 v eHall l) (v1 v2 : Value) (H : List Int) (L : List TRow) (h1 : Sl w 1 v1 eI H) (h2 : SlR w v2 L) (R : List (List Int)) (hR : rowsOf L = R) (vt : Value) (T : List Int) (ht : Sl w 1 vt eI T) (hTl : T.length ≤ 1048576) :
    Calls Try.prog 16 #[v, .agg #[v1, v2], vt] w (GivesOwnI w 2 1 eI (nextR l H R T)) := by
  have m0 := h.len
  subst hR
  obtain ⟨A, c, rfl⟩ := h.slice
  obtain ⟨A1, c1, rfl⟩ := h1.slice
  obtain ⟨A2, c2, rfl⟩ := h2.1.slice
  have hb := (Below.refl w.heap.size w).alloc (Nat.le_refl _) (.cells #[.slice A1 H.length c1, .slice A2 L.length c2] 28)
  have b0 := new_cell w #[.slice A1 H.length c1, .slice A2 L.length c2] 28 0 _ rfl
  have b1 := new_cell w #[.slice A1 H.length c1, .slice A2 L.length c2] 28 1 _ rfl
  have hgs : w.heap.size < (w.alloc (.cells #[.slice A1 H.length c1, .slice A2 L.length c2] 28)).heap.size := by simp
  go_enter Try.func16, Try.ntmps16
  go_wp2_with fail
  generalize (w.alloc (.cells #[.slice A1 H.length c1, .slice A2 L.length c2] 28)) = W at hb b0 b1 hgs ⊢
  refine (code_implT _ _ _ (h.below hb) _ _ _ _ (h1.below hb) (h2.below hb) _ _ (ht.below hb) (by omega)).mono ?_
  rintro e N ⟨vd, vu, rfl, OD, OU, hb3⟩
  clear OD OU
  have hbN := below_step hb hb3
  have g0 := (hb3.cell hgs).trans b0
  have g1 := (hb3.cell hgs).trans b1
  have hgN : w.heap.size < N.heap.size := Nat.lt_of_lt_of_le hgs hb3.size
  clear hb3 b0 b1 hgs hb
  by_cases q : tcode l H (rowsOf L) T = 0
  case neg =>
    have HE := hd q
    have hne : (tcode l H (rowsOf L) T != 0) = true := by simpa using q
    clear q
    go_wp2_with fail
    go_ret2
    exact ⟨.slice none 0 0, by unfold nextR; rw [if_neg HE.out]; rfl, by unfold nextR; rw [if_neg HE.out]; exact Own.nil _ _ _ _ _, hbN⟩
  case pos =>
    have HQ := hd q
    obtain ⟨k1, k2, -⟩ := tcode_zero q
    have HOK := hd (hallsOk_of k1)
    have HTO := hd k2
    have z6 := (hallsOk_of k1).six
    have hT6 := tourOk_len k2
    rw [q]
    clear q k1 k2
    obtain ⟨i0, hi, hz0, hz1, hz2⟩ := info_parts info_i64
    have OD := Own.made0 N N.heap.size 2 1 eI (Nat.le_refl _)
    have hbA := (Below.refl N.heap.size N).alloc (Nat.le_refl _) (.cells #[] 2)
    go_wp2_with fail
    go_loopw [11, 30] (fun dv i wr => ∃ k : Nat, k ≤ l.length ∧ i = .int .i64 k ∧ Own wr N.heap.size 2 1 dv eI (nextTo l H (rowsOf L) T k) ∧ Below N.heap.size N wr) (fun _ i _ => l.length - (intOf i).toNat)
    case atStart => exact ⟨0, Nat.zero_le _, rfl, OD, hbA⟩
    case round =>
      obtain ⟨k, hk, rfl, hD, hbel⟩ := hrel
      clear OD hbA
      have hbw := hbN.trans (hbel.mono hbN.size)
      by_cases hlt : k < l.length
      · have c0 : wr.cell? ⟨w.heap.size, 0, none⟩ = some (.slice A1 H.length c1) := (hbel.cell hgN).trans g0
        have c1' : wr.cell? ⟨w.heap.size, 1, none⟩ = some (.slice A2 L.length c2) := (hbel.cell hgN).trans g1
        have hgr : w.heap.size < wr.heap.size := Nat.lt_of_lt_of_le hgN hbel.size
        have stw := ht.below hbw
        rcases r1 : hasI T (k : Int) with _ | _
        · have HR1 := hd r1
          have HT1 := hd (tourOk_snoc HTO.out hlt r1)
          have hT1 := stw.drew
          have B0 : Below wr.heap.size wr wr.drew := below_drewN (Below.refl _ _) 1
          have HS := hd (show ∀ w' : World, Below wr.heap.size wr w' → w'.cell? ⟨w.heap.size, 0, none⟩ = some (.slice A1 H.length c1) ∧ w'.cell? ⟨w.heap.size, 1, none⟩ = some (.slice A2 L.length c2) from fun w' hb' => ⟨(hb'.cell (p := ⟨w.heap.size, 0, none⟩) hgr).trans c0, (hb'.cell (p := ⟨w.heap.size, 1, none⟩) hgr).trans c1'⟩)
          have HTL : (T ++ [(k : Int)]).length ≤ 1048576 := by simp; omega
          have HNXT : Hid (nextTo l H (rowsOf L) T (k + 1) = nextTo l H (rowsOf L) T k ++ if (!(lateT l H (rowsOf L) (T ++ [(k : Int)]))) = true then [(k : Int)] else []) := hd (by rw [nextTo, nextOk, HR1.out, late_snoc]; simp)
          have HLEN := hd (nextTo_len l H (rowsOf L) T k)
          go_wp2_with fail
          refine (has_impl _ _ _ stw _).mono ?_
          rintro e w5 ⟨rfl, hw⟩
          have hw := hw.symm
          subst hw
          rw [r1]
          clear r1
          go_wp2_with fail
          rcases hlate : lateT l H (rowsOf L) (T ++ [(k : Int)]) with _ | _
          · have HL := hd hlate
            rw [hlate] at HNXT
            clear hlate
            go_region_held3 (fun ww => ww.cell? ⟨w.heap.size, 0, none⟩ = some (.slice A1 H.length c1) ∧ ww.cell? ⟨w.heap.size, 1, none⟩ = some (.slice A2 L.length c2)) (exact HS.out _ (by first | exact B7 | exact B6 | exact B5 | exact B5.alloc B5.size _ | exact B0.alloc B0.size _ | exact B0))
              (first | (go_at_call 64; refine (clone_ints _ _ _ (by first | exact hT1 | exact hT1.alloc _) (by omega)).mono ?_; rintro e w5 ⟨v5, rfl, O5, hb5⟩; have B5 : Below wr.heap.size wr w5 := below_step (by first | exact B0 | exact B0.alloc B0.size _) hb5; replace O5 := O5.base (show wr.heap.size ≤ _ from by first | exact B0.size | exact (B0.alloc B0.size _).size)) | (refine step_append_sl _ rfl (.tmp 40) (.tmp 42) 25 rfl i0 (.int .i64 0) 8 Try.underlying25 hi hz0 hz1 hz2 rfl (by decide) eI_len (by intro y u hu; simp [eI] at hu; subst hu; rfl) v5 T rfl (by first | exact O5 | exact O5.alloc _) _ [(k : Int)] rfl (by first | exact (sl_one (k := 1) (enc := eI) _ wr.drew.heap.size _ _ (heap_alloc_new _ _) (k : Int) rfl).below hb5 | exact sl_one _ w5.heap.size _ _ (heap_alloc_new _ _) _ rfl) (by unfold maxLen; simp; omega) (by simp; omega) (by first | exact B5.size | exact (B5.alloc B5.size _).size) ?_; intro v6 w6 O6 hg6; have B6 : Below wr.heap.size wr w6 := (by first | exact B5.grown hg6 B5.size (fun g hg => (O5.lt g hg).1) | exact (B5.alloc B5.size _).grown hg6 (B5.alloc B5.size _).size (fun g hg => (O5.lt g hg).1)); have W6 := hbw.trans (B6.mono hbw.size)) | (go_at_call 71; refine (days_ok _ _ _ (h.below W6) _ _ _ _ (h1.below W6) (h2.below W6) _ _ (O6.sl eI_len) HOK.out HT1.out HTL HL.out).mono ?_; rintro e w7 ⟨v7, u7, rfl, O7, U7, hb7⟩; have B7 : Below wr.heap.size wr w7 := below_step B6 hb7))
            all_goals
              have hD7 := Own.below hD B7 (Nat.le_refl _)
              have hbN7 := hbel.trans (B7.mono hbel.size)
              clear hb5 O5 B5 O6 hg6 B6 W6 hb7 B7 B0 hT1 c0 c1' O7 U7 hD hbel
              have HNX2 : Hid (nextTo l H (rowsOf L) T (k + 1) = nextTo l H (rowsOf L) T k ++ [(k : Int)]) := hd (by rw [HNXT.out]; rfl)
              clear HNXT
              generalize nextTo l H (rowsOf L) T k = D at hD7 HNX2 HLEN
              have hDl := HLEN.out
              go_wp2_with (at_builtin; refine wpList_push _ rfl _ _ 25 rfl i0 (.int .i64 0) 8 Try.underlying25 hi hz0 hz1 hz2 rfl (by decide) _ _ (k : Int) rfl (hD7.alloc _) w7.heap.size rfl #[.int .i64 k] 2 (heap_alloc_new _ _) rfl rfl (by intro u hu; simp [eI] at hu; subst hu; rfl) (by unfold maxLen; omega) (by omega) (by have := hbN7.size; simp; omega) ?_)
              intro vd2 w8 hD8 hg8
              have hb8 := (hbN7.alloc hbN7.size (.cells #[.int .i64 (k : Int)] 2)).grown hg8 (by have := hbN7.size; simp; omega) (fun g hg => (hD7.lt g hg).1)
              clear hD7 hbN7 hg8
              go_wp2_with fail
              go_roundw
              case rel => exact ⟨k + 1, by omega, by go_num, by rw [HNX2.out]; exact hD8, hb8⟩
              case measure => simp [intOf]; omega
          · have HL := hd hlate
            rw [hlate] at HNXT
            clear hlate
            go_region_held3 (fun ww => ww.cell? ⟨w.heap.size, 0, none⟩ = some (.slice A1 H.length c1) ∧ ww.cell? ⟨w.heap.size, 1, none⟩ = some (.slice A2 L.length c2)) (exact HS.out _ (by first | exact B7 | exact B6 | exact B5 | exact B5.alloc B5.size _ | exact B0.alloc B0.size _ | exact B0))
              (first | (go_at_call 64; refine (clone_ints _ _ _ (by first | exact hT1 | exact hT1.alloc _) (by omega)).mono ?_; rintro e w5 ⟨v5, rfl, O5, hb5⟩; have B5 : Below wr.heap.size wr w5 := below_step (by first | exact B0 | exact B0.alloc B0.size _) hb5; replace O5 := O5.base (show wr.heap.size ≤ _ from by first | exact B0.size | exact (B0.alloc B0.size _).size)) | (refine step_append_sl _ rfl (.tmp 40) (.tmp 42) 25 rfl i0 (.int .i64 0) 8 Try.underlying25 hi hz0 hz1 hz2 rfl (by decide) eI_len (by intro y u hu; simp [eI] at hu; subst hu; rfl) v5 T rfl (by first | exact O5 | exact O5.alloc _) _ [(k : Int)] rfl (by first | exact (sl_one (k := 1) (enc := eI) _ wr.drew.heap.size _ _ (heap_alloc_new _ _) (k : Int) rfl).below hb5 | exact sl_one _ w5.heap.size _ _ (heap_alloc_new _ _) _ rfl) (by unfold maxLen; simp; omega) (by simp; omega) (by first | exact B5.size | exact (B5.alloc B5.size _).size) ?_; intro v6 w6 O6 hg6; have B6 : Below wr.heap.size wr w6 := (by first | exact B5.grown hg6 B5.size (fun g hg => (O5.lt g hg).1) | exact (B5.alloc B5.size _).grown hg6 (B5.alloc B5.size _).size (fun g hg => (O5.lt g hg).1)); have W6 := hbw.trans (B6.mono hbw.size)) | (go_at_call 71; refine (days_late _ _ _ (h.below W6) _ _ _ _ (h1.below W6) (h2.below W6) _ _ (O6.sl eI_len) HOK.out HT1.out HTL HL.out).mono ?_; rintro e w7 ⟨rfl, hb7⟩; have B7 : Below wr.heap.size wr w7 := below_step B6 hb7))
            all_goals
              have hD7 := Own.below hD B7 (Nat.le_refl _)
              have hbN7 := hbel.trans (B7.mono hbel.size)
              clear hb5 O5 B5 O6 hg6 B6 W6 hb7 B7 B0 hT1 c0 c1' hD hbel
              have HNX2 : Hid (nextTo l H (rowsOf L) T (k + 1) = nextTo l H (rowsOf L) T k) := hd (by rw [HNXT.out]; simp)
              clear HNXT
              generalize nextTo l H (rowsOf L) T k = D at hD7 HNX2 HLEN
              go_wp2_with fail
              go_roundw
              case rel => exact ⟨k + 1, by omega, by go_num, by rw [HNX2.out]; exact hD7, hbN7⟩
              case measure => simp [intOf]; omega
        · have HR1 := hd r1
          clear c0 c1'
          go_wp2_with fail
          refine (has_impl _ _ _ stw _).mono ?_
          rintro e w5 ⟨rfl, hw⟩
          have hw := hw.symm
          subst hw
          rw [r1]
          clear r1
          go_wp2_with fail
          go_roundw
          case rel => exact ⟨k + 1, by omega, by go_num, by simp only [nextTo, nextOk, HR1.out]; simpa using hD, hbel⟩
          case measure => simp [intOf]; omega
      · have hkl : k = l.length := by omega
        subst hkl
        go_wp2_with fail
        go_ret2
        exact ⟨_, by unfold nextR; rw [if_pos HQ.out]; rfl, by unfold nextR; rw [if_pos HQ.out]; exact Own.base hD hbN.size, hbN.trans (hbel.mono hbN.size)⟩

end Go.Proofs.Ytlgcehdklpbknaa
