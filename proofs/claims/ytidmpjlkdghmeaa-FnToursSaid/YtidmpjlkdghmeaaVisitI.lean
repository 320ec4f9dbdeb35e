/- All tours: the program's walk through them, for whatever function it is handed. No condition but that the slices read. -/
import Derived.Test.YtidmpjlkdghmeaaVisitP
import Derived.Test.YtidmpjlkdghmeaaNextI
namespace Go.Proofs.Ytidmpjlkdghmeaa
open Go Go.RowKit Go.ChangeShapes Go.WideShapes
set_option linter.unusedSimpArgs false
set_option linter.unusedVariables false

theorem touch_below {w w' : World} (bs : List (Option Nat)) (h : Below w.heap.size w w') : TouchL w w' bs := ⟨h.os, h.tape, h.output, h.size, fun k hk _ => h.block k hk⟩
theorem touch_step {a b c : World} {bs : List (Option Nat)} (h : TouchL a b bs) (h' : TouchL b c bs) : TouchL a c bs := (h.trans h').mono (by intro x hx; simpa using hx)
theorem touch_cell {w w' : World} {bs : List (Option Nat)} (h : TouchL w w' bs) {b o : Nat} (hb : b < w.heap.size) (hn : ∀ x ∈ bs, x ≠ some b) : w'.cell? ⟨b, o, none⟩ = w.cell? ⟨b, o, none⟩ := by
  have := h.block b hb hn
  simp [World.cell?, this]
def GivesV {σ : Type} (w : World) (bs : List (Option Nat)) (St : World → σ → Prop) (s : σ) (e : Ending) (w' : World) : Prop := e = .returned (.tuple #[]) ∧ St w' s ∧ TouchL w w' bs

set_option maxRecDepth 100000 in
set_option maxHeartbeats 4000000 in
theorem tours_any {σ : Type} (step : σ → List Int → σ) (B N0 : Nat) (St : World → σ → Prop) (bs : List (Option Nat)) (F : Nat) (caps : Array Value) (hent : ∀ (args : Array Value) (w : World), Sem.run Try.prog (callFunc F args) w = .ok (.enter F args) w)
    (w0 : World) (v : Value) (l : List THall) (h : Sl w0 3 v eHall l) (v1 v2 : Value) (H : List Int) (L : List TRow) (h1 : Sl w0 1 v1 eI H) (h2 : SlR w0 v2 L) (ok : HallsOk l H (rowsOf L))
    (hB : w0.heap.size ≤ B) (hbs : ∀ b ∈ bs, ∀ g, b = some g → B ≤ g ∧ g < N0) (hSt : ∀ w w' s, St w s → Below w.heap.size w w' → St w' s)
    (hy : ∀ w vt T s, Below w0.heap.size w0 w → N0 ≤ w.heap.size → B ≤ w.heap.size → St w s → Own w B 2 1 vt eI T → (∀ b ∈ bs, apart vt.ownBlock b) → tourOk l.length T = true → lateT l H (rowsOf L) T = false → Calls Try.prog F (#[vt] ++ caps) w (GivesV w bs St (step s T)))
    (n : Nat) : ∀ (T : List Int) (w : World) (vt : Value) (s : σ), l.length ≤ T.length + n → tourOk l.length T = true → Below w0.heap.size w0 w → N0 ≤ w.heap.size → B ≤ w.heap.size → St w s → Own w B 2 1 vt eI T → (∀ b ∈ bs, apart vt.ownBlock b) →
    Calls Try.prog 87 #[v, .agg #[v1, v2], vt, .func (.func F) #[] caps] w (GivesV w bs St (visit step l H (rowsOf L) n s T)) := by
  have m0 := h.len
  obtain ⟨A, c, rfl⟩ := h.slice
  obtain ⟨A1, c1, rfl⟩ := h1.slice
  obtain ⟨A2, c2, rfl⟩ := h2.1.slice
  have z6 := ok.six
  have HOK := hd ok
  have HBS := hd hbs
  have HST := hd hSt
  have HENT := hd hent
  have HY := hd hy
  clear ok hbs hSt hy hent
  induction n using Nat.strongRecOn with
  | _ n ih =>
  intro T w vt s hn hT hb hN hBw hs hvt hap
  have HIH := hd ih
  have HTO := hd hT
  have HAP := hd hap
  have hT6 := tourOk_len hT
  clear ih hap
  obtain ⟨At, ct, rfl⟩ := hvt.slice
  have hbW := (Below.refl w.heap.size w).alloc (Nat.le_refl _) (.cells #[.slice A1 H.length c1, .slice A2 L.length c2] 28)
  have b0 := new_cell w #[.slice A1 H.length c1, .slice A2 L.length c2] 28 0 _ rfl
  have b1 := new_cell w #[.slice A1 H.length c1, .slice A2 L.length c2] 28 1 _ rfl
  have hgs : w.heap.size < (w.alloc (.cells #[.slice A1 H.length c1, .slice A2 L.length c2] 28)).heap.size := by simp
  rcases hlate : lateT l H (rowsOf L) T with _ | _
  case true =>
    have HL := hd hlate
    clear hlate
    go_enter Try.func87, Try.ntmps87
    go_wp2_with fail
    generalize (w.alloc (.cells #[.slice A1 H.length c1, .slice A2 L.length c2] 28)) = W at hbW b0 b1 hgs ⊢
    have hb0 := below_step hb hbW
    refine (days_late _ _ _ (h.below hb0) _ _ _ _ (h1.below hb0) (h2.below hb0) _ _ ((hvt.sl eI_len).below hbW) HOK.out HTO.out (by omega) HL.out).mono ?_
    rintro e w1 ⟨rfl, hb1⟩
    have hb2 := below_step hbW hb1
    go_wp2_with fail
    go_end0
    exact ⟨rfl, by rw [visit_late _ _ _ _ _ _ _ HL.out]; exact HST.out _ _ _ hs hb2, touch_below _ hb2⟩
  case false =>
    have HL := hd hlate
    have HV := hd (visit_on step s hlate hT hn)
    clear hlate hT
    go_enter Try.func87, Try.ntmps87
    go_wp2_with fail
    generalize (w.alloc (.cells #[.slice A1 H.length c1, .slice A2 L.length c2] 28)) = W at hbW b0 b1 hgs ⊢
    have hb0 := below_step hb hbW
    refine (days_ok _ _ _ (h.below hb0) _ _ _ _ (h1.below hb0) (h2.below hb0) _ _ ((hvt.sl eI_len).below hbW) HOK.out HTO.out (by omega) HL.out).mono ?_
    rintro e w1 ⟨vd, vu, rfl, OD, OU, hb1⟩
    clear OD OU
    have hb2 := below_step hb0 hb1
    have hbw1 := below_step hbW hb1
    have q0 := (hb1.cell (p := ⟨w.heap.size, 0, none⟩) hgs).trans b0
    have q1 := (hb1.cell (p := ⟨w.heap.size, 1, none⟩) hgs).trans b1
    have hg1 := Nat.lt_of_lt_of_le hgs hb1.size
    have hvt1 := hvt.below hbw1 (Nat.le_refl _)
    have hs1 := HST.out _ _ _ hs hbw1
    have hz1 := hbw1.size
    clear b0 b1 hgs hbW hb0 hb1
    go_wp2_with fail
    rw [HENT.out, Oper.upon_enter]
    refine (HY.out _ _ _ _ hb2 (by omega) (by omega) hs1 hvt1 HAP.out HTO.out HL.out).mono ?_
    rintro e w2 ⟨rfl, hs2, ht2⟩
    have HN := hd (show ∀ x ∈ bs, x ≠ some w.heap.size from fun x hx e => by have := (HBS.out x hx _ e).2; omega)
    have g0 := (touch_cell ht2 (o := 0) hg1 HN.out).trans q0
    have g1 := (touch_cell ht2 (o := 1) hg1 HN.out).trans q1
    have hg2 := Nat.lt_of_lt_of_le hg1 ht2.size
    have hvt2 := hvt1.touched ht2 HAP.out
    have BT := hd (show ∀ w' : World, TouchL w2 w' bs → Below w0.heap.size w0 w' from fun w' ht' => hb2.trans (below_touched (touch_step ht2 ht') hb2.size (fun b hb g hg => Nat.le_trans hB (HBS.out b hb g hg).1)))
    have HW2 := hd (touch_step (touch_below bs hbw1) ht2)
    have hz2 := ht2.size
    clear q0 q1 hg1 hb2 hbw1 hs1 hvt1 ht2 hvt hs hb
    obtain ⟨i0, hi, hz0, hz1', hz2'⟩ := info_parts info_i64
    go_wp2_with fail
    go_loopw [27] (fun i wr => ∃ k : Nat, k ≤ l.length ∧ i = .int .i64 k ∧ St wr (kidsF (visit step l H (rowsOf L) (n - 1)) T k (step s T)) ∧ TouchL w2 wr bs) (fun i _ => l.length - (intOf i).toNat)
    case atStart => exact ⟨0, Nat.zero_le _, rfl, hs2, TouchL.refl _ _⟩
    case round =>
      obtain ⟨k, hk, rfl, hsr, htr⟩ := hrel
      clear hs2
      by_cases hlt : k < l.length
      · have c0 := (touch_cell htr (o := 0) hg2 HN.out).trans g0
        have c1' := (touch_cell htr (o := 1) hg2 HN.out).trans g1
        have hgr := Nat.lt_of_lt_of_le hg2 htr.size
        have hzr := htr.size
        have ovr := hvt2.touched htr HAP.out
        have stw := ovr.sl eI_len
        rcases r1 : hasI T (k : Int) with _ | _
        · have HR1 := hd (kids_on (visit step l H (rowsOf L) (n - 1)) T k (step s T) r1)
          have HT1 := hd (tourOk_snoc HTO.out hlt r1)
          have HF := hd (more_fuel HTO.out hn hlt r1)
          have hT1 := stw.drew
          have B0 : Below wr.heap.size wr wr.drew := below_drewN (Below.refl _ _) 1
          have HS := hd (show ∀ w' : World, TouchL wr w' bs → w'.cell? ⟨w.heap.size, 0, none⟩ = some (.slice A1 H.length c1) ∧ w'.cell? ⟨w.heap.size, 1, none⟩ = some (.slice A2 L.length c2) from fun w' hb' => ⟨(touch_cell hb' hgr HN.out).trans c0, (touch_cell hb' hgr HN.out).trans c1'⟩)
          have HNE := hd (show ∀ (v6 : Value) (w6 : World), (∀ g, v6.ownBlock = some g → wr.heap.size ≤ g ∧ g < w6.heap.size) → ∀ b ∈ bs, apart v6.ownBlock b from fun v6 w6 hl b hb => by
            cases hv : v6.ownBlock with
            | none => exact .inl rfl
            | some g =>
              refine .inr fun e => ?_
              have h1 := (hl g hv).1
              have h2 := (HBS.out b hb g e.symm).2
              omega)
          go_wp2_with fail
          refine (has_impl _ _ _ stw _).mono ?_
          rintro e w5 ⟨rfl, hw⟩
          have hw := hw.symm
          subst hw
          rw [r1]
          clear r1
          go_wp2_with fail
          go_region_held3 (fun ww => ww.cell? ⟨w.heap.size, 0, none⟩ = some (.slice A1 H.length c1) ∧ ww.cell? ⟨w.heap.size, 1, none⟩ = some (.slice A2 L.length c2)) (exact HS.out _ (by first | exact T7 | exact touch_below _ B6 | exact touch_below _ B5 | exact touch_below _ (B5.alloc B5.size _) | exact touch_below _ (B0.alloc B0.size _) | exact touch_below _ B0))
            (first | (go_at_call 90; refine (clone_ints _ _ _ (by first | exact hT1 | exact hT1.alloc _) (by omega)).mono ?_; rintro e w5 ⟨v5, rfl, O5, hb5⟩; have B5 : Below wr.heap.size wr w5 := below_step (by first | exact B0 | exact B0.alloc B0.size _) hb5; replace O5 := O5.base (show wr.heap.size ≤ _ from by first | exact B0.size | exact (B0.alloc B0.size _).size)) | (refine step_append_sl _ rfl (.tmp 37) (.tmp 39) 25 rfl i0 (.int .i64 0) 8 Try.underlying25 hi hz0 hz1' hz2' rfl (by decide) eI_len (by intro y u hu; simp [eI] at hu; subst hu; rfl) v5 T rfl (by first | exact O5 | exact O5.alloc _) _ [(k : Int)] rfl (by first | exact (sl_one (k := 1) (enc := eI) _ wr.drew.heap.size _ _ (heap_alloc_new _ _) (k : Int) rfl).below hb5 | exact sl_one _ w5.heap.size _ _ (heap_alloc_new _ _) _ rfl) (by unfold maxLen; simp; omega) (by simp; omega) (by first | exact B5.size | exact (B5.alloc B5.size _).size) ?_; intro v6 w6 O6 hg6; have B6 : Below wr.heap.size wr w6 := (by first | exact B5.grown hg6 B5.size (fun g hg => (O5.lt g hg).1) | exact (B5.alloc B5.size _).grown hg6 (B5.alloc B5.size _).size (fun g hg => (O5.lt g hg).1)); have W6 := BT.out _ (touch_step htr (touch_below bs B6))) | (go_at_call 87; refine (HIH.out (n - 1) HF.out.1 (T ++ [(k : Int)]) _ _ (kidsF (visit step l H (rowsOf L) (n - 1)) T k (step s T)) HF.out.2 HT1.out W6 (by have := B6.size; omega) (by have := B6.size; omega) (HST.out _ _ _ hsr B6) (O6.base (by omega)) (HNE.out _ _ O6.lt)).mono ?_; rintro e w7 ⟨rfl, hs7, ht7⟩; have T7 := touch_step (touch_below bs B6) ht7))
          all_goals
            have TT := touch_step htr T7
            clear hb5 O5 B5 O6 hg6 B6 W6 T7 B0 hT1 c0 c1' htr ovr stw hsr ht7
            rw [← HR1.out] at hs7
            go_wp2_with fail
            go_roundw
            case rel => exact ⟨k + 1, by omega, by go_num, hs7, TT⟩
            case measure => simp [intOf]; omega
        · have HR1 := hd (kids_has (visit step l H (rowsOf L) (n - 1)) T k (step s T) r1)
          clear c0 c1'
          go_wp2_with fail
          refine (has_impl _ _ _ stw _).mono ?_
          rintro e w5 ⟨rfl, hw⟩
          have hw := hw.symm
          subst hw
          rw [r1]
          clear r1
          rw [← HR1.out] at hsr
          go_wp2_with fail
          go_roundw
          case rel => exact ⟨k + 1, by omega, by go_num, hsr, htr⟩
          case measure => simp [intOf]; omega
      · have hkl : k = l.length := by omega
        subst hkl
        go_wp2_with fail
        go_end0
        exact ⟨rfl, by rw [HV.out]; exact hsr, touch_step HW2.out htr⟩
end Go.Proofs.Ytidmpjlkdghmeaa
