/- MostAccepted: the plain laws and the hires of one item in the order of their last days. No condition but that the slices read. -/
import Derived.Test.YtlgcehdklpbknaaDel
import Derived.Test.YtlgcehdklpbknaaDays
namespace Go.Proofs.Ytlgcehdklpbknaa
open Go Go.RowKit Go.ChangeShapes Go.WideShapes Go.Shelf Go.Lib Go.Sort
set_option linter.unusedSimpArgs false
set_option linter.unusedVariables false
theorem insH_nil (w : World) (p : Option Addr) (cap : Nat) (F : Value) :
    Calls Try.prog 155 #[.slice p 0 cap, .int .i64 0, .int .i64 0, F] w fun e w' => e = .returned (.tuple #[]) ∧ w' = w := by
  go_enter Try.func155, Try.ntmps155
  go_wp2_with fail
  go_loopw [8, 9] (fun a b wr => a = .int .i64 1 ∧ wr = w) (fun _ _ _ => 0)
  case atStart => exact ⟨rfl, rfl⟩
  case round =>
    obtain ⟨rfl, rfl⟩ := hrel
    go_wp2_with fail
    go_end0
    exact ⟨rfl, rfl⟩
theorem stabH_nil0 (w : World) (p : Option Addr) (cap : Nat) (F : Value) :
    Calls Try.prog 134 #[.slice p 0 cap, .int .i64 0, F] w fun e w' => e = .returned (.tuple #[]) ∧ w' = w := by
  go_enter Try.func134, Try.ntmps134
  go_wp2_with fail
  go_loopw [7, 8] (fun a b wr => a = .int .i64 0 ∧ b = .int .i64 20 ∧ wr = w) (fun _ _ _ => 0)
  case atStart => exact ⟨rfl, rfl, rfl⟩
  case round =>
    obtain ⟨rfl, rfl, rfl⟩ := hrel
    go_wp2_with fail
    refine (insH_nil _ _ _ _).mono ?_
    rintro e w' ⟨rfl, rfl⟩
    go_wp2_with fail
    go_loopw [6, 7, 8, 9] (fun a b c d wr => a = .int .i64 20 ∧ wr = w') (fun _ _ _ _ _ => 0)
    case atStart => exact ⟨rfl, rfl⟩
    case round =>
      obtain ⟨rfl, rfl⟩ := hrel
      go_wp2_with fail
      go_end0
      exact ⟨rfl, rfl⟩
theorem stabH_nil (w : World) (p : Option Addr) (cap : Nat) (F : Value) :
    Calls Try.prog 96 #[.slice p 0 cap, F] w fun e w' => e = .returned (.tuple #[]) ∧ w' = w := by
  go_enter Try.func96, Try.ntmps96
  go_wp2_with fail
  refine (stabH_nil0 _ _ _ _).mono ?_
  rintro e w' ⟨rfl, rfl⟩
  go_wp2_with fail
  go_end0
  exact ⟨rfl, rfl⟩
theorem idxH_nil (w : World) (p : Option Addr) (cap : Nat) (F : Value) :
    Calls Try.prog 133 #[.slice p 0 cap, F] w fun e w' => e = .returned (.int .i64 (-1)) ∧ w' = w := by
  go_enter Try.func133, Try.ntmps133
  go_wp2_with fail
  go_loopw [8] (fun i wr => i = .int .i64 0 ∧ wr = w) (fun _ _ => 0)
  case atStart => exact ⟨rfl, rfl⟩
  case round =>
    obtain ⟨rfl, rfl⟩ := hrel
    go_wp2_with fail
    go_ret
    exact ⟨rfl, rfl⟩
theorem delH_nil (w : World) (p : Option Addr) (cap : Nat) (F : Value) :
    Calls Try.prog 93 #[.slice p 0 cap, F] w fun e w' => e = .returned (.slice p 0 cap) ∧ w' = w := by
  go_enter Try.func93, Try.ntmps93
  go_wp2_with fail
  refine (idxH_nil _ _ _ _).mono ?_
  rintro e w' ⟨rfl, rfl⟩
  go_wp2_with fail
  go_ret
  exact ⟨rfl, rfl⟩
def keyTo (x : THire) : Int := x.2.2
def ownH (L : List THire) (item : Int) : List THire := L.filter fun x => !(x.1 != item)
theorem below_grown_row {w W : World} {B blk : Nat} (h : w.grownBy W (some blk)) (hB : B ≤ blk) (hs : B ≤ w.heap.size) : Below B w W := below_of_grown h hs (fun g hg => by injection hg with hg; omega)
theorem sl_holds {W : World} {blk cap : Nat} {L : List THire} (hb : blk < W.heap.size) (h : HoldsK eHire 3 W blk 0 L.toArray) (hc : L.length ≤ cap) (hm : cap ≤ 9223372036854775807) : Sl W 3 (.slice (some ⟨blk, 0, none⟩) L.length cap) eHire L := by
  refine ⟨by omega, some ⟨blk, 0, none⟩, cap, rfl, hc, hm, fun i x hx => ?_⟩
  have hi : i < L.length := (List.getElem?_eq_some_iff.1 hx).1
  have hx' : L[i] = x := (List.getElem?_eq_some_iff.1 hx).2
  have c := HoldsK.cells h eHire_len (i := i) (by simpa using hi)
  rw [bang_at hi, hx'] at c
  exact ⟨blk, 0, rfl, hb, fun j u hu => by have := c j u hu; rwa [Addr.add_lit] at this⟩
/-- DeleteFunc and SortStableFunc, one behind the other: what the program makes of the list -/
theorem del_own (w1 : World) (B : Nat) (hB : B ≤ w1.heap.size) (v : Value) (L : List THire) (ho : Own w1 B 76 3 v eHire L) (hL : L.length ≤ 40) (b0 : Nat) (item : Int) (hb : w1.cell? ⟨b0, 0, none⟩ = some (.int .i64 item)) (hb0 : b0 < B) :
    Calls Try.prog 93 #[v, .func (.func 95) #[] #[.pointer (some ⟨b0, 0, none⟩)]] w1 fun e w2 => ∃ v2, e = .returned v2 ∧ Below B w1 w2 ∧
      ((ownH L item = [] ∧ ∃ p cp, v2 = .slice p 0 cp) ∨ ∃ g cap, v2 = .slice (some ⟨g, 0, none⟩) (ownH L item).length cap ∧ B ≤ g ∧ g < w2.heap.size ∧ (ownH L item).length ≤ cap ∧ cap ≤ 9223372036854775807 ∧ HoldsK eHire 3 w2 g 0 (ownH L item).toArray) := by
  rcases ho.form with ⟨rfl, rfl⟩ | ⟨g, cap, rfl, hBg, hg, hc, hm⟩
  · refine (delH_nil _ _ _ _).mono ?_
    rintro e w2 ⟨rfl, rfl⟩
    exact ⟨_, rfl, Below.refl _ _, .inl ⟨rfl, _, _, rfl⟩⟩
  · have hH := holdsK_own ho
    have R : Row 3 w1 g 0 L.length := ⟨hg, ⟨L, rfl, hH⟩, hL⟩
    have hP : PredSt 95 #[.pointer (some ⟨b0, 0, none⟩)] (fun x => x.1 != item) w1 g 0 L.length := by
      intro W M hs x
      exact pred_item W b0 item ((grown_cell hs.grown (World.block_lt_of_cell? _ _ hb) (by intro e; injection e with e; simp at e; omega)).trans hb) x
    refine (del_h (fun x => x.1 != item) _ _ (enters_of Try.func95 (by kernel_rfl) rfl) R hP cap hc hm L w1 (St.start hH rfl)).mono ?_
    rintro e w2 ⟨rfl, Z, hs⟩
    refine ⟨_, rfl, below_grown_row hs.grown hBg hB, .inr ⟨g, cap, rfl, hBg, hs.lt hg, ?_, hm, holdsK_pre (hs.holds R)⟩⟩
    exact Nat.le_trans (List.length_filter_le _ _) hc
theorem sort_own (w2 : World) (B : Nat) (hB : B ≤ w2.heap.size) (M : List THire) (hM : M.length ≤ 40) (v2 : Value) (h : (M = [] ∧ ∃ p cp, v2 = .slice p 0 cp) ∨ ∃ g cap, v2 = .slice (some ⟨g, 0, none⟩) M.length cap ∧ B ≤ g ∧ g < w2.heap.size ∧ M.length ≤ cap ∧ cap ≤ 9223372036854775807 ∧ HoldsK eHire 3 w2 g 0 M.toArray) :
    Calls Try.prog 96 #[v2, .func (.func 97) #[] #[]] w2 fun e w3 => e = .returned (.tuple #[]) ∧ Below B w2 w3 ∧ ∃ A cp, v2 = .slice A (srt keyTo M).length cp ∧ ∀ i (hi : i < (srt keyTo M).length), ∃ b, A = some ⟨b, 0, none⟩ ∧ b < w3.heap.size ∧ w3.cell? ⟨b, 0 + i * 3, none⟩ = some (.int .i64 (srt keyTo M)[i].1) ∧ w3.cell? ⟨b, 0 + i * 3 + 1, none⟩ = some (.int .i64 (srt keyTo M)[i].2.1) ∧ w3.cell? ⟨b, 0 + i * 3 + 2, none⟩ = some (.int .i64 (srt keyTo M)[i].2.2) := by
  rcases h with ⟨rfl, p, cp, rfl⟩ | ⟨g, cap, rfl, hBg, hg, hc, hm, hH⟩
  · refine (stabH_nil _ _ _ _).mono ?_
    rintro e w3 ⟨rfl, rfl⟩
    exact ⟨rfl, Below.refl _ _, p, cp, rfl, fun i hi => absurd hi (by simp [srt_nil])⟩
  · have R : Row 3 w2 g 0 M.length := ⟨hg, ⟨M, rfl, hH⟩, hM⟩
    have hC : CmpSt Try.prog 97 #[] (fun x y => cmpI x.2.2 y.2.2) 3 w2 g 0 M.length := fun W N hs x y => cmp_to W x y
    refine (sort_h keyTo (fun x y => cmpI x.2.2 y.2.2) (fun x y => by have := cmpI_lt x.2.2 y.2.2; exact decide_eq_decide.1 this) _ #[] (enters_of Try.func97 (by kernel_rfl) rfl) R hC cap M w2 (St.start hH rfl)).mono ?_
    rintro e w3 ⟨rfl, hs⟩
    have hl := hs.len
    refine ⟨rfl, below_grown_row hs.grown hBg hB, some ⟨g, 0, none⟩, cap, by rw [hl], fun i hi => ?_⟩
    obtain ⟨p0, p1, p2⟩ := hs.cells3 R hi
    exact ⟨g, rfl, hs.lt hg, p0, p1, p2⟩
/-! ### each to the piece that became free last -/
def bestA (F : List Int) (fr : Int) : Nat → Int
  | 0 => -1
  | k + 1 => if F.getD k 0 ≤ fr ∧ (bestA F fr k < 0 ∨ F.getD (bestA F fr k).toNat 0 < F.getD k 0) then (k : Int) else bestA F fr k
theorem bestA_bd (F : List Int) (fr : Int) (k : Nat) : -1 ≤ bestA F fr k ∧ bestA F fr k < k := by
  induction k with
  | zero => simp [bestA]
  | succ k ih =>
    unfold bestA
    split
    · omega
    · omega
def stepA (s : List Int × Int) (x : THire) : List Int × Int := if 0 ≤ bestA s.1 x.2.1 s.1.length then (s.1.set (bestA s.1 x.2.1 s.1.length).toNat x.2.2, s.2 + 1) else s
def accA (m : Nat) (M : List THire) : List Int × Int := M.foldl stepA (List.replicate m 0, 0)
theorem accA_snoc (m : Nat) (M : List THire) {k : Nat} (hk : k < M.length) : accA m (M.take (k + 1)) = stepA (accA m (M.take k)) M[k] := by
  unfold accA
  rw [List.take_succ_eq_append_getElem hk, List.foldl_append]
  rfl
theorem accA_bd (m : Nat) (M : List THire) (k : Nat) (hk : k ≤ M.length) : (accA m (M.take k)).1.length = m ∧ 0 ≤ (accA m (M.take k)).2 ∧ (accA m (M.take k)).2 ≤ k := by
  induction k with
  | zero => simp [accA]
  | succ k ih =>
    rw [accA_snoc m M (by omega)]
    have := ih (by omega)
    unfold stepA
    split
    · simp only [List.length_set]; omega
    · omega
def accR (S : List Int) (L : List THire) (item : Int) : Int × Int :=
  if okHires S L then if inB item 0 ((S.length : Int) - 1) then ((accA (S.getD item.toNat 0).toNat (srt keyTo (ownH L item))).2, 0) else (0, 2) else (0, 1)
set_option maxRecDepth 100000 in
set_option maxHeartbeats 8000000 in
theorem acc_impl (w : World) (vS : Value) (S : List Int) (hS : Sl w 1 vS eI S) (vL : Value) (L : List THire) (hL : Sl w 3 vL eHire L) (item : Int) :
    Calls Try.prog 39 #[vS, vL, .int .i64 item] w fun e w' => e = .returned (.tuple #[.int .i64 (accR S L item).1, .int .i64 (accR S L item).2]) ∧ Below w.heap.size w w' := by
  have m1 := hS.len
  have m2 := hL.len
  obtain ⟨-, A1, c1, rfl, -, -, -⟩ := id hS
  obtain ⟨-, A2, c2, rfl, -, -, -⟩ := id hL
  have hz : inB 0 0 10000 = true := by decide
  have hb0 := (Below.refl w.heap.size w).alloc (Nat.le_refl _) (.cells #[.int .i64 item] 2)
  have n0 := new_cell w #[.int .i64 item] 2 0 _ rfl
  have hgs : w.heap.size < (w.alloc (.cells #[.int .i64 item] 2)).heap.size := by simp
  by_cases hok : okHires S L = true ∧ inB item 0 ((S.length : Int) - 1) = true
  case neg =>
    have HR := hd (show accR S L item = (0, hCode S L item 0) by
      unfold accR hCode
      rcases h1 : okHires S L with _ | _
      · simp
      · rcases h2 : inB item 0 ((S.length : Int) - 1) with _ | _
        · simp
        · exact absurd ⟨h1, h2⟩ hok)
    have hne : hCode S L item 0 ≠ 0 := by
      unfold hCode
      rcases h1 : okHires S L with _ | _
      · simp
      · rcases h2 : inB item 0 ((S.length : Int) - 1) with _ | _
        · simp
        · exact absurd ⟨h1, h2⟩ hok
    go_enter Try.func39, Try.ntmps39
    go_wp2_with fail
    generalize w.alloc (.cells #[.int .i64 item] 2) = W at hb0 n0 hgs ⊢
    refine (hcode_impl _ _ _ (hS.below hb0) _ _ (hL.below hb0) _ _).mono ?_
    rintro e w1 ⟨rfl, hb1⟩
    have hb := below_step hb0 hb1
    generalize hCode S L item 0 = code at HR hne
    have hne1 : (code != 0) = true := by simpa using hne
    go_wp2_with fail
    go_ret2
    exact ⟨by rw [HR.out]; rfl, hb⟩
  obtain ⟨h1, h2⟩ := hok
  have hc0 : hCode S L item 0 = 0 := by simp [hCode, h1, h2, hz]
  have HR := hd (show accR S L item = ((accA (S.getD item.toNat 0).toNat (srt keyTo (ownH L item))).2, 0) by simp [accR, h1, h2])
  have HSB := hd (okHires_stock h1)
  have hib := inB_true h2
  have HC0 := hd hc0
  have HOL : Hid ((ownH L item).length ≤ 40) := hd (Nat.le_trans (List.length_filter_le _ _) (HSB.out.2.2.2))
  obtain ⟨i0, hi, hz0, hz1, hz2⟩ := info_parts info_i64
  obtain ⟨it, rfl⟩ : ∃ it : Nat, item = (it : Int) := ⟨item.toNat, by omega⟩
  clear hz h1 h2 hc0
  go_enter Try.func39, Try.ntmps39
  go_wp2_with fail
  generalize w.alloc (.cells #[.int .i64 (it : Int)] 2) = W at hb0 n0 hgs ⊢
  refine (hcode_impl _ _ _ (hS.below hb0) _ _ (hL.below hb0) _ _).mono ?_
  rintro e w1 ⟨rfl, hb1⟩
  rw [HC0.out]
  have hB := below_step hb0 hb1
  have n1 := (hb1.cell (p := ⟨w.heap.size, 0, none⟩) hgs).trans n0
  have hg1 := Nat.lt_of_lt_of_le hgs hb1.size
  clear hb0 hb1 n0 hgs
  go_wp2_with fail
  refine (clone_H _ _ _ (hL.below hB) (by have := HSB.out.2.2.2; omega)).mono ?_
  rintro e w2 ⟨v2, rfl, O2, B2⟩
  have n2 := (B2.cell (p := ⟨w.heap.size, 0, none⟩) hg1).trans n1
  have hs12 := B2.size
  go_wp2_with fail
  refine (del_own w2 w1.heap.size hs12 v2 L O2 (by have := HSB.out.2.2.2; omega) w.heap.size (it : Int) n2 hg1).mono ?_
  rintro e w3 ⟨v3, rfl, B3, hv⟩
  have h2 := below_step hB B2
  have h3 := h2.trans (B3.mono hB.size)
  have hs13 := Nat.le_trans hs12 B3.size
  have n3 := (B3.cell (p := ⟨w.heap.size, 0, none⟩) hg1).trans n2
  go_wp2_with fail
  refine (sort_own w3 w1.heap.size hs13 (ownH L it) HOL.out v3 hv).mono ?_
  rintro e w4 ⟨rfl, B4, A, cp, hve, hcells⟩
  subst hve
  have h4 := h3.trans (B4.mono hB.size)
  have n4 := (B4.cell (p := ⟨w.heap.size, 0, none⟩) hg1).trans n3
  have HML : Hid ((srt keyTo (ownH L it)).length ≤ 40) := hd (by rw [srt_len]; exact HOL.out)
  have HCE := hd hcells
  generalize srt keyTo (ownH L it) = M at HR HML HCE ⊢
  have hS4 := hS.below h4
  have hL4 := h4.size
  have HB4 := hd h4
  clear hv hcells B2 B3 B4 n1 n2 n3 h2 h3 h4 hg1 hs12 hs13 O2 HOL HC0 hB
  have hil : it < S.length := by omega
  obtain ⟨bS, oS, rfl, hbS, cS⟩ := hS4.int_at hil
  have HGT := hd (show S.getD it 0 = S[it] by rw [List.getD_eq_getElem?_getD, List.getElem?_eq_getElem hil]; rfl)
  have hy := HSB.out.1 S[it] (List.getElem_mem _)
  generalize S[it] = y at cS HGT hy
  obtain ⟨m, rfl⟩ : ∃ m : Nat, y = (m : Int) := ⟨y.toNat, by omega⟩
  replace HR := hd (show accR S L it = ((accA m M).2, 0) by rw [HR.out, Int.toNat_natCast, HGT.out, Int.toNat_natCast])
  clear HGT HSB
  have HM40 := HML.out
  go_wp2_with (at_make; refine wpList_make_full _ rfl _ _ 25 rfl w4.heap.size 2 i0 (.int .i64 0) 1 Try.underlying25 hi hz0 hz1 .i64 .i64 _ _ m rfl rfl rfl rfl (by rw [hz2]; omega) (by unfold maxLen; omega) (Nat.le_refl _) ?_)
  intro w5 hown0 hgr
  have hown0 := made_ints _ _ _ _ _ hown0
  have hbel0 : Below w4.heap.size w4 w5 := below_of_grown hgr (Nat.le_refl _) (by simp)
  clear hgr hi hz0 hz1 hz2
  go_wp2_with fail
  as_aux_lemma =>
  go_loopw [11, 37] (fun cv kv wr => ∃ k : Nat, k ≤ M.length ∧ kv = .int .i64 k ∧ cv = .int .i64 (accA m (M.take k)).2 ∧ Own wr w4.heap.size 2 1 (.slice (some ⟨w4.heap.size, 0, none⟩) m m) eI (accA m (M.take k)).1 ∧ Below w4.heap.size w4 wr) (fun _ kv _ => M.length - (intOf kv).toNat)
  case atStart => exact ⟨0, Nat.zero_le _, rfl, rfl, hown0, hbel0⟩
  case round =>
    obtain ⟨k, hk, rfl, rfl, hown, hbel⟩ := hrel
    clear hown0 hbel0
    by_cases hlt : k < M.length
    · as_aux_lemma =>
      have HS := hd (accA_snoc m M hlt)
      have HBD := hd (accA_bd m M k hk)
      obtain ⟨bm, rfl, hbm, d0, d1, d2⟩ := HCE.out k hlt
      rw [Nat.zero_add] at d0 d1 d2
      have p0 := (hbel.cell (p := ⟨bm, k * 3, none⟩) hbm).trans d0
      have p1 := (hbel.cell (p := ⟨bm, k * 3 + 1, none⟩) hbm).trans d1
      have p2 := (hbel.cell (p := ⟨bm, k * 3 + 2, none⟩) hbm).trans d2
      clear d0 d1 d2 n4 cS
      generalize M[k] = x at p0 p1 p2 HS
      obtain ⟨xa, xb, xc⟩ := x
      dsimp only at p0 p1 p2
      generalize accA m (M.take k) = st at hown HS HBD ⊢
      obtain ⟨F, cnt⟩ := st
      have hFl : Hid (F.length = m) := hd HBD.out.1
      have hcn := HBD.out.2
      dsimp only at hown hcn ⊢
      clear HBD
      have hbel' := hbel.alloc hbel.size (.cells #[.int .i64 xa, .int .i64 xb, .int .i64 xc] 76)
      have hxo := hown.alloc (.cells #[.int .i64 xa, .int .i64 xb, .int .i64 xc] 76)
      have e0 := new_cell wr #[.int .i64 xa, .int .i64 xb, .int .i64 xc] 76 0 _ rfl
      have e1 := new_cell wr #[.int .i64 xa, .int .i64 xb, .int .i64 xc] 76 1 _ rfl
      have e2 := new_cell wr #[.int .i64 xa, .int .i64 xb, .int .i64 xc] 76 2 _ rfl
      clear hown hbel
      have HCL := hd (fun i (hi : i < F.length) => hxo.cell1 i hi)
      go_upto_region 10 with fail
      generalize wr.alloc (.cells #[.int .i64 xa, .int .i64 xb, .int .i64 xc] 76) = W1 at hbel' hxo e0 e1 e2 HCL ⊢
      generalize wr.heap.size = gx at e0 e1 e2 ⊢
      go_wp2_with fail
      go_loop [14, 43] (fun bv qv => ∃ q : Nat, q ≤ m ∧ qv = .int .i64 q ∧ bv = .int .i64 (bestA F xb q)) (fun _ qv => m - (intOf qv).toNat)
      case atStart => exact ⟨0, Nat.zero_le _, rfl, rfl⟩
      case round =>
        obtain ⟨q, hq, rfl, rfl⟩ := hrel
        by_cases hqm : q < m
        · as_aux_lemma =>
          have hqF : q < F.length := by rw [hFl.out]; exact hqm
          have HN := hd (show bestA F xb (q + 1) = if F.getD q 0 ≤ xb ∧ (bestA F xb q < 0 ∨ F.getD (bestA F xb q).toNat 0 < F.getD q 0) then (q : Int) else bestA F xb q from rfl)
          have HBB := bestA_bd F xb q
          obtain ⟨cq, -⟩ := HCL.out q hqF
          have HGQ := hd (show F.getD q 0 = F[q] by rw [List.getD_eq_getElem?_getD, List.getElem?_eq_getElem hqF]; rfl)
          generalize F[q] = y at cq HGQ
          rw [HGQ.out] at HN
          generalize bestA F xb q = bb at HN HBB ⊢
          by_cases c1 : y ≤ xb
          · by_cases c2 : bb < 0
            · go_wp2_with fail
              go_round
              case rel => exact ⟨q + 1, by omega, by go_num, by rw [HN.out, if_pos ⟨c1, .inl c2⟩]⟩
              case measure => simp [intOf]; omega
            · obtain ⟨nb, rfl⟩ : ∃ nb : Nat, bb = (nb : Int) := ⟨bb.toNat, by omega⟩
              have hnF : nb < F.length := by rw [hFl.out]; omega
              have hnm : (nb : Int) < (m : Int) := by omega
              obtain ⟨cn, -⟩ := HCL.out nb hnF
              have HGN := hd (show F.getD ((nb : Int)).toNat 0 = F[nb] by rw [Int.toNat_natCast, List.getD_eq_getElem?_getD, List.getElem?_eq_getElem hnF]; rfl)
              generalize F[nb] = z at cn HGN
              rw [HGN.out] at HN
              by_cases c3 : z < y
              · go_wp2_with fail
                go_round
                case rel => exact ⟨q + 1, by omega, by go_num, by rw [HN.out, if_pos ⟨c1, .inr c3⟩]⟩
                case measure => simp [intOf]; omega
              · go_wp2_with fail
                go_round
                case rel => exact ⟨q + 1, by omega, by go_num, by rw [HN.out, if_neg (by rintro ⟨-, h | h⟩ <;> omega)]⟩
                case measure => simp [intOf]; omega
          · go_wp2_with fail
            go_round
            case rel => exact ⟨q + 1, by omega, by go_num, by rw [HN.out, if_neg (by rintro ⟨h, -⟩; omega)]⟩
            case measure => simp [intOf]; omega
        · as_aux_lemma =>
          obtain rfl : q = m := by omega
          have HST := hd (show stepA (F, cnt) (xa, xb, xc) = if 0 ≤ bestA F xb q then (F.set (bestA F xb q).toNat xc, cnt + 1) else (F, cnt) by unfold stepA; dsimp only; rw [hFl.out])
          have HBB := bestA_bd F xb q
          generalize bestA F xb q = bb at HST HBB ⊢
          by_cases c2 : 0 ≤ bb
          · obtain ⟨nb, rfl⟩ : ∃ nb : Nat, bb = (nb : Int) := ⟨bb.toNat, by omega⟩
            have hnF : nb < F.length := by rw [hFl.out]; omega
            have hnm : (nb : Int) < (q : Int) := by omega
            obtain ⟨cn, cf⟩ := HCL.out nb hnF
            have HST2 := hd (show stepA (F, cnt) (xa, xb, xc) = (F.set nb xc, cnt + 1) by rw [HST.out, if_pos c2, Int.toNat_natCast])
            have HO := hd (hxo.set1 nb xc)
            have HB := hd (hbel'.setCell (p := ⟨w4.heap.size, nb, none⟩) (Nat.le_refl _) (.int .i64 xc))
            clear HST hxo hbel'
            go_wp2_with fail
            go_roundw
            case rel => exact ⟨k + 1, by omega, by go_num, by rw [HS.out, HST2.out], by rw [HS.out, HST2.out]; exact HO.out, HB.out⟩
            case measure => simp [intOf]; omega
          · have HST2 := hd (show stepA (F, cnt) (xa, xb, xc) = (F, cnt) by rw [HST.out, if_neg c2])
            go_wp2_with fail
            go_roundw
            case rel => exact ⟨k + 1, by omega, by go_num, by rw [HS.out, HST2.out], by rw [HS.out, HST2.out]; exact hxo, hbel'⟩
            case measure => simp [intOf]; omega
    · obtain rfl : k = M.length := by omega
      rw [List.take_length]
      go_wp2_with fail
      go_ret2
      exact ⟨by rw [HR.out]; rfl, HB4.out.trans (hbel.mono hL4)⟩
end Go.Proofs.Ytlgcehdklpbknaa
