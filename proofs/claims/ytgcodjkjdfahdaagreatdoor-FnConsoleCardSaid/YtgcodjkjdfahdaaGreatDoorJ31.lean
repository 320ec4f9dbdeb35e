/- Texts of the claim, joined: each says at its head what it proves. No condition. -/
import Derived.Test.YtgcodjkjdfahdaaGreatDoorJ30
import Derived.Test.YtgcodjkjdfahdaaGreatDoorJ5
import Derived.Deep.RegionHeld3
/- FnConsole: the console stays valid, and the lines of a text are executed one after the other: the walk. No condition but that the tables lie as they are laid. -/
namespace Go.Proofs.YtgcodjkjdfahdaaGreatDoor
open Go Go.RowKit Go.ChangeShapes Go.WideShapes
set_option linter.unusedSimpArgs false
set_option linter.unusedVariables false
def catFr (s : ByteArray) (M : List ByteArray) (j : Nat) : ByteArray := (M.take j).foldl (fun s x => s ++ (x ++ nlS)) s
theorem catFr_zero (s : ByteArray) (M : List ByteArray) : catFr s M 0 = s := rfl
theorem catFr_succ (s : ByteArray) (M : List ByteArray) (k : Nat) (h : k < M.length) : catFr s M (k + 1) = catFr s M k ++ (M[k] ++ nlS) := by
  unfold catFr
  rw [List.take_succ_eq_append_getElem h, List.foldl_append]
  rfl
theorem catFr_all (s : ByteArray) (M : List ByteArray) : catFr s M M.length = s ++ catL M := by unfold catFr; rw [List.take_length]; exact catF_app M s
theorem catFr_size {M : List ByteArray} {m : Nat} (h : ∀ x ∈ M, x.size ≤ m) (s : ByteArray) (j : Nat) : (catFr s M j).size ≤ s.size + (m + 1) * j := by
  have h1 : catFr s M j = s ++ catTo M j := catF_app (M.take j) s
  have h2 := catTo_size h j
  rw [h1, ByteArray.size_append]
  omega
theorem textD_some {d : TDk} (h : okD d = true) : (textD d.1 d.2.1 d.2.2.1 d.2.2.2).toList.isEmpty = false := by
  refine list_false fun e => ?_
  have h1 : textD d.1 d.2.1 d.2.2.1 d.2.2.2 = deskS d.1 d.2.1 d.2.2.1 := if_pos h
  rw [h1] at e
  have h2 := congrArg ByteArray.size e
  unfold deskS at h2
  simp only [ByteArray.size_append] at h2
  have e1 : (⟨#[100, 105, 115, 99, 32]⟩ : ByteArray).size = 5 := rfl
  have e2 : (⟨#[]⟩ : ByteArray).size = 0 := rfl
  omega
/-- a state in its block: a run without lines of its own -/
def CInv (B g : Nat) (d : TDk) (W : World) : Prop := RInv B g (d, []) (.slice none 0 0) W
theorem cinv_start (w : World) (B : Nat) (hB : B ≤ w.heap.size) : CInv B w.heap.size d0K (w.alloc (.cells #[.string ⟨#[97, 98, 99, 100]⟩, .slice none 0 0, .slice none 0 0, .string ⟨#[]⟩] 29)) := by
  have D := desk_new w ⟨#[97, 98, 99, 100]⟩ (.slice none 0 0) (.slice none 0 0) ⟨#[]⟩ 29
  have F := heap_alloc_new w (.cells #[.string ⟨#[97, 98, 99, 100]⟩, .slice none 0 0, .slice none 0 0, .string ⟨#[]⟩] 29)
  exact ⟨_, _, D, fun i => free2 F i, hB, Own.nil _ _ _ _ _, Own.nil _ _ _ _ _, Own.nil _ _ _ _ _, by simp [Value.ownBlock], by simp [Value.ownBlock], by simp [Value.ownBlock], .inl rfl, .inl rfl⟩
/-- the next state in a block of its own, and the lines -/
def CNext (w Z : World) (g : Nat) (r : TRes) (u1 u2 lv : Value) : Prop := DeskAt Z g r.1.1 u1 u2 r.1.2.2.2 ∧ Own Z w.heap.size 92 4 u1 eCue r.1.2.1 ∧ Own Z w.heap.size 95 4 u2 eTitle r.1.2.2.1 ∧ Own Z w.heap.size 9 1 lv eS r.2.1 ∧ Below w.heap.size w Z
theorem cnext1 {w W1 : World} {r : TRes} {u1 u2 lv : Value} (K : Below w.heap.size w W1) (P1 : Own W1 w.heap.size 92 4 u1 eCue r.1.2.1) (P2 : Own W1 w.heap.size 95 4 u2 eTitle r.1.2.2.1) (P3 : Own W1 w.heap.size 9 1 lv eS r.2.1) :
    CNext w (W1.alloc (.cells #[.string r.1.1, u1, u2, .string r.1.2.2.2] 29)) W1.heap.size r u1 u2 lv :=
  ⟨desk_new W1 _ _ _ _ _, P1.alloc _, P2.alloc _, P3.alloc _, K.alloc K.size _⟩
theorem cnext2 {w W : World} {r : TRes} {u1 u2 lv : Value} {p q : ByteArray} {z1 z2 : Value} (K : Below w.heap.size w W) (D : DeskAt W w.heap.size p z1 z2 q) (F : ∀ i, W.frozen? ⟨w.heap.size, i, none⟩ = false) (P1 : Own W (w.heap.size + 1) 92 4 u1 eCue r.1.2.1) (P2 : Own W (w.heap.size + 1) 95 4 u2 eTitle r.1.2.2.1) (P3 : Own W (w.heap.size + 1) 9 1 lv eS r.2.1) (k1 : u1.oneCell' = true) (k2 : u2.oneCell' = true) :
    CNext w ((((W.setCell ⟨w.heap.size, 0, none⟩ (.string r.1.1)).setCell ⟨w.heap.size, 1, none⟩ u1).setCell ⟨w.heap.size, 2, none⟩ u2).setCell ⟨w.heap.size, 3, none⟩ (.string r.1.2.2.2)) w.heap.size r u1 u2 lv :=
  ⟨desk_set _ _ u1 u2 k1 k2 D.1 D.2.1 D.2.2.1 D.2.2.2.1 D.2.2.2.2 F, own_set4 (P1.base (Nat.le_succ _)) (geLt (fun k e => (P1.lt k e).1) (Nat.lt_succ_self _)) _ _ _ _, own_set4 (P2.base (Nat.le_succ _)) (geLt (fun k e => (P2.lt k e).1) (Nat.lt_succ_self _)) _ _ _ _, own_set4 (P3.base (Nat.le_succ _)) (geLt (fun k e => (P3.lt k e).1) (Nat.lt_succ_self _)) _ _ _ _, desk_setB K (Nat.le_refl _) _ _ _ _⟩
set_option maxRecDepth 100000 in
set_option maxHeartbeats 16000000 in
theorem law_FnConsole (w : World) (v : Value) (l0 : List Int) (h0 : Sl w 1 v eB l0) (hr : ∀ x ∈ l0, 0 ≤ x ∧ x ≤ 255) (hsh : Shop w) (hnm : Names w) :
    Calls Tryz.prog 3 #[v] w fun e w' => e = .returned (.bool true) ∧ Below w.heap.size w w' := by
  have hS := h0.bytes hr
  generalize toU l0 = l at hS
  clear h0 hr
  by_cases hl : l.length ≤ 3000
  case neg =>
    go_enter Tryz.func3, Tryz.ntmps3
    go_wp2_with fail
    refine (a2long_yes _ _ _ _ _ hS (Sl.nil w 1 eU) (fun h => hl h.1)).mono ?_
    rintro e w1 ⟨rfl, rfl⟩
    go_wp2_with fail
    go_ret
    exact ⟨rfl, Below.refl _ _⟩
  have hl1 : l.length ≤ 1048576 := by omega
  have HSH := hd (fun W (hb : Below w.heap.size w W) => (⟨hsh.below hb, hnm.below hb⟩ : Shop W ∧ Names W))
  clear hsh hnm
  go_enter Tryz.func3, Tryz.ntmps3
  go_wp2_with fail
  refine (a2long_no _ _ _ _ _ hS (Sl.nil w 1 eU) hl (by simp)).mono ?_
  rintro e w1 ⟨rfl, hw⟩
  obtain rfl : w = w1 := hw.symm
  go_wp2_with fail
  refine (draw_lines w _ l hS hl1).mono ?_
  rintro e w1 ⟨u1, L, rfl, O1, hok, hL8, B1⟩
  have SL := hd (O1.sl eS_len)
  have HLK := hd hok
  have HRC := hd (runR_cat (L := L) (fun x hx => (hok x hx).2) (by omega))
  obtain ⟨A1, c1, rfl⟩ := O1.isSlice
  clear O1 hok hS
  go_wp2_with fail
  refine (nd_impl w1).mono ?_
  rintro e w2 ⟨rfl, B2⟩
  have RI := hd (cinv_start w2 w1.heap.size B2.size)
  have BW := hd (B2.alloc B2.size (.cells #[.string ⟨#[97, 98, 99, 100]⟩, .slice none 0 0, .slice none 0 0, .string ⟨#[]⟩] 29))
  clear B2
  go_wp2_with fail
  generalize w2.alloc (.cells #[.string ⟨#[97, 98, 99, 100]⟩, .slice none 0 0, .slice none 0 0, .string ⟨#[]⟩] 29) = W0 at RI BW ⊢
  obtain ⟨gd, hgd⟩ : ∃ gd, w2.heap.size = gd := ⟨_, rfl⟩
  rw [hgd] at RI ⊢
  clear hgd
  go_loopw [5, 6, 7] (fun tv av iv wr => ∃ k : Nat, k ≤ L.length ∧ iv = .int .i64 k ∧ tv = .string (catTo L k) ∧ av = .string (catL (runTo L k).2) ∧ Hid (CInv w1.heap.size gd (runTo L k).1 wr) ∧ Hid (Below w1.heap.size w1 wr)) (fun _ _ iv _ => L.length - (intOf iv).toNat)
  case atStart => exact ⟨0, Nat.zero_le _, rfl, rfl, rfl, RI, BW⟩
  case round =>
    obtain ⟨k, hk, rfl, rfl, rfl, HR, HB⟩ := hrel
    clear RI BW
    have HBw := hd (below_step B1 HB.out)
    by_cases hlt : k < L.length
    · obtain ⟨b', o', hA, -, hcx⟩ := (SL.out.below HB.out).str_at hlt
      subst hA
      obtain ⟨hxz, -⟩ := HLK.out _ (List.getElem_mem hlt)
      have HST := hd (runTo_succ L k hlt)
      have HOK := hd (runTo_ok L k (by omega))
      have HTX := hd (catTo_succ L k hlt)
      have sz1 := catTo_size (fun x hx => (HLK.out x hx).1) k
      obtain ⟨hsl, hsm⟩ := runTo_small L k (by omega)
      have hsl2 : (runTo L k).2.length ≤ 32008 := Nat.le_trans hsl (Nat.mul_le_mul (Nat.le_refl 4001) (show k ≤ 8 by omega))
      have sz2 := catL_size hsm
      have sz3 : (30000 + 1) * (runTo L k).2.length ≤ 30001 * 32008 := Nat.mul_le_mul (Nat.le_refl _) hsl2
      have HSM := hd hsm
      have HSHr := hd (HSH.out wr HBw.out)
      generalize L[k] = x at hcx hxz HST HTX
      generalize catTo L k = tx at sz1 HTX ⊢
      have hCR := HR.out
      obtain ⟨v1, v2, D, F, hBg, O1, O2, -, n1, n2, -, -, -⟩ := hCR
      have hbd := okD_bd HOK.out
      have HCM := hd (fun W (hb : Below wr.heap.size wr W) => cmd_impl W (runTo L k).1 v1 v2 x ((O1.sl eCue_len).below hb) ((O2.sl eTitle_len).below hb) (Nat.le_trans hbd.1 (by decide)) (Nat.le_trans hbd.2.2.2 (by decide)) (by omega) (HSHr.out.1.below hb) (HSHr.out.2.below hb))
      have HCC := hd (cmd_code HOK.out x)
      have HFI := hd (cmd_fine HOK.out x)
      have HSS := hd (show runTo L (k + 1) = if (cmdR (runTo L k).1 x).2.2 = 0 then ((cmdR (runTo L k).1 x).1, (runTo L k).2 ++ (cmdR (runTo L k).1 x).2.1) else ((runTo L k).1, (runTo L k).2 ++ [qS]) from HST.out)
      have HSM2 := hd (cmd_small (runTo L k).1 x)
      generalize runTo L k = T at HR HCM HCC HSS hsl2 HSM D O1 O2 HFI HSM2 sz2 sz3 ⊢
      obtain ⟨d, lo⟩ := T
      dsimp only at D O1 O2 hsl2 HSM HCM HCC HSS HFI HSM2 HR sz2 sz3 ⊢
      generalize cmdR d x = rr at HCM HCC HSS HFI HSM2
      obtain ⟨d', lo2, cc⟩ := rr
      dsimp only at HCC HSS HFI HSM2
      have HLO := hd (fun (y : ByteArray) => catL_snoc lo y)
      have HLA := hd (catL_app lo lo2)
      obtain ⟨wt, hwt⟩ : ∃ wt, catL lo = wt := ⟨_, rfl⟩
      rw [hwt] at sz2 HLO HLA ⊢
      clear hwt
      obtain ⟨A2, c2, rfl⟩ := O1.isSlice
      obtain ⟨A3, c3, rfl⟩ := O2.isSlice
      obtain ⟨hgd, e0, e1, e2, e3⟩ := D
      have HS := hd (show ∀ ww, Below wr.heap.size wr ww → ww.cell? ⟨gd, 0, none⟩ = some (.string d.1) ∧ ww.cell? ⟨gd, 1, none⟩ = some (.slice A2 d.2.1.length c2) ∧ ww.cell? ⟨gd, 2, none⟩ = some (.slice A3 d.2.2.1.length c3) ∧ ww.cell? ⟨gd, 3, none⟩ = some (.string d.2.2.2) ∧ ww.cell? ⟨b', o' + k, none⟩ = some (.string x) from fun ww K => ⟨cell_below e0 ww K, cell_below e1 ww K, cell_below e2 ww K, cell_below e3 ww K, cell_below hcx ww K⟩)
      have K := Below.refl wr.heap.size wr
      have sz4 : x.size + 1 ≤ 9223372036854775807 := by omega
      have sz5 : tx.size + (x.size + 1) ≤ 9223372036854775807 := by omega
      have HDF := hd (And.intro hgd F)
      clear O1 O2 n1 n2 F HST HOK hbd hsl hsm HLK
      go_wp2_with fail
      have KA0 := Below.drew (K.alloc (Nat.le_refl _) (.cells #[.string ⟨#[]⟩, .slice none 0 0, .slice none 0 0, .string ⟨#[]⟩] 29))
      have SA0 := HS.out _ KA0
      have S00 := HS.out _ (Below.drew K)
      have D8 := hd (desk_new wr ⟨#[]⟩ (.slice none 0 0) (.slice none 0 0) ⟨#[]⟩ 29)
      have F8 := hd (fun i => free2 (heap_alloc_new wr (.cells #[.string ⟨#[]⟩, .slice none 0 0, .slice none 0 0, .string ⟨#[]⟩] 29)) i)
      have HKA0 := hd KA0
      have hzz : (wr.alloc (.cells #[.string ⟨#[]⟩, .slice none 0 0, .slice none 0 0, .string ⟨#[]⟩] 29)).drew.heap.size = wr.heap.size + 1 := by simp [World.drew]
      have HZZ := hd hzz
      clear KA0 hzz e0 e1 e2 e3 hcx
      go_region_held3 (fun ww => ww.cell? ⟨gd, 0, none⟩ = some (.string d.1) ∧ ww.cell? ⟨gd, 1, none⟩ = some (.slice A2 d.2.1.length c2) ∧ ww.cell? ⟨gd, 2, none⟩ = some (.slice A3 d.2.2.1.length c3) ∧ ww.cell? ⟨gd, 3, none⟩ = some (.string d.2.2.2) ∧ ww.cell? ⟨b', o' + k, none⟩ = some (.string x)) (with_reducible assumption) (first | (go_at_call 9; (with_reducible refine (HCM.out _ (Below.drew K)).mono ?_); rintro e W1 ⟨u1, u2, lv, rfl, P1, P2, P3, hb⟩; dsimp only at P1 P2 P3; obtain ⟨B1', y1, rfl⟩ := P1.isSlice; obtain ⟨B2', y2, rfl⟩ := P2.isSlice; obtain ⟨B3', y3, rfl⟩ := P3.isSlice; have K1 := below_step (Below.drew K) hb; have S1 := HS.out _ K1; have HF1 := hd (cnext1 (r := (d', lo2, cc)) K1 P1 P2 P3); have SA1 := HS.out _ (K1.alloc K1.size (.cells #[.string ⟨#[]⟩, .slice none 0 0, .slice none 0 0, .string ⟨#[]⟩] 29)); have SZ1 := HS.out _ (K1.alloc K1.size (.cells #[.string d'.1, .slice B1' d'.2.1.length y1, .slice B2' d'.2.2.1.length y2, .string d'.2.2.2] 29)); clear P1 P2 P3 hb) | (go_at_call 9; (with_reducible refine (HCM.out _ HKA0.out).mono ?_); rintro e W1 ⟨u1, u2, lv, rfl, P1, P2, P3, hb⟩; dsimp only at P1 P2 P3; rw [HZZ.out] at P1 P2 P3; obtain ⟨B1', y1, rfl⟩ := P1.isSlice; obtain ⟨B2', y2, rfl⟩ := P2.isSlice; obtain ⟨B3', y3, rfl⟩ := P3.isSlice; have K2 := below_step HKA0.out hb; have S2 := HS.out _ K2; have D9 := (D8.out.below (Below.drew (Below.refl _ _))).below hb; have F9 := fun i => (hb.frozen (p := ⟨wr.heap.size, i, none⟩) (by rw [HZZ.out]; exact Nat.lt_succ_self _)).trans (F8.out i); have HF2 := hd (cnext2 (r := (d', lo2, cc)) K2 D9 F9 P1 P2 P3 rfl rfl); have SZ2 := HS.out _ HF2.out.2.2.2.2; obtain ⟨-, x0, x1, x2, x3⟩ := D9; have xf0 := F9 0; have xf1 := F9 1; have xf2 := F9 2; have xf3 := F9 3; clear P1 P2 P3 hb))
      all_goals
        have HRH := HR
        have HBH := HB
        first | (have HQ := HF1; (generalize W1.alloc (.cells #[.string d'.1, .slice B1' d'.2.1.length y1, .slice B2' d'.2.2.1.length y2, .string d'.2.2.2] 29) = Z at HQ ⊢); (generalize W1.heap.size = g8 at HQ ⊢)) | (have HQ := HF2; (generalize ((((W1.setCell ⟨wr.heap.size, 0, none⟩ (.string d'.1)).setCell ⟨wr.heap.size, 1, none⟩ (.slice B1' d'.2.1.length y1)).setCell ⟨wr.heap.size, 2, none⟩ (.slice B2' d'.2.2.1.length y2)).setCell ⟨wr.heap.size, 3, none⟩ (.string d'.2.2.2)) = Z at HQ ⊢); (obtain ⟨g8, hg8⟩ : ∃ g8, wr.heap.size = g8 := ⟨_, rfl⟩); (rw [hg8] at HQ ⊢); clear hg8)
        obtain ⟨DZ, Q1, Q2, Q3, BZ⟩ := HQ.out
        dsimp only at DZ Q1 Q2 Q3
        have HCZ := hd (RInv.below HR.out BZ)
        have HBZ := hd (below_step HB.out BZ)
        clear HCM HS SA0 S00 D8 F8 HKA0 HZZ HQ
        rcases HCC.out with hcc | hcc
        · subst hcc
          have HS0 := hd (show runTo L (k + 1) = (d', lo ++ lo2) from HSS.out)
          obtain ⟨hok', hlo0⟩ := HFI.out rfl
          have hlo1 : 1 ≤ lo2.length := hlo0
          clear hlo0
          have hbd := okD_bd hok'
          have hp1 : d'.1.size ≤ 1048576 := Nat.le_trans hbd.1 (by decide)
          have hq1 : d'.2.2.2.size ≤ 1048576 := Nat.le_trans hbd.2.2.2 (by decide)
          have HOK' := hd (show okDeskB d'.1 d'.2.1 d'.2.2.1 d'.2.2.2 = true from hok')
          have HTT := hd (textD_some hok')
          have HVD := hd (desk_spec Z d'.1 d'.2.2.2 _ _ d'.2.1 d'.2.2.1 (Q1.sl eCue_len) (Q2.sl eTitle_len) hp1 hq1)
          have hlo2 : ((1 : Int) ≤ (lo2.length : Int)) := by omega
          obtain ⟨-, z0, z1, z2, z3⟩ := id DZ
          clear HCC HSS HFI hok' hbd
          go_wp2_with fail
          refine HVD.out.mono ?_
          rintro e Z1 ⟨rfl, b1⟩
          rw [HOK'.out]
          have DZ1 := DZ.below b1
          have Q11 := Q1.below b1 (Nat.le_refl _)
          have Q21 := Q2.below b1 (Nat.le_refl _)
          have Q31 := Q3.below b1 (Nat.le_refl _)
          have BZ1 := below_step BZ b1
          have HDT := hd (text_impl Z1 d'.1 d'.2.2.2 _ _ d'.2.1 d'.2.2.1 (Q11.sl eCue_len) (Q21.sl eTitle_len) hp1 hq1 (HSHr.out.1.below BZ1))
          clear z0 z1 z2 z3 HVD DZ Q1 Q2 Q3 BZ HOK'
          obtain ⟨-, z0, z1, z2, z3⟩ := id DZ1
          go_wp2_with fail
          refine HDT.out.mono ?_
          rintro e Z2 ⟨rfl, b2⟩
          have htt := HTT.out
          generalize textD d'.1 d'.2.1 d'.2.2.1 d'.2.2.2 = tt at htt ⊢
          have DZ2 := DZ1.below b2
          have Q12 := Q11.below b2 (Nat.le_refl _)
          have Q22 := Q21.below b2 (Nat.le_refl _)
          have S32 := hd ((Q31.below b2 (Nat.le_refl _)).sl eS_len)
          have BZ2 := below_step BZ1 b2
          have HN := hd (RInv.nextA (d := d') HR.out BZ2 Q12 Q22 (World.grownBy.refl Z2 _) (Own.nil Z2 w1.heap.size 9 1 eS) (.inl rfl) rfl rfl)
          have HNB := hd (desk_setB (h := gd) (below_step HB.out BZ2) hBg (.string d'.1) (.slice B1' d'.2.1.length y1) (.slice B2' d'.2.2.1.length y2) (.string d'.2.2.2))
          obtain ⟨p1, p2, DG, FG, -⟩ := RInv.below HR.out BZ2
          obtain ⟨hsm3, hsm4⟩ := HSM2.out
          have HSZ := hd hsm4
          clear z0 z1 z2 z3 HDT DZ1 Q11 Q21 Q31 BZ1 b1 b2 HTT Q12 Q22 BZ2 HCZ HBZ HSM2 hsm4
          go_wp2_with fail
          clear htt
          have HW0 := hd (catFr_zero wt lo2)
          go_loopw [6, 11] (fun av jv wx => ∃ j : Nat, j ≤ lo2.length ∧ jv = .int .i64 j ∧ av = .string (catFr wt lo2 j) ∧ wx = Z2) (fun _ jv _ => lo2.length - (intOf jv).toNat)
          case atStart => exact ⟨0, Nat.zero_le _, rfl, by rw [HW0.out], rfl⟩
          case round =>
            obtain ⟨j, hj, rfl, rfl, rfl⟩ := hrel
            by_cases hlj : j < lo2.length
            · obtain ⟨bM, oM, hAM, -, hcM⟩ := S32.out.str_at hlj
              subst hAM
              have HC := hd (catFr_succ wt lo2 j hlj)
              have s1 := catFr_size HSZ.out wt j
              have s2 := HSZ.out _ (List.getElem_mem hlj)
              have s3 : (30000 + 1) * j ≤ 30001 * 4001 := Nat.mul_le_mul (Nat.le_refl _) (by omega)
              generalize lo2[j] = y at hcM HC s2
              generalize catFr wt lo2 j = st at s1 HC ⊢
              have s4 : y.size + 1 ≤ 9223372036854775807 := by omega
              have s5 : st.size + (y.size + 1) ≤ 9223372036854775807 := by omega
              go_wp2_with fail
              go_roundw
              case rel => exact ⟨j + 1, by omega, by go_num, by rw [HC.out]; rfl, by first | rfl | trivial⟩
              case measure => simp [intOf]; omega
            · obtain rfl : j = lo2.length := by omega
              have HCE := hd (show catL (lo ++ lo2) = catFr wt lo2 lo2.length by rw [HLA.out, catFr_all])
              obtain ⟨-, z0, z1, z2, z3⟩ := DZ2
              obtain ⟨-, y0, y1', y2', y3'⟩ := DG
              have fg0 := FG 0
              have fg1 := FG 1
              have fg2 := FG 2
              have fg3 := FG 3
              clear FG HW0 S32 HR HB
              go_wp2_with fail
              go_roundw
              case rel => exact ⟨k + 1, by omega, by go_num, by rw [HTX.out]; rfl, by rw [HS0.out]; show _ = Value.string (catL (lo ++ lo2)); rw [HCE.out], by rw [HS0.out]; exact HN, HNB⟩
              case measure => simp [intOf]; omega
        · subst hcc
          have HS7 := hd (show runTo L (k + 1) = (d, lo ++ [qS]) from HSS.out)
          have sz7 : wt.size + 2 ≤ 9223372036854775807 := by omega
          clear HCC HSS HFI DZ Q1 Q2 Q3 BZ
          go_wp2_with fail
          go_roundw
          case rel => exact ⟨k + 1, by omega, by go_num, by rw [HTX.out]; rfl, by rw [HS7.out]; show _ = Value.string (catL (lo ++ [qS])); rw [HLO.out qS]; rfl, by rw [HS7.out]; exact HCZ, HBZ⟩
          case measure => simp [intOf]; omega
    · obtain rfl : k = L.length := by omega
      have HTE := hd (catTo_all L)
      have sz1 := catTo_size (fun x hx => (HLK.out x hx).1) L.length
      have hRU := HSH.out wr HBw.out
      rw [catTo_all] at sz1
      rw [HTE.out]
      have HRU := hd (run_impl wr (catL L) (by omega) hRU.1 hRU.2)
      clear hRU HR SL HLK HSH
      go_wp2_with fail
      refine HRU.out.mono ?_
      rintro e W9 ⟨rfl, B9⟩
      rw [HRC.out]
      go_wp2_with fail
      go_ret
      exact ⟨by simp, below_step HBw.out B9⟩
end Go.Proofs.YtgcodjkjdfahdaaGreatDoor
