/- Lemmas for the claim (the walks of its functions and their plain laws), joined. No condition. -/
import Derived.Test.YtgcodjkjdfahdaaGreatDoorJ37
import Derived.Deep.RegionHeld3
namespace Go.Proofs.YtgcodjkjdfahdaaGreatDoor
open Go Go.RowKit Go.ChangeShapes Go.WideShapes
set_option linter.unusedSimpArgs false
set_option linter.unusedVariables false
def discX (d : TDk) (s : ByteArray) : TRes := if okMotB s = true then ((s, d.2.1, d.2.2.1, d.2.2.2), [orS (textD s d.2.1 d.2.2.1 d.2.2.2)], 0) else (d, [], 1)
set_option maxRecDepth 100000 in
set_option maxHeartbeats 8000000 in
theorem exec_disc (w : World) (B g : Nat) (d : TDk) (hD : DeskOwn w B g d) (hq : d.2.2.2.size ≤ 1048576) (vW vN : Value) (s1 : ByteArray) (hz : s1.size ≤ 1048576) (hW : Sl w 1 vW eS [⟨#[100, 105, 115, 99]⟩, s1]) (hN : Sl w 1 vN eI []) (hsh : ShopB B w) :
    Calls Tryz.prog 34 #[.pointer (some ⟨g, 0, none⟩), vW, vN] w (ExecTo B g w (discX d s1)) := by
  obtain ⟨bw, ow, cw, rfl, -, -, hw⟩ := hW.strs (Nat.succ_pos _)
  obtain ⟨bn, cn, rfl⟩ := hN.isSlice
  have w0 := hw 0 _ rfl
  rw [Nat.add_zero] at w0
  have w1 := hw 1 _ rfl
  obtain ⟨v1, v2, DA, hfr, hBg, O1, O2, a1, a2, -⟩ := id hD
  have hB : B ≤ w.heap.size := Nat.le_trans hBg (Nat.le_of_lt DA.1)
  clear hD hW hN hw
  rcases ho : okMotB s1 with _ | _
  · have HR := hd (show discX d s1 = (d, [], 1) by unfold discX; rw [ho]; rfl)
    clear DA hfr O1 O2 a1 a2
    go_enter Tryz.func34, Tryz.ntmps34
    go_wp2_with fail
    refine (mot_impl _ _ hz).mono ?_
    rintro e w' ⟨rfl, hw⟩
    have hw := hw.symm
    subst hw
    rw [ho]
    go_wp2_with fail
    go_ret2
    exact exec_err (Below.refl _ _) (by decide) HR.out
  · have HR := hd (show discX d s1 = ((s1, d.2.1, d.2.2.1, d.2.2.2), [orS (textD s1 d.2.1 d.2.2.1 d.2.2.2)], 0) by unfold discX; rw [if_pos ho])
    have DZ := desk_set0 DA hfr s1
    have P1 := own_set O1 a1 0 (.string s1)
    have P2 := own_set O2 a2 0 (.string s1)
    have KB : Below B w (w.setCell ⟨g, 0, none⟩ (.string s1)) := (Below.refl B w).setCell (p := ⟨g, 0, none⟩) hBg _
    obtain ⟨A1, c1, rfl⟩ := O1.isSlice
    obtain ⟨A2, c2, rfl⟩ := O2.isSlice
    have HT := hd (fun W (hb : Below B w W) => (hsh.keep hb).shop)
    obtain ⟨hg, d0, d1, d2, d3⟩ := DA
    have f0 := hfr 0
    clear hfr a1 a2 O1 O2
    go_enter Tryz.func34, Tryz.ntmps34
    go_wp2_with fail
    refine (mot_impl _ _ hz).mono ?_
    rintro e w' ⟨rfl, hw⟩
    have hw := hw.symm
    subst hw
    rw [ho]
    go_wp2_with fail
    clear d0 d1 d2 d3 f0 w0 w1
    have HK := hd KB
    generalize w.setCell ⟨g, 0, none⟩ (.string s1) = Z at DZ P1 P2 KB HK ⊢
    refine (text_impl Z s1 d.2.2.2 _ _ d.2.1 d.2.2.1 (P1.sl eCue_len) (P2.sl eTitle_len) hz hq (HT.out _ KB)).mono ?_
    rintro e w2 ⟨rfl, hb2⟩
    generalize textD s1 d.2.1 d.2.2.1 d.2.2.2 = tx at HR ⊢
    have hBZ : B ≤ Z.heap.size := Nat.le_trans hB KB.size
    go_wp2_with fail
    refine (or_impl _ _).mono ?_
    rintro e w3 ⟨v3, rfl, O3, hb3⟩
    have hb4 := below_step hb2 hb3
    have O4 := O3.base (Nat.le_trans hBZ hb2.size)
    obtain ⟨A3, c3, rfl⟩ := O3.isSlice
    go_wp2_with fail
    go_ret2
    exact exec_to (d := (s1, d.2.1, d.2.2.1, d.2.2.2)) (HK.out.trans (hb4.mono hBZ)) O4 (DZ.below hb4) (P1.below hb4 (Nat.le_refl _)) (P2.below hb4 (Nat.le_refl _)) HR.out
theorem frac_mk {W : World} {g : Nat} {x y : Int} (h0 : g < W.heap.size) (h1 : W.cell? ⟨g, 0, none⟩ = some (.int .i64 x)) (h2 : W.cell? ⟨g, 1, none⟩ = some (.int .i64 y)) (h3 : W.frozen? ⟨g, 0, none⟩ = false) (h4 : W.frozen? ⟨g, 1, none⟩ = false) : FracAt W g x y := ⟨h0, h1, h2, h3, h4⟩
theorem frac_at (w : World) {w2 : World} {x y : Int} (h : FracAt w2 w.drew.heap.size x y) : FracAt w2 w.heap.size x y := h
set_option maxRecDepth 100000 in
set_option maxHeartbeats 8000000 in
theorem exec_image (w : World) (B g : Nat) (d : TDk) (hD : DeskOwn w B g d) (vW vN : Value) (s1 s2 : ByteArray) (a b : Int) (hW : Sl w 1 vW eS [⟨#[105, 109, 97, 103, 101]⟩, s1, s2]) (hN : Sl w 1 vN eI [a, b]) (hsh : Shop w) :
    Calls Tryz.prog 34 #[.pointer (some ⟨g, 0, none⟩), vW, vN] w (ExecTo B g w (d, [orS (fracT (imgC a b).1 (imgC a b).2.1)], (imgC a b).2.2)) := by
  obtain ⟨bw, ow, cw, rfl, -, -, hw⟩ := hW.strs (Nat.succ_pos _)
  obtain ⟨bn, on, cn, rfl, hbn, hn⟩ := hN.ints (Nat.succ_pos _)
  have w0 := hw 0 _ rfl
  rw [Nat.add_zero] at w0
  have k0 := hn 0 _ rfl
  rw [Nat.add_zero] at k0
  have k1 := hn 1 _ rfl
  have HD := hd hD
  have HSH := hd hsh.at_
  have HS := hd (show ∀ W, Below w.heap.size w W → W.cell? ⟨bn, on, none⟩ = some (.int .i64 a) ∧ W.cell? ⟨bn, on + 1, none⟩ = some (.int .i64 b) from fun W hb => ⟨cell_below k0 W hb, cell_below k1 W hb⟩)
  have K := Below.refl w.heap.size w
  clear hD hW hN hw hn hsh
  obtain ⟨x, y, c, hx, hx1, hy1, hg⟩ := imgC_shape a b
  have HI := hd hx
  have HG := hd hg
  have HR := hd (show (d, [orS (fracT (imgC a b).1 (imgC a b).2.1)], (imgC a b).2.2) = (d, [orS (fracT x y)], c) by rw [hx])
  have HC := hd (show fracV (imgC a b) = .tuple #[.agg #[.int .i64 (x : Int), .int .i64 (y : Int)], .int .i64 c] by rw [hx]; rfl)
  clear hx hg
  go_enter Tryz.func34, Tryz.ntmps34
  go_wp2_with fail
  clear w0
  (go_region_held3 (fun ww => ww.cell? ⟨bn, on, none⟩ = some (.int .i64 a) ∧ ww.cell? ⟨bn, on + 1, none⟩ = some (.int .i64 b)) (first | with_reducible exact HS.out _ K | with_reducible exact HS.out _ (Below.drew K) | with_reducible exact HS.out _ (frac_below K (Nat.le_refl _) _ _) | with_reducible exact HS.out _ (frac_below (Below.drew K) (Nat.le_refl _) _ _) | exact HS.out _ (K.alloc K.size _) | exact HS.out _ (K.drew.alloc K.size _)) (first | (go_at_call 74; (first | (refine (image_impl w.drew a b).mono ?_; rintro e w2 ⟨rfl, hb2⟩; replace K := below_step K.drew hb2) | (refine (image_impl (w.drew.alloc (.cells #[.int .i64 0, .int .i64 0] 112)) a b).mono ?_; rintro e w2 ⟨rfl, hb2⟩; obtain ⟨hgz, q0, q1, q2, q3⟩ := frac_at w ((frac_new w.drew 0 0 112).below hb2); replace K := below_step (K.drew.alloc K.size (.cells #[.int .i64 0, .int .i64 0] 112)) hb2)); rw [HC.out]; clear hb2)))
  · clear k0 k1
    obtain ⟨-, e0, e1, -, -⟩ := frac_new w2 x y 112
    have KZ := K.alloc K.size (.cells #[.int .i64 (x : Int), .int .i64 (y : Int)] 112)
    generalize w2.alloc (.cells #[.int .i64 (x : Int), .int .i64 (y : Int)] 112) = Z at e0 e1 KZ ⊢
    have HT := hd (HSH.out _ KZ)
    have HG2 := hd (fun (h : fracB x y = true) => HG.out h)
    go_wp2_with fail
    refine (ftext_impl Z x y hx1 hy1 HG2.out HT.out.1).mono ?_
    rintro e w3 ⟨rfl, hb3⟩
    have K3 := below_step KZ hb3
    go_wp2_with fail
    refine (or_impl _ _).mono ?_
    rintro e w4 ⟨v4, rfl, O4, hb4⟩
    have O5 := O4.base K3.size
    have K4 := below_step K3 hb4
    obtain ⟨A4, c4, rfl⟩ := O4.isSlice
    go_wp2_with fail
    go_ret2
    exact exec_same HD.out K4 O5 HR.out
  · clear k0 k1
    obtain ⟨e0, e1⟩ := frac_set (frac_mk hgz q0 q1 q2 q3) x y
    have KZ := frac_below K (Nat.le_refl _) (.int .i64 (x : Int)) (.int .i64 (y : Int))
    clear hgz q0 q1 q2 q3
    generalize ((w2.setCell ⟨w.heap.size, 0, none⟩ (.int .i64 (x : Int))).setCell ⟨w.heap.size, 1, none⟩ (.int .i64 (y : Int))) = Z at e0 e1 KZ ⊢
    have HT := hd (HSH.out _ KZ)
    have HG2 := hd (fun (h : fracB x y = true) => HG.out h)
    go_wp2_with fail
    refine (ftext_impl Z x y hx1 hy1 HG2.out HT.out.1).mono ?_
    rintro e w3 ⟨rfl, hb3⟩
    have K3 := below_step KZ hb3
    go_wp2_with fail
    refine (or_impl _ _).mono ?_
    rintro e w4 ⟨v4, rfl, O4, hb4⟩
    have O5 := O4.base K3.size
    have K4 := below_step K3 hb4
    obtain ⟨A4, c4, rfl⟩ := O4.isSlice
    go_wp2_with fail
    go_ret2
    exact exec_same HD.out K4 O5 HR.out
end Go.Proofs.YtgcodjkjdfahdaaGreatDoor

namespace Go.Proofs.YtgcodjkjdfahdaaGreatDoor
open Go Go.RowKit Go.ChangeShapes Go.WideShapes
set_option linter.unusedSimpArgs false
set_option linter.unusedVariables false
def cueX (d : TDk) (x : TCue) : TRes := if okCues (d.2.1 ++ [x]) = true then ((d.1, d.2.1 ++ [x], d.2.2.1, d.2.2.2), [orS (textD d.1 (d.2.1 ++ [x]) d.2.2.1 d.2.2.2)], 0) else (d, [], 1)
set_option maxRecDepth 100000 in
set_option maxHeartbeats 8000000 in
theorem exec_cue (w : World) (B g : Nat) (d : TDk) (hD : DeskOwn w B g d) (hp : d.1.size ≤ 1048576) (hq : d.2.2.2.size ≤ 1048576) (hC6 : d.2.1.length ≤ 6) (vW vN : Value) (s1 s2 s3 s4 : ByteArray) (n0 n1 n2 n3 : Int) (hW : Sl w 1 vW eS [⟨#[99, 117, 101]⟩, s1, s2, s3, s4]) (hN : Sl w 1 vN eI [n0, n1, n2, n3])
    (hNb : ∀ b, vN.ownBlock = some b → b < B ∨ g < b) (hsh : ShopB B w) :
    Calls Tryz.prog 34 #[.pointer (some ⟨g, 0, none⟩), vW, vN] w (ExecTo B g w (cueX d (n0, n1, n2, n3))) := by
  obtain ⟨i0, hi, hz0, hz1, hz2⟩ := info_parts info_CueK
  obtain ⟨bw, ow, cw, rfl, -, -, hw⟩ := hW.strs (Nat.succ_pos _)
  obtain ⟨bn, on, cn, rfl, hbn, hn⟩ := hN.ints (Nat.succ_pos _)
  have w0 := hw 0 _ rfl
  rw [Nat.add_zero] at w0
  have k0 := hn 0 _ rfl
  rw [Nat.add_zero] at k0
  have k1 := hn 1 _ rfl
  have k2 := hn 2 _ rfl
  have k3 := hn 3 _ rfl
  obtain ⟨v1, v2, DA, hfr, hBg, O1, O2, a1, a2, a3⟩ := id hD
  have hB : B ≤ w.heap.size := Nat.le_trans hBg (Nat.le_of_lt DA.1)
  have hnb := hNb bn rfl
  have hng : bn ≠ g := by omega
  have hnv : v1.ownBlock ≠ some bn := fun e => by
    have := a1 bn e
    have := (O1.lt bn e).1
    omega
  have HP := hd (show ∀ W : World, W.heap[bn]? = w.heap[bn]? → W.cell? ⟨bn, on, none⟩ = some (.int .i64 n0) ∧ W.cell? ⟨bn, on + 1, none⟩ = some (.int .i64 n1) ∧ W.cell? ⟨bn, on + 2, none⟩ = some (.int .i64 n2) ∧ W.cell? ⟨bn, on + 3, none⟩ = some (.int .i64 n3) from fun W h => ⟨(World.cell?_of_block (w := w) (a := ⟨bn, on, none⟩) h).trans k0, (World.cell?_of_block (w := w) (a := ⟨bn, on + 1, none⟩) h).trans k1, (World.cell?_of_block (w := w) (a := ⟨bn, on + 2, none⟩) h).trans k2, (World.cell?_of_block (w := w) (a := ⟨bn, on + 3, none⟩) h).trans k3⟩)
  have BA : Below B w (w.drew.alloc (.cells #[.int .i64 n0, .int .i64 n1, .int .i64 n2, .int .i64 n3] 92)) := ((Below.refl B w).drew).alloc hB _
  have HA : (w.drew.alloc (.cells #[.int .i64 n0, .int .i64 n1, .int .i64 n2, .int .i64 n3] 92)).heap[bn]? = w.heap[bn]? := (((Below.refl w.heap.size w).drew).alloc (Nat.le_refl _) (.cells #[.int .i64 n0, .int .i64 n1, .int .i64 n2, .int .i64 n3] 92)).block bn hbn
  have S1 := HP.out w.drew rfl
  have S2 := HP.out (w.drew.alloc (.cells #[.int .i64 n0, .int .i64 n1, .int .i64 n2, .int .i64 n3] 92)) HA
  have HNX := hd (show ∀ (v3 : Value) (w9 : World), Own w9 B 92 4 v3 eCue (d.2.1 ++ [(n0, n1, n2, n3)]) → (w.drew.alloc (.cells #[.int .i64 n0, .int .i64 n1, .int .i64 n2, .int .i64 n3] 92)).grownBy w9 v1.ownBlock → Below B w w9 ∧ w9.heap[g]? = w.heap[g]? ∧ w9.heap[bn]? = w.heap[bn]? ∧ Own w9 B 95 4 v2 eTitle d.2.2.1 from fun v3 w9 h1 h2 => ⟨BA.grown h2 (Nat.le_trans hB BA.size) (fun q hq => (O1.lt q hq).1), (h2.block g (Nat.lt_of_lt_of_le DA.1 (by simp)) (fun e => by have := a1 g e.symm; omega)).trans ((((Below.refl w.heap.size w).drew).alloc (Nat.le_refl _) (.cells #[.int .i64 n0, .int .i64 n1, .int .i64 n2, .int .i64 n3] 92)).block g DA.1), (h2.block bn (Nat.lt_of_lt_of_le hbn (by simp)) (fun e => hnv e.symm)).trans HA, (O2.drew.alloc (.cells #[.int .i64 n0, .int .i64 n1, .int .i64 n2, .int .i64 n3] 92)).grown h2 a3⟩)
  have HDS := hd (show ∀ w9 : World, w.heap.size ≤ w9.heap.size → w9.heap[g]? = w.heap[g]? → DeskAt w9 g d.1 v1 v2 d.2.2.2 ∧ ∀ i, w9.frozen? ⟨g, i, none⟩ = false from fun w9 hsz hblk => by
    obtain ⟨h0, q0, q1, q2, q3⟩ := DA
    exact ⟨⟨Nat.lt_of_lt_of_le h0 hsz, (World.cell?_of_block (w := w) (a := ⟨g, 0, none⟩) hblk).trans q0, (World.cell?_of_block (w := w) (a := ⟨g, 1, none⟩) hblk).trans q1, (World.cell?_of_block (w := w) (a := ⟨g, 2, none⟩) hblk).trans q2, (World.cell?_of_block (w := w) (a := ⟨g, 3, none⟩) hblk).trans q3⟩, fun i => (World.frozen?_of_block (w := w) (a := ⟨g, i, none⟩) hblk).trans (hfr i)⟩)
  have HST := hd (show ∀ (w9 : World) (v3 : Value), w9.heap[bn]? = w.heap[bn]? → (w9.setCell ⟨g, 1, none⟩ v3).heap[bn]? = w.heap[bn]? from fun w9 v3 h => (heap_setCell_other _ _ _ _ (by intro e; first | exact hng e | exact hng e.symm)).trans h)
  obtain ⟨A1, c1, rfl⟩ := O1.isSlice
  obtain ⟨hg, -, d1, -, -⟩ := id DA
  have HO1 := hd O1
  have HBB := hd hB
  have HBG := hd hBg
  have HA2 := hd a2
  have HA1 := hd a1
  have hlen := hC6
  clear hD hW hN hw hn hfr DA a1 a2 a3 hnb hnv HA BA O2 O1 k0 k1 k2 k3 hNb
  go_enter Tryz.func34, Tryz.ntmps34
  go_wp2_with fail
  clear w0
  refine wp_region_held_drew (S := (fun ww => ww.cell? ⟨bn, on, none⟩ = some (.int .i64 n0) ∧ ww.cell? ⟨bn, on + 1, none⟩ = some (.int .i64 n1) ∧ ww.cell? ⟨bn, on + 2, none⟩ = some (.int .i64 n2) ∧ ww.cell? ⟨bn, on + 3, none⟩ = some (.int .i64 n3))) (by kernel_rfl) ?_ (fun hHeld => ?_)
  · first | with_reducible assumption | assumption
  refine wpAnyH_take (i := 0) (v := ?v1) (by simp only [List.getElem?_toArray, List.getElem?_cons_zero, List.getElem?_cons_succ]; rfl) (by kernel_rfl) (by kernel_rfl) (by kernel_rfl) (by exact fun _ _ _ h => h) (Or.inl ⟨by rfl, ?hy1⟩) hHeld ?_
  case hy1 => (intro w hSw; (try dsimp only at hSw); go_simp; try with_reducible rfl)
  (try simp only [Act.put, List.setIfInBounds_toArray, List.set_cons_zero, List.set_cons_succ])
  refine wpAnyH_take (i := 1) (v := ?v2) (by simp only [List.getElem?_toArray, List.getElem?_cons_zero, List.getElem?_cons_succ]; rfl) (by kernel_rfl) (by kernel_rfl) (by kernel_rfl) (by exact fun _ _ _ h => h) (Or.inl ⟨by rfl, ?hy2⟩) hHeld ?_
  case hy2 => (intro w hSw; (try dsimp only at hSw); go_simp; try with_reducible rfl)
  (try simp only [Act.put, List.setIfInBounds_toArray, List.set_cons_zero, List.set_cons_succ])
  refine wpAnyH_take (i := 2) (v := ?v3) (by simp only [List.getElem?_toArray, List.getElem?_cons_zero, List.getElem?_cons_succ]; rfl) (by kernel_rfl) (by kernel_rfl) (by kernel_rfl) (by exact fun _ _ _ h => h) (Or.inl ⟨by rfl, ?hy3⟩) hHeld ?_
  case hy3 => (intro w hSw; (try dsimp only at hSw); go_simp; try with_reducible rfl)
  (try simp only [Act.put, List.setIfInBounds_toArray, List.set_cons_zero, List.set_cons_succ])
  refine wpAnyH_take (i := 3) (v := ?v4) (by simp only [List.getElem?_toArray, List.getElem?_cons_zero, List.getElem?_cons_succ]; rfl) (by kernel_rfl) (by kernel_rfl) (by kernel_rfl) (by exact fun _ _ _ h => h) (Or.inl ⟨by rfl, ?hy4⟩) hHeld ?_
  case hy4 => (intro w hSw; (try dsimp only at hSw); go_simp; try with_reducible rfl)
  (try simp only [Act.put, List.setIfInBounds_toArray, List.set_cons_zero, List.set_cons_succ])
  refine wpAnyH_take (i := 5) (v := ?v5) (by simp only [List.getElem?_toArray, List.getElem?_cons_zero, List.getElem?_cons_succ]; rfl) (by kernel_rfl) (by kernel_rfl) (by kernel_rfl) (by exact fun _ _ _ h => h) (Or.inl ⟨by rfl, ?hy5⟩) hHeld ?_
  case hy5 => (intro w hSw; (try dsimp only at hSw); go_simp; try with_reducible rfl)
  (try simp only [Act.put, List.setIfInBounds_toArray, List.set_cons_zero, List.set_cons_succ])
  refine wpAnyH_take (i := 6) (v := ?v6) (by simp only [List.getElem?_toArray, List.getElem?_cons_zero, List.getElem?_cons_succ]; rfl) (by kernel_rfl) (by kernel_rfl) (by kernel_rfl) (by exact fun _ _ _ h => h) (Or.inl ⟨by rfl, ?hy6⟩) hHeld ?_
  case hy6 => (intro w hSw; (try dsimp only at hSw); go_simp; try with_reducible rfl)
  (try simp only [Act.put, List.setIfInBounds_toArray, List.set_cons_zero, List.set_cons_succ])
  refine wpAnyH_take (i := 7) (v := ?v7) (by simp only [List.getElem?_toArray, List.getElem?_cons_zero, List.getElem?_cons_succ]; rfl) (by kernel_rfl) (by kernel_rfl) (by kernel_rfl) (by exact fun _ _ _ h => h) (Or.inl ⟨by rfl, ?hy7⟩) hHeld ?_
  case hy7 => (intro w hSw; (try dsimp only at hSw); go_simp; try with_reducible rfl)
  (try simp only [Act.put, List.setIfInBounds_toArray, List.set_cons_zero, List.set_cons_succ])
  refine wpAnyH_take (i := 8) (v := ?v8) (by simp only [List.getElem?_toArray, List.getElem?_cons_zero, List.getElem?_cons_succ]; rfl) (by kernel_rfl) (by kernel_rfl) (by kernel_rfl) (by exact fun _ _ _ h => h) (Or.inl ⟨by rfl, ?hy8⟩) hHeld ?_
  case hy8 => (intro w hSw; (try dsimp only at hSw); go_simp; try with_reducible rfl)
  (try simp only [Act.put, List.setIfInBounds_toArray, List.set_cons_zero, List.set_cons_succ])
  refine wpAnyH_take (i := 9) (v := ?v9) (by simp only [List.getElem?_toArray, List.getElem?_cons_zero, List.getElem?_cons_succ]; rfl) (by kernel_rfl) (by kernel_rfl) (by kernel_rfl) (by exact fun _ _ _ h => h) (Or.inl ⟨by rfl, ?hy9⟩) hHeld ?_
  case hy9 => (intro w hSw; (try dsimp only at hSw); go_simp; try with_reducible rfl)
  (try simp only [Act.put, List.setIfInBounds_toArray, List.set_cons_zero, List.set_cons_succ])
  refine wpAnyH_take (i := 10) (v := ?v10) (by simp only [List.getElem?_toArray, List.getElem?_cons_zero, List.getElem?_cons_succ]; rfl) (by kernel_rfl) (by kernel_rfl) (by kernel_rfl) (by exact fun _ _ _ h => h) (Or.inl ⟨by rfl, ?hy10⟩) hHeld ?_
  case hy10 => (intro w hSw; (try dsimp only at hSw); go_simp; try with_reducible rfl)
  (try simp only [Act.put, List.setIfInBounds_toArray, List.set_cons_zero, List.set_cons_succ])
  refine wpAnyH_take (i := 11) (v := ?v11) (by simp only [List.getElem?_toArray, List.getElem?_cons_zero, List.getElem?_cons_succ]; rfl) (by kernel_rfl) (by kernel_rfl) (by kernel_rfl) (by exact fun _ _ _ h => h) (Or.inl ⟨by rfl, ?hy11⟩) hHeld ?_
  case hy11 => (intro w hSw; (try dsimp only at hSw); go_simp; try with_reducible rfl)
  (try simp only [Act.put, List.setIfInBounds_toArray, List.set_cons_zero, List.set_cons_succ])
  refine wpAnyH_take (i := 12) (v := ?v12) (by simp only [List.getElem?_toArray, List.getElem?_cons_zero, List.getElem?_cons_succ]; rfl) (by kernel_rfl) (by kernel_rfl) (by kernel_rfl) (by exact fun _ _ _ h => h) (Or.inl ⟨by rfl, ?hy12⟩) hHeld ?_
  case hy12 => (intro w hSw; (try dsimp only at hSw); go_simp; try with_reducible rfl)
  (try simp only [Act.put, List.setIfInBounds_toArray, List.set_cons_zero, List.set_cons_succ])
  refine wpAnyH_take (i := 13) (v := ?v13) (by simp only [List.getElem?_toArray, List.getElem?_cons_zero, List.getElem?_cons_succ]; rfl) (by kernel_rfl) (by kernel_rfl) (by kernel_rfl) (by exact fun _ _ _ h => h) (Or.inl ⟨by rfl, ?hy13⟩) hHeld ?_
  case hy13 => (intro w hSw; (try dsimp only at hSw); go_simp; try with_reducible rfl)
  (try simp only [Act.put, List.setIfInBounds_toArray, List.set_cons_zero, List.set_cons_succ])
  refine wpAnyH_take (i := 14) (v := ?v14) (by simp only [List.getElem?_toArray, List.getElem?_cons_zero, List.getElem?_cons_succ]; rfl) (by kernel_rfl) (by kernel_rfl) (by kernel_rfl) (by exact fun _ _ _ h => h) (Or.inl ⟨by rfl, ?hy14⟩) hHeld ?_
  case hy14 => (intro w hSw; (try dsimp only at hSw); go_simp; try with_reducible rfl)
  (try simp only [Act.put, List.setIfInBounds_toArray, List.set_cons_zero, List.set_cons_succ])
  refine wpAnyH_take (i := 15) (v := ?v15) (by simp only [List.getElem?_toArray, List.getElem?_cons_zero, List.getElem?_cons_succ]; rfl) (by kernel_rfl) (by kernel_rfl) (by kernel_rfl) (by exact fun _ _ _ h => h) (Or.inl ⟨by rfl, ?hy15⟩) hHeld ?_
  case hy15 => (intro w hSw; (try dsimp only at hSw); go_simp; try with_reducible rfl)
  (try simp only [Act.put, List.setIfInBounds_toArray, List.set_cons_zero, List.set_cons_succ])
  refine wpAnyH_take (i := 16) (v := ?v16) (by simp only [List.getElem?_toArray, List.getElem?_cons_zero, List.getElem?_cons_succ]; rfl) (by kernel_rfl) (by kernel_rfl) (by kernel_rfl) (by exact fun _ _ _ h => h) (Or.inl ⟨by rfl, ?hy16⟩) hHeld ?_
  case hy16 => (intro w hSw; (try dsimp only at hSw); go_simp; try with_reducible rfl)
  (try simp only [Act.put, List.setIfInBounds_toArray, List.set_cons_zero, List.set_cons_succ])
  refine wpAnyH_take (i := 17) (v := ?v17) (by simp only [List.getElem?_toArray, List.getElem?_cons_zero, List.getElem?_cons_succ]; rfl) (by kernel_rfl) (by kernel_rfl) (by kernel_rfl) (by exact fun _ _ _ h => h) (Or.inl ⟨by rfl, ?hy17⟩) hHeld ?_
  case hy17 => (intro w hSw; (try dsimp only at hSw); go_simp; try with_reducible rfl)
  (try simp only [Act.put, List.setIfInBounds_toArray, List.set_cons_zero, List.set_cons_succ])
  refine wpAnyH_ready (rs := [4, 18]) (by kernel_rfl) (by simp) ?_
  refine AllReadyH.cons (by simp only [List.getElem?_toArray, List.getElem?_cons_zero, List.getElem?_cons_succ]; rfl) (fun K hK => ?_) ?_
  go_simp
  refine hK.out _ _ ?_ (fun hHeld2 => ?_)
  · first | with_reducible assumption | assumption
  clear hK K hHeld
  have hHeld := hHeld2
  clear hHeld2
  (try simp only [Act.put, List.setIfInBounds_toArray, List.set_cons_zero, List.set_cons_succ])
  refine wpAnyH_ready (rs := [18]) (by kernel_rfl) (by simp) ?_
  refine AllReadyH.cons (by simp only [List.getElem?_toArray, List.getElem?_cons_zero, List.getElem?_cons_succ]; rfl) (fun K hK => ?_) AllReadyH.nil
  go_simp
  refine hK.out _ _ ?_ (fun hHeld2 => ?_)
  · first | with_reducible assumption | assumption
  clear hK K hHeld
  have hHeld := hHeld2
  clear hHeld2
  (try simp only [Act.put, List.setIfInBounds_toArray, List.set_cons_zero, List.set_cons_succ])
  refine wpAnyH_ready (rs := [19]) (by kernel_rfl) (by simp) ?_
  refine AllReadyH.cons (by simp only [List.getElem?_toArray, List.getElem?_cons_zero, List.getElem?_cons_succ]; rfl) (fun K hK => ?_) AllReadyH.nil
  refine step_push_at (w.drew.alloc (.cells #[.int .i64 n0, .int .i64 n1, .int .i64 n2, .int .i64 n3] 92)) rfl _ _ 26 rfl i0 _ 32 Tryz.underlying26 hi hz0 hz1 hz2 rfl (by decide) _ d.2.1 (n0, n1, n2, n3) rfl (HO1.out.drew.alloc (.cells #[.int .i64 n0, .int .i64 n1, .int .i64 n2, .int .i64 n3] 92)) w.heap.size rfl #[.int .i64 n0, .int .i64 n1, .int .i64 n2, .int .i64 n3] 92 (heap_alloc_new w.drew _) rfl rfl (by intro u hu; simp [eCue] at hu; rcases hu with rfl | rfl | rfl | rfl <;> rfl) (by unfold maxLen; omega) (by omega) (Nat.le_trans HBB.out (by simp)) ?_; intro v3 w9 O9 hg9 hat9; obtain ⟨A3, c3, rfl⟩ := O9.isSlice; obtain ⟨B9, G9, N9, T9⟩ := HNX.out _ _ O9 hg9; have hz9 : w.heap.size ≤ w9.heap.size := Nat.le_trans (by simp) hg9.size; obtain ⟨D9, F9⟩ := HDS.out _ hz9 G9; have q1 := D9.2.2.1; have f1 := F9 1; have S9 := HP.out _ N9; have SZ := HP.out _ (HST.out w9 (.slice A3 (d.2.1.length + 1) c3) N9)
  refine hK.out _ _ ?_ (fun hHeld2 => ?_)
  · first | with_reducible assumption | assumption
  clear hK K hHeld
  have hHeld := hHeld2
  clear hHeld2
  (try simp only [Act.put, List.setIfInBounds_toArray, List.set_cons_zero, List.set_cons_succ])
  refine wpAnyH_take (i := 20) (v := ?v18) (by simp only [List.getElem?_toArray, List.getElem?_cons_zero, List.getElem?_cons_succ]; rfl) (by kernel_rfl) (by kernel_rfl) (by kernel_rfl) (by exact fun _ _ _ h => h) (Or.inl ⟨by rfl, ?hy18⟩) hHeld ?_
  case hy18 => (intro w hSw; (try dsimp only at hSw); go_simp; try with_reducible rfl)
  (try simp only [Act.put, List.setIfInBounds_toArray, List.set_cons_zero, List.set_cons_succ])
  refine wpAnyH_take (i := 21) (v := ?v19) (by simp only [List.getElem?_toArray, List.getElem?_cons_zero, List.getElem?_cons_succ]; rfl) (by kernel_rfl) (by kernel_rfl) (by kernel_rfl) (by exact fun _ _ _ h => h) (Or.inl ⟨by rfl, ?hy19⟩) hHeld ?_
  case hy19 => (intro w hSw; (try dsimp only at hSw); go_simp; try with_reducible rfl)
  (try simp only [Act.put, List.setIfInBounds_toArray, List.set_cons_zero, List.set_cons_succ])
  refine wpAnyH_ready (rs := [22]) (by kernel_rfl) (by simp) ?_
  refine AllReadyH.cons (by simp only [List.getElem?_toArray, List.getElem?_cons_zero, List.getElem?_cons_succ]; rfl) (fun K hK => ?_) AllReadyH.nil
  go_simp
  refine hK.out _ _ ?_ (fun hHeld2 => ?_)
  · first | with_reducible assumption | assumption
  clear hK K hHeld
  have hHeld := hHeld2
  clear hHeld2
  (try simp only [Act.put, List.setIfInBounds_toArray, List.set_cons_zero, List.set_cons_succ])
  refine wpAnyH_done (by kernel_rfl) ?_ _
  rotate_left
  refine AllReadyH.cons (by simp only [List.getElem?_toArray, List.getElem?_cons_zero, List.getElem?_cons_succ]; rfl) (fun K hK => ?_) AllReadyH.nil
  go_simp
  refine hK.out _ _ ?_ (fun hHeld2 => ?_)
  · first | with_reducible assumption | assumption
  clear hK K hHeld
  have hHeld := hHeld2
  clear hHeld2
  (try simp only [Act.put, List.setIfInBounds_toArray, List.set_cons_zero, List.set_cons_succ])
  refine wpAnyH_ready (rs := [4]) (by kernel_rfl) (by simp) ?_
  refine AllReadyH.cons (by simp only [List.getElem?_toArray, List.getElem?_cons_zero, List.getElem?_cons_succ]; rfl) (fun K hK => ?_) AllReadyH.nil
  go_simp
  refine hK.out _ _ ?_ (fun hHeld2 => ?_)
  · first | with_reducible assumption | assumption
  clear hK K hHeld
  have hHeld := hHeld2
  clear hHeld2
  (try simp only [Act.put, List.setIfInBounds_toArray, List.set_cons_zero, List.set_cons_succ])
  refine wpAnyH_ready (rs := [19]) (by kernel_rfl) (by simp) ?_
  refine AllReadyH.cons (by simp only [List.getElem?_toArray, List.getElem?_cons_zero, List.getElem?_cons_succ]; rfl) (fun K hK => ?_) AllReadyH.nil
  refine step_push_at (w.drew.alloc (.cells #[.int .i64 n0, .int .i64 n1, .int .i64 n2, .int .i64 n3] 92)) rfl _ _ 26 rfl i0 _ 32 Tryz.underlying26 hi hz0 hz1 hz2 rfl (by decide) _ d.2.1 (n0, n1, n2, n3) rfl (HO1.out.drew.alloc (.cells #[.int .i64 n0, .int .i64 n1, .int .i64 n2, .int .i64 n3] 92)) w.heap.size rfl #[.int .i64 n0, .int .i64 n1, .int .i64 n2, .int .i64 n3] 92 (heap_alloc_new w.drew _) rfl rfl (by intro u hu; simp [eCue] at hu; rcases hu with rfl | rfl | rfl | rfl <;> rfl) (by unfold maxLen; omega) (by omega) (Nat.le_trans HBB.out (by simp)) ?_; intro v3 w9 O9 hg9 hat9; obtain ⟨A3, c3, rfl⟩ := O9.isSlice; obtain ⟨B9, G9, N9, T9⟩ := HNX.out _ _ O9 hg9; have hz9 : w.heap.size ≤ w9.heap.size := Nat.le_trans (by simp) hg9.size; obtain ⟨D9, F9⟩ := HDS.out _ hz9 G9; have q1 := D9.2.2.1; have f1 := F9 1; have S9 := HP.out _ N9; have SZ := HP.out _ (HST.out w9 (.slice A3 (d.2.1.length + 1) c3) N9)
  refine hK.out _ _ ?_ (fun hHeld2 => ?_)
  · first | with_reducible assumption | assumption
  clear hK K hHeld
  have hHeld := hHeld2
  clear hHeld2
  (try simp only [Act.put, List.setIfInBounds_toArray, List.set_cons_zero, List.set_cons_succ])
  refine wpAnyH_take (i := 20) (v := ?v20) (by simp only [List.getElem?_toArray, List.getElem?_cons_zero, List.getElem?_cons_succ]; rfl) (by kernel_rfl) (by kernel_rfl) (by kernel_rfl) (by exact fun _ _ _ h => h) (Or.inl ⟨by rfl, ?hy20⟩) hHeld ?_
  case hy20 => (intro w hSw; (try dsimp only at hSw); go_simp; try with_reducible rfl)
  (try simp only [Act.put, List.setIfInBounds_toArray, List.set_cons_zero, List.set_cons_succ])
  refine wpAnyH_take (i := 21) (v := ?v21) (by simp only [List.getElem?_toArray, List.getElem?_cons_zero, List.getElem?_cons_succ]; rfl) (by kernel_rfl) (by kernel_rfl) (by kernel_rfl) (by exact fun _ _ _ h => h) (Or.inl ⟨by rfl, ?hy21⟩) hHeld ?_
  case hy21 => (intro w hSw; (try dsimp only at hSw); go_simp; try with_reducible rfl)
  (try simp only [Act.put, List.setIfInBounds_toArray, List.set_cons_zero, List.set_cons_succ])
  refine wpAnyH_ready (rs := [22]) (by kernel_rfl) (by simp) ?_
  refine AllReadyH.cons (by simp only [List.getElem?_toArray, List.getElem?_cons_zero, List.getElem?_cons_succ]; rfl) (fun K hK => ?_) AllReadyH.nil
  go_simp
  refine hK.out _ _ ?_ (fun hHeld2 => ?_)
  · first | with_reducible assumption | assumption
  clear hK K hHeld
  have hHeld := hHeld2
  clear hHeld2
  (try simp only [Act.put, List.setIfInBounds_toArray, List.set_cons_zero, List.set_cons_succ])
  refine wpAnyH_done (by kernel_rfl) ?_ _
  all_goals
    have hle : (d.2.1 ++ [(n0, n1, n2, n3)]).length = d.2.1.length + 1 := by rw [List.length_append]; rfl
    rw [hle] at O9 hat9
    have hne3 : ∀ h : Value, h = .slice A3 (d.2.1.length + 1) c3 → (h.ownBlock = none ∨ h.ownBlock ≠ some g) := by
      rintro h rfl
      rcases hat9 with e | e
      · rw [e]; exact neLt HA1.out
      · refine .inr fun e2 => ?_
        rw [e] at e2
        injection e2 with e2
        have : w.heap.size + 1 = g := by rw [← e2]; simp
        omega
    have DZ := desk_set1 D9 F9 (.slice A3 (d.2.1.length + 1) c3) rfl
    have P1 := O9.grown (grownBy_set w9 ⟨g, 1, none⟩ (.slice A3 (d.2.1.length + 1) c3)) (hne3 _ rfl)
    have P2 := own_set T9 HA2.out 1 (.slice A3 (d.2.1.length + 1) c3)
    have BZ := B9.setCell (p := ⟨g, 1, none⟩) HBG.out (.slice A3 (d.2.1.length + 1) c3)
    have HZ := hd (hsh.keep BZ)
    clear O9 hat9 hne3 D9 F9 T9 B9 G9 N9 S9 SZ q1 f1 hg9 S1 S2 HP HNX HDS HST HA1 HA2 hz9 d1 hsh
    generalize w9.setCell ⟨g, 1, none⟩ (.slice A3 (d.2.1.length + 1) c3) = Z at DZ P1 P2 BZ HZ ⊢
    have HL := hd hle
    have SQ := P1.sl eCue_len
    have HCX := hd (rfl : cueX d (n0, n1, n2, n3) = cueX d (n0, n1, n2, n3))
    have HGO : Hid (okCues (d.2.1 ++ [(n0, n1, n2, n3)]) = true → cueX d (n0, n1, n2, n3) = ((d.1, d.2.1 ++ [(n0, n1, n2, n3)], d.2.2.1, d.2.2.2), [orS (textD d.1 (d.2.1 ++ [(n0, n1, n2, n3)]) d.2.2.1 d.2.2.2)], 0)) := fun h => by unfold cueX; rw [if_pos h]
    have HNO : Hid (okCues (d.2.1 ++ [(n0, n1, n2, n3)]) = false → cueX d (n0, n1, n2, n3) = (d, [], 1)) := fun h => by unfold cueX; rw [h]; rfl
    obtain ⟨A2, c2, rfl⟩ := P2.isSlice
    generalize d.2.1 ++ [(n0, n1, n2, n3)] = C at P1 SQ HL HGO HNO
    clear hle HCX
    obtain ⟨hg2, e0, e1, e2, e3⟩ := id DZ
    go_wp2_with fail
    refine (cues_impl Z _ C SQ).mono ?_
    rintro e w2 ⟨rfl, hb2⟩
    have DZ2 := DZ.below hb2
    have P12 := P1.below hb2 (Nat.le_refl _)
    have P22 := P2.below hb2 (Nat.le_refl _)
    have hBZ : B ≤ Z.heap.size := Nat.le_trans HBB.out BZ.size
    have BZ2 := BZ.trans (hb2.mono hBZ)
    have HZ2 := hd ((HZ.out).keep (hb2.mono hBZ))
    clear hb2 DZ P1 P2 BZ HZ SQ e0 e1 e2 e3 hg2
    obtain ⟨hg2, e0, e1, e2, e3⟩ := id DZ2
    rcases ho : okCues C with _ | _
    · have HR := hd (HNO.out ho)
      clear ho HGO HNO
      go_wp2_with fail
      go_ret2
      exact exec_err BZ2 (by decide) HR.out
    · have HR := hd (HGO.out ho)
      clear ho HGO HNO
      go_wp2_with fail
      refine (text_impl w2 d.1 d.2.2.2 _ _ C d.2.2.1 (P12.sl eCue_len) (P22.sl eTitle_len) hp hq HZ2.out.shop).mono ?_
      rintro e w3 ⟨rfl, hb3⟩
      generalize textD d.1 C d.2.2.1 d.2.2.2 = tx at HR ⊢
      have hB2 : B ≤ w2.heap.size := Nat.le_trans HBB.out BZ2.size
      clear e0 e1 e2 e3
      go_wp2_with fail
      refine (or_impl _ _).mono ?_
      rintro e w4 ⟨v4, rfl, O4, hb4⟩
      have hb5 := below_step hb3 hb4
      have O5 := O4.base (Nat.le_trans hB2 hb3.size)
      obtain ⟨A4, c4, rfl⟩ := O4.isSlice
      go_wp2_with fail
      go_ret2
      exact exec_to (d := (d.1, C, d.2.2.1, d.2.2.2)) (BZ2.trans (hb5.mono hB2)) O5 (DZ2.below hb5) (P12.below hb5 (Nat.le_refl _)) (P22.below hb5 (Nat.le_refl _)) HR.out
end Go.Proofs.YtgcodjkjdfahdaaGreatDoor

namespace Go.Proofs.YtgcodjkjdfahdaaGreatDoor
open Go Go.RowKit Go.ChangeShapes Go.WideShapes
set_option linter.unusedSimpArgs false
set_option linter.unusedVariables false
def titleG (d : TDk) (r : List TTitle × Int) : TRes := if r.2 = 0 then ((d.1, d.2.1, r.1, d.2.2.2), [orS (textD d.1 d.2.1 r.1 d.2.2.2)], 0) else (d, [], r.2)
def titleX (d : TDk) (s : ByteArray) : TRes := if rtB s = true then titleG d (addTR d.2.2.1 (rtV s)) else (d, [], 7)
theorem title_new4 (w : World) (a : Int) (b : ByteArray) (c e : Int) (T : TypeId) : (w.alloc (.cells #[.int .i64 a, .string b, .int .i64 c, .int .i64 e] T)).cell? ⟨w.heap.size, 0, none⟩ = some (.int .i64 a) ∧ (w.alloc (.cells #[.int .i64 a, .string b, .int .i64 c, .int .i64 e] T)).cell? ⟨w.heap.size, 1, none⟩ = some (.string b) ∧ (w.alloc (.cells #[.int .i64 a, .string b, .int .i64 c, .int .i64 e] T)).cell? ⟨w.heap.size, 2, none⟩ = some (.int .i64 c) ∧ (w.alloc (.cells #[.int .i64 a, .string b, .int .i64 c, .int .i64 e] T)).cell? ⟨w.heap.size, 3, none⟩ = some (.int .i64 e) :=
  ⟨new_cell w _ T 0 _ rfl, new_cell w _ T 1 _ rfl, new_cell w _ T 2 _ rfl, new_cell w _ T 3 _ rfl⟩
set_option maxRecDepth 100000 in
set_option maxHeartbeats 8000000 in
theorem exec_title (w : World) (B g : Nat) (d : TDk) (hD : DeskOwn w B g d) (hp : d.1.size ≤ 1048576) (hq : d.2.2.2.size ≤ 1048576) (vW vN : Value) (ws : List ByteArray) (hW : Sl w 1 vW eS (⟨#[116, 105, 116, 108, 101]⟩ :: ws)) (hws : 0 < ws.length) (hwn : ws.length ≤ 1048576) (hwz : ∀ x ∈ ws, x.size ≤ 1048576) (hj : (joinS ⟨#[32]⟩ ws).size ≤ 1048576) (hN : Sl w 1 vN eI []) (hsh : ShopB B w) :
    Calls Tryz.prog 34 #[.pointer (some ⟨g, 0, none⟩), vW, vN] w (ExecTo B g w (titleX d (joinS ⟨#[32]⟩ ws))) := by
  obtain ⟨bw, ow, cw, rfl, -, hcw, hw⟩ := hW.strs (Nat.succ_pos _)
  obtain ⟨bn, cn, rfl⟩ := hN.isSlice
  have w0 := hw 0 _ rfl
  rw [Nat.add_zero] at w0
  have hcw' : ws.length + 1 ≤ cw := hcw
  have hcm : cw ≤ 9223372036854775807 := by
    obtain ⟨-, A', c', hv, -, h5, -⟩ := id hW
    injection hv with _ _ e
    rw [e]
    exact h5
  have SW := Sl.droppedT hW 1 (by simp) (by omega)
  have hl1 : (⟨#[116, 105, 116, 108, 101]⟩ :: ws).length = ws.length + 1 := rfl
  rw [hl1, List.drop_succ_cons, List.drop_zero, Nat.add_sub_cancel, Nat.mul_one] at SW
  obtain ⟨v1, v2, DA, hfr, hBg, O1, O2, a1, a2, a3⟩ := id hD
  have hB : B ≤ w.heap.size := Nat.le_trans hBg (Nat.le_of_lt DA.1)
  have HJ := hd (fun (v : Value) (h : Sl w 1 v eS ws) => join_impl w v ws ⟨#[32]⟩ h hwn (Nat.le_refl _) hwz (by decide))
  clear hwn hwz
  obtain ⟨s, hs⟩ : ∃ s, joinS ⟨#[32]⟩ ws = s := ⟨_, rfl⟩
  rw [hs] at hj HJ ⊢
  clear hs
  rw [hl1]
  have HSW := hd SW
  have hs1 : 1 ≤ cw := by omega
  clear hw hN SW hl1 hW hcw
  go_enter Tryz.func34, Tryz.ntmps34
  go_wp2_with fail
  have HSH := hd hsh
  refine (HJ.out _ HSW.out).mono ?_
  rintro e w1 ⟨rfl, hb1⟩
  have HD1 := hd (hD.below hb1)
  have B1 : Below B w w1 := hb1.mono hB
  clear HJ HSW hb1 hD DA hfr O1 O2 a1 a2 a3 w0
  go_wp2_with fail
  refine (readT_impl w1 s hj (HSH.out.keep B1).shop).mono ?_
  rintro e w2 ⟨rfl, hb2⟩
  have hB1 : B ≤ w1.heap.size := Nat.le_trans hB B1.size
  have HD2 := hd (HD1.out.below hb2)
  have B2 := B1.trans (hb2.mono hB1)
  clear hb2 HD1
  rcases ho : rtB s with _ | _
  · have HR := hd (show titleX d s = (d, [], 7) by unfold titleX; rw [ho]; rfl)
    obtain ⟨xa, xb, xc, xd, hx⟩ : ∃ xa xb xc xd, rtV s = (xa, xb, xc, xd) := ⟨_, _, _, _, rfl⟩
    rw [hx]
    have B3 := B2.alloc (Nat.le_trans hB B2.size) (.cells #[.int .i64 xa, .string xb, .int .i64 xc, .int .i64 xd] 95)
    go_wp2_with fail
    go_ret2
    exact exec_err B3 (by decide) HR.out
  have HR := hd (show titleX d s = titleG d (addTR d.2.2.1 (rtV s)) by unfold titleX; rw [if_pos ho])
  obtain ⟨xa, xb, xc, xd, hx⟩ : ∃ xa xb xc xd, rtV s = (xa, xb, xc, xd) := ⟨_, _, _, _, rfl⟩
  rw [hx] at HR ⊢
  have hB2 : B ≤ w2.heap.size := Nat.le_trans hB B2.size
  have B3 := B2.alloc hB2 (.cells #[.int .i64 xa, .string xb, .int .i64 xc, .int .i64 xd] 95)
  have HD3 := hd (HD2.out.below ((Below.refl w2.heap.size w2).alloc (Nat.le_refl _) (.cells #[.int .i64 xa, .string xb, .int .i64 xc, .int .i64 xd] 95)))
  obtain ⟨t0, t1, t2, t3⟩ := title_new4 w2 xa xb xc xd 95
  have hlt3 : w2.heap.size < (w2.alloc (.cells #[.int .i64 xa, .string xb, .int .i64 xc, .int .i64 xd] 95)).heap.size := by simp
  clear ho hx HD2
  go_wp2_with fail
  generalize w2.alloc (.cells #[.int .i64 xa, .string xb, .int .i64 xc, .int .i64 xd] 95) = W at B3 HD3 t0 t1 t2 t3 hlt3 ⊢
  obtain ⟨v1, v2, DA, hfr, hBg, O1, O2, a1, a2, a3⟩ := HD3.out
  have ST := O2.sl eTitle_len
  obtain ⟨A2, c2, rfl⟩ := O2.isSlice
  have HST := hd (show ∀ ww, Below W.heap.size W ww → Sl ww 4 (.slice A2 d.2.2.1.length c2) eTitle d.2.2.1 from fun ww K => ST.below K)
  obtain ⟨hg, -, -, d2, -⟩ := DA
  have HS := hd (show ∀ ww, Below W.heap.size W ww → ww.cell? ⟨g, 2, none⟩ = some (.slice A2 d.2.2.1.length c2) ∧ ww.cell? ⟨w2.heap.size, 0, none⟩ = some (.int .i64 xa) ∧ ww.cell? ⟨w2.heap.size, 1, none⟩ = some (.string xb) ∧ ww.cell? ⟨w2.heap.size, 2, none⟩ = some (.int .i64 xc) ∧ ww.cell? ⟨w2.heap.size, 3, none⟩ = some (.int .i64 xd) from fun ww K => ⟨cell_below d2 ww K, cell_below t0 ww K, cell_below t1 ww K, cell_below t2 ww K, cell_below t3 ww K⟩)
  have K := Below.refl W.heap.size W
  clear hfr O1 O2 a1 a2 a3 ST d2 t0 t1 t2 t3
  go_region_held3 (fun ww => ww.cell? ⟨g, 2, none⟩ = some (.slice A2 d.2.2.1.length c2) ∧ ww.cell? ⟨w2.heap.size, 0, none⟩ = some (.int .i64 xa) ∧ ww.cell? ⟨w2.heap.size, 1, none⟩ = some (.string xb) ∧ ww.cell? ⟨w2.heap.size, 2, none⟩ = some (.int .i64 xc) ∧ ww.cell? ⟨w2.heap.size, 3, none⟩ = some (.int .i64 xd)) (first | with_reducible exact HS.out _ K | with_reducible exact HS.out _ (Below.drew K)) (first | (go_at_call 81; replace K := Below.drew K; (with_reducible refine (addT_impl _ _ _ (HST.out _ K) xa xb xc xd).mono ?_); rintro e w5 ⟨v5, rfl, O5, hb5⟩; obtain ⟨A5, c5, rfl⟩ := O5.isSlice; replace K := below_step K hb5; clear hb5))
  clear HS HST
  obtain ⟨L, cd, hr⟩ : ∃ L cd, addTR d.2.2.1 (xa, xb, xc, xd) = (L, cd) := ⟨_, _, rfl⟩
  rw [hr] at HR O5 ⊢
  clear hr
  have hBW : B ≤ W.heap.size := Nat.le_trans hB B3.size
  have B5 := B3.trans (K.mono hBW)
  have HD5 := hd (HD3.out.below K)
  have O6 := O5.base hBW
  have hat : ∀ k, (Value.slice A5 L.length c5).ownBlock = some k → W.heap.size ≤ k := fun k e => (O5.lt k e).1
  clear O5 HD3 hlt3 K B3
  by_cases hc : cd = 0
  · have HR2 := hd (show titleX d s = ((d.1, d.2.1, L, d.2.2.2), [orS (textD d.1 d.2.1 L d.2.2.2)], 0) by rw [HR.out]; unfold titleG; rw [if_pos hc])
    subst hc
    obtain ⟨v1, v2', DA, hfr, hBg, O1, O2, a1, a2, a3⟩ := HD5.out
    have DZ := desk_set2 DA hfr (.slice A5 L.length c5) rfl
    have P1 := own_set O1 a1 2 (.slice A5 L.length c5)
    have P2 := O6.grown (grownBy_set w5 ⟨g, 2, none⟩ (.slice A5 L.length c5)) (.inr (fun e => by have := hat g e; omega))
    have BZ := B5.setCell (p := ⟨g, 2, none⟩) hBg (.slice A5 L.length c5)
    have HZ := hd ((HSH.out.keep BZ).shop)
    obtain ⟨A1, c1, rfl⟩ := O1.isSlice
    have f2 := hfr 2
    obtain ⟨hg5, d0, d1, d2, d3⟩ := DA
    clear O1 O2 O6 a1 a2 a3 hfr HD5 hat
    go_wp2_with fail
    clear d0 d1 d2 d3 f2
    generalize w5.setCell ⟨g, 2, none⟩ (.slice A5 L.length c5) = Z at DZ P1 P2 BZ HZ ⊢
    refine (text_impl Z d.1 d.2.2.2 _ _ d.2.1 L (P1.sl eCue_len) (P2.sl eTitle_len) hp hq HZ.out).mono ?_
    rintro e w6 ⟨rfl, hb6⟩
    have HR3 := hd HR2.out
    obtain ⟨tx, htx⟩ : ∃ tx, textD d.1 d.2.1 L d.2.2.2 = tx := ⟨_, rfl⟩
    have HR3 := hd (show titleX d s = ((d.1, d.2.1, L, d.2.2.2), [orS tx], 0) by rw [HR2.out, htx])
    rw [htx]
    clear htx
    have hBZ : B ≤ Z.heap.size := Nat.le_trans hB BZ.size
    go_wp2_with fail
    refine (or_impl _ _).mono ?_
    rintro e w7 ⟨v7, rfl, O7, hb7⟩
    have hb8 := below_step hb6 hb7
    have O8 := O7.base (Nat.le_trans hBZ hb6.size)
    obtain ⟨A7, c7, rfl⟩ := O7.isSlice
    go_wp2_with fail
    go_ret2
    exact exec_to (d := (d.1, d.2.1, L, d.2.2.2)) (BZ.trans (hb8.mono hBZ)) O8 (DZ.below hb8) (P1.below hb8 (Nat.le_refl _)) (P2.below hb8 (Nat.le_refl _)) HR3.out
  · have HR2 := hd (show titleX d s = (d, [], cd) by rw [HR.out]; unfold titleG; rw [if_neg hc])
    have kc : (cd != 0) = true := by simpa using hc
    have HC := hd hc
    clear hc
    go_wp2_with fail
    go_ret2
    exact exec_err B5 HC.out HR2.out
end Go.Proofs.YtgcodjkjdfahdaaGreatDoor
