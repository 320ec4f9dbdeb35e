/- Texts of the claim, joined: each says at its head what it proves. No condition. -/
import Derived.Test.YtgcodjkjdfahdaaGreatDoorJ33
import Derived.Deep.RegionHeld3
/- The command 'cue': the program's execute. No condition but that the tables lie as they are laid. -/
namespace Go.Proofs.YtgcodjkjdfahdaaGreatDoor
open Go Go.RowKit Go.ChangeShapes Go.WideShapes
set_option linter.unusedSimpArgs false
set_option linter.unusedVariables false
def cueX (d : TDk) (x : TCue) : TRes := if okCues (d.2.1 ++ [x]) = true then ((d.1, d.2.1 ++ [x], d.2.2.1, d.2.2.2), [orS (textD d.1 (d.2.1 ++ [x]) d.2.2.1 d.2.2.2)], 0) else (d, [], 1)
set_option maxRecDepth 100000 in
set_option maxHeartbeats 8000000 in
theorem exec_cue (w : World) (B g : Nat) (d : TDk) (hD : DeskOwn w B g d) (hp : d.1.size ≤ 1048576) (hq : d.2.2.2.size ≤ 1048576) (hC6 : d.2.1.length ≤ 6) (vW vN : Value) (s1 s2 s3 s4 : ByteArray) (n0 n1 n2 n3 : Int) (hW : Sl w 1 vW eS [⟨#[99, 117, 101]⟩, s1, s2, s3, s4]) (hN : Sl w 1 vN eI [n0, n1, n2, n3])
    (hNb : ∀ b, vN.ownBlock = some b → b < B ∨ g < b) (hsh : ShopB B w) :
    Calls Tryz.prog 34 #[.pointer (some ⟨g, 0, none⟩), vW, vN] w (ExecTo B g w (cueX d (n0, n1, n2, n3))) := by
  obtain ⟨i0, hi, hz0, hz1, hz2⟩ := info_parts info_CueK
  obtain ⟨bw, ow, cw, rfl, -, -, hw⟩ := hW.strs (Nat.succ_pos _)
  obtain ⟨bn, on, cn, rfl, hbn, hn⟩ := hN.ints (Nat.succ_pos _)
  have w0 := hw 0 _ rfl
  rw [Nat.add_zero] at w0
  have k0 := hn 0 _ rfl
  rw [Nat.add_zero] at k0
  have k1 := hn 1 _ rfl
  have k2 := hn 2 _ rfl
  have k3 := hn 3 _ rfl
  obtain ⟨v1, v2, DA, hfr, hBg, O1, O2, a1, a2, a3⟩ := id hD
  have hB : B ≤ w.heap.size := Nat.le_trans hBg (Nat.le_of_lt DA.1)
  have hnb := hNb bn rfl
  have hng : bn ≠ g := by omega
  have hnv : v1.ownBlock ≠ some bn := fun e => by
    have := a1 bn e
    have := (O1.lt bn e).1
    omega
  have HP := hd (show ∀ W : World, W.heap[bn]? = w.heap[bn]? → W.cell? ⟨bn, on, none⟩ = some (.int .i64 n0) ∧ W.cell? ⟨bn, on + 1, none⟩ = some (.int .i64 n1) ∧ W.cell? ⟨bn, on + 2, none⟩ = some (.int .i64 n2) ∧ W.cell? ⟨bn, on + 3, none⟩ = some (.int .i64 n3) from fun W h => ⟨(World.cell?_of_block (w := w) (a := ⟨bn, on, none⟩) h).trans k0, (World.cell?_of_block (w := w) (a := ⟨bn, on + 1, none⟩) h).trans k1, (World.cell?_of_block (w := w) (a := ⟨bn, on + 2, none⟩) h).trans k2, (World.cell?_of_block (w := w) (a := ⟨bn, on + 3, none⟩) h).trans k3⟩)
  have BA : Below B w (w.drew.alloc (.cells #[.int .i64 n0, .int .i64 n1, .int .i64 n2, .int .i64 n3] 92)) := ((Below.refl B w).drew).alloc hB _
  have HA : (w.drew.alloc (.cells #[.int .i64 n0, .int .i64 n1, .int .i64 n2, .int .i64 n3] 92)).heap[bn]? = w.heap[bn]? := (((Below.refl w.heap.size w).drew).alloc (Nat.le_refl _) (.cells #[.int .i64 n0, .int .i64 n1, .int .i64 n2, .int .i64 n3] 92)).block bn hbn
  have S1 := HP.out w.drew rfl
  have S2 := HP.out (w.drew.alloc (.cells #[.int .i64 n0, .int .i64 n1, .int .i64 n2, .int .i64 n3] 92)) HA
  have HNX := hd (show ∀ (v3 : Value) (w9 : World), Own w9 B 92 4 v3 eCue (d.2.1 ++ [(n0, n1, n2, n3)]) → (w.drew.alloc (.cells #[.int .i64 n0, .int .i64 n1, .int .i64 n2, .int .i64 n3] 92)).grownBy w9 v1.ownBlock → Below B w w9 ∧ w9.heap[g]? = w.heap[g]? ∧ w9.heap[bn]? = w.heap[bn]? ∧ Own w9 B 95 4 v2 eTitle d.2.2.1 from fun v3 w9 h1 h2 => ⟨BA.grown h2 (Nat.le_trans hB BA.size) (fun q hq => (O1.lt q hq).1), (h2.block g (Nat.lt_of_lt_of_le DA.1 (by simp)) (fun e => by have := a1 g e.symm; omega)).trans ((((Below.refl w.heap.size w).drew).alloc (Nat.le_refl _) (.cells #[.int .i64 n0, .int .i64 n1, .int .i64 n2, .int .i64 n3] 92)).block g DA.1), (h2.block bn (Nat.lt_of_lt_of_le hbn (by simp)) (fun e => hnv e.symm)).trans HA, (O2.drew.alloc (.cells #[.int .i64 n0, .int .i64 n1, .int .i64 n2, .int .i64 n3] 92)).grown h2 a3⟩)
  have HDS := hd (show ∀ w9 : World, w.heap.size ≤ w9.heap.size → w9.heap[g]? = w.heap[g]? → DeskAt w9 g d.1 v1 v2 d.2.2.2 ∧ ∀ i, w9.frozen? ⟨g, i, none⟩ = false from fun w9 hsz hblk => by
    obtain ⟨h0, q0, q1, q2, q3⟩ := DA
    exact ⟨⟨Nat.lt_of_lt_of_le h0 hsz, (World.cell?_of_block (w := w) (a := ⟨g, 0, none⟩) hblk).trans q0, (World.cell?_of_block (w := w) (a := ⟨g, 1, none⟩) hblk).trans q1, (World.cell?_of_block (w := w) (a := ⟨g, 2, none⟩) hblk).trans q2, (World.cell?_of_block (w := w) (a := ⟨g, 3, none⟩) hblk).trans q3⟩, fun i => (World.frozen?_of_block (w := w) (a := ⟨g, i, none⟩) hblk).trans (hfr i)⟩)
  have HST := hd (show ∀ (w9 : World) (v3 : Value), w9.heap[bn]? = w.heap[bn]? → (w9.setCell ⟨g, 1, none⟩ v3).heap[bn]? = w.heap[bn]? from fun w9 v3 h => (heap_setCell_other _ _ _ _ (by intro e; first | exact hng e | exact hng e.symm)).trans h)
  obtain ⟨A1, c1, rfl⟩ := O1.isSlice
  obtain ⟨hg, -, d1, -, -⟩ := id DA
  have HO1 := hd O1
  have HBB := hd hB
  have HBG := hd hBg
  have HA2 := hd a2
  have HA1 := hd a1
  have hlen := hC6
  clear hD hW hN hw hn hfr DA a1 a2 a3 hnb hnv HA BA O2 O1 k0 k1 k2 k3 hNb
  go_enter Tryz.func34, Tryz.ntmps34
  go_wp2_with fail
  clear w0
  refine wp_region_held_drew (S := (fun ww => ww.cell? ⟨bn, on, none⟩ = some (.int .i64 n0) ∧ ww.cell? ⟨bn, on + 1, none⟩ = some (.int .i64 n1) ∧ ww.cell? ⟨bn, on + 2, none⟩ = some (.int .i64 n2) ∧ ww.cell? ⟨bn, on + 3, none⟩ = some (.int .i64 n3))) (by kernel_rfl) ?_ (fun hHeld => ?_)
  · first | with_reducible assumption | assumption
  refine wpAnyH_take (i := 0) (v := ?v1) (by simp only [List.getElem?_toArray, List.getElem?_cons_zero, List.getElem?_cons_succ]; rfl) (by kernel_rfl) (by kernel_rfl) (by kernel_rfl) (by exact fun _ _ _ h => h) (Or.inl ⟨by rfl, ?hy1⟩) hHeld ?_
  case hy1 => (intro w hSw; (try dsimp only at hSw); go_simp; try with_reducible rfl)
  (try simp only [Act.put, List.setIfInBounds_toArray, List.set_cons_zero, List.set_cons_succ])
  refine wpAnyH_take (i := 1) (v := ?v2) (by simp only [List.getElem?_toArray, List.getElem?_cons_zero, List.getElem?_cons_succ]; rfl) (by kernel_rfl) (by kernel_rfl) (by kernel_rfl) (by exact fun _ _ _ h => h) (Or.inl ⟨by rfl, ?hy2⟩) hHeld ?_
  case hy2 => (intro w hSw; (try dsimp only at hSw); go_simp; try with_reducible rfl)
  (try simp only [Act.put, List.setIfInBounds_toArray, List.set_cons_zero, List.set_cons_succ])
  refine wpAnyH_take (i := 2) (v := ?v3) (by simp only [List.getElem?_toArray, List.getElem?_cons_zero, List.getElem?_cons_succ]; rfl) (by kernel_rfl) (by kernel_rfl) (by kernel_rfl) (by exact fun _ _ _ h => h) (Or.inl ⟨by rfl, ?hy3⟩) hHeld ?_
  case hy3 => (intro w hSw; (try dsimp only at hSw); go_simp; try with_reducible rfl)
  (try simp only [Act.put, List.setIfInBounds_toArray, List.set_cons_zero, List.set_cons_succ])
  refine wpAnyH_take (i := 3) (v := ?v4) (by simp only [List.getElem?_toArray, List.getElem?_cons_zero, List.getElem?_cons_succ]; rfl) (by kernel_rfl) (by kernel_rfl) (by kernel_rfl) (by exact fun _ _ _ h => h) (Or.inl ⟨by rfl, ?hy4⟩) hHeld ?_
  case hy4 => (intro w hSw; (try dsimp only at hSw); go_simp; try with_reducible rfl)
  (try simp only [Act.put, List.setIfInBounds_toArray, List.set_cons_zero, List.set_cons_succ])
  refine wpAnyH_take (i := 5) (v := ?v5) (by simp only [List.getElem?_toArray, List.getElem?_cons_zero, List.getElem?_cons_succ]; rfl) (by kernel_rfl) (by kernel_rfl) (by kernel_rfl) (by exact fun _ _ _ h => h) (Or.inl ⟨by rfl, ?hy5⟩) hHeld ?_
  case hy5 => (intro w hSw; (try dsimp only at hSw); go_simp; try with_reducible rfl)
  (try simp only [Act.put, List.setIfInBounds_toArray, List.set_cons_zero, List.set_cons_succ])
  refine wpAnyH_take (i := 6) (v := ?v6) (by simp only [List.getElem?_toArray, List.getElem?_cons_zero, List.getElem?_cons_succ]; rfl) (by kernel_rfl) (by kernel_rfl) (by kernel_rfl) (by exact fun _ _ _ h => h) (Or.inl ⟨by rfl, ?hy6⟩) hHeld ?_
  case hy6 => (intro w hSw; (try dsimp only at hSw); go_simp; try with_reducible rfl)
  (try simp only [Act.put, List.setIfInBounds_toArray, List.set_cons_zero, List.set_cons_succ])
  refine wpAnyH_take (i := 7) (v := ?v7) (by simp only [List.getElem?_toArray, List.getElem?_cons_zero, List.getElem?_cons_succ]; rfl) (by kernel_rfl) (by kernel_rfl) (by kernel_rfl) (by exact fun _ _ _ h => h) (Or.inl ⟨by rfl, ?hy7⟩) hHeld ?_
  case hy7 => (intro w hSw; (try dsimp only at hSw); go_simp; try with_reducible rfl)
  (try simp only [Act.put, List.setIfInBounds_toArray, List.set_cons_zero, List.set_cons_succ])
  refine wpAnyH_take (i := 8) (v := ?v8) (by simp only [List.getElem?_toArray, List.getElem?_cons_zero, List.getElem?_cons_succ]; rfl) (by kernel_rfl) (by kernel_rfl) (by kernel_rfl) (by exact fun _ _ _ h => h) (Or.inl ⟨by rfl, ?hy8⟩) hHeld ?_
  case hy8 => (intro w hSw; (try dsimp only at hSw); go_simp; try with_reducible rfl)
  (try simp only [Act.put, List.setIfInBounds_toArray, List.set_cons_zero, List.set_cons_succ])
  refine wpAnyH_take (i := 9) (v := ?v9) (by simp only [List.getElem?_toArray, List.getElem?_cons_zero, List.getElem?_cons_succ]; rfl) (by kernel_rfl) (by kernel_rfl) (by kernel_rfl) (by exact fun _ _ _ h => h) (Or.inl ⟨by rfl, ?hy9⟩) hHeld ?_
  case hy9 => (intro w hSw; (try dsimp only at hSw); go_simp; try with_reducible rfl)
  (try simp only [Act.put, List.setIfInBounds_toArray, List.set_cons_zero, List.set_cons_succ])
  refine wpAnyH_take (i := 10) (v := ?v10) (by simp only [List.getElem?_toArray, List.getElem?_cons_zero, List.getElem?_cons_succ]; rfl) (by kernel_rfl) (by kernel_rfl) (by kernel_rfl) (by exact fun _ _ _ h => h) (Or.inl ⟨by rfl, ?hy10⟩) hHeld ?_
  case hy10 => (intro w hSw; (try dsimp only at hSw); go_simp; try with_reducible rfl)
  (try simp only [Act.put, List.setIfInBounds_toArray, List.set_cons_zero, List.set_cons_succ])
  refine wpAnyH_take (i := 11) (v := ?v11) (by simp only [List.getElem?_toArray, List.getElem?_cons_zero, List.getElem?_cons_succ]; rfl) (by kernel_rfl) (by kernel_rfl) (by kernel_rfl) (by exact fun _ _ _ h => h) (Or.inl ⟨by rfl, ?hy11⟩) hHeld ?_
  case hy11 => (intro w hSw; (try dsimp only at hSw); go_simp; try with_reducible rfl)
  (try simp only [Act.put, List.setIfInBounds_toArray, List.set_cons_zero, List.set_cons_succ])
  refine wpAnyH_take (i := 12) (v := ?v12) (by simp only [List.getElem?_toArray, List.getElem?_cons_zero, List.getElem?_cons_succ]; rfl) (by kernel_rfl) (by kernel_rfl) (by kernel_rfl) (by exact fun _ _ _ h => h) (Or.inl ⟨by rfl, ?hy12⟩) hHeld ?_
  case hy12 => (intro w hSw; (try dsimp only at hSw); go_simp; try with_reducible rfl)
  (try simp only [Act.put, List.setIfInBounds_toArray, List.set_cons_zero, List.set_cons_succ])
  refine wpAnyH_take (i := 13) (v := ?v13) (by simp only [List.getElem?_toArray, List.getElem?_cons_zero, List.getElem?_cons_succ]; rfl) (by kernel_rfl) (by kernel_rfl) (by kernel_rfl) (by exact fun _ _ _ h => h) (Or.inl ⟨by rfl, ?hy13⟩) hHeld ?_
  case hy13 => (intro w hSw; (try dsimp only at hSw); go_simp; try with_reducible rfl)
  (try simp only [Act.put, List.setIfInBounds_toArray, List.set_cons_zero, List.set_cons_succ])
  refine wpAnyH_take (i := 14) (v := ?v14) (by simp only [List.getElem?_toArray, List.getElem?_cons_zero, List.getElem?_cons_succ]; rfl) (by kernel_rfl) (by kernel_rfl) (by kernel_rfl) (by exact fun _ _ _ h => h) (Or.inl ⟨by rfl, ?hy14⟩) hHeld ?_
  case hy14 => (intro w hSw; (try dsimp only at hSw); go_simp; try with_reducible rfl)
  (try simp only [Act.put, List.setIfInBounds_toArray, List.set_cons_zero, List.set_cons_succ])
  refine wpAnyH_take (i := 15) (v := ?v15) (by simp only [List.getElem?_toArray, List.getElem?_cons_zero, List.getElem?_cons_succ]; rfl) (by kernel_rfl) (by kernel_rfl) (by kernel_rfl) (by exact fun _ _ _ h => h) (Or.inl ⟨by rfl, ?hy15⟩) hHeld ?_
  case hy15 => (intro w hSw; (try dsimp only at hSw); go_simp; try with_reducible rfl)
  (try simp only [Act.put, List.setIfInBounds_toArray, List.set_cons_zero, List.set_cons_succ])
  refine wpAnyH_take (i := 16) (v := ?v16) (by simp only [List.getElem?_toArray, List.getElem?_cons_zero, List.getElem?_cons_succ]; rfl) (by kernel_rfl) (by kernel_rfl) (by kernel_rfl) (by exact fun _ _ _ h => h) (Or.inl ⟨by rfl, ?hy16⟩) hHeld ?_
  case hy16 => (intro w hSw; (try dsimp only at hSw); go_simp; try with_reducible rfl)
  (try simp only [Act.put, List.setIfInBounds_toArray, List.set_cons_zero, List.set_cons_succ])
  refine wpAnyH_take (i := 17) (v := ?v17) (by simp only [List.getElem?_toArray, List.getElem?_cons_zero, List.getElem?_cons_succ]; rfl) (by kernel_rfl) (by kernel_rfl) (by kernel_rfl) (by exact fun _ _ _ h => h) (Or.inl ⟨by rfl, ?hy17⟩) hHeld ?_
  case hy17 => (intro w hSw; (try dsimp only at hSw); go_simp; try with_reducible rfl)
  (try simp only [Act.put, List.setIfInBounds_toArray, List.set_cons_zero, List.set_cons_succ])
  refine wpAnyH_ready (rs := [4, 18]) (by kernel_rfl) (by simp) ?_
  refine AllReadyH.cons (by simp only [List.getElem?_toArray, List.getElem?_cons_zero, List.getElem?_cons_succ]; rfl) (fun K hK => ?_) ?_
  go_simp
  refine hK.out _ _ ?_ (fun hHeld2 => ?_)
  · first | with_reducible assumption | assumption
  clear hK K hHeld
  have hHeld := hHeld2
  clear hHeld2
  (try simp only [Act.put, List.setIfInBounds_toArray, List.set_cons_zero, List.set_cons_succ])
  refine wpAnyH_ready (rs := [18]) (by kernel_rfl) (by simp) ?_
  refine AllReadyH.cons (by simp only [List.getElem?_toArray, List.getElem?_cons_zero, List.getElem?_cons_succ]; rfl) (fun K hK => ?_) AllReadyH.nil
  go_simp
  refine hK.out _ _ ?_ (fun hHeld2 => ?_)
  · first | with_reducible assumption | assumption
  clear hK K hHeld
  have hHeld := hHeld2
  clear hHeld2
  (try simp only [Act.put, List.setIfInBounds_toArray, List.set_cons_zero, List.set_cons_succ])
  refine wpAnyH_ready (rs := [19]) (by kernel_rfl) (by simp) ?_
  refine AllReadyH.cons (by simp only [List.getElem?_toArray, List.getElem?_cons_zero, List.getElem?_cons_succ]; rfl) (fun K hK => ?_) AllReadyH.nil
  refine step_push_at (w.drew.alloc (.cells #[.int .i64 n0, .int .i64 n1, .int .i64 n2, .int .i64 n3] 92)) rfl _ _ 26 rfl i0 _ 32 Tryz.underlying26 hi hz0 hz1 hz2 rfl (by decide) _ d.2.1 (n0, n1, n2, n3) rfl (HO1.out.drew.alloc (.cells #[.int .i64 n0, .int .i64 n1, .int .i64 n2, .int .i64 n3] 92)) w.heap.size rfl #[.int .i64 n0, .int .i64 n1, .int .i64 n2, .int .i64 n3] 92 (heap_alloc_new w.drew _) rfl rfl (by intro u hu; simp [eCue] at hu; rcases hu with rfl | rfl | rfl | rfl <;> rfl) (by unfold maxLen; omega) (by omega) (Nat.le_trans HBB.out (by simp)) ?_; intro v3 w9 O9 hg9 hat9; obtain ⟨A3, c3, rfl⟩ := O9.isSlice; obtain ⟨B9, G9, N9, T9⟩ := HNX.out _ _ O9 hg9; have hz9 : w.heap.size ≤ w9.heap.size := Nat.le_trans (by simp) hg9.size; obtain ⟨D9, F9⟩ := HDS.out _ hz9 G9; have q1 := D9.2.2.1; have f1 := F9 1; have S9 := HP.out _ N9; have SZ := HP.out _ (HST.out w9 (.slice A3 (d.2.1.length + 1) c3) N9)
  refine hK.out _ _ ?_ (fun hHeld2 => ?_)
  · first | with_reducible assumption | assumption
  clear hK K hHeld
  have hHeld := hHeld2
  clear hHeld2
  (try simp only [Act.put, List.setIfInBounds_toArray, List.set_cons_zero, List.set_cons_succ])
  refine wpAnyH_take (i := 20) (v := ?v18) (by simp only [List.getElem?_toArray, List.getElem?_cons_zero, List.getElem?_cons_succ]; rfl) (by kernel_rfl) (by kernel_rfl) (by kernel_rfl) (by exact fun _ _ _ h => h) (Or.inl ⟨by rfl, ?hy18⟩) hHeld ?_
  case hy18 => (intro w hSw; (try dsimp only at hSw); go_simp; try with_reducible rfl)
  (try simp only [Act.put, List.setIfInBounds_toArray, List.set_cons_zero, List.set_cons_succ])
  refine wpAnyH_take (i := 21) (v := ?v19) (by simp only [List.getElem?_toArray, List.getElem?_cons_zero, List.getElem?_cons_succ]; rfl) (by kernel_rfl) (by kernel_rfl) (by kernel_rfl) (by exact fun _ _ _ h => h) (Or.inl ⟨by rfl, ?hy19⟩) hHeld ?_
  case hy19 => (intro w hSw; (try dsimp only at hSw); go_simp; try with_reducible rfl)
  (try simp only [Act.put, List.setIfInBounds_toArray, List.set_cons_zero, List.set_cons_succ])
  refine wpAnyH_ready (rs := [22]) (by kernel_rfl) (by simp) ?_
  refine AllReadyH.cons (by simp only [List.getElem?_toArray, List.getElem?_cons_zero, List.getElem?_cons_succ]; rfl) (fun K hK => ?_) AllReadyH.nil
  go_simp
  refine hK.out _ _ ?_ (fun hHeld2 => ?_)
  · first | with_reducible assumption | assumption
  clear hK K hHeld
  have hHeld := hHeld2
  clear hHeld2
  (try simp only [Act.put, List.setIfInBounds_toArray, List.set_cons_zero, List.set_cons_succ])
  refine wpAnyH_done (by kernel_rfl) ?_ _
  rotate_left
  refine AllReadyH.cons (by simp only [List.getElem?_toArray, List.getElem?_cons_zero, List.getElem?_cons_succ]; rfl) (fun K hK => ?_) AllReadyH.nil
  go_simp
  refine hK.out _ _ ?_ (fun hHeld2 => ?_)
  · first | with_reducible assumption | assumption
  clear hK K hHeld
  have hHeld := hHeld2
  clear hHeld2
  (try simp only [Act.put, List.setIfInBounds_toArray, List.set_cons_zero, List.set_cons_succ])
  refine wpAnyH_ready (rs := [4]) (by kernel_rfl) (by simp) ?_
  refine AllReadyH.cons (by simp only [List.getElem?_toArray, List.getElem?_cons_zero, List.getElem?_cons_succ]; rfl) (fun K hK => ?_) AllReadyH.nil
  go_simp
  refine hK.out _ _ ?_ (fun hHeld2 => ?_)
  · first | with_reducible assumption | assumption
  clear hK K hHeld
  have hHeld := hHeld2
  clear hHeld2
  (try simp only [Act.put, List.setIfInBounds_toArray, List.set_cons_zero, List.set_cons_succ])
  refine wpAnyH_ready (rs := [19]) (by kernel_rfl) (by simp) ?_
  refine AllReadyH.cons (by simp only [List.getElem?_toArray, List.getElem?_cons_zero, List.getElem?_cons_succ]; rfl) (fun K hK => ?_) AllReadyH.nil
  refine step_push_at (w.drew.alloc (.cells #[.int .i64 n0, .int .i64 n1, .int .i64 n2, .int .i64 n3] 92)) rfl _ _ 26 rfl i0 _ 32 Tryz.underlying26 hi hz0 hz1 hz2 rfl (by decide) _ d.2.1 (n0, n1, n2, n3) rfl (HO1.out.drew.alloc (.cells #[.int .i64 n0, .int .i64 n1, .int .i64 n2, .int .i64 n3] 92)) w.heap.size rfl #[.int .i64 n0, .int .i64 n1, .int .i64 n2, .int .i64 n3] 92 (heap_alloc_new w.drew _) rfl rfl (by intro u hu; simp [eCue] at hu; rcases hu with rfl | rfl | rfl | rfl <;> rfl) (by unfold maxLen; omega) (by omega) (Nat.le_trans HBB.out (by simp)) ?_; intro v3 w9 O9 hg9 hat9; obtain ⟨A3, c3, rfl⟩ := O9.isSlice; obtain ⟨B9, G9, N9, T9⟩ := HNX.out _ _ O9 hg9; have hz9 : w.heap.size ≤ w9.heap.size := Nat.le_trans (by simp) hg9.size; obtain ⟨D9, F9⟩ := HDS.out _ hz9 G9; have q1 := D9.2.2.1; have f1 := F9 1; have S9 := HP.out _ N9; have SZ := HP.out _ (HST.out w9 (.slice A3 (d.2.1.length + 1) c3) N9)
  refine hK.out _ _ ?_ (fun hHeld2 => ?_)
  · first | with_reducible assumption | assumption
  clear hK K hHeld
  have hHeld := hHeld2
  clear hHeld2
  (try simp only [Act.put, List.setIfInBounds_toArray, List.set_cons_zero, List.set_cons_succ])
  refine wpAnyH_take (i := 20) (v := ?v20) (by simp only [List.getElem?_toArray, List.getElem?_cons_zero, List.getElem?_cons_succ]; rfl) (by kernel_rfl) (by kernel_rfl) (by kernel_rfl) (by exact fun _ _ _ h => h) (Or.inl ⟨by rfl, ?hy20⟩) hHeld ?_
  case hy20 => (intro w hSw; (try dsimp only at hSw); go_simp; try with_reducible rfl)
  (try simp only [Act.put, List.setIfInBounds_toArray, List.set_cons_zero, List.set_cons_succ])
  refine wpAnyH_take (i := 21) (v := ?v21) (by simp only [List.getElem?_toArray, List.getElem?_cons_zero, List.getElem?_cons_succ]; rfl) (by kernel_rfl) (by kernel_rfl) (by kernel_rfl) (by exact fun _ _ _ h => h) (Or.inl ⟨by rfl, ?hy21⟩) hHeld ?_
  case hy21 => (intro w hSw; (try dsimp only at hSw); go_simp; try with_reducible rfl)
  (try simp only [Act.put, List.setIfInBounds_toArray, List.set_cons_zero, List.set_cons_succ])
  refine wpAnyH_ready (rs := [22]) (by kernel_rfl) (by simp) ?_
  refine AllReadyH.cons (by simp only [List.getElem?_toArray, List.getElem?_cons_zero, List.getElem?_cons_succ]; rfl) (fun K hK => ?_) AllReadyH.nil
  go_simp
  refine hK.out _ _ ?_ (fun hHeld2 => ?_)
  · first | with_reducible assumption | assumption
  clear hK K hHeld
  have hHeld := hHeld2
  clear hHeld2
  (try simp only [Act.put, List.setIfInBounds_toArray, List.set_cons_zero, List.set_cons_succ])
  refine wpAnyH_done (by kernel_rfl) ?_ _
  all_goals
    have hle : (d.2.1 ++ [(n0, n1, n2, n3)]).length = d.2.1.length + 1 := by rw [List.length_append]; rfl
    rw [hle] at O9 hat9
    have hne3 : ∀ h : Value, h = .slice A3 (d.2.1.length + 1) c3 → (h.ownBlock = none ∨ h.ownBlock ≠ some g) := by
      rintro h rfl
      rcases hat9 with e | e
      · rw [e]; exact neLt HA1.out
      · refine .inr fun e2 => ?_
        rw [e] at e2
        injection e2 with e2
        have : w.heap.size + 1 = g := by rw [← e2]; simp
        omega
    have DZ := desk_set1 D9 F9 (.slice A3 (d.2.1.length + 1) c3) rfl
    have P1 := O9.grown (grownBy_set w9 ⟨g, 1, none⟩ (.slice A3 (d.2.1.length + 1) c3)) (hne3 _ rfl)
    have P2 := own_set T9 HA2.out 1 (.slice A3 (d.2.1.length + 1) c3)
    have BZ := B9.setCell (p := ⟨g, 1, none⟩) HBG.out (.slice A3 (d.2.1.length + 1) c3)
    have HZ := hd (hsh.keep BZ)
    clear O9 hat9 hne3 D9 F9 T9 B9 G9 N9 S9 SZ q1 f1 hg9 S1 S2 HP HNX HDS HST HA1 HA2 hz9 d1 hsh
    generalize w9.setCell ⟨g, 1, none⟩ (.slice A3 (d.2.1.length + 1) c3) = Z at DZ P1 P2 BZ HZ ⊢
    have HL := hd hle
    have SQ := P1.sl eCue_len
    have HCX := hd (rfl : cueX d (n0, n1, n2, n3) = cueX d (n0, n1, n2, n3))
    have HGO : Hid (okCues (d.2.1 ++ [(n0, n1, n2, n3)]) = true → cueX d (n0, n1, n2, n3) = ((d.1, d.2.1 ++ [(n0, n1, n2, n3)], d.2.2.1, d.2.2.2), [orS (textD d.1 (d.2.1 ++ [(n0, n1, n2, n3)]) d.2.2.1 d.2.2.2)], 0)) := fun h => by unfold cueX; rw [if_pos h]
    have HNO : Hid (okCues (d.2.1 ++ [(n0, n1, n2, n3)]) = false → cueX d (n0, n1, n2, n3) = (d, [], 1)) := fun h => by unfold cueX; rw [h]; rfl
    obtain ⟨A2, c2, rfl⟩ := P2.isSlice
    generalize d.2.1 ++ [(n0, n1, n2, n3)] = C at P1 SQ HL HGO HNO
    clear hle HCX
    obtain ⟨hg2, e0, e1, e2, e3⟩ := id DZ
    go_wp2_with fail
    refine (cues_impl Z _ C SQ).mono ?_
    rintro e w2 ⟨rfl, hb2⟩
    have DZ2 := DZ.below hb2
    have P12 := P1.below hb2 (Nat.le_refl _)
    have P22 := P2.below hb2 (Nat.le_refl _)
    have hBZ : B ≤ Z.heap.size := Nat.le_trans HBB.out BZ.size
    have BZ2 := BZ.trans (hb2.mono hBZ)
    have HZ2 := hd ((HZ.out).keep (hb2.mono hBZ))
    clear hb2 DZ P1 P2 BZ HZ SQ e0 e1 e2 e3 hg2
    obtain ⟨hg2, e0, e1, e2, e3⟩ := id DZ2
    rcases ho : okCues C with _ | _
    · have HR := hd (HNO.out ho)
      clear ho HGO HNO
      go_wp2_with fail
      go_ret2
      exact exec_err BZ2 (by decide) HR.out
    · have HR := hd (HGO.out ho)
      clear ho HGO HNO
      go_wp2_with fail
      refine (text_impl w2 d.1 d.2.2.2 _ _ C d.2.2.1 (P12.sl eCue_len) (P22.sl eTitle_len) hp hq HZ2.out.shop).mono ?_
      rintro e w3 ⟨rfl, hb3⟩
      generalize textD d.1 C d.2.2.1 d.2.2.2 = tx at HR ⊢
      have hB2 : B ≤ w2.heap.size := Nat.le_trans HBB.out BZ2.size
      clear e0 e1 e2 e3
      go_wp2_with fail
      refine (or_impl _ _).mono ?_
      rintro e w4 ⟨v4, rfl, O4, hb4⟩
      have hb5 := below_step hb3 hb4
      have O5 := O4.base (Nat.le_trans hB2 hb3.size)
      obtain ⟨A4, c4, rfl⟩ := O4.isSlice
      go_wp2_with fail
      go_ret2
      exact exec_to (d := (d.1, C, d.2.2.1, d.2.2.2)) (BZ2.trans (hb5.mono hB2)) O5 (DZ2.below hb5) (P12.below hb5 (Nat.le_refl _)) (P22.below hb5 (Nat.le_refl _)) HR.out
end Go.Proofs.YtgcodjkjdfahdaaGreatDoor
