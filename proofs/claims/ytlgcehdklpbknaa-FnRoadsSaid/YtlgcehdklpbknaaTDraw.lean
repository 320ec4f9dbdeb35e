/- What the reference draws for halls, roads and tours. No condition but that the bytes read. -/
import Derived.Test.YtlgcehdklpbknaaTDrawB
import Derived.Test.YtlgcehdklpbknaaTourI
namespace Go.Proofs.Ytlgcehdklpbknaa
open Go Go.RowKit Go.ChangeShapes Go.WideShapes
set_option linter.unusedSimpArgs false
set_option linter.unusedVariables false
theorem results_t_cell {fn : Func} {t p : Tmp} {ty : TypeId} (h : fn.results = #[.tmp t, .cell p ty]) (tmps : Array Value) (P : Program) (w : World) :
    (results fn tmps).run P w = ((asAddr (tmps.getD p undef)).run P w).andThen fun a w₁ => ((loadVar ty a).run P w₁).andThen fun x w₂ => .ok (.tuple #[tmps.getD t undef, x]) w₂ := by
  simp only [results, h]
  simp [Sem.run_bind, Result.andThen]
theorem load_roads (Z : World) (b : Nat) (x0 x1 : Value) (h0 : ∃ A n c, x0 = .slice A n c) (h1 : ∃ A n c, x1 = .slice A n c) (e0 : Z.cell? ⟨b, 0, none⟩ = some x0) (e1 : Z.cell? ⟨b, 1, none⟩ = some x1) :
    (loadVar 28 ⟨b, 0, none⟩).run Try.prog Z = .ok (.agg #[x0, x1]) Z := by
  obtain ⟨A, n, c, rfl⟩ := h0
  obtain ⟨A', n', c', rfl⟩ := h1
  simp [loadVar, go_sem, e0, e1]
theorem Rec.below2 {W W' : World} {B E C : Nat} {T : TypeId} {cs : List Value} (h : Rec W B E T cs) (hb : Below C W W') (hE : E < C) : Rec W' B E T cs := by
  refine ⟨h.1, ?_⟩
  rcases h.2 with hn | ⟨g, cap, cur, hv, hbg, hg, rest⟩
  · exact .inl hn
  · refine .inr ⟨g, cap, cur, hv, hbg, ?_, rest⟩
    injection hv with hv _ _
    injection hv with hv
    injection hv with hv
    subst hv
    rw [hb.block E hE]
    exact hg
theorem step_push2 {P : Program} {α : Type} {enc : α → List Value} {k : Nat} (w : World) {ops : Array Oper} {o : Oper} {a : Act} {K : Act → World → Prop} {Q : Exit → Act → World → Prop} {X : Prop} (hgd : o.guard = none) (s x : Operand) (t : TypeId)
    (ho : o.op = .call { callee := .builtin .append, args := #[s, x], argTypes := #[t, t] })
    {B E : Nat} (i : TypeInfo) (z : Value) (bytes : Nat) (ht : P.underlying t = some (.slice E)) (hi : P.info? E = some i) (hz : i.zero = some z)
    (hsize : i.size = k) (hby : i.bytes = bytes) (hzs : z.cells.size = k) (hsz : 0 < k)
    (v : Value) (l : List α) (y : α) (hs : a.eval s = v) (hown : Own w B E k v enc l)
    (g : Nat) (hx : a.eval x = .slice (some ⟨g, 0, none⟩) 1 1) (cs : Array Value) (E' : TypeId) (hg : w.heap[g]? = some (.cells cs E' (0, 0))) (hcs : cs.toList = enc y) (hlen : (enc y).length = k) (h1 : ∀ u ∈ enc y, u.oneCell' = true)
    (h63 : l.length + 1 ≤ maxLen) (hbytes : (l.length + 1) * bytes ≤ 140737488355328) (hbase : B ≤ w.heap.size)
    (h : ∀ v' w', Own w' B E k v' enc (l ++ [y]) → w.grownBy w' v.ownBlock → (v'.ownBlock = v.ownBlock ∨ v'.ownBlock = some w.heap.size) → K (a.put o.dst v') w') :
    if Region.wanted o (yielded ops a.tmps) = true then Oper.wp P o a w K Q else X := by
  have hw : Region.wanted o (yielded ops a.tmps) = true := by simp [Region.wanted, hgd]
  rw [if_pos hw]
  exact wp_push_at w s x t ho i z bytes ht hi hz hsize hby hzs hsz v l y hs hown g hx cs E' hg hcs hlen h1 h63 hbytes hbase h
/-- the source, what has grown, and the block of the result -/
structure SGR (w0 w : World) (v : Value) (g n : Nat) (T : TypeId) (cs : List Value) (W : World) : Prop where
  S : Src w0 v g n W
  G : w.grownBy W (some g)
  R : Rec W w.heap.size w.heap.size T cs
section
variable {w0 w W W' : World} {v : Value} {g n m : Nat} {T : TypeId} {cs : List Value}
theorem SGR.le (h : SGR w0 w v g n T cs W) (hm : n ≤ m) : SGR w0 w v g m T cs W := ⟨h.S.le hm, h.G, h.R⟩
theorem SGR.src (h : SGR w0 w v g n T cs W) (S' : Src w0 v g m W') (G' : W.grownBy W' (some g)) (hg : g < w.heap.size) : SGR w0 w v g m T cs W' :=
  ⟨S', grownBy_trans h.G G', h.R.keep G' (some_ne hg)⟩
theorem SGR.up (h : SGR w0 w v g n T cs W) (hb : Below (w.heap.size + 1) W W') (hg : g < w.heap.size) : SGR w0 w v g n T cs W' :=
  ⟨h.S.below2 (by omega) hb, grow_below h.G (hb.mono (Nat.le_succ _)), h.R.below2 hb (Nat.lt_succ_self _)⟩
theorem SGR.alloc (h : SGR w0 w v g n T cs W) (hg : g < w.heap.size) (o : Obj) : SGR w0 w v g n T cs (W.alloc o) :=
  h.up ((Below.refl (w.heap.size + 1) W).alloc (Nat.succ_le_of_lt h.R.lt.2) o) hg
theorem SGR.put {E : Nat} (h : SGR w0 w v g n T cs W) (hg : g < w.heap.size) (hE : w.heap.size < E) (j : Nat) (u : Value) : SGR w0 w v g n T cs (W.setCell ⟨E, j, none⟩ u) :=
  h.up ((Below.refl (w.heap.size + 1) W).setCell (p := ⟨E, j, none⟩) hE u) hg
theorem SGR.drew (h : SGR w0 w v g n T cs W) : SGR w0 w v g n T cs W.drew := ⟨h.S.drew, ⟨h.G.os, h.G.tape, h.G.output, h.G.size, h.G.block⟩, h.R⟩
end
set_option maxRecDepth 100000 in
set_option maxHeartbeats 8000000 in
theorem draw_halls (w0 : World) (v : Value) (l : List UInt8) (hS : Sl w0 1 v eU l) (hl : l.length ≤ 1048576) (w : World) (g n : Nat) (h : Src w0 v g n w) (hn : n ≤ 700000000) (q : Int) (q1 : 0 ≤ q) (q2 : q ≤ 6) :
    Calls Try.prog 61 #[.pointer (some ⟨g, 0, none⟩), .int .i64 q] w fun e w' => ∃ (lv hv dv : Value) (L : List THall) (H : List Int) (M : List TRow), e = .returned (.tuple #[lv, .agg #[hv, dv]]) ∧ Own w' w.heap.size 142 3 lv eHall L ∧ Own w' w.heap.size 2 1 hv eI H ∧ OwnR w' w.heap.size dv M ∧ (L.length : Int) = q ∧ okHalls L H (rowsOf M) = true ∧ Src w0 v g (n + 2000) w' ∧ w.grownBy w' (some g) := by
  have hgB : g < w.heap.size := h.1
  obtain ⟨iI64, hiI64, hz0I64, hz1I64, hz2I64⟩ := info_parts info_i64
  obtain ⟨iHall, hiHall, hz0Hall, hz1Hall, hz2Hall⟩ := info_parts info_Hall
  obtain ⟨iRow, hiRow, hz0Row, hz1Row, hz2Row⟩ := info_parts info_row
  go_enter Try.func61, Try.ntmps61
  go_wp2_with fail
  have HD0 := hd (halls_start w #[.slice none 0 0, .slice none 0 0] 28)
  have SG0 : Hid (SGR w0 w v g n 28 [.slice none 0 0, .slice none 0 0] (((((w.alloc (.cells #[.slice none 0 0, .slice none 0 0] 28)).alloc (.cells #[] 142)).alloc (.cells #[] 2)).alloc (.cells #[] 25)).alloc (.cells #[.slice (some ⟨w.heap.size + 1 + 1, 0, none⟩) 0 0, .slice (some ⟨w.heap.size + 1 + 1 + 1, 0, none⟩) 0 0] 28))) := by
    have s0 : SGR w0 w v g n 28 [.slice none 0 0, .slice none 0 0] (w.alloc (.cells #[.slice none 0 0, .slice none 0 0] 28)) := ⟨h.more _, grow_alloc (World.grownBy.refl w (some g)) _, rec_new w w.heap.size _ _ (Nat.le_refl _)⟩
    exact hd ((((s0.alloc hgB _).alloc hgB _).alloc hgB _).alloc hgB _)
  generalize ((((w.alloc (.cells #[.slice none 0 0, .slice none 0 0] 28)).alloc (.cells #[] 142)).alloc (.cells #[] 2)).alloc (.cells #[] 25)).alloc (.cells #[.slice (some ⟨w.heap.size + 1 + 1, 0, none⟩) 0 0, .slice (some ⟨w.heap.size + 1 + 1 + 1, 0, none⟩) 0 0] 28) = W4 at HD0 SG0 ⊢
  have hgr : w.heap.size < w.heap.size + 1 + 1 + 1 + 1 := by omega
  generalize w.heap.size + 1 + 1 + 1 + 1 = gr at HD0 hgr ⊢
  obtain ⟨qn, rfl⟩ : ∃ qn : Nat, q = (qn : Int) := ⟨q.toNat, by omega⟩
  obtain ⟨N, hN⟩ : ∃ N, N = w.heap.size + 1 := ⟨_, rfl⟩
  have hgN : g < N := by omega
  have hNB : w.heap.size ≤ N := by omega
  clear h
  go_loopw [6, 8] (fun lx iv wr => ∃ (i : Nat) (lv hv dv : Value) (L : List THall) (H : List Int) (M : List TRow), lv = lx ∧ iv = .int .i64 i ∧ i ≤ qn ∧ Hid (HDS N wr gr lv hv dv L H M) ∧ Hid (HF qn L H M i) ∧ Hid (SGR w0 w v g (n + 100 + 40 * i) 28 [.slice none 0 0, .slice none 0 0] wr)) (fun _ iv _ => qn - (intOf iv).toNat)
  case atStart => subst hN; exact ⟨0, _, _, _, [], [], [], rfl, rfl, Nat.zero_le _, HD0, hd (HF.nil _), hd ⟨SG0.out.S.le (by omega), SG0.out.G, SG0.out.R⟩⟩
  case round =>
    obtain ⟨i, lv, hv, dv, L, H, M, rfl, rfl, hi, HD, HFx, SG⟩ := hrel
    have hWN : w.heap.size + 1 ≤ N := by omega
    clear HD0 SG0 hN
    by_cases hlt : i < qn
    case neg =>
      have hiq : i = qn := by omega
      subst hiq
      obtain ⟨Al, cl, rfl⟩ := HD.out.list.slice
      obtain ⟨Ah, ch, rfl⟩ := HD.out.home.slice
      obtain ⟨Ad, cd, rfl⟩ := HD.out.days.1.slice
      have c0 := HD.out.box.cell 0 _ rfl
      have c1 := HD.out.box.cell 1 _ rfl
      have r0 := SG.out.R.cell 0 _ rfl
      have r1 := SG.out.R.cell 1 _ rfl
      have q0 := SG.out.R.free 0
      have q1' := SG.out.R.free 1
      have hbb : gr ≠ w.heap.size := by omega
      go_wp2_with fail
      go_region
      all_goals
        go_wp2_with fail
        have HZ := (HD.out.touched (TouchL.of_grown (grow_set wr ⟨w.heap.size, 0, none⟩ (.slice Ah H.length ch))) (fun a ha b hb => by simp only [List.mem_singleton] at hb; subst hb; exact apart_gt fun b hb => by have := (HD.out.lt a ha b hb).1; omega)).touched (TouchL.of_grown (grow_set _ ⟨w.heap.size, 1, none⟩ (.slice Ad M.length cd))) (fun a ha b hb => by simp only [List.mem_singleton] at hb; subst hb; exact apart_gt fun b hb => by have := (HD.out.lt a ha b hb).1; omega)
        have RZ := (SG.out.R.set 0 (.slice Ah H.length ch)).set 1 (.slice Ad M.length cd)
        have SZ := (SG.out.S.put (show g < w.heap.size from hgB) 0 (.slice Ah H.length ch)).put (show g < w.heap.size from hgB) 1 (.slice Ad M.length cd)
        have GZ := grow_new (grow_new SG.out.G (Nat.le_refl _) 0 (.slice Ah H.length ch)) (Nat.le_refl _) 1 (.slice Ad M.length cd)
        generalize ((wr.setCell ⟨w.heap.size, 0, none⟩ (.slice Ah H.length ch)).setCell ⟨w.heap.size, 1, none⟩ (.slice Ad M.length cd)) = WZ at HZ RZ SZ GZ ⊢
        refine bodyPost_ret (v := .tuple #[.slice Al L.length cl, .agg #[.slice Ah H.length ch, .slice Ad M.length cd]]) ?_ rfl ?_
        · refine (results_t_cell Try.results61 _ _ _).trans ?_
          show (((loadVar 28 ⟨w.heap.size, 0, none⟩).run Try.prog WZ.drew).andThen fun x w₂ => Result.ok (Value.tuple #[.slice Al L.length cl, x]) w₂) = _
          rw [load_roads WZ.drew _ _ _ ⟨_, _, _, rfl⟩ ⟨_, _, _, rfl⟩ (RZ.cell 0 _ rfl) (RZ.cell 1 _ rfl)]
          rfl
        · exact ⟨_, _, _, L, H, M, rfl, HZ.drew.list.base hNB, HZ.drew.home.base hNB, HZ.drew.days.base hNB, by have := HFx.out.1; omega, HFx.out.ok (by omega), SZ.drew.le (by omega), grownBy_drewN GZ 1⟩
    go_wp2_with fail
    refine (pick_src w0 v l hS hl _ g _ SG.out.S (by omega) 14 (by omega)).mono ?_
    rintro e w1 ⟨a, ⟨a1, a2⟩, rfl, S', G'⟩
    replace HD := hd (HD.out.src hgN G')
    replace SG := hd (SG.out.src S' G' hgB)
    clear S' G'
    have HE := hd (fun x hx b hb => (HD.out.lt x hx b hb).2)
    have hEN : N ≤ w1.heap.size := Nat.le_trans HD.out.box.lt.1 (Nat.le_of_lt HD.out.box.lt.2)
    have RX := hd (rec_new w1 N 142 [.int .i64 a, .int .i64 0, .int .i64 0] hEN)
    replace HD := hd (HD.out.alloc (.cells #[.int .i64 a, .int .i64 0, .int .i64 0] 142))
    replace SG := hd (SG.out.alloc hgB (.cells #[.int .i64 a, .int .i64 0, .int .i64 0] 142))
    go_upto_region 7 with fail
    generalize hW3 : w1.alloc (.cells #[.int .i64 a, .int .i64 0, .int .i64 0] 142) = W3 at HD SG RX ⊢
    generalize w1.heap.size = E at HE hEN RX ⊢
    clear hW3
    have hgE : g < E := by omega
    have hwE : w.heap.size < E := by omega
    go_cut [] from 16 to 67 (fun wx => ∃ b : Int, (a ≤ b ∧ b ≤ a + 8) ∧ Hid (HDS N wx gr lv hv dv L H M) ∧ Hid (SGR w0 w v g (n + 100 + 40 * i + 4) 28 [.slice none 0 0, .slice none 0 0] wx) ∧ Hid (Rec wx N E 142 [.int .i64 a, .int .i64 b, .int .i64 0]))
    case first =>
      have SD := hd SG.out.drew
      have DD := hd HD.out.drew
      have XD := hd (show Rec W3.drew N E 142 [.int .i64 a, .int .i64 0, .int .i64 0] from RX.out)
      have c0 := RX.out.cell 0 _ rfl
      go_region_with (go_at_call 62; refine (pick_src w0 v l hS hl _ g _ SD.out.S (by omega) 9 (by omega)).mono ?_; rintro e w11 ⟨x, ⟨x1, x2⟩, rfl, S', G'⟩; have X9 := XD.out.keep G' (some_ne hgE); have c09 := X9.cell 0 _ rfl; have c19 := X9.cell 1 _ rfl; have f19 := X9.free 1)
      all_goals
        go_wp2_with fail
        rw [IntWalk.i64_in (a + x) (by omega)]
        go_meet
        exact ⟨a + x, ⟨by omega, by omega⟩, hd ((DD.out.src hgN G').young HE.out 1 _), hd (((SD.out.src S' G' hgB).le (by omega)).put hgB hwE 1 _), hd (X9.set 1 (.int .i64 (a + x)))⟩
    case rest =>
    clear HD SG RX
    obtain ⟨b, ⟨b1, b2⟩, HD, SG, RX⟩ := hcut
    go_wp2_with fail
    refine (pick_src w0 v l hS hl _ g _ SG.out.S (by omega) 20 (by omega)).mono ?_
    rintro e w2 ⟨c, ⟨c1, c2⟩, rfl, S', G'⟩
    replace HD := hd (HD.out.src hgN G')
    replace SG := hd (SG.out.src S' G' hgB)
    replace RX := hd (RX.out.keep G' (some_ne hgE))
    clear S' G'
    have x2 := RX.out.cell 2 _ rfl
    have f2 := RX.out.free 2
    go_upto_region 9 with fail
    clear x2 f2
    replace HD := hd (HD.out.young HE.out 2 (.int .i64 (50 * c)))
    replace SG := hd (SG.out.put hgB hwE 2 (.int .i64 (50 * c)))
    replace RX := hd (RX.out.set 2 (.int .i64 (50 * c)))
    generalize w2.setCell ⟨E, 2, none⟩ (.int .i64 (50 * c)) = W5 at HD SG RX ⊢
    generalize hcc : 50 * c = cc at RX ⊢
    have hc1 : 0 ≤ cc := by omega
    have hc2 : cc ≤ 1000 := by omega
    clear hcc
    have x0 := RX.out.cell 0 _ rfl
    have x1 := RX.out.cell 1 _ rfl
    have x2 := RX.out.cell 2 _ rfl
    have hsz := HD.out.size
    have hLl : L.length ≤ 6 := by have := HFx.out.1; omega
    have hHl : H.length ≤ 6 := by have := HFx.out.2.1; omega
    have hMl : M.length ≤ 6 := by have := HFx.out.2.2.1; omega
    have hWs : w.heap.size + 1 ≤ W5.heap.size := by omega
    go_wp2_with (at_builtin; refine wpList_push2 _ rfl _ _ 24 rfl iHall (.agg #[.int .i64 0, .int .i64 0, .int .i64 0]) 24 Try.underlying24 hiHall hz0Hall hz1Hall hz2Hall rfl (by decide) _ _ ((a, b, cc) : THall) rfl (HD.out.list.alloc _) W5.heap.size rfl #[.int .i64 a, .int .i64 b, .int .i64 cc] 142 (heap_alloc_new _ _) rfl rfl (by intro u hu; simp [eHall] at hu; rcases hu with rfl | rfl | rfl <;> rfl) (by unfold maxLen; omega) (by omega) (by simp; omega) ?_)
    intro lv' w6 O' hg' ho'
    have E' := ((Below.refl (w.heap.size + 1) W5).alloc hWs (.cells #[.int .i64 a, .int .i64 b, .int .i64 cc] 142)).grown hg' (by simp; omega) (fun b hb => by have := (HD.out.list.lt b hb).1; omega)
    replace SG := hd (SG.out.up E' hgB)
    replace HD := hd ((HD.out.alloc (.cells #[.int .i64 a, .int .i64 b, .int .i64 cc] 142)).push_list hg' O' (by simpa using ho'))
    clear x0 x1 x2 hg' ho' E' O' RX HE hsz hWs
    go_upto_region 10 with fail
    go_cut [] from 16 to 67 (fun wx => ∃ (d : Int) (hv' : Value), (0 ≤ d ∧ d ≤ 5) ∧ Hid (HDS N wx gr lv' hv' dv (L ++ [(a, b, cc)]) (H ++ [d]) M) ∧ Hid (SGR w0 w v g (n + 100 + 40 * i + 8) 28 [.slice none 0 0, .slice none 0 0] wx))
    case first =>
      obtain ⟨Ah, ch, rfl⟩ := HD.out.home.slice
      have SD := hd SG.out.drew
      have DD := hd HD.out.drew
      have c0 := HD.out.box.cell 0 _ rfl
      go_region_law (first | (go_simp; go_at_call 62; refine (pick_src w0 v l hS hl _ g _ SD.out.S (by omega) 6 (by omega)).mono ?_; rintro e w11 ⟨d, ⟨d1, d2⟩, rfl, S', G'⟩; have D9 := DD.out.src hgN G'; have S9 := SD.out.src S' G' hgB; have D9a := D9.alloc (.cells #[.int .i64 d] 2); have c09 := D9.box.cell 0 _ rfl; have hg9 := D9.box.lt.2; have hs9 := D9.size) | (refine step_push2 _ rfl _ _ 25 rfl iI64 (.int .i64 0) 8 Try.underlying25 hiI64 hz0I64 hz1I64 hz2I64 rfl (by decide) (.slice Ah H.length ch) H (d : Int) rfl D9a.home w11.heap.size rfl #[.int .i64 d] 2 (heap_alloc_new _ _) rfl rfl (by intro u hu; simp [eI] at hu; subst hu; rfl) (by unfold maxLen; omega) (by omega) (by simp; omega) ?_; intro hv' w12 O' hg' ho'; obtain ⟨Ah', ch', rfl⟩ : ∃ A c, hv' = .slice A (H.length + 1) c := (by obtain ⟨A, c, h⟩ := O'.slice; exact ⟨A, c, by rw [h]; simp⟩); have P' := hd (D9a.push_home hg' O' (by simpa using ho')); have b0 := (D9a.box_home hg').cell 0 _ rfl; have bf := (D9a.box_home hg').free 0; have E' := ((Below.refl (w.heap.size + 1) w11).alloc (by omega) (.cells #[.int .i64 d] 2)).grown hg' (by simp; omega) (fun b hb => by have := (D9a.home.lt b hb).1; omega)))
      all_goals
        go_wp2_with fail
        go_meet
        exact ⟨d, _, ⟨by omega, by omega⟩, P', hd (((S9.up E' hgB).put hgB hgr 0 _).le (by omega))⟩
    case rest =>
    clear HD SG
    obtain ⟨d, hv', ⟨d1, d2⟩, HD, SG⟩ := hcut
    have HR0 := hd HD.out.row
    have SG0 := hd (SG.out.alloc hgB (.cells #[] 2))
    clear HD SG
    go_wp2_with fail
    generalize wc.alloc (.cells #[] 2) = W7 at HR0 SG0 ⊢
    generalize hR0 : wc.heap.size = R0 at HR0 ⊢
    clear hR0
    go_loopw [10, 11] (fun rx kv wr => ∃ (j : Nat) (rv : Value) (R : List Int), rv = rx ∧ kv = .int .i64 j ∧ j ≤ qn ∧ Hid (HRow N wr gr lv' hv' dv (L ++ [(a, b, cc)]) (H ++ [d]) M rv R) ∧ R.length = j ∧ Hid ((∀ x ∈ R, 0 ≤ x ∧ x ≤ 30) ∧ (i < j → R.getD i 0 = 0)) ∧ Hid (SGR w0 w v g (n + 100 + 40 * i + 8 + 4 * j) 28 [.slice none 0 0, .slice none 0 0] wr)) (fun _ kv _ => qn - (intOf kv).toNat)
    case atStart => exact ⟨0, _, [], rfl, rfl, Nat.zero_le _, HR0, rfl, hd ⟨by simp, fun h => absurd h (Nat.not_lt_zero _)⟩, hd (SG0.out.le (by omega))⟩
    case round =>
      obtain ⟨j, rv, R, rfl, rfl, hj, HR, hRl, HX, SG⟩ := hrel
      have HRl := hd hRl
      have hR6 : R.length ≤ 6 := by omega
      clear HR0 SG0 hRl
      by_cases hjq : j < qn
      case neg =>
        have hjn : j = qn := by omega
        subst hjn
        obtain ⟨Ad, cd, rfl⟩ := HR.out.ds.days.1.slice
        obtain ⟨Ar, cr, rfl⟩ := HR.out.row.slice
        have b1' := HR.out.ds.box.cell 1 _ rfl
        have hg9 := HR.out.ds.box.lt.2
        have hs9 := HR.out.ds.size
        have hWs : w.heap.size + 1 ≤ wr.heap.size := by omega
        have HRa := hd (HR.out.alloc (.cells #[.slice Ar R.length cr] 25))
        go_wp2_with (at_builtin; refine wpList_push2 _ rfl _ _ 26 rfl iRow (.slice none 0 0) 24 Try.underlying26 hiRow hz0Row hz1Row hz2Row rfl (by decide) (.slice Ad M.length cd) M ((.slice Ar R.length cr, R) : TRow) rfl HRa.out.ds.days.1 wr.heap.size rfl #[.slice Ar R.length cr] 25 (heap_alloc_new _ _) rfl rfl (by intro u hu; simp [eV] at hu; subst hu; rfl) (by unfold maxLen; omega) (by omega) (by simp; omega) ?_)
        intro dv' w12 O' hg' ho'
        obtain ⟨Ad', cd', rfl⟩ : ∃ A c, dv' = .slice A (M.length + 1) c := (by obtain ⟨A, c, h⟩ := O'.slice; exact ⟨A, c, by rw [h]; simp⟩)
        have P' := hd (HRa.out.done hg' O' (by simpa using ho'))
        have b19 := (HRa.out.ds.box_days hg').cell 1 _ rfl
        have f19 := (HRa.out.ds.box_days hg').free 1
        have E' := ((Below.refl (w.heap.size + 1) wr).alloc hWs (.cells #[.slice Ar R.length cr] 25)).grown hg' (by simp; omega) (fun b hb => by have := (HRa.out.ds.days.1.lt b hb).1; omega)
        replace SG := hd ((SG.out.up E' hgB).put hgB hgr 1 (.slice Ad' (M.length + 1) cd'))
        have HXo := HX.out
        have HFn := hd (HFx.out.push (a := a) (b := b) (c := cc) (d := d) (rv := .slice Ar R.length cr) (R := R) (by omega) (by omega) (by omega) HRl.out HXo.1 (HXo.2 hlt))
        clear HXo hg' ho' E' O' b1'
        go_wp2_with fail
        go_roundw
        case rel => exact ⟨i + 1, _, _, _, _, _, _, rfl, by go_num, by omega, P', HFn, hd (SG.out.le (by omega))⟩
        case measure => simp [intOf]; omega
      have hs9 := HR.out.ds.size
      by_cases hji : j = i
      · have e1 : ((j : Int) == (i : Int)) = true := by simp [hji]
        have hWs : w.heap.size + 1 ≤ wr.heap.size := by omega
        have HRa := hd (HR.out.alloc (.cells #[.int .i64 0] 2))
        go_wp2_with (at_builtin; refine wpList_push2 _ rfl _ _ 25 rfl iI64 (.int .i64 0) 8 Try.underlying25 hiI64 hz0I64 hz1I64 hz2I64 rfl (by decide) rv R (0 : Int) rfl HRa.out.row wr.heap.size rfl #[.int .i64 0] 2 (heap_alloc_new _ _) rfl rfl (by intro u hu; simp [eI] at hu; subst hu; rfl) (by unfold maxLen; omega) (by omega) (by simp; omega) ?_)
        intro rv' w12 O' hg' ho'
        have P' := hd (HRa.out.push hg' O' (by simpa using ho'))
        have E' := ((Below.refl (w.heap.size + 1) wr).alloc hWs (.cells #[.int .i64 0] 2)).grown hg' (by simp; omega) (fun b hb => by have := (HRa.out.row.lt b hb).1; omega)
        replace SG := hd (SG.out.up E' hgB)
        have HXn := hd (show (∀ x ∈ R ++ [(0 : Int)], 0 ≤ x ∧ x ≤ 30) ∧ (i < j + 1 → (R ++ [(0 : Int)]).getD i (0 : Int) = (0 : Int)) from ⟨fun x hx => by
          rcases List.mem_append.1 hx with hx | hx
          · exact HX.out.1 x hx
          · rw [List.mem_singleton.1 hx]; decide, fun _ => by have e : i = R.length := (by have := HRl.out; omega); rw [e]; simp⟩)
        clear hg' ho' E' O' HRa
        go_wp2_with fail
        go_roundw
        case rel => exact ⟨j + 1, _, R ++ [0], rfl, by go_num, by omega, P', by simp [HRl.out], HXn, hd (SG.out.le (by omega))⟩
        case measure => simp [intOf]; omega
      · have e1 : ((j : Int) == (i : Int)) = false := beq_eq_false_iff_ne.2 (by omega)
        go_wp2_with fail
        refine (pick_src w0 v l hS hl _ g _ SG.out.S (by omega) 5 (by omega)).mono ?_
        rintro e w10 ⟨x, ⟨x1, x2⟩, rfl, S', G'⟩
        replace HR := hd (HR.out.src hgN G')
        replace SG := hd (SG.out.src S' G' hgB)
        clear S' G' hs9
        have hs9 := HR.out.ds.size
        have hWs : w.heap.size + 1 ≤ w10.heap.size := by omega
        have HRa := hd (HR.out.alloc (.cells #[.int .i64 x] 2))
        go_wp2_with (at_builtin; refine wpList_push2 _ rfl _ _ 25 rfl iI64 (.int .i64 0) 8 Try.underlying25 hiI64 hz0I64 hz1I64 hz2I64 rfl (by decide) rv R (x : Int) rfl HRa.out.row w10.heap.size rfl #[.int .i64 x] 2 (heap_alloc_new _ _) rfl rfl (by intro u hu; simp [eI] at hu; subst hu; rfl) (by unfold maxLen; omega) (by omega) (by simp; omega) ?_)
        intro rv' w12 O' hg' ho'
        have P' := hd (HRa.out.push hg' O' (by simpa using ho'))
        have E' := ((Below.refl (w.heap.size + 1) w10).alloc hWs (.cells #[.int .i64 x] 2)).grown hg' (by simp; omega) (fun b hb => by have := (HRa.out.row.lt b hb).1; omega)
        replace SG := hd (SG.out.up E' hgB)
        have HXn := hd (show (∀ y ∈ R ++ [x], 0 ≤ y ∧ y ≤ 30) ∧ (i < j + 1 → (R ++ [x]).getD i 0 = 0) from ⟨fun y hy => by
          rcases List.mem_append.1 hy with hy | hy
          · exact HX.out.1 y hy
          · rw [List.mem_singleton.1 hy]; omega, fun hij => by
            have hij' : i < R.length := by have := HRl.out; omega
            rw [show (R ++ [x]).getD i 0 = R.getD i 0 from by simp [List.getD, List.getElem?_append_left hij']]
            exact HX.out.2 (by omega)⟩)
        clear hg' ho' E' O' HRa
        go_wp2_with fail
        go_roundw
        case rel => exact ⟨j + 1, _, R ++ [x], rfl, by go_num, by omega, P', by simp [HRl.out], HXn, hd (SG.out.le (by omega))⟩
        case measure => simp [intOf]; omega
end Go.Proofs.Ytlgcehdklpbknaa
