/- What the reference draws for hires. No condition but that the bytes read. -/
import Derived.Test.YtlgcehdklpbknaaRec
import Derived.Test.YtlgcehdklpbknaaField
import Derived.Test.YtlgcehdklpbknaaSHire
import Derived.Test.YtlgcehdklpbknaaMax
import Derived.Test.YtlgcehdklpbknaaDays
import Derived.Deep.RegionWith
import Derived.Deep.Cut
namespace Go.Proofs.Ytlgcehdklpbknaa
open Go Go.RowKit Go.ChangeShapes Go.WideShapes
set_option linter.unusedSimpArgs false
set_option linter.unusedVariables false
theorem load_hire (Z : World) (b o : Nat) (x0 x1 x2 : Int) (e0 : Z.cell? ⟨b, o, none⟩ = some (.int .i64 x0)) (e1 : Z.cell? ⟨b, o + 1, none⟩ = some (.int .i64 x1)) (e2 : Z.cell? ⟨b, o + 2, none⟩ = some (.int .i64 x2)) :
    (loadVar 76 ⟨b, o, none⟩).run Try.prog Z = .ok (.agg #[.int .i64 x0, .int .i64 x1, .int .i64 x2]) Z := by
  simp [loadVar, go_sem, e0, e1, e2]
theorem results_tt_cell {fn : Func} {t u p : Tmp} {ty : TypeId} (h : fn.results = #[.tmp t, .tmp u, .cell p ty]) (tmps : Array Value) (P : Program) (w : World) :
    (results fn tmps).run P w = ((asAddr (tmps.getD p undef)).run P w).andThen fun a w₁ => ((loadVar ty a).run P w₁).andThen fun x w₂ => .ok (.tuple #[tmps.getD t undef, tmps.getD u undef, x]) w₂ := by
  simp only [results, h]
  simp [Sem.run_bind, Result.andThen]
theorem results_tmp4 {fn : Func} {t u v x : Tmp} (h : fn.results = #[.tmp t, .tmp u, .tmp v, .tmp x]) (tmps : Array Value) (P : Program) (w : World) :
    (results fn tmps).run P w = .ok (.tuple #[tmps.getD t undef, tmps.getD u undef, tmps.getD v undef, tmps.getD x undef]) w := by
  simp only [results, h]
  simp [Sem.run_bind, Result.andThen]
theorem results_tmp5 {fn : Func} {t u v x y : Tmp} (h : fn.results = #[.tmp t, .tmp u, .tmp v, .tmp x, .tmp y]) (tmps : Array Value) (P : Program) (w : World) :
    (results fn tmps).run P w = .ok (.tuple #[tmps.getD t undef, tmps.getD u undef, tmps.getD v undef, tmps.getD x undef, tmps.getD y undef]) w := by
  simp only [results, h]
  simp [Sem.run_bind, Result.andThen]
theorem hire_set (x : THire) (f : Nat) (hf : f < 3) (u : Int) : ∃ y, eHire y = (eHire x).set f (.int .i64 u) := by
  obtain ⟨a, b, c⟩ := x
  match f, hf with
  | 0, _ => exact ⟨(u, b, c), rfl⟩
  | 1, _ => exact ⟨(a, u, c), rfl⟩
  | 2, _ => exact ⟨(a, b, u), rfl⟩
theorem apart_of_lt1 {v : Value} {E : Nat} (h : ∀ b, v.ownBlock = some b → b < E) : v.ownBlock = none ∨ v.ownBlock ≠ some E := by
  rcases q : v.ownBlock with _ | b
  · exact .inl rfl
  · refine .inr fun e => ?_
    have := h b q
    injection e with e
    omega
theorem apart_lo {α : Type} {W : World} {N E k gs : Nat} {v : Value} {enc : α → List Value} {L : List α} (h : Own W N E k v enc L) (hg : gs < N) : v.ownBlock = none ∨ v.ownBlock ≠ some gs := by
  rcases q : v.ownBlock with _ | b
  · exact .inl rfl
  · refine .inr fun e => ?_
    have := (h.lt b q).1
    injection e with e
    omega
set_option maxRecDepth 100000 in
set_option maxHeartbeats 8000000 in
theorem new_hire (w0 : World) (v : Value) (l : List UInt8) (hS : Sl w0 1 v eU l) (hl : l.length ≤ 1048576) (w : World) (g n : Nat) (h : Src w0 v g n w) (hn : n ≤ 700000000) (items : Int) (hi1 : 0 ≤ items) (hi2 : items ≤ 1000) :
    Calls Try.prog 142 #[.pointer (some ⟨g, 0, none⟩), .int .i64 items] w fun e w' => ∃ (a b c : Int), e = .returned (.agg #[.int .i64 a, .int .i64 b, .int .i64 c]) ∧ Src w0 v g (n + 20) w' ∧ w.grownBy w' (some g) := by
  have hgB : g < w.heap.size := h.1
  have R_r0 := rec_new w w.heap.size 76 [.int .i64 0, .int .i64 0, .int .i64 0] (Nat.le_refl _)
  have S := hd (h.more (.cells #[.int .i64 0, .int .i64 0, .int .i64 0] 76))
  have G := hd (grow_alloc (World.grownBy.refl w (some g)) (.cells #[.int .i64 0, .int .i64 0, .int .i64 0] 76))
  have R_r := hd R_r0
  have hE_r : g < w.heap.size := hgB
  clear h R_r0
  go_enter Try.func142, Try.ntmps142
  go_wp2_with fail
  generalize w.alloc (.cells #[.int .i64 0, .int .i64 0, .int .i64 0] 76) = W0 at S G R_r ⊢
  refine (max_spec _ _ _).mono ?_
  rintro e wz ⟨rfl, hw⟩
  have hw := hw.symm
  subst hw
  have hmx : 1 ≤ max 1 items ∧ max 1 items ≤ 1000 := by omega
  generalize max 1 items = mx at hmx ⊢
  obtain ⟨hmx1, hmx2⟩ := hmx
  go_wp2_with fail
  refine (pick_src w0 v l hS hl _ g _ S.out (by omega) mx (by omega)).mono ?_
  rintro e w1 ⟨a, ⟨a_1, a_2⟩, rfl, S', G'⟩
  replace R_r := hd (R_r.out.keep G' (some_ne hE_r))
  replace G := hd (grownBy_trans G.out G')
  replace S := hd S'
  clear S' G'
  go_wp2_with fail
  refine (pick_src w0 v l hS hl _ g _ S.out (by omega) 40 (by omega)).mono ?_
  rintro e w2 ⟨b, ⟨b_1, b_2⟩, rfl, S', G'⟩
  replace R_r := hd (R_r.out.keep G' (some_ne hE_r))
  replace G := hd (grownBy_trans G.out G')
  replace S := hd S'
  clear S' G'
  have hwr := R_r.out.lt.2
  have hsz := G.out.size
  have R_x0 := rec_new w2 w.heap.size 76 [.int .i64 a, .int .i64 b, .int .i64 0] hsz
  have hE_x : g < w2.heap.size := S.out.1
  replace R_r := hd (R_r.out.alloc (.cells #[.int .i64 a, .int .i64 b, .int .i64 0] 76))
  replace G := hd (grow_alloc G.out (.cells #[.int .i64 a, .int .i64 b, .int .i64 0] 76))
  replace S := hd (S.out.more (.cells #[.int .i64 a, .int .i64 b, .int .i64 0] 76))
  have R_x := hd R_x0
  clear R_x0
  have HRX : w.heap.size ≠ w2.heap.size := by omega
  have hwE : w.heap.size ≤ w2.heap.size := hsz
  have hz1 : (w2.alloc (.cells #[.int .i64 a, .int .i64 b, .int .i64 0] 76)).heap.size = w2.heap.size + 1 := by simp
  go_upto_region 2 with fail
  generalize hW3 : w2.alloc (.cells #[.int .i64 a, .int .i64 b, .int .i64 0] 76) = W3 at S G R_r R_x ⊢
  generalize w2.heap.size = E at hE_x HRX hwE R_x ⊢
  clear hW3 hz1 hsz hwr
  have SD := hd S.out.drew
  have c1 := R_x.out.cell 1 _ rfl
  have XD := hd (fun W' (hg : W3.drew.grownBy W' (some g)) => (R_x.out.keep (row := some g) ⟨hg.os, hg.tape, hg.output, hg.size, hg.block⟩ (some_ne hE_x) : Rec W' _ _ _ _))
  have RD := hd (fun W' (hg : W3.drew.grownBy W' (some g)) => (R_r.out.keep (row := some g) ⟨hg.os, hg.tape, hg.output, hg.size, hg.block⟩ (some_ne hE_r) : Rec W' _ _ _ _))
  have GD := hd (fun W' (hg : W3.drew.grownBy W' (some g)) => (grownBy_trans G.out ⟨hg.os, hg.tape, hg.output, hg.size, hg.block⟩ : w.grownBy W' (some g)))
  have hp1 : IntKind.i64.wrap (b + 1) = b + 1 := IntWalk.i64_in _ (by omega)
  go_region_with (go_at_call 62; refine (pick_src w0 v l hS hl _ g _ SD.out (by omega) 12 (by omega)).mono ?_; rintro e w11 ⟨x, ⟨x1, x2⟩, rfl, S', G'⟩; have c19 := (XD.out _ G').cell 1 _ rfl; have c29 := (XD.out _ G').cell 2 _ rfl; have f29 := (XD.out _ G').free 2)
  all_goals (have Xn := hd ((XD.out _ G').set 2 (.int .i64 (IntKind.i64.wrap (b + 1 + x)))); have Rn := hd ((RD.out _ G').other 2 (.int .i64 (IntKind.i64.wrap (b + 1 + x))) HRX); have Sn := hd (S'.put hE_x 2 (.int .i64 (IntKind.i64.wrap (b + 1 + x)))); have Gn := hd (grow_new (GD.out _ G') hwE 2 (.int .i64 (IntKind.i64.wrap (b + 1 + x)))); clear S G R_r R_x SD XD RD GD c1 c19 c29 f29 S' G' hp1; generalize IntKind.i64.wrap (b + 1 + x) = z at Xn Rn Sn Gn ⊢; have R_x := Xn; have R_r := Rn; have S := Sn; have G := Gn; clear Xn Rn Sn Gn)
  all_goals (go_upto_region 3 with fail)
  all_goals (generalize w11.setCell ⟨E, 2, none⟩ (.int .i64 z) = W12 at R_x R_r S G ⊢)
  · skip
    have c0 := R_x.out.cell 0 _ rfl
    have c1 := R_x.out.cell 1 _ rfl
    have c2 := R_x.out.cell 2 _ rfl
    have r0 := R_r.out.cell 0 _ rfl
    have r1 := R_r.out.cell 1 _ rfl
    have r2 := R_r.out.cell 2 _ rfl
    have q0 := R_r.out.free 0
    have q1 := R_r.out.free 1
    have q2 := R_r.out.free 2
    go_wp2_with fail
    have Z := ((R_r.out.set 0 (.int .i64 a)).set 1 (.int .i64 b)).set 2 (.int .i64 z)
    have SZ := ((S.out.put hE_r 0 (.int .i64 a)).put hE_r 1 (.int .i64 b)).put hE_r 2 (.int .i64 z)
    have GZ := grow_new (grow_new (grow_new G.out (Nat.le_refl _) 0 (.int .i64 a)) (Nat.le_refl _) 1 (.int .i64 b)) (Nat.le_refl _) 2 (.int .i64 z)
    generalize (((W12.setCell ⟨w.heap.size, 0, none⟩ (.int .i64 a)).setCell ⟨w.heap.size, 1, none⟩ (.int .i64 b)).setCell ⟨w.heap.size, 2, none⟩ (.int .i64 z)) = WZ at Z SZ GZ ⊢
    refine bodyPost_ret (v := .agg #[.int .i64 a, .int .i64 b, .int .i64 z]) ?_ rfl ?_
    · refine (results_one Try.results142 _ _ _).trans ?_
      exact load_hire WZ _ 0 _ _ _ (Z.cell 0 _ rfl) (Z.cell 1 _ rfl) (Z.cell 2 _ rfl)
    · exact ⟨_, _, _, rfl, SZ.le (by omega), GZ⟩
  · skip
    have c0 := R_x.out.cell 0 _ rfl
    have c1 := R_x.out.cell 1 _ rfl
    have c2 := R_x.out.cell 2 _ rfl
    have r0 := R_r.out.cell 0 _ rfl
    have r1 := R_r.out.cell 1 _ rfl
    have r2 := R_r.out.cell 2 _ rfl
    have q0 := R_r.out.free 0
    have q1 := R_r.out.free 1
    have q2 := R_r.out.free 2
    go_wp2_with fail
    have Z := ((R_r.out.set 0 (.int .i64 a)).set 1 (.int .i64 b)).set 2 (.int .i64 z)
    have SZ := ((S.out.put hE_r 0 (.int .i64 a)).put hE_r 1 (.int .i64 b)).put hE_r 2 (.int .i64 z)
    have GZ := grow_new (grow_new (grow_new G.out (Nat.le_refl _) 0 (.int .i64 a)) (Nat.le_refl _) 1 (.int .i64 b)) (Nat.le_refl _) 2 (.int .i64 z)
    generalize (((W12.setCell ⟨w.heap.size, 0, none⟩ (.int .i64 a)).setCell ⟨w.heap.size, 1, none⟩ (.int .i64 b)).setCell ⟨w.heap.size, 2, none⟩ (.int .i64 z)) = WZ at Z SZ GZ ⊢
    refine bodyPost_ret (v := .agg #[.int .i64 a, .int .i64 b, .int .i64 z]) ?_ rfl ?_
    · refine (results_one Try.results142 _ _ _).trans ?_
      exact load_hire WZ _ 0 _ _ _ (Z.cell 0 _ rfl) (Z.cell 1 _ rfl) (Z.cell 2 _ rfl)
    · exact ⟨_, _, _, rfl, SZ.le (by omega), GZ⟩
set_option maxRecDepth 100000 in
set_option maxHeartbeats 8000000 in
theorem spoil_hire (w0 : World) (v : Value) (l : List UInt8) (hS : Sl w0 1 v eU l) (hl : l.length ≤ 1048576) (w : World) (g n : Nat) (h : Src w0 v g n w) (hn : n ≤ 700000000) (items : Int) (hi1 : 0 ≤ items) (hi2 : items ≤ 1000) (p q : Nat) (hp : p < w.heap.size) (hpg : p ≠ g) (a b c : Int) (p0 : w.cell? ⟨p, q, none⟩ = some (.int .i64 a)) (p1 : w.cell? ⟨p, q + 1, none⟩ = some (.int .i64 b)) (p2 : w.cell? ⟨p, q + 2, none⟩ = some (.int .i64 c)) (hf : ∀ j, w.frozen? ⟨p, j, none⟩ = false) :
    Calls Try.prog 143 #[.pointer (some ⟨g, 0, none⟩), .pointer (some ⟨p, q, none⟩), .int .i64 items] w fun e w' => e = .returned (.tuple #[]) ∧ ∃ (W1 : World) (f : Nat) (u : Int), f < 3 ∧ Src w0 v g (n + 20) W1 ∧ w.grownBy W1 (some g) ∧ w' = W1.setCell ⟨p, q + f, none⟩ (.int .i64 u) := by
  have hgB : g < w.heap.size := h.1
  have CK := hd (fun W' (hg : w.grownBy W' (some g)) => (show (W'.cell? ⟨p, q, none⟩ = some (.int .i64 a) ∧ W'.cell? ⟨p, q + 1, none⟩ = some (.int .i64 b) ∧ W'.cell? ⟨p, q + 2, none⟩ = some (.int .i64 c)) ∧ ∀ j, W'.frozen? ⟨p, j, none⟩ = false from by
    have hb := hg.block p hp (fun e => hpg (by injection e))
    exact ⟨⟨(World.cell?_of_block (a := ⟨p, q, none⟩) hb).trans p0, (World.cell?_of_block (a := ⟨p, q + 1, none⟩) hb).trans p1, (World.cell?_of_block (a := ⟨p, q + 2, none⟩) hb).trans p2⟩, fun j => (World.frozen?_of_block (a := ⟨p, j, none⟩) hb).trans (hf j)⟩))
  have S := hd h
  have G := hd (World.grownBy.refl w (some g))
  clear h p0 p1 p2 hf
  go_enter Try.func143, Try.ntmps143
  go_wp2_with fail
  refine (pick_src w0 v l hS hl _ g _ S.out (by omega) 3 (by omega)).mono ?_
  rintro e w1 ⟨z, ⟨z_1, z_2⟩, rfl, S', G'⟩
  replace G := hd (grownBy_trans G.out G')
  replace S := hd S'
  clear S' G'
  by_cases y0z : z = 0
  · skip
    have e0 : (z == 0) = true := by simpa using y0z
    clear y0z
    have L := hd (list_stays (W := w1) (g := g) S.out.1 2 ([-1, 0, items - 1, items] : List Int) (by simp))
    replace G := hd (grow_alloc G.out (.cells (([-1, 0, items - 1, items] : List Int).map (Value.int .i64)).toArray 2))
    replace S := hd (S.out.more (.cells (([-1, 0, items - 1, items] : List Int).map (Value.int .i64)).toArray 2))
    go_wp2_with fail
    refine (among_src w0 v l hS hl _ g _ S.out (by omega) _ ([-1, 0, items - 1, items] : List Int) L.out (by simp) (by simp)).mono ?_
    rintro e w2 ⟨u, hm, rfl, S', G'⟩
    clear hm
    clear L
    replace G := hd (grownBy_trans G.out G')
    replace S := hd S'
    clear S' G'
    obtain ⟨⟨b0, b1, b2⟩, bf⟩ := CK.out _ G.out
    have bf := bf (q + 0)
    rw [Nat.add_zero] at bf
    go_wp2_with fail
    go_end0
    exact ⟨rfl, _, 0, u, by omega, S.out.le (by omega), G.out, rfl⟩
  have e0 : (z == 0) = false := by simpa using y0z
  by_cases y1z : z = 1
  · skip
    have e1 : (z == 1) = true := by simpa using y1z
    clear y1z
    have L := hd (list_stays (W := w1) (g := g) S.out.1 2 ([-1, 0, 10000, 10001, -9223372036854775808] : List Int) (by simp))
    replace G := hd (grow_alloc G.out (.cells (([-1, 0, 10000, 10001, -9223372036854775808] : List Int).map (Value.int .i64)).toArray 2))
    replace S := hd (S.out.more (.cells (([-1, 0, 10000, 10001, -9223372036854775808] : List Int).map (Value.int .i64)).toArray 2))
    go_wp2_with fail
    refine (among_src w0 v l hS hl _ g _ S.out (by omega) _ ([-1, 0, 10000, 10001, -9223372036854775808] : List Int) L.out (by simp) (by simp)).mono ?_
    rintro e w3 ⟨u, hm, rfl, S', G'⟩
    clear hm
    clear L
    replace G := hd (grownBy_trans G.out G')
    replace S := hd S'
    clear S' G'
    obtain ⟨⟨b0, b1, b2⟩, bf⟩ := CK.out _ G.out
    have bf := bf (q + 1)
    go_wp2_with fail
    go_end0
    exact ⟨rfl, _, 1, u, by omega, S.out.le (by omega), G.out, rfl⟩
  have e1 : (z == 1) = false := by simpa using y1z
  have e2 : (z == 2) = true := by simp; omega
  obtain ⟨⟨-, b1, -⟩, -⟩ := CK.out _ G.out
  have L := hd (list_stays (W := w1) (g := g) S.out.1 2 ([-1, b, 10001] : List Int) (by simp))
  replace G := hd (grow_alloc G.out (.cells (([-1, b, 10001] : List Int).map (Value.int .i64)).toArray 2))
  replace S := hd (S.out.more (.cells (([-1, b, 10001] : List Int).map (Value.int .i64)).toArray 2))
  go_wp2_with fail
  refine (among_src w0 v l hS hl _ g _ S.out (by omega) _ ([-1, b, 10001] : List Int) L.out (by simp) (by simp)).mono ?_
  rintro e w4 ⟨u, hm, rfl, S', G'⟩
  clear hm
  clear L
  replace G := hd (grownBy_trans G.out G')
  replace S := hd S'
  clear S' G'
  clear b1
  obtain ⟨⟨b0, b1, b2⟩, bf⟩ := CK.out _ G.out
  have bf := bf (q + 2)
  go_wp2_with fail
  go_end0
  exact ⟨rfl, _, 2, u, by omega, S.out.le (by omega), G.out, rfl⟩
set_option maxRecDepth 100000 in
set_option maxHeartbeats 8000000 in
theorem draw_hires (w0 : World) (v : Value) (l : List UInt8) (hS : Sl w0 1 v eU l) (hl : l.length ≤ 1048576) (w : World) (g n : Nat) (h : Src w0 v g n w) (hn : n ≤ 600000000) :
    Calls Try.prog 106 #[.pointer (some ⟨g, 0, none⟩)] w fun e w' => ∃ (SL : List Int) (L : List THire) (u1 u2 : Value), e = .returned (.tuple #[u1, u2]) ∧ Own w' w.heap.size 2 1 u1 eI SL ∧ Own w' w.heap.size 76 3 u2 eHire L ∧ SL.length ≤ 21 ∧ L.length ≤ 41 ∧ Src w0 v g (n + 2000) w' ∧ w.grownBy w' (some g) := by
  have hgB : g < w.heap.size := h.1
  obtain ⟨iI64, hiI64, hz0I64, hz1I64, hz2I64⟩ := info_parts info_i64
  obtain ⟨iHire, hiHire, hz0Hire, hz1Hire, hz2Hire⟩ := info_parts info_Hire
  have S := hd h
  clear h
  have G := hd (World.grownBy.refl w (some g))
  go_enter Try.func106, Try.ntmps106
  have O_st0 := Own.made0 w w.heap.size 2 1 eI G.out.size
  replace G := hd (grow_alloc G.out (.cells #[] 2))
  replace S := hd (S.out.more (.cells #[] 2))
  have O_st := hd O_st0
  clear O_st0
  go_wp2_with fail
  refine (pick_src w0 v l hS hl _ g _ S.out (by omega) 3 (by omega)).mono ?_
  rintro e w1 ⟨q, ⟨q_1, q_2⟩, rfl, S', G'⟩
  replace O_st := hd (O_st.out.src2 hgB G')
  replace G := hd (grownBy_trans G.out G')
  replace S := hd S'
  clear S' G'
  go_wp2_with fail
  go_loopw [4, 5] (fun ov kv wr => ∃ (k : Int) (L : List Int) (o : Value), o = ov ∧ kv = .int .i64 k ∧ 0 ≤ k ∧ (L.length : Int) + k = 1 + q ∧ Own wr w.heap.size 2 1 o eI L ∧ Src w0 v g (n + 100 + 10 * L.length) wr ∧ w.grownBy wr (some g)) (fun _ kv _ => (intOf kv).toNat)
  case atStart => exact ⟨1 + q, [], _, rfl, rfl, by omega, by simp, O_st.out, S.out.le (by omega), G.out⟩
  case round =>
    obtain ⟨k, SL, sv, rfl, rfl, hk0, hkl, O2, S2, G2⟩ := hrel
    clear O_st S G
    have O_st := hd O2
    have S := hd S2
    have G := hd G2
    clear O2 S2 G2
    have hS4 : SL.length ≤ 4 := by omega
    by_cases hlt : 0 < k
    · skip
      go_wp2_with fail
      refine (pick_src w0 v l hS hl _ g _ S.out (by omega) 4 (by omega)).mono ?_
      rintro e w2 ⟨x, ⟨x_1, x_2⟩, rfl, S', G'⟩
      replace O_st := hd (O_st.out.src2 hgB G')
      replace G := hd (grownBy_trans G.out G')
      replace S := hd S'
      clear S' G'
      have hsz := G.out.size
      go_wp2_with (at_builtin; refine wpList_push2 _ rfl _ _ 25 rfl iI64 (.int .i64 0) 8 Try.underlying25 hiI64 hz0I64 hz1I64 hz2I64 rfl (by decide) _ _ (x : Int) rfl (O_st.out.alloc _) w2.heap.size rfl #[.int .i64 x] 2 (heap_alloc_new _ _) rfl rfl (by intro u hu; simp [eI] at hu; subst hu; rfl) (by unfold maxLen; omega) (by omega) (by simp; omega) ?_)
      intro v' w3 O' hg' ho'
      have E' := ((Below.refl w.heap.size w2).alloc hsz (.cells #[.int .i64 x] 2)).grown hg' (by simp; omega) (fun b hb => (O_st.out.lt b hb).1)
      replace O_st := hd O'
      replace S := hd (S.out.below2 hgB E')
      replace G := hd (grow_below G.out E')
      clear hg' ho' E' hsz O'
      go_wp2_with fail
      go_roundw
      case rel => exact ⟨k - 1, SL ++ [x], _, rfl, by go_num, by omega, by simp; omega, O_st.out, S.out.le (by simp; omega), G.out⟩
      case measure => simp [intOf]; omega
    obtain rfl : k = 0 := by omega
    have hS1 : 0 < SL.length := by omega
    obtain ⟨wo, hwo⟩ : ∃ wo : World, wo = wr := ⟨_, rfl⟩
    subst hwo
    rcases O_st.out.form with ⟨-, hnil⟩ | ⟨gs, caps, hsv, hgs1, hgs2, hgs3, hgs4⟩
    · rw [hnil] at hS1; exact absurd hS1 (by decide)
    subst hsv
    have hgN : g < wo.heap.size := S.out.1
    have hBN : w.heap.size ≤ wo.heap.size := G.out.size
    have O_ls := hd (Own.made0 wo wo.heap.size 76 3 eHire (Nat.le_refl _))
    have hz0 : wo.heap.size ≤ wo.heap.size := Nat.le_refl _
    replace O_st := hd (O_st.out.alloc (.cells #[] 76))
    replace hz0 := Nat.le_trans hz0 (le_alloc wo (.cells #[] 76))
    replace G := hd (grow_alloc G.out (.cells #[] 76))
    replace S := hd (S.out.more (.cells #[] 76))
    go_wp2_with fail
    refine (pick_src w0 v l hS hl _ g _ S.out (by omega) 9 (by omega)).mono ?_
    rintro e w4 ⟨n0, ⟨n0_1, n0_2⟩, rfl, S', G'⟩
    replace O_st := hd (O_st.out.src2 hgB G')
    replace O_ls := hd (O_ls.out.src2 hgN G')
    replace hz0 := Nat.le_trans hz0 G'.size
    replace G := hd (grownBy_trans G.out G')
    replace S := hd S'
    clear S' G'
    have hz_N : wo.heap.size ≤ w4.heap.size := hz0
    obtain ⟨N, hN⟩ : ∃ N, N = wo.heap.size := ⟨_, rfl⟩
    have hgsN : gs < N := by omega
    rw [← hN] at hgN hBN O_ls hz_N ⊢
    clear hN hz0
    go_wp2_with fail
    refine (one_src w0 v l hS hl _ g _ S.out (by omega) 20 (by omega)).mono ?_
    rintro e w5 ⟨y, rfl, S', G'⟩
    replace O_st := hd (O_st.out.src2 hgB G')
    replace O_ls := hd (O_ls.out.src2 hgN G')
    replace hz_N := Nat.le_trans hz_N G'.size
    replace G := hd (grownBy_trans G.out G')
    replace S := hd S'
    clear S' G'
    rcases y with _ | _
    · skip
      go_wp2_with fail
      go_loopw [6, 8] (fun ov kv wr => ∃ (k : Int) (L : List THire) (o : Value), o = ov ∧ kv = .int .i64 k ∧ 0 ≤ k ∧ (L.length : Int) + k = n0 ∧ Own wr N 76 3 o eHire L ∧ Own wr w.heap.size 2 1 (.slice (some ⟨gs, 0, none⟩) SL.length caps) eI SL ∧ Src w0 v g (n + 200 + 30 * L.length) wr ∧ w.grownBy wr (some g) ∧ N ≤ wr.heap.size) (fun _ kv _ => (intOf kv).toNat)
      case atStart => exact ⟨n0, [], _, rfl, rfl, by omega, by simp, O_ls.out, O_st.out, S.out.le (by omega), G.out, hz_N⟩
      case round =>
        obtain ⟨k, L, lv, rfl, rfl, hk0, hkl, O2, O3, S2, G2, hz2⟩ := hrel
        clear O_st O_ls S G hz_N
        have hz_N := hz2
        clear hz2
        have O_ls := hd O2
        have O_st := hd O3
        have S := hd S2
        have G := hd G2
        clear O2 O3 S2 G2
        have hL41 : L.length ≤ 41 := by omega
        by_cases hlt : 0 < k
        · skip
          go_wp2_with fail
          refine (new_hire w0 v l hS hl _ g _ S.out (by omega) (SL.length : Int) (by omega) (by omega)).mono ?_
          rintro e w6 ⟨ha, hb, hc, rfl, S', G'⟩
          replace O_st := hd (O_st.out.src2 hgB G')
          replace O_ls := hd (O_ls.out.src2 hgN G')
          replace hz_N := Nat.le_trans hz_N G'.size
          replace G := hd (grownBy_trans G.out G')
          replace S := hd S'
          clear S' G'
          go_wp2_with (at_builtin; refine wpList_push2 _ rfl _ _ 64 rfl iHire (.agg #[.int .i64 0, .int .i64 0, .int .i64 0]) 24 Try.underlying64 hiHire hz0Hire hz1Hire hz2Hire rfl (by decide) _ _ ((ha, hb, hc) : THire) rfl (O_ls.out.alloc _) w6.heap.size rfl #[.int .i64 ha, .int .i64 hb, .int .i64 hc] 76 (heap_alloc_new _ _) rfl rfl (by intro u hu; simp [eHire] at hu; rcases hu with rfl | rfl | rfl <;> rfl) (by unfold maxLen; omega) (by omega) (by simp; omega) ?_)
          intro v' w21 O' hg' ho'
          have E' := ((Below.refl N w6).alloc hz_N (.cells #[.int .i64 ha, .int .i64 hb, .int .i64 hc] 76)).grown hg' (by simp; omega) (fun b hb => (O_ls.out.lt b hb).1)
          replace O_st := hd ((O_st.out.alloc (.cells #[.int .i64 ha, .int .i64 hb, .int .i64 hc] 76)).grown hg' (by show some gs = none ∨ some gs ≠ _; exact .inr (fun e => by have := (O_ls.out.lt gs e.symm).1; omega)))
          replace O_ls := hd O'
          replace S := hd (S.out.below2 hgN E')
          replace G := hd (grow_below G.out (E'.mono hBN))
          replace hz_N := Nat.le_trans hz_N E'.size
          clear hg' ho' E' O' 
          go_wp2_with fail
          go_roundw
          case rel => exact ⟨k - 1, L ++ [(ha, hb, hc)], _, rfl, by go_num, by omega, by simp; omega, O_ls.out, O_st.out, S.out.le (by simp; omega), G.out, hz_N⟩
          case measure => simp [intOf]; omega
        obtain rfl : k = 0 := by omega
        by_cases hnp : (0 : Int) < n0
        case neg =>
          go_wp2_with fail
          refine (pick_src w0 v l hS hl _ g _ S.out (by omega) 24 (by omega)).mono ?_
          rintro e w7 ⟨z, ⟨z_1, z_2⟩, rfl, S', G'⟩
          replace O_st := hd (O_st.out.src2 hgB G')
          replace O_ls := hd (O_ls.out.src2 hgN G')
          replace hz_N := Nat.le_trans hz_N G'.size
          replace G := hd (grownBy_trans G.out G')
          replace S := hd S'
          clear S' G'
          by_cases z0 : z = 0
          · skip
            have e0 : (z == 0) = true := by simpa using z0
            clear z0
            have L := hd (list_stays (W := w7) (g := g) S.out.1 2 ([-1, 0, 100, 101, -9223372036854775808] : List Int) (by simp))
            replace O_st := hd (O_st.out.alloc (.cells (([-1, 0, 100, 101, -9223372036854775808] : List Int).map (Value.int .i64)).toArray 2))
            replace O_ls := hd (O_ls.out.alloc (.cells (([-1, 0, 100, 101, -9223372036854775808] : List Int).map (Value.int .i64)).toArray 2))
            replace hz_N := Nat.le_trans hz_N (le_alloc w7 (.cells (([-1, 0, 100, 101, -9223372036854775808] : List Int).map (Value.int .i64)).toArray 2))
            replace G := hd (grow_alloc G.out (.cells (([-1, 0, 100, 101, -9223372036854775808] : List Int).map (Value.int .i64)).toArray 2))
            replace S := hd (S.out.more (.cells (([-1, 0, 100, 101, -9223372036854775808] : List Int).map (Value.int .i64)).toArray 2))
            go_wp2_with fail
            refine (among_src w0 v l hS hl _ g _ S.out (by omega) _ ([-1, 0, 100, 101, -9223372036854775808] : List Int) L.out (by simp) (by simp)).mono ?_
            rintro e w8 ⟨u, hm, rfl, S', G'⟩
            clear hm
            clear L
            replace O_st := hd (O_st.out.src2 hgB G')
            replace O_ls := hd (O_ls.out.src2 hgN G')
            replace hz_N := Nat.le_trans hz_N G'.size
            replace G := hd (grownBy_trans G.out G')
            replace S := hd S'
            clear S' G'
            obtain ⟨fc, ff⟩ := O_st.out.cell1 0 hS1
            have On := hd (O_st.out.set1 0 u)
            have Ln := hd (O_ls.out.grown (grow_set w8 ⟨gs, 0, none⟩ (.int .i64 u)) (apart_lo O_ls.out hgsN))
            have Sn := hd (S.out.put (show g < gs by omega) 0 (.int .i64 u))
            have Gn := hd (grow_new G.out hgs1 0 (.int .i64 u))
            clear O_st O_ls S G
            have O_st := On
            have O_ls := Ln
            have S := Sn
            have G := Gn
            clear On Ln Sn Gn
            obtain ⟨Al, cl, hAl⟩ := O_ls.out.isSlice
            first | subst hAl | clear hAl
            go_wp2_with fail
            go_ret2
            first | exact ⟨(SL.set 0 u), L, _, _, rfl, O_st.out, O_ls.out.base hBN, (by first | omega | (simp; done) | (simp; omega)), (by first | omega | (simp; done) | (simp; omega)), S.out.le (by first | omega | (simp; omega)), G.out⟩ | exact ⟨(SL.set 0 u), L, rfl, O_st.out, O_ls.out.base hBN, (by first | omega | (simp; done) | (simp; omega)), (by first | omega | (simp; done) | (simp; omega)), S.out.le (by first | omega | (simp; omega)), G.out⟩ | exact ⟨(SL.set 0 u), L, _, rfl, O_st.out, O_ls.out.base hBN, (by first | omega | (simp; done) | (simp; omega)), (by first | omega | (simp; done) | (simp; omega)), S.out.le (by first | omega | (simp; omega)), G.out⟩
          have e0 : (z == 0) = false := by simpa using z0
          clear z0
          by_cases z1 : z = 1
          · skip
            have e1 : (z == 1) = true := by simpa using z1
            clear z1
            have L := hd (list_stays (W := w7) (g := g) S.out.1 2 ([0, 20, 21] : List Int) (by simp))
            replace O_st := hd (O_st.out.alloc (.cells (([0, 20, 21] : List Int).map (Value.int .i64)).toArray 2))
            replace O_ls := hd (O_ls.out.alloc (.cells (([0, 20, 21] : List Int).map (Value.int .i64)).toArray 2))
            replace hz_N := Nat.le_trans hz_N (le_alloc w7 (.cells (([0, 20, 21] : List Int).map (Value.int .i64)).toArray 2))
            replace G := hd (grow_alloc G.out (.cells (([0, 20, 21] : List Int).map (Value.int .i64)).toArray 2))
            replace S := hd (S.out.more (.cells (([0, 20, 21] : List Int).map (Value.int .i64)).toArray 2))
            go_wp2_with fail
            refine (among_src w0 v l hS hl _ g _ S.out (by omega) _ ([0, 20, 21] : List Int) L.out (by simp) (by simp)).mono ?_
            rintro e w9 ⟨u, hm, rfl, S', G'⟩
            have u_b : -9223372036854775808 ≤ u ∧ u ≤ 9223372036854775807 := by simp only [List.mem_cons, List.not_mem_nil, or_false] at hm; omega
            obtain ⟨u_1, u_2⟩ := u_b
            clear L
            replace O_st := hd (O_st.out.src2 hgB G')
            replace O_ls := hd (O_ls.out.src2 hgN G')
            replace hz_N := Nat.le_trans hz_N G'.size
            replace G := hd (grownBy_trans G.out G')
            replace S := hd S'
            clear S' G'
            have hm2 : 0 ≤ u ∧ u ≤ 21 := by simp only [List.mem_cons, List.not_mem_nil, or_false] at hm; omega
            clear hm
            obtain ⟨m, rfl⟩ : ∃ m : Nat, u = (m : Int) := ⟨u.toNat, by omega⟩
            have hm3 : m ≤ 21 := by omega
            have hsz := G.out.size
            go_wp2_with (at_make; refine wpList_make_full _ rfl _ _ 25 rfl w.heap.size 2 iI64 (.int .i64 0) 1 Try.underlying25 hiI64 hz0I64 hz1I64 .i64 .i64 _ _ m rfl rfl rfl rfl (by rw [hz2I64]; omega) (by unfold maxLen; omega) hsz ?_)
            intro w31 hown hgr
            replace O_st := hd (made_ints _ _ _ _ _ hown)
            replace O_ls := hd (O_ls.out.grown hgr (Classical.em _))
            replace S := hd (S.out.below2 hgB (below_of_grown hgr hsz (by simp)))
            replace G := hd (grow_below G.out (below_of_grown hgr hsz (by simp)))
            clear hown hgr hsz
            obtain ⟨Al, cl, hAl⟩ := O_ls.out.isSlice
            first | subst hAl | clear hAl
            go_wp2_with fail
            go_ret2
            first | exact ⟨(List.replicate m 0), L, _, _, rfl, O_st.out, O_ls.out.base hBN, (by first | omega | (simp; done) | (simp; omega)), (by first | omega | (simp; done) | (simp; omega)), S.out.le (by first | omega | (simp; omega)), G.out⟩ | exact ⟨(List.replicate m 0), L, rfl, O_st.out, O_ls.out.base hBN, (by first | omega | (simp; done) | (simp; omega)), (by first | omega | (simp; done) | (simp; omega)), S.out.le (by first | omega | (simp; omega)), G.out⟩ | exact ⟨(List.replicate m 0), L, _, rfl, O_st.out, O_ls.out.base hBN, (by first | omega | (simp; done) | (simp; omega)), (by first | omega | (simp; done) | (simp; omega)), S.out.le (by first | omega | (simp; omega)), G.out⟩
          have e1 : (z == 1) = false := by simpa using z1
          clear z1
          obtain ⟨Al, cl, hAl⟩ := O_ls.out.isSlice
          first | subst hAl | clear hAl
          go_wp2_with fail
          go_ret2
          first | exact ⟨SL, L, _, _, rfl, O_st.out, O_ls.out.base hBN, (by first | omega | (simp; done) | (simp; omega)), (by first | omega | (simp; done) | (simp; omega)), S.out.le (by first | omega | (simp; omega)), G.out⟩ | exact ⟨SL, L, rfl, O_st.out, O_ls.out.base hBN, (by first | omega | (simp; done) | (simp; omega)), (by first | omega | (simp; done) | (simp; omega)), S.out.le (by first | omega | (simp; omega)), G.out⟩ | exact ⟨SL, L, _, rfl, O_st.out, O_ls.out.base hBN, (by first | omega | (simp; done) | (simp; omega)), (by first | omega | (simp; done) | (simp; omega)), S.out.le (by first | omega | (simp; omega)), G.out⟩
        have hL0 : 0 < L.length := by omega
        rcases O_ls.out.form with ⟨-, hnil⟩ | ⟨gl, cap, hv5, hg1, hg2, hg3, hg4⟩
        · rw [hnil] at hL0; exact absurd hL0 (by decide)
        subst hv5
        go_wp2_with fail
        refine (one_src w0 v l hS hl _ g _ S.out (by omega) 10 (by omega)).mono ?_
        rintro e w10 ⟨yb, rfl, S', G'⟩
        replace O_st := hd (O_st.out.src2 hgB G')
        replace O_ls := hd (O_ls.out.src2 hgN G')
        replace hz_N := Nat.le_trans hz_N G'.size
        replace G := hd (grownBy_trans G.out G')
        replace S := hd S'
        clear S' G'
        rcases yb with _ | _
        · skip
          go_wp2_with fail
          refine (pick_src w0 v l hS hl _ g _ S.out (by omega) 24 (by omega)).mono ?_
          rintro e w11 ⟨z, ⟨z_1, z_2⟩, rfl, S', G'⟩
          replace O_st := hd (O_st.out.src2 hgB G')
          replace O_ls := hd (O_ls.out.src2 hgN G')
          replace hz_N := Nat.le_trans hz_N G'.size
          replace G := hd (grownBy_trans G.out G')
          replace S := hd S'
          clear S' G'
          by_cases z0 : z = 0
          · skip
            have e0 : (z == 0) = true := by simpa using z0
            clear z0
            have L := hd (list_stays (W := w11) (g := g) S.out.1 2 ([-1, 0, 100, 101, -9223372036854775808] : List Int) (by simp))
            replace O_st := hd (O_st.out.alloc (.cells (([-1, 0, 100, 101, -9223372036854775808] : List Int).map (Value.int .i64)).toArray 2))
            replace O_ls := hd (O_ls.out.alloc (.cells (([-1, 0, 100, 101, -9223372036854775808] : List Int).map (Value.int .i64)).toArray 2))
            replace hz_N := Nat.le_trans hz_N (le_alloc w11 (.cells (([-1, 0, 100, 101, -9223372036854775808] : List Int).map (Value.int .i64)).toArray 2))
            replace G := hd (grow_alloc G.out (.cells (([-1, 0, 100, 101, -9223372036854775808] : List Int).map (Value.int .i64)).toArray 2))
            replace S := hd (S.out.more (.cells (([-1, 0, 100, 101, -9223372036854775808] : List Int).map (Value.int .i64)).toArray 2))
            go_wp2_with fail
            refine (among_src w0 v l hS hl _ g _ S.out (by omega) _ ([-1, 0, 100, 101, -9223372036854775808] : List Int) L.out (by simp) (by simp)).mono ?_
            rintro e w12 ⟨u, hm, rfl, S', G'⟩
            clear hm
            clear L
            replace O_st := hd (O_st.out.src2 hgB G')
            replace O_ls := hd (O_ls.out.src2 hgN G')
            replace hz_N := Nat.le_trans hz_N G'.size
            replace G := hd (grownBy_trans G.out G')
            replace S := hd S'
            clear S' G'
            obtain ⟨fc, ff⟩ := O_st.out.cell1 0 hS1
            have On := hd (O_st.out.set1 0 u)
            have Ln := hd (O_ls.out.grown (grow_set w12 ⟨gs, 0, none⟩ (.int .i64 u)) (apart_lo O_ls.out hgsN))
            have Sn := hd (S.out.put (show g < gs by omega) 0 (.int .i64 u))
            have Gn := hd (grow_new G.out hgs1 0 (.int .i64 u))
            clear O_st O_ls S G
            have O_st := On
            have O_ls := Ln
            have S := Sn
            have G := Gn
            clear On Ln Sn Gn
            obtain ⟨Al, cl, hAl⟩ := O_ls.out.isSlice
            first | subst hAl | clear hAl
            go_wp2_with fail
            go_ret2
            first | exact ⟨(SL.set 0 u), L, _, _, rfl, O_st.out, O_ls.out.base hBN, (by first | omega | (simp; done) | (simp; omega)), (by first | omega | (simp; done) | (simp; omega)), S.out.le (by first | omega | (simp; omega)), G.out⟩ | exact ⟨(SL.set 0 u), L, rfl, O_st.out, O_ls.out.base hBN, (by first | omega | (simp; done) | (simp; omega)), (by first | omega | (simp; done) | (simp; omega)), S.out.le (by first | omega | (simp; omega)), G.out⟩ | exact ⟨(SL.set 0 u), L, _, rfl, O_st.out, O_ls.out.base hBN, (by first | omega | (simp; done) | (simp; omega)), (by first | omega | (simp; done) | (simp; omega)), S.out.le (by first | omega | (simp; omega)), G.out⟩
          have e0 : (z == 0) = false := by simpa using z0
          clear z0
          by_cases z1 : z = 1
          · skip
            have e1 : (z == 1) = true := by simpa using z1
            clear z1
            have L := hd (list_stays (W := w11) (g := g) S.out.1 2 ([0, 20, 21] : List Int) (by simp))
            replace O_st := hd (O_st.out.alloc (.cells (([0, 20, 21] : List Int).map (Value.int .i64)).toArray 2))
            replace O_ls := hd (O_ls.out.alloc (.cells (([0, 20, 21] : List Int).map (Value.int .i64)).toArray 2))
            replace hz_N := Nat.le_trans hz_N (le_alloc w11 (.cells (([0, 20, 21] : List Int).map (Value.int .i64)).toArray 2))
            replace G := hd (grow_alloc G.out (.cells (([0, 20, 21] : List Int).map (Value.int .i64)).toArray 2))
            replace S := hd (S.out.more (.cells (([0, 20, 21] : List Int).map (Value.int .i64)).toArray 2))
            go_wp2_with fail
            refine (among_src w0 v l hS hl _ g _ S.out (by omega) _ ([0, 20, 21] : List Int) L.out (by simp) (by simp)).mono ?_
            rintro e w13 ⟨u, hm, rfl, S', G'⟩
            have u_b : -9223372036854775808 ≤ u ∧ u ≤ 9223372036854775807 := by simp only [List.mem_cons, List.not_mem_nil, or_false] at hm; omega
            obtain ⟨u_1, u_2⟩ := u_b
            clear L
            replace O_st := hd (O_st.out.src2 hgB G')
            replace O_ls := hd (O_ls.out.src2 hgN G')
            replace hz_N := Nat.le_trans hz_N G'.size
            replace G := hd (grownBy_trans G.out G')
            replace S := hd S'
            clear S' G'
            have hm2 : 0 ≤ u ∧ u ≤ 21 := by simp only [List.mem_cons, List.not_mem_nil, or_false] at hm; omega
            clear hm
            obtain ⟨m, rfl⟩ : ∃ m : Nat, u = (m : Int) := ⟨u.toNat, by omega⟩
            have hm3 : m ≤ 21 := by omega
            have hsz := G.out.size
            go_wp2_with (at_make; refine wpList_make_full _ rfl _ _ 25 rfl w.heap.size 2 iI64 (.int .i64 0) 1 Try.underlying25 hiI64 hz0I64 hz1I64 .i64 .i64 _ _ m rfl rfl rfl rfl (by rw [hz2I64]; omega) (by unfold maxLen; omega) hsz ?_)
            intro w31 hown hgr
            replace O_st := hd (made_ints _ _ _ _ _ hown)
            replace O_ls := hd (O_ls.out.grown hgr (Classical.em _))
            replace S := hd (S.out.below2 hgB (below_of_grown hgr hsz (by simp)))
            replace G := hd (grow_below G.out (below_of_grown hgr hsz (by simp)))
            clear hown hgr hsz
            obtain ⟨Al, cl, hAl⟩ := O_ls.out.isSlice
            first | subst hAl | clear hAl
            go_wp2_with fail
            go_ret2
            first | exact ⟨(List.replicate m 0), L, _, _, rfl, O_st.out, O_ls.out.base hBN, (by first | omega | (simp; done) | (simp; omega)), (by first | omega | (simp; done) | (simp; omega)), S.out.le (by first | omega | (simp; omega)), G.out⟩ | exact ⟨(List.replicate m 0), L, rfl, O_st.out, O_ls.out.base hBN, (by first | omega | (simp; done) | (simp; omega)), (by first | omega | (simp; done) | (simp; omega)), S.out.le (by first | omega | (simp; omega)), G.out⟩ | exact ⟨(List.replicate m 0), L, _, rfl, O_st.out, O_ls.out.base hBN, (by first | omega | (simp; done) | (simp; omega)), (by first | omega | (simp; done) | (simp; omega)), S.out.le (by first | omega | (simp; omega)), G.out⟩
          have e1 : (z == 1) = false := by simpa using z1
          clear z1
          obtain ⟨Al, cl, hAl⟩ := O_ls.out.isSlice
          first | subst hAl | clear hAl
          go_wp2_with fail
          go_ret2
          first | exact ⟨SL, L, _, _, rfl, O_st.out, O_ls.out.base hBN, (by first | omega | (simp; done) | (simp; omega)), (by first | omega | (simp; done) | (simp; omega)), S.out.le (by first | omega | (simp; omega)), G.out⟩ | exact ⟨SL, L, rfl, O_st.out, O_ls.out.base hBN, (by first | omega | (simp; done) | (simp; omega)), (by first | omega | (simp; done) | (simp; omega)), S.out.le (by first | omega | (simp; omega)), G.out⟩ | exact ⟨SL, L, _, rfl, O_st.out, O_ls.out.base hBN, (by first | omega | (simp; done) | (simp; omega)), (by first | omega | (simp; done) | (simp; omega)), S.out.le (by first | omega | (simp; omega)), G.out⟩
        go_wp2_with fail
        refine (pick_src w0 v l hS hl _ g _ S.out (by omega) (n0) (by omega)).mono ?_
        rintro e w14 ⟨jx, ⟨jx_1, jx_2⟩, rfl, S', G'⟩
        replace O_st := hd (O_st.out.src2 hgB G')
        replace O_ls := hd (O_ls.out.src2 hgN G')
        replace hz_N := Nat.le_trans hz_N G'.size
        replace G := hd (grownBy_trans G.out G')
        replace S := hd S'
        clear S' G'
        obtain ⟨j, rfl⟩ : ∃ j : Nat, jx = (j : Int) := ⟨jx.toNat, by omega⟩
        have hj : j < L.length := by omega
        obtain ⟨x0, -⟩ := O_ls.out.fieldAt eHire_len j hj 0 _ rfl
        obtain ⟨x1, -⟩ := O_ls.out.fieldAt eHire_len j hj 1 _ rfl
        obtain ⟨x2, -⟩ := O_ls.out.fieldAt eHire_len j hj 2 _ rfl
        have xf := fun k => World.ownsRow.frozenAt O_ls.out k
        have hgl := (O_ls.out.lt gl rfl).2
        rw [Nat.add_zero] at x0
        have HSP := hd (spoil_hire w0 v l hS hl _ g _ S.out (by omega) (SL.length : Int) (by omega) (by omega) gl (j * 3) hgl (by omega) _ _ _ x0 x1 x2 xf)
        clear x0 x1 x2 xf
        go_wp2_with fail
        refine HSP.out.mono ?_
        rintro e wq ⟨rfl, W1, f, u, hf, S', G', rfl⟩
        clear HSP
        obtain ⟨y, hy⟩ := hire_set L[j] f hf u
        replace O_ls := hd ((O_ls.out.src2 hgN G').field eHire_len j hj y f hf _ hy)
        replace O_st := hd ((O_st.out.src2 hgB G').grown (grow_set W1 ⟨gl, j * 3 + f, none⟩ (.int .i64 u)) (.inr (fun e => by have e2 : some gs = some gl := e; injection e2 with e2; omega)))
        replace S := hd (S'.put (show g < gl by omega) (j * 3 + f) (.int .i64 u))
        replace G := hd (grow_new (grownBy_trans G.out G') (Nat.le_trans hBN hg1) (j * 3 + f) (.int .i64 u))
        replace hz_N := Nat.le_trans (Nat.le_trans hz_N G'.size) (grow_set W1 ⟨gl, j * 3 + f, none⟩ (.int .i64 u)).size
        clear S' G' hgl hy
        generalize W1.setCell ⟨gl, j * 3 + f, none⟩ (.int .i64 u) = W2 at O_ls O_st S G hz_N ⊢
        go_wp2_with fail
        refine (pick_src w0 v l hS hl _ g _ S.out (by omega) 24 (by omega)).mono ?_
        rintro e w15 ⟨z, ⟨z_1, z_2⟩, rfl, S', G'⟩
        replace O_st := hd (O_st.out.src2 hgB G')
        replace O_ls := hd (O_ls.out.src2 hgN G')
        replace hz_N := Nat.le_trans hz_N G'.size
        replace G := hd (grownBy_trans G.out G')
        replace S := hd S'
        clear S' G'
        by_cases z0 : z = 0
        · skip
          have e0 : (z == 0) = true := by simpa using z0
          clear z0
          have L := hd (list_stays (W := w15) (g := g) S.out.1 2 ([-1, 0, 100, 101, -9223372036854775808] : List Int) (by simp))
          replace O_st := hd (O_st.out.alloc (.cells (([-1, 0, 100, 101, -9223372036854775808] : List Int).map (Value.int .i64)).toArray 2))
          replace O_ls := hd (O_ls.out.alloc (.cells (([-1, 0, 100, 101, -9223372036854775808] : List Int).map (Value.int .i64)).toArray 2))
          replace hz_N := Nat.le_trans hz_N (le_alloc w15 (.cells (([-1, 0, 100, 101, -9223372036854775808] : List Int).map (Value.int .i64)).toArray 2))
          replace G := hd (grow_alloc G.out (.cells (([-1, 0, 100, 101, -9223372036854775808] : List Int).map (Value.int .i64)).toArray 2))
          replace S := hd (S.out.more (.cells (([-1, 0, 100, 101, -9223372036854775808] : List Int).map (Value.int .i64)).toArray 2))
          go_wp2_with fail
          refine (among_src w0 v l hS hl _ g _ S.out (by omega) _ ([-1, 0, 100, 101, -9223372036854775808] : List Int) L.out (by simp) (by simp)).mono ?_
          rintro e w16 ⟨u, hm, rfl, S', G'⟩
          clear hm
          clear L
          replace O_st := hd (O_st.out.src2 hgB G')
          replace O_ls := hd (O_ls.out.src2 hgN G')
          replace hz_N := Nat.le_trans hz_N G'.size
          replace G := hd (grownBy_trans G.out G')
          replace S := hd S'
          clear S' G'
          obtain ⟨fc, ff⟩ := O_st.out.cell1 0 hS1
          have On := hd (O_st.out.set1 0 u)
          have Ln := hd (O_ls.out.grown (grow_set w16 ⟨gs, 0, none⟩ (.int .i64 u)) (apart_lo O_ls.out hgsN))
          have Sn := hd (S.out.put (show g < gs by omega) 0 (.int .i64 u))
          have Gn := hd (grow_new G.out hgs1 0 (.int .i64 u))
          clear O_st O_ls S G
          have O_st := On
          have O_ls := Ln
          have S := Sn
          have G := Gn
          clear On Ln Sn Gn
          obtain ⟨Al, cl, hAl⟩ := O_ls.out.isSlice
          first | subst hAl | clear hAl
          go_wp2_with fail
          go_ret2
          first | exact ⟨(SL.set 0 u), (L.set j y), _, _, rfl, O_st.out, O_ls.out.base hBN, (by first | omega | (simp; done) | (simp; omega)), (by first | omega | (simp; done) | (simp; omega)), S.out.le (by first | omega | (simp; omega)), G.out⟩ | exact ⟨(SL.set 0 u), (L.set j y), rfl, O_st.out, O_ls.out.base hBN, (by first | omega | (simp; done) | (simp; omega)), (by first | omega | (simp; done) | (simp; omega)), S.out.le (by first | omega | (simp; omega)), G.out⟩ | exact ⟨(SL.set 0 u), (L.set j y), _, rfl, O_st.out, O_ls.out.base hBN, (by first | omega | (simp; done) | (simp; omega)), (by first | omega | (simp; done) | (simp; omega)), S.out.le (by first | omega | (simp; omega)), G.out⟩
        have e0 : (z == 0) = false := by simpa using z0
        clear z0
        by_cases z1 : z = 1
        · skip
          have e1 : (z == 1) = true := by simpa using z1
          clear z1
          have L := hd (list_stays (W := w15) (g := g) S.out.1 2 ([0, 20, 21] : List Int) (by simp))
          replace O_st := hd (O_st.out.alloc (.cells (([0, 20, 21] : List Int).map (Value.int .i64)).toArray 2))
          replace O_ls := hd (O_ls.out.alloc (.cells (([0, 20, 21] : List Int).map (Value.int .i64)).toArray 2))
          replace hz_N := Nat.le_trans hz_N (le_alloc w15 (.cells (([0, 20, 21] : List Int).map (Value.int .i64)).toArray 2))
          replace G := hd (grow_alloc G.out (.cells (([0, 20, 21] : List Int).map (Value.int .i64)).toArray 2))
          replace S := hd (S.out.more (.cells (([0, 20, 21] : List Int).map (Value.int .i64)).toArray 2))
          go_wp2_with fail
          refine (among_src w0 v l hS hl _ g _ S.out (by omega) _ ([0, 20, 21] : List Int) L.out (by simp) (by simp)).mono ?_
          rintro e w17 ⟨u, hm, rfl, S', G'⟩
          have u_b : -9223372036854775808 ≤ u ∧ u ≤ 9223372036854775807 := by simp only [List.mem_cons, List.not_mem_nil, or_false] at hm; omega
          obtain ⟨u_1, u_2⟩ := u_b
          clear L
          replace O_st := hd (O_st.out.src2 hgB G')
          replace O_ls := hd (O_ls.out.src2 hgN G')
          replace hz_N := Nat.le_trans hz_N G'.size
          replace G := hd (grownBy_trans G.out G')
          replace S := hd S'
          clear S' G'
          have hm2 : 0 ≤ u ∧ u ≤ 21 := by simp only [List.mem_cons, List.not_mem_nil, or_false] at hm; omega
          clear hm
          obtain ⟨m, rfl⟩ : ∃ m : Nat, u = (m : Int) := ⟨u.toNat, by omega⟩
          have hm3 : m ≤ 21 := by omega
          have hsz := G.out.size
          go_wp2_with (at_make; refine wpList_make_full _ rfl _ _ 25 rfl w.heap.size 2 iI64 (.int .i64 0) 1 Try.underlying25 hiI64 hz0I64 hz1I64 .i64 .i64 _ _ m rfl rfl rfl rfl (by rw [hz2I64]; omega) (by unfold maxLen; omega) hsz ?_)
          intro w31 hown hgr
          replace O_st := hd (made_ints _ _ _ _ _ hown)
          replace O_ls := hd (O_ls.out.grown hgr (Classical.em _))
          replace S := hd (S.out.below2 hgB (below_of_grown hgr hsz (by simp)))
          replace G := hd (grow_below G.out (below_of_grown hgr hsz (by simp)))
          clear hown hgr hsz
          obtain ⟨Al, cl, hAl⟩ := O_ls.out.isSlice
          first | subst hAl | clear hAl
          go_wp2_with fail
          go_ret2
          first | exact ⟨(List.replicate m 0), (L.set j y), _, _, rfl, O_st.out, O_ls.out.base hBN, (by first | omega | (simp; done) | (simp; omega)), (by first | omega | (simp; done) | (simp; omega)), S.out.le (by first | omega | (simp; omega)), G.out⟩ | exact ⟨(List.replicate m 0), (L.set j y), rfl, O_st.out, O_ls.out.base hBN, (by first | omega | (simp; done) | (simp; omega)), (by first | omega | (simp; done) | (simp; omega)), S.out.le (by first | omega | (simp; omega)), G.out⟩ | exact ⟨(List.replicate m 0), (L.set j y), _, rfl, O_st.out, O_ls.out.base hBN, (by first | omega | (simp; done) | (simp; omega)), (by first | omega | (simp; done) | (simp; omega)), S.out.le (by first | omega | (simp; omega)), G.out⟩
        have e1 : (z == 1) = false := by simpa using z1
        clear z1
        obtain ⟨Al, cl, hAl⟩ := O_ls.out.isSlice
        first | subst hAl | clear hAl
        go_wp2_with fail
        go_ret2
        first | exact ⟨SL, (L.set j y), _, _, rfl, O_st.out, O_ls.out.base hBN, (by first | omega | (simp; done) | (simp; omega)), (by first | omega | (simp; done) | (simp; omega)), S.out.le (by first | omega | (simp; omega)), G.out⟩ | exact ⟨SL, (L.set j y), rfl, O_st.out, O_ls.out.base hBN, (by first | omega | (simp; done) | (simp; omega)), (by first | omega | (simp; done) | (simp; omega)), S.out.le (by first | omega | (simp; omega)), G.out⟩ | exact ⟨SL, (L.set j y), _, rfl, O_st.out, O_ls.out.base hBN, (by first | omega | (simp; done) | (simp; omega)), (by first | omega | (simp; done) | (simp; omega)), S.out.le (by first | omega | (simp; omega)), G.out⟩
    · skip
      go_wp2_with fail
      refine (pick_src w0 v l hS hl _ g _ S.out (by omega) 2 (by omega)).mono ?_
      rintro e w18 ⟨n1, ⟨n1_1, n1_2⟩, rfl, S', G'⟩
      replace O_st := hd (O_st.out.src2 hgB G')
      replace O_ls := hd (O_ls.out.src2 hgN G')
      replace hz_N := Nat.le_trans hz_N G'.size
      replace G := hd (grownBy_trans G.out G')
      replace S := hd S'
      clear S' G'
      go_wp2_with fail
      go_loopw [6, 8] (fun ov kv wr => ∃ (k : Int) (L : List THire) (o : Value), o = ov ∧ kv = .int .i64 k ∧ 0 ≤ k ∧ (L.length : Int) + k = (40 + n1) ∧ Own wr N 76 3 o eHire L ∧ Own wr w.heap.size 2 1 (.slice (some ⟨gs, 0, none⟩) SL.length caps) eI SL ∧ Src w0 v g (n + 200 + 30 * L.length) wr ∧ w.grownBy wr (some g) ∧ N ≤ wr.heap.size) (fun _ kv _ => (intOf kv).toNat)
      case atStart => exact ⟨(40 + n1), [], _, rfl, rfl, by omega, by simp, O_ls.out, O_st.out, S.out.le (by omega), G.out, hz_N⟩
      case round =>
        obtain ⟨k, L, lv, rfl, rfl, hk0, hkl, O2, O3, S2, G2, hz2⟩ := hrel
        clear O_st O_ls S G hz_N
        have hz_N := hz2
        clear hz2
        have O_ls := hd O2
        have O_st := hd O3
        have S := hd S2
        have G := hd G2
        clear O2 O3 S2 G2
        have hL41 : L.length ≤ 41 := by omega
        by_cases hlt : 0 < k
        · skip
          go_wp2_with fail
          refine (new_hire w0 v l hS hl _ g _ S.out (by omega) (SL.length : Int) (by omega) (by omega)).mono ?_
          rintro e w19 ⟨ha, hb, hc, rfl, S', G'⟩
          replace O_st := hd (O_st.out.src2 hgB G')
          replace O_ls := hd (O_ls.out.src2 hgN G')
          replace hz_N := Nat.le_trans hz_N G'.size
          replace G := hd (grownBy_trans G.out G')
          replace S := hd S'
          clear S' G'
          go_wp2_with (at_builtin; refine wpList_push2 _ rfl _ _ 64 rfl iHire (.agg #[.int .i64 0, .int .i64 0, .int .i64 0]) 24 Try.underlying64 hiHire hz0Hire hz1Hire hz2Hire rfl (by decide) _ _ ((ha, hb, hc) : THire) rfl (O_ls.out.alloc _) w19.heap.size rfl #[.int .i64 ha, .int .i64 hb, .int .i64 hc] 76 (heap_alloc_new _ _) rfl rfl (by intro u hu; simp [eHire] at hu; rcases hu with rfl | rfl | rfl <;> rfl) (by unfold maxLen; omega) (by omega) (by simp; omega) ?_)
          intro v' w21 O' hg' ho'
          have E' := ((Below.refl N w19).alloc hz_N (.cells #[.int .i64 ha, .int .i64 hb, .int .i64 hc] 76)).grown hg' (by simp; omega) (fun b hb => (O_ls.out.lt b hb).1)
          replace O_st := hd ((O_st.out.alloc (.cells #[.int .i64 ha, .int .i64 hb, .int .i64 hc] 76)).grown hg' (by show some gs = none ∨ some gs ≠ _; exact .inr (fun e => by have := (O_ls.out.lt gs e.symm).1; omega)))
          replace O_ls := hd O'
          replace S := hd (S.out.below2 hgN E')
          replace G := hd (grow_below G.out (E'.mono hBN))
          replace hz_N := Nat.le_trans hz_N E'.size
          clear hg' ho' E' O' 
          go_wp2_with fail
          go_roundw
          case rel => exact ⟨k - 1, L ++ [(ha, hb, hc)], _, rfl, by go_num, by omega, by simp; omega, O_ls.out, O_st.out, S.out.le (by simp; omega), G.out, hz_N⟩
          case measure => simp [intOf]; omega
        obtain rfl : k = 0 := by omega
        by_cases hnp : (0 : Int) < (40 + n1)
        case neg =>
          exfalso
          omega
        have hL0 : 0 < L.length := by omega
        rcases O_ls.out.form with ⟨-, hnil⟩ | ⟨gl, cap, hv5, hg1, hg2, hg3, hg4⟩
        · rw [hnil] at hL0; exact absurd hL0 (by decide)
        subst hv5
        go_wp2_with fail
        refine (one_src w0 v l hS hl _ g _ S.out (by omega) 10 (by omega)).mono ?_
        rintro e w20 ⟨yb, rfl, S', G'⟩
        replace O_st := hd (O_st.out.src2 hgB G')
        replace O_ls := hd (O_ls.out.src2 hgN G')
        replace hz_N := Nat.le_trans hz_N G'.size
        replace G := hd (grownBy_trans G.out G')
        replace S := hd S'
        clear S' G'
        rcases yb with _ | _
        · skip
          go_wp2_with fail
          refine (pick_src w0 v l hS hl _ g _ S.out (by omega) 24 (by omega)).mono ?_
          rintro e w21 ⟨z, ⟨z_1, z_2⟩, rfl, S', G'⟩
          replace O_st := hd (O_st.out.src2 hgB G')
          replace O_ls := hd (O_ls.out.src2 hgN G')
          replace hz_N := Nat.le_trans hz_N G'.size
          replace G := hd (grownBy_trans G.out G')
          replace S := hd S'
          clear S' G'
          by_cases z0 : z = 0
          · skip
            have e0 : (z == 0) = true := by simpa using z0
            clear z0
            have L := hd (list_stays (W := w21) (g := g) S.out.1 2 ([-1, 0, 100, 101, -9223372036854775808] : List Int) (by simp))
            replace O_st := hd (O_st.out.alloc (.cells (([-1, 0, 100, 101, -9223372036854775808] : List Int).map (Value.int .i64)).toArray 2))
            replace O_ls := hd (O_ls.out.alloc (.cells (([-1, 0, 100, 101, -9223372036854775808] : List Int).map (Value.int .i64)).toArray 2))
            replace hz_N := Nat.le_trans hz_N (le_alloc w21 (.cells (([-1, 0, 100, 101, -9223372036854775808] : List Int).map (Value.int .i64)).toArray 2))
            replace G := hd (grow_alloc G.out (.cells (([-1, 0, 100, 101, -9223372036854775808] : List Int).map (Value.int .i64)).toArray 2))
            replace S := hd (S.out.more (.cells (([-1, 0, 100, 101, -9223372036854775808] : List Int).map (Value.int .i64)).toArray 2))
            go_wp2_with fail
            refine (among_src w0 v l hS hl _ g _ S.out (by omega) _ ([-1, 0, 100, 101, -9223372036854775808] : List Int) L.out (by simp) (by simp)).mono ?_
            rintro e w22 ⟨u, hm, rfl, S', G'⟩
            clear hm
            clear L
            replace O_st := hd (O_st.out.src2 hgB G')
            replace O_ls := hd (O_ls.out.src2 hgN G')
            replace hz_N := Nat.le_trans hz_N G'.size
            replace G := hd (grownBy_trans G.out G')
            replace S := hd S'
            clear S' G'
            obtain ⟨fc, ff⟩ := O_st.out.cell1 0 hS1
            have On := hd (O_st.out.set1 0 u)
            have Ln := hd (O_ls.out.grown (grow_set w22 ⟨gs, 0, none⟩ (.int .i64 u)) (apart_lo O_ls.out hgsN))
            have Sn := hd (S.out.put (show g < gs by omega) 0 (.int .i64 u))
            have Gn := hd (grow_new G.out hgs1 0 (.int .i64 u))
            clear O_st O_ls S G
            have O_st := On
            have O_ls := Ln
            have S := Sn
            have G := Gn
            clear On Ln Sn Gn
            obtain ⟨Al, cl, hAl⟩ := O_ls.out.isSlice
            first | subst hAl | clear hAl
            go_wp2_with fail
            go_ret2
            first | exact ⟨(SL.set 0 u), L, _, _, rfl, O_st.out, O_ls.out.base hBN, (by first | omega | (simp; done) | (simp; omega)), (by first | omega | (simp; done) | (simp; omega)), S.out.le (by first | omega | (simp; omega)), G.out⟩ | exact ⟨(SL.set 0 u), L, rfl, O_st.out, O_ls.out.base hBN, (by first | omega | (simp; done) | (simp; omega)), (by first | omega | (simp; done) | (simp; omega)), S.out.le (by first | omega | (simp; omega)), G.out⟩ | exact ⟨(SL.set 0 u), L, _, rfl, O_st.out, O_ls.out.base hBN, (by first | omega | (simp; done) | (simp; omega)), (by first | omega | (simp; done) | (simp; omega)), S.out.le (by first | omega | (simp; omega)), G.out⟩
          have e0 : (z == 0) = false := by simpa using z0
          clear z0
          by_cases z1 : z = 1
          · skip
            have e1 : (z == 1) = true := by simpa using z1
            clear z1
            have L := hd (list_stays (W := w21) (g := g) S.out.1 2 ([0, 20, 21] : List Int) (by simp))
            replace O_st := hd (O_st.out.alloc (.cells (([0, 20, 21] : List Int).map (Value.int .i64)).toArray 2))
            replace O_ls := hd (O_ls.out.alloc (.cells (([0, 20, 21] : List Int).map (Value.int .i64)).toArray 2))
            replace hz_N := Nat.le_trans hz_N (le_alloc w21 (.cells (([0, 20, 21] : List Int).map (Value.int .i64)).toArray 2))
            replace G := hd (grow_alloc G.out (.cells (([0, 20, 21] : List Int).map (Value.int .i64)).toArray 2))
            replace S := hd (S.out.more (.cells (([0, 20, 21] : List Int).map (Value.int .i64)).toArray 2))
            go_wp2_with fail
            refine (among_src w0 v l hS hl _ g _ S.out (by omega) _ ([0, 20, 21] : List Int) L.out (by simp) (by simp)).mono ?_
            rintro e w23 ⟨u, hm, rfl, S', G'⟩
            have u_b : -9223372036854775808 ≤ u ∧ u ≤ 9223372036854775807 := by simp only [List.mem_cons, List.not_mem_nil, or_false] at hm; omega
            obtain ⟨u_1, u_2⟩ := u_b
            clear L
            replace O_st := hd (O_st.out.src2 hgB G')
            replace O_ls := hd (O_ls.out.src2 hgN G')
            replace hz_N := Nat.le_trans hz_N G'.size
            replace G := hd (grownBy_trans G.out G')
            replace S := hd S'
            clear S' G'
            have hm2 : 0 ≤ u ∧ u ≤ 21 := by simp only [List.mem_cons, List.not_mem_nil, or_false] at hm; omega
            clear hm
            obtain ⟨m, rfl⟩ : ∃ m : Nat, u = (m : Int) := ⟨u.toNat, by omega⟩
            have hm3 : m ≤ 21 := by omega
            have hsz := G.out.size
            go_wp2_with (at_make; refine wpList_make_full _ rfl _ _ 25 rfl w.heap.size 2 iI64 (.int .i64 0) 1 Try.underlying25 hiI64 hz0I64 hz1I64 .i64 .i64 _ _ m rfl rfl rfl rfl (by rw [hz2I64]; omega) (by unfold maxLen; omega) hsz ?_)
            intro w31 hown hgr
            replace O_st := hd (made_ints _ _ _ _ _ hown)
            replace O_ls := hd (O_ls.out.grown hgr (Classical.em _))
            replace S := hd (S.out.below2 hgB (below_of_grown hgr hsz (by simp)))
            replace G := hd (grow_below G.out (below_of_grown hgr hsz (by simp)))
            clear hown hgr hsz
            obtain ⟨Al, cl, hAl⟩ := O_ls.out.isSlice
            first | subst hAl | clear hAl
            go_wp2_with fail
            go_ret2
            first | exact ⟨(List.replicate m 0), L, _, _, rfl, O_st.out, O_ls.out.base hBN, (by first | omega | (simp; done) | (simp; omega)), (by first | omega | (simp; done) | (simp; omega)), S.out.le (by first | omega | (simp; omega)), G.out⟩ | exact ⟨(List.replicate m 0), L, rfl, O_st.out, O_ls.out.base hBN, (by first | omega | (simp; done) | (simp; omega)), (by first | omega | (simp; done) | (simp; omega)), S.out.le (by first | omega | (simp; omega)), G.out⟩ | exact ⟨(List.replicate m 0), L, _, rfl, O_st.out, O_ls.out.base hBN, (by first | omega | (simp; done) | (simp; omega)), (by first | omega | (simp; done) | (simp; omega)), S.out.le (by first | omega | (simp; omega)), G.out⟩
          have e1 : (z == 1) = false := by simpa using z1
          clear z1
          obtain ⟨Al, cl, hAl⟩ := O_ls.out.isSlice
          first | subst hAl | clear hAl
          go_wp2_with fail
          go_ret2
          first | exact ⟨SL, L, _, _, rfl, O_st.out, O_ls.out.base hBN, (by first | omega | (simp; done) | (simp; omega)), (by first | omega | (simp; done) | (simp; omega)), S.out.le (by first | omega | (simp; omega)), G.out⟩ | exact ⟨SL, L, rfl, O_st.out, O_ls.out.base hBN, (by first | omega | (simp; done) | (simp; omega)), (by first | omega | (simp; done) | (simp; omega)), S.out.le (by first | omega | (simp; omega)), G.out⟩ | exact ⟨SL, L, _, rfl, O_st.out, O_ls.out.base hBN, (by first | omega | (simp; done) | (simp; omega)), (by first | omega | (simp; done) | (simp; omega)), S.out.le (by first | omega | (simp; omega)), G.out⟩
        go_wp2_with fail
        refine (pick_src w0 v l hS hl _ g _ S.out (by omega) ((40 + n1)) (by omega)).mono ?_
        rintro e w24 ⟨jx, ⟨jx_1, jx_2⟩, rfl, S', G'⟩
        replace O_st := hd (O_st.out.src2 hgB G')
        replace O_ls := hd (O_ls.out.src2 hgN G')
        replace hz_N := Nat.le_trans hz_N G'.size
        replace G := hd (grownBy_trans G.out G')
        replace S := hd S'
        clear S' G'
        obtain ⟨j, rfl⟩ : ∃ j : Nat, jx = (j : Int) := ⟨jx.toNat, by omega⟩
        have hj : j < L.length := by omega
        obtain ⟨x0, -⟩ := O_ls.out.fieldAt eHire_len j hj 0 _ rfl
        obtain ⟨x1, -⟩ := O_ls.out.fieldAt eHire_len j hj 1 _ rfl
        obtain ⟨x2, -⟩ := O_ls.out.fieldAt eHire_len j hj 2 _ rfl
        have xf := fun k => World.ownsRow.frozenAt O_ls.out k
        have hgl := (O_ls.out.lt gl rfl).2
        rw [Nat.add_zero] at x0
        have HSP := hd (spoil_hire w0 v l hS hl _ g _ S.out (by omega) (SL.length : Int) (by omega) (by omega) gl (j * 3) hgl (by omega) _ _ _ x0 x1 x2 xf)
        clear x0 x1 x2 xf
        go_wp2_with fail
        refine HSP.out.mono ?_
        rintro e wq ⟨rfl, W1, f, u, hf, S', G', rfl⟩
        clear HSP
        obtain ⟨y, hy⟩ := hire_set L[j] f hf u
        replace O_ls := hd ((O_ls.out.src2 hgN G').field eHire_len j hj y f hf _ hy)
        replace O_st := hd ((O_st.out.src2 hgB G').grown (grow_set W1 ⟨gl, j * 3 + f, none⟩ (.int .i64 u)) (.inr (fun e => by have e2 : some gs = some gl := e; injection e2 with e2; omega)))
        replace S := hd (S'.put (show g < gl by omega) (j * 3 + f) (.int .i64 u))
        replace G := hd (grow_new (grownBy_trans G.out G') (Nat.le_trans hBN hg1) (j * 3 + f) (.int .i64 u))
        replace hz_N := Nat.le_trans (Nat.le_trans hz_N G'.size) (grow_set W1 ⟨gl, j * 3 + f, none⟩ (.int .i64 u)).size
        clear S' G' hgl hy
        generalize W1.setCell ⟨gl, j * 3 + f, none⟩ (.int .i64 u) = W2 at O_ls O_st S G hz_N ⊢
        go_wp2_with fail
        refine (pick_src w0 v l hS hl _ g _ S.out (by omega) 24 (by omega)).mono ?_
        rintro e w25 ⟨z, ⟨z_1, z_2⟩, rfl, S', G'⟩
        replace O_st := hd (O_st.out.src2 hgB G')
        replace O_ls := hd (O_ls.out.src2 hgN G')
        replace hz_N := Nat.le_trans hz_N G'.size
        replace G := hd (grownBy_trans G.out G')
        replace S := hd S'
        clear S' G'
        by_cases z0 : z = 0
        · skip
          have e0 : (z == 0) = true := by simpa using z0
          clear z0
          have L := hd (list_stays (W := w25) (g := g) S.out.1 2 ([-1, 0, 100, 101, -9223372036854775808] : List Int) (by simp))
          replace O_st := hd (O_st.out.alloc (.cells (([-1, 0, 100, 101, -9223372036854775808] : List Int).map (Value.int .i64)).toArray 2))
          replace O_ls := hd (O_ls.out.alloc (.cells (([-1, 0, 100, 101, -9223372036854775808] : List Int).map (Value.int .i64)).toArray 2))
          replace hz_N := Nat.le_trans hz_N (le_alloc w25 (.cells (([-1, 0, 100, 101, -9223372036854775808] : List Int).map (Value.int .i64)).toArray 2))
          replace G := hd (grow_alloc G.out (.cells (([-1, 0, 100, 101, -9223372036854775808] : List Int).map (Value.int .i64)).toArray 2))
          replace S := hd (S.out.more (.cells (([-1, 0, 100, 101, -9223372036854775808] : List Int).map (Value.int .i64)).toArray 2))
          go_wp2_with fail
          refine (among_src w0 v l hS hl _ g _ S.out (by omega) _ ([-1, 0, 100, 101, -9223372036854775808] : List Int) L.out (by simp) (by simp)).mono ?_
          rintro e w26 ⟨u, hm, rfl, S', G'⟩
          clear hm
          clear L
          replace O_st := hd (O_st.out.src2 hgB G')
          replace O_ls := hd (O_ls.out.src2 hgN G')
          replace hz_N := Nat.le_trans hz_N G'.size
          replace G := hd (grownBy_trans G.out G')
          replace S := hd S'
          clear S' G'
          obtain ⟨fc, ff⟩ := O_st.out.cell1 0 hS1
          have On := hd (O_st.out.set1 0 u)
          have Ln := hd (O_ls.out.grown (grow_set w26 ⟨gs, 0, none⟩ (.int .i64 u)) (apart_lo O_ls.out hgsN))
          have Sn := hd (S.out.put (show g < gs by omega) 0 (.int .i64 u))
          have Gn := hd (grow_new G.out hgs1 0 (.int .i64 u))
          clear O_st O_ls S G
          have O_st := On
          have O_ls := Ln
          have S := Sn
          have G := Gn
          clear On Ln Sn Gn
          obtain ⟨Al, cl, hAl⟩ := O_ls.out.isSlice
          first | subst hAl | clear hAl
          go_wp2_with fail
          go_ret2
          first | exact ⟨(SL.set 0 u), (L.set j y), _, _, rfl, O_st.out, O_ls.out.base hBN, (by first | omega | (simp; done) | (simp; omega)), (by first | omega | (simp; done) | (simp; omega)), S.out.le (by first | omega | (simp; omega)), G.out⟩ | exact ⟨(SL.set 0 u), (L.set j y), rfl, O_st.out, O_ls.out.base hBN, (by first | omega | (simp; done) | (simp; omega)), (by first | omega | (simp; done) | (simp; omega)), S.out.le (by first | omega | (simp; omega)), G.out⟩ | exact ⟨(SL.set 0 u), (L.set j y), _, rfl, O_st.out, O_ls.out.base hBN, (by first | omega | (simp; done) | (simp; omega)), (by first | omega | (simp; done) | (simp; omega)), S.out.le (by first | omega | (simp; omega)), G.out⟩
        have e0 : (z == 0) = false := by simpa using z0
        clear z0
        by_cases z1 : z = 1
        · skip
          have e1 : (z == 1) = true := by simpa using z1
          clear z1
          have L := hd (list_stays (W := w25) (g := g) S.out.1 2 ([0, 20, 21] : List Int) (by simp))
          replace O_st := hd (O_st.out.alloc (.cells (([0, 20, 21] : List Int).map (Value.int .i64)).toArray 2))
          replace O_ls := hd (O_ls.out.alloc (.cells (([0, 20, 21] : List Int).map (Value.int .i64)).toArray 2))
          replace hz_N := Nat.le_trans hz_N (le_alloc w25 (.cells (([0, 20, 21] : List Int).map (Value.int .i64)).toArray 2))
          replace G := hd (grow_alloc G.out (.cells (([0, 20, 21] : List Int).map (Value.int .i64)).toArray 2))
          replace S := hd (S.out.more (.cells (([0, 20, 21] : List Int).map (Value.int .i64)).toArray 2))
          go_wp2_with fail
          refine (among_src w0 v l hS hl _ g _ S.out (by omega) _ ([0, 20, 21] : List Int) L.out (by simp) (by simp)).mono ?_
          rintro e w27 ⟨u, hm, rfl, S', G'⟩
          have u_b : -9223372036854775808 ≤ u ∧ u ≤ 9223372036854775807 := by simp only [List.mem_cons, List.not_mem_nil, or_false] at hm; omega
          obtain ⟨u_1, u_2⟩ := u_b
          clear L
          replace O_st := hd (O_st.out.src2 hgB G')
          replace O_ls := hd (O_ls.out.src2 hgN G')
          replace hz_N := Nat.le_trans hz_N G'.size
          replace G := hd (grownBy_trans G.out G')
          replace S := hd S'
          clear S' G'
          have hm2 : 0 ≤ u ∧ u ≤ 21 := by simp only [List.mem_cons, List.not_mem_nil, or_false] at hm; omega
          clear hm
          obtain ⟨m, rfl⟩ : ∃ m : Nat, u = (m : Int) := ⟨u.toNat, by omega⟩
          have hm3 : m ≤ 21 := by omega
          have hsz := G.out.size
          go_wp2_with (at_make; refine wpList_make_full _ rfl _ _ 25 rfl w.heap.size 2 iI64 (.int .i64 0) 1 Try.underlying25 hiI64 hz0I64 hz1I64 .i64 .i64 _ _ m rfl rfl rfl rfl (by rw [hz2I64]; omega) (by unfold maxLen; omega) hsz ?_)
          intro w31 hown hgr
          replace O_st := hd (made_ints _ _ _ _ _ hown)
          replace O_ls := hd (O_ls.out.grown hgr (Classical.em _))
          replace S := hd (S.out.below2 hgB (below_of_grown hgr hsz (by simp)))
          replace G := hd (grow_below G.out (below_of_grown hgr hsz (by simp)))
          clear hown hgr hsz
          obtain ⟨Al, cl, hAl⟩ := O_ls.out.isSlice
          first | subst hAl | clear hAl
          go_wp2_with fail
          go_ret2
          first | exact ⟨(List.replicate m 0), (L.set j y), _, _, rfl, O_st.out, O_ls.out.base hBN, (by first | omega | (simp; done) | (simp; omega)), (by first | omega | (simp; done) | (simp; omega)), S.out.le (by first | omega | (simp; omega)), G.out⟩ | exact ⟨(List.replicate m 0), (L.set j y), rfl, O_st.out, O_ls.out.base hBN, (by first | omega | (simp; done) | (simp; omega)), (by first | omega | (simp; done) | (simp; omega)), S.out.le (by first | omega | (simp; omega)), G.out⟩ | exact ⟨(List.replicate m 0), (L.set j y), _, rfl, O_st.out, O_ls.out.base hBN, (by first | omega | (simp; done) | (simp; omega)), (by first | omega | (simp; done) | (simp; omega)), S.out.le (by first | omega | (simp; omega)), G.out⟩
        have e1 : (z == 1) = false := by simpa using z1
        clear z1
        obtain ⟨Al, cl, hAl⟩ := O_ls.out.isSlice
        first | subst hAl | clear hAl
        go_wp2_with fail
        go_ret2
        first | exact ⟨SL, (L.set j y), _, _, rfl, O_st.out, O_ls.out.base hBN, (by first | omega | (simp; done) | (simp; omega)), (by first | omega | (simp; done) | (simp; omega)), S.out.le (by first | omega | (simp; omega)), G.out⟩ | exact ⟨SL, (L.set j y), rfl, O_st.out, O_ls.out.base hBN, (by first | omega | (simp; done) | (simp; omega)), (by first | omega | (simp; done) | (simp; omega)), S.out.le (by first | omega | (simp; omega)), G.out⟩ | exact ⟨SL, (L.set j y), _, rfl, O_st.out, O_ls.out.base hBN, (by first | omega | (simp; done) | (simp; omega)), (by first | omega | (simp; done) | (simp; omega)), S.out.le (by first | omega | (simp; omega)), G.out⟩
set_option maxRecDepth 100000 in
set_option maxHeartbeats 8000000 in
theorem item_hire (w0 : World) (v : Value) (l : List UInt8) (hS : Sl w0 1 v eU l) (hl : l.length ≤ 1048576) (w : World) (g n : Nat) (h : Src w0 v g n w) (hn : n ≤ 700000000) (vs : Value) (SL : List Int) (hs : ∀ W, w.grownBy W (some g) → Sl W 1 vs eI SL) (hsl : SL.length ≤ 21) :
    Calls Try.prog 107 #[.pointer (some ⟨g, 0, none⟩), vs] w fun e w' => ∃ (x : Int), e = .returned (.int .i64 x) ∧ Src w0 v g (n + 10) w' ∧ w.grownBy w' (some g) := by
  have hgB : g < w.heap.size := h.1
  obtain ⟨As, cs, rfl⟩ := (hs w (World.grownBy.refl _ _)).isSlice
  have S := hd h
  have G := hd (World.grownBy.refl w (some g))
  clear h
  go_enter Try.func107, Try.ntmps107
  go_wp2_with fail
  refine (pick_src w0 v l hS hl _ g _ S.out (by omega) ((SL.length : Int) + 1) (by omega)).mono ?_
  rintro e w1 ⟨x, ⟨x_1, x_2⟩, rfl, S', G'⟩
  replace G := hd (grownBy_trans G.out G')
  replace S := hd S'
  clear S' G'
  go_wp2_with fail
  refine (pick_src w0 v l hS hl _ g _ S.out (by omega) 16 (by omega)).mono ?_
  rintro e w2 ⟨y, ⟨y_1, y_2⟩, rfl, S', G'⟩
  replace G := hd (grownBy_trans G.out G')
  replace S := hd S'
  clear S' G'
  go_wp2_with fail
  go_ret
  first | exact ⟨_, rfl, S.out.le (by omega), G.out⟩
set_option maxRecDepth 100000 in
set_option maxHeartbeats 8000000 in
theorem draw_ask (w0 : World) (v : Value) (l : List UInt8) (hS : Sl w0 1 v eU l) (hl : l.length ≤ 1048576) :
    Calls Try.prog 100 #[v] w0 fun e w' => ∃ (SL : List Int) (L : List THire) (a : Int) (u1 u2 : Value), e = .returned (.tuple #[u1, u2, .int .i64 a]) ∧ Own w' w0.heap.size 2 1 u1 eI SL ∧ Own w' w0.heap.size 76 3 u2 eHire L ∧ SL.length ≤ 21 ∧ L.length ≤ 41 ∧ Below w0.heap.size w0 w' := by
  have hv : ∃ A n c, v = .slice A n c := by obtain ⟨A, c, h⟩ := hS.isSlice; exact ⟨A, _, c, h⟩
  go_enter Try.func100, Try.ntmps100
  go_wp2_with fail
  refine (from_src w0 v hv).mono ?_
  rintro e w ⟨rfl, S', K, hz⟩
  have hgB : w0.heap.size < w.heap.size := by omega
  have hB0 : w0.heap.size ≤ w.heap.size := by omega
  have hw0 : ∀ g k : Nat, w0.heap.size = g → some g = some k → w0.heap.size ≤ k := fun g k hg hk => by injection hk with hk; omega
  replace K := hd K
  generalize hg0 : w0.heap.size = g at S' hgB hz ⊢
  have S := hd S'
  have G := hd (World.grownBy.refl w (some g))
  clear S' hz
  go_wp2_with fail
  refine (draw_hires w0 v l hS hl _ g _ S.out (by omega)).mono ?_
  rintro e w1 ⟨SL, L, u1, u2, rfl, O1', O2', hSL, hLL, S', G'⟩
  replace G := hd (grownBy_trans G.out G')
  replace S := hd S'
  clear S' G'
  have O_st := hd O1'
  have O_ls := hd O2'
  clear O1' O2'
  obtain ⟨A1, cs1, rfl⟩ := O_st.out.isSlice
  obtain ⟨A2, cs2, rfl⟩ := O_ls.out.isSlice
  have HI := hd (item_hire w0 v l hS hl _ g _ S.out (by omega) _ SL (fun W hg => (O_st.out.src2 hgB hg).sl eI_len) hSL)
  go_wp2_with fail
  refine (HI.out).mono ?_
  rintro e w2 ⟨it, rfl, S', G'⟩
  replace O_st := hd (O_st.out.src2 hgB G')
  replace O_ls := hd (O_ls.out.src2 hgB G')
  replace G := hd (grownBy_trans G.out G')
  replace S := hd S'
  clear S' G'
  clear HI
  go_wp2_with fail
  refine bodyPost_ret (results_tmp3 Try.results100 _ _ _) rfl ?_
  first | exact ⟨SL, L, _, _, _, rfl, O_st.out.base hB0, O_ls.out.base hB0, hSL, hLL, (K.out.grown G.out hB0 (fun k hk => hw0 _ k hg0 hk))⟩
theorem draw_acc (w0 : World) (v : Value) (l : List UInt8) (hS : Sl w0 1 v eU l) (hl : l.length ≤ 1048576) :
    Calls Try.prog 43 #[v] w0 fun e w' => ∃ (SL : List Int) (L : List THire) (a : Int) (u1 u2 : Value), e = .returned (.tuple #[u1, u2, .int .i64 a]) ∧ Own w' w0.heap.size 2 1 u1 eI SL ∧ Own w' w0.heap.size 76 3 u2 eHire L ∧ SL.length ≤ 21 ∧ L.length ≤ 41 ∧ Below w0.heap.size w0 w' := by
  go_enter Try.func43, Try.ntmps43
  go_wp2_with fail
  refine (draw_ask w0 v l hS hl).mono ?_
  rintro e w1 ⟨SL, L, a, u1, u2, rfl, O1, O2, h1, h2, K⟩
  obtain ⟨A1, c1, rfl⟩ := O1.isSlice
  obtain ⟨A2, c2, rfl⟩ := O2.isSlice
  go_wp2_with fail
  refine bodyPost_ret (results_tmp3 Try.results43 _ _ _) rfl ?_
  first | exact ⟨SL, L, _, _, _, rfl, O1, O2, h1, h2, K⟩
set_option maxRecDepth 100000 in
set_option maxHeartbeats 8000000 in
theorem draw_outon (w0 : World) (v : Value) (l : List UInt8) (hS : Sl w0 1 v eU l) (hl : l.length ≤ 1048576) :
    Calls Try.prog 48 #[v] w0 fun e w' => ∃ (SL : List Int) (L : List THire) (a b : Int) (u1 u2 : Value), e = .returned (.tuple #[u1, u2, .int .i64 a, .int .i64 b]) ∧ Own w' w0.heap.size 2 1 u1 eI SL ∧ Own w' w0.heap.size 76 3 u2 eHire L ∧ SL.length ≤ 21 ∧ L.length ≤ 41 ∧ Below w0.heap.size w0 w' := by
  have hv : ∃ A n c, v = .slice A n c := by obtain ⟨A, c, h⟩ := hS.isSlice; exact ⟨A, _, c, h⟩
  go_enter Try.func48, Try.ntmps48
  go_wp2_with fail
  refine (from_src w0 v hv).mono ?_
  rintro e w ⟨rfl, S', K, hz⟩
  have hgB : w0.heap.size < w.heap.size := by omega
  have hB0 : w0.heap.size ≤ w.heap.size := by omega
  have hw0 : ∀ g k : Nat, w0.heap.size = g → some g = some k → w0.heap.size ≤ k := fun g k hg hk => by injection hk with hk; omega
  replace K := hd K
  generalize hg0 : w0.heap.size = g at S' hgB hz ⊢
  have S := hd S'
  have G := hd (World.grownBy.refl w (some g))
  clear S' hz
  go_wp2_with fail
  refine (draw_hires w0 v l hS hl _ g _ S.out (by omega)).mono ?_
  rintro e w1 ⟨SL, L, u1, u2, rfl, O1', O2', hSL, hLL, S', G'⟩
  replace G := hd (grownBy_trans G.out G')
  replace S := hd S'
  clear S' G'
  have O_st := hd O1'
  have O_ls := hd O2'
  clear O1' O2'
  obtain ⟨A1, cs1, rfl⟩ := O_st.out.isSlice
  obtain ⟨A2, cs2, rfl⟩ := O_ls.out.isSlice
  have HI := hd (item_hire w0 v l hS hl _ g _ S.out (by omega) _ SL (fun W hg => (O_st.out.src2 hgB hg).sl eI_len) hSL)
  go_wp2_with fail
  refine (HI.out).mono ?_
  rintro e w2 ⟨it, rfl, S', G'⟩
  replace O_st := hd (O_st.out.src2 hgB G')
  replace O_ls := hd (O_ls.out.src2 hgB G')
  replace G := hd (grownBy_trans G.out G')
  replace S := hd S'
  clear S' G'
  clear HI
  go_wp2_with fail
  refine (one_src w0 v l hS hl _ g _ S.out (by omega) 10 (by omega)).mono ?_
  rintro e w3 ⟨y1, rfl, S', G'⟩
  replace O_st := hd (O_st.out.src2 hgB G')
  replace O_ls := hd (O_ls.out.src2 hgB G')
  replace G := hd (grownBy_trans G.out G')
  replace S := hd S'
  clear S' G'
  rcases y1 with _ | _
  · skip
    go_wp2_with fail
    refine (pick_src w0 v l hS hl _ g _ S.out (by omega) 60 (by omega)).mono ?_
    rintro e w4 ⟨fr, ⟨fr_1, fr_2⟩, rfl, S', G'⟩
    replace O_st := hd (O_st.out.src2 hgB G')
    replace O_ls := hd (O_ls.out.src2 hgB G')
    replace G := hd (grownBy_trans G.out G')
    replace S := hd S'
    clear S' G'
    go_wp2_with fail
    refine bodyPost_ret (results_tmp4 Try.results48 _ _ _) rfl ?_
    first | exact ⟨SL, L, _, _, _, _, rfl, O_st.out.base hB0, O_ls.out.base hB0, hSL, hLL, (K.out.grown G.out hB0 (fun k hk => hw0 _ k hg0 hk))⟩
  · skip
    have L := hd (list_stays (W := w3) (g := g) S.out.1 2 ([-1, 0, 10000, 10001] : List Int) (by simp))
    replace O_st := hd (O_st.out.alloc (.cells (([-1, 0, 10000, 10001] : List Int).map (Value.int .i64)).toArray 2))
    replace O_ls := hd (O_ls.out.alloc (.cells (([-1, 0, 10000, 10001] : List Int).map (Value.int .i64)).toArray 2))
    replace G := hd (grow_alloc G.out (.cells (([-1, 0, 10000, 10001] : List Int).map (Value.int .i64)).toArray 2))
    replace S := hd (S.out.more (.cells (([-1, 0, 10000, 10001] : List Int).map (Value.int .i64)).toArray 2))
    go_wp2_with fail
    refine (among_src w0 v l hS hl _ g _ S.out (by omega) _ ([-1, 0, 10000, 10001] : List Int) L.out (by simp) (by simp)).mono ?_
    rintro e w5 ⟨fm, hm, rfl, S', G'⟩
    have fm_b : -9223372036854775808 ≤ fm ∧ fm ≤ 9223372036854775807 := by simp only [List.mem_cons, List.not_mem_nil, or_false] at hm; omega
    obtain ⟨fm_1, fm_2⟩ := fm_b
    clear hm
    clear L
    replace O_st := hd (O_st.out.src2 hgB G')
    replace O_ls := hd (O_ls.out.src2 hgB G')
    replace G := hd (grownBy_trans G.out G')
    replace S := hd S'
    clear S' G'
    go_wp2_with fail
    refine bodyPost_ret (results_tmp4 Try.results48 _ _ _) rfl ?_
    first | exact ⟨SL, L, _, _, _, _, rfl, O_st.out.base hB0, O_ls.out.base hB0, hSL, hLL, (K.out.grown G.out hB0 (fun k hk => hw0 _ k hg0 hk))⟩
end Go.Proofs.Ytlgcehdklpbknaa
