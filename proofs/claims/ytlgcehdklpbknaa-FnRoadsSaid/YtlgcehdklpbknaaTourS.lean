/- Tours: the reference's code of halls, roads and a tour. No condition but that the slices read. -/
import Derived.Test.YtlgcehdklpbknaaTourN
import Derived.Test.YtlgcehdklpbknaaTourD
import Derived.Deep.RegionLaw
namespace Go.Proofs.Ytlgcehdklpbknaa
open Go Go.RowKit Go.ChangeShapes Go.WideShapes
set_option linter.unusedSimpArgs false
set_option linter.unusedVariables false

def encT (t : TS) : List Value := (eTS t).toList
theorem encT_len (t : TS) : (encT t).length = 5 := rfl
def zeroT : TS := (0, 0, 0, 0, false)
/-- one tour in a block of the call's own -/
def BoxT (w : World) (B G : Nat) (t : TS) : Prop := Own w B 99 5 (.slice (some ⟨G, 0, none⟩) 1 1) encT [t]
theorem BoxT.made (w : World) (t : TS) : BoxT (w.alloc (.cells (eTS t) 99)) w.heap.size w.heap.size t :=
  ⟨rfl, .inr ⟨w.heap.size, 1, eTS t, rfl, Nat.le_refl _, heap_alloc_new w _, Nat.le_refl _, by decide, rfl, rfl⟩⟩
theorem BoxT.cell {w : World} {B G : Nat} {t : TS} (h : BoxT w B G t) (j : Nat) (u : Value) (hu : (encT t)[j]? = some u) : w.cell? ⟨G, j, none⟩ = some u ∧ w.frozen? ⟨G, j, none⟩ = false := by
  have hj : j < 5 := by have := (List.getElem?_eq_some_iff.1 hu).1; rwa [encT_len] at this
  refine ⟨?_, World.ownsRow.frozenAt h j⟩
  have := World.ownsRow.cellAt h j (by simpa using hj)
  rw [this]
  simpa using hu
theorem BoxT.stored {w : World} {B G : Nat} {t t' : TS} (h : BoxT w B G t) : BoxT (((((w.setCell ⟨G, 0, none⟩ (.int .i64 t'.1)).setCell ⟨G, 1, none⟩ (.int .i64 t'.2.1)).setCell ⟨G, 2, none⟩ (.int .i64 t'.2.2.1)).setCell ⟨G, 3, none⟩ (.int .i64 t'.2.2.2.1)).setCell ⟨G, 4, none⟩ (.bool t'.2.2.2.2)) B G t' := by
  have h1 := (World.ownsRow.stored h 0 (.int .i64 t'.1)).1
  have h2 := (World.ownsRow.stored h1 1 (.int .i64 t'.2.1)).1
  have h3 := (World.ownsRow.stored h2 2 (.int .i64 t'.2.2.1)).1
  have h4 := (World.ownsRow.stored h3 3 (.int .i64 t'.2.2.2.1)).1
  have h5 := (World.ownsRow.stored h4 4 (.bool t'.2.2.2.2)).1
  unfold BoxT Own
  simpa [encT, eTS] using h5
theorem BoxT.below' {w w' : World} {B G : Nat} {t : TS} (h : BoxT w B G t) (hb : Below w.heap.size w w') : BoxT w' B G t := Own.below h hb (Nat.le_refl _)
theorem BoxT.of_heap {w : World} {B G : Nat} {t : TS} (h : w.heap[G]? = some (.cells (eTS t) 99 (0, 0))) (hB : B ≤ G) : BoxT w B G t :=
  ⟨rfl, .inr ⟨G, 1, eTS t, rfl, hB, h, Nat.le_refl _, by decide, rfl, rfl⟩⟩
theorem own_ne_new {α : Type} {w : World} {B : Nat} {E : TypeId} {k : Nat} {v : Value} {enc : α → List Value} {l : List α} (h : Own w B E k v enc l) {N : Nat} (hN : N < B ∨ w.heap.size ≤ N) : v.ownBlock = none ∨ v.ownBlock ≠ some N := by
  cases hv : v.ownBlock with
  | none => exact .inl rfl
  | some g =>
    refine .inr fun e => ?_
    have := h.lt g hv
    simp only [Option.some.injEq] at e
    omega
theorem own_name {α : Type} {w : World} {B : Nat} {E : TypeId} {k : Nat} {v : Value} {enc : α → List Value} {l : List α} (h : Own w B E k v enc l) : ∃ u, u = v ∧ Own w B E k u enc l := ⟨v, rfl, h⟩
theorem grown_five (w : World) (G : Nat) (a b c d e : Value) : w.grownBy (((((w.setCell ⟨G, 0, none⟩ a).setCell ⟨G, 1, none⟩ b).setCell ⟨G, 2, none⟩ c).setCell ⟨G, 3, none⟩ d).setCell ⟨G, 4, none⟩ e) (some G) := by
  have s : ∀ (w : World) (j : Nat) (u : Value), w.grownBy (w.setCell ⟨G, j, none⟩ u) (some G) := fun w j u =>
    ⟨rfl, rfl, rfl, by simp, fun k hk hne => Below.heap_setCell w ⟨G, j, none⟩ u k (fun e => hne (by rw [e]))⟩
  exact grownBy_trans (grownBy_trans (grownBy_trans (grownBy_trans (s _ _ _) (s _ _ _)) (s _ _ _)) (s _ _ _)) (s _ _ _)
theorem results_cell_tmp3 {fn : Func} {p u v : Tmp} {ty : TypeId} (h : fn.results = #[.cell p ty, .tmp u, .tmp v]) (tmps : Array Value) (P : Program) (w : World) :
    (results fn tmps).run P w =
      ((asAddr (tmps.getD p undef)).run P w).andThen fun a w₁ => ((loadVar ty a).run P w₁).andThen fun x w₂ => .ok (.tuple #[x, tmps.getD u undef, tmps.getD v undef]) w₂ := by
  simp only [results, h]
  simp [Sem.run_bind, Result.andThen]
def GivesSC (w : World) (l : List THall) (H : List Int) (R : List (List Int)) (T : List Int) (e : Ending) (w' : World) : Prop :=
  ∃ t v, e = .returned (.tuple #[.agg (eTS t), v, .int .i64 (tcode l H R T)]) ∧ (tcode l H R T = 0 → t = runT l H R startT T) ∧ Own w' w.heap.size 2 1 v eI (showsR l H R T) ∧ Below w.heap.size w w'
theorem GivesSC.no {w w' : World} {l : List THall} {H : List Int} {R : List (List Int)} {T : List Int} {c : Int} {t : TS} (h : tcode l H R T = c) (hc : c ≠ 0) (hb : Below w.heap.size w w') : GivesSC w l H R T (.returned (.tuple #[.agg (eTS t), .slice none 0 0, .int .i64 c])) w' := by
  subst h
  exact ⟨t, _, rfl, fun h => absurd h hc, by rw [showsR, if_neg hc]; exact Own.nil _ _ _ _ _, hb⟩

set_option maxRecDepth 100000 in
set_option maxHeartbeats 4000000 in
theorem code_specT (w : World) (v : Value) (l : List THall) (h : Sl w 3 v eHall l) (g : Nat) (v1 v2 : Value) (p0 : w.cell? ⟨g, 0, none⟩ = some v1) (p1 : w.cell? ⟨g, 1, none⟩ = some v2) (H : List Int) (L : List TRow) (h1 : Sl w 1 v1 eI H) (h2 : SlR w v2 L) (vt : Value) (T : List Int) (ht : Sl w 1 vt eI T) (hTl : T.length ≤ 1048576) :
    Calls Try.prog 73 #[v, .pointer (some ⟨g, 0, none⟩), vt] w (GivesSC w l H (rowsOf L) T) := by
  have m0 := h.len
  have m1 := ht.len
  obtain ⟨A, c, rfl⟩ := h.slice
  obtain ⟨At, ct, rfl⟩ := ht.slice
  obtain ⟨hct, hcm⟩ := ht.cap
  have hgs := World.block_lt_of_cell? w _ p0
  have hbW := ((Below.refl w.heap.size w).alloc (Nat.le_refl _) (.cells #[.int .i64 0, .int .i64 0, .int .i64 0, .int .i64 0, .bool false] 99)).alloc (by simp) (.cells #[.int .i64 (-1), .int .i64 0, .int .i64 0, .int .i64 0, .bool false] 99)
  have BR : BoxT ((w.alloc (.cells #[.int .i64 0, .int .i64 0, .int .i64 0, .int .i64 0, .bool false] 99)).alloc (.cells #[.int .i64 (-1), .int .i64 0, .int .i64 0, .int .i64 0, .bool false] 99)) w.heap.size w.heap.size zeroT := (show BoxT _ _ _ zeroT from BoxT.made w zeroT).alloc (.cells #[.int .i64 (-1), .int .i64 0, .int .i64 0, .int .i64 0, .bool false] 99)
  have BT : BoxT ((w.alloc (.cells #[.int .i64 0, .int .i64 0, .int .i64 0, .int .i64 0, .bool false] 99)).alloc (.cells #[.int .i64 (-1), .int .i64 0, .int .i64 0, .int .i64 0, .bool false] 99)) w.heap.size (w.heap.size + 1) startT := by
    have := (show BoxT ((w.alloc (.cells #[.int .i64 0, .int .i64 0, .int .i64 0, .int .i64 0, .bool false] 99)).alloc (.cells (eTS startT) 99)) _ _ startT from BoxT.made (w.alloc (.cells #[.int .i64 0, .int .i64 0, .int .i64 0, .int .i64 0, .bool false] 99)) startT)
    rw [show (w.alloc (.cells #[.int .i64 0, .int .i64 0, .int .i64 0, .int .i64 0, .bool false] 99)).heap.size = w.heap.size + 1 from by simp] at this
    exact Own.base this (Nat.le_succ _)
  have hsz : w.heap.size + 2 ≤ ((w.alloc (.cells #[.int .i64 0, .int .i64 0, .int .i64 0, .int .i64 0, .bool false] 99)).alloc (.cells #[.int .i64 (-1), .int .i64 0, .int .i64 0, .int .i64 0, .bool false] 99)).heap.size := by simp
  rcases q1 : okHalls l H (rowsOf L) with _ | _
  · have HE := hd (tcode1 (T := T) q1)
    go_enter Try.func73, Try.ntmps73
    go_wp2_with fail
    generalize (w.alloc (.cells #[.int .i64 0, .int .i64 0, .int .i64 0, .int .i64 0, .bool false] 99)).alloc (.cells #[.int .i64 (-1), .int .i64 0, .int .i64 0, .int .i64 0, .bool false] 99) = W at hbW BR BT hsz ⊢
    refine (halls_spec0 _ _ _ (h.below hbW) g _ _ ((hbW.cell hgs).trans p0) ((hbW.cell hgs).trans p1) _ _ (h1.below hbW) (h2.below hbW)).mono ?_
    rintro e w1 ⟨rfl, hb1⟩
    rw [q1]
    have hb2 := below_step hbW hb1
    replace BR := BR.below hb1 (Nat.le_refl _)
    replace BT := BT.below hb1 (Nat.le_refl _)
    obtain ⟨t0, tf0⟩ := BoxT.cell BT 0 _ rfl
    obtain ⟨t1, tf1⟩ := BoxT.cell BT 1 _ rfl
    obtain ⟨t2, tf2⟩ := BoxT.cell BT 2 _ rfl
    obtain ⟨t3, tf3⟩ := BoxT.cell BT 3 _ rfl
    obtain ⟨t4, tf4⟩ := BoxT.cell BT 4 _ rfl
    obtain ⟨r0, rf0⟩ := BoxT.cell BR 0 _ rfl
    obtain ⟨r1, rf1⟩ := BoxT.cell BR 1 _ rfl
    obtain ⟨r2, rf2⟩ := BoxT.cell BR 2 _ rfl
    obtain ⟨r3, rf3⟩ := BoxT.cell BR 3 _ rfl
    obtain ⟨r4, rf4⟩ := BoxT.cell BR 4 _ rfl
    have hne1 : w.heap.size ≠ w.heap.size + 1 := by omega
    have hne2 : w.heap.size + 1 ≠ w.heap.size := by omega
    have BZ : BoxT (((((w1.setCell ⟨w.heap.size, 0, none⟩ (.int .i64 startT.1)).setCell ⟨w.heap.size, 1, none⟩ (.int .i64 startT.2.1)).setCell ⟨w.heap.size, 2, none⟩ (.int .i64 startT.2.2.1)).setCell ⟨w.heap.size, 3, none⟩ (.int .i64 startT.2.2.2.1)).setCell ⟨w.heap.size, 4, none⟩ (.bool startT.2.2.2.2)) w.heap.size w.heap.size startT := BoxT.stored (t' := startT) BR
    have HBZ : Below w.heap.size w (((((w1.setCell ⟨w.heap.size, 0, none⟩ (.int .i64 startT.1)).setCell ⟨w.heap.size, 1, none⟩ (.int .i64 startT.2.1)).setCell ⟨w.heap.size, 2, none⟩ (.int .i64 startT.2.2.1)).setCell ⟨w.heap.size, 3, none⟩ (.int .i64 startT.2.2.2.1)).setCell ⟨w.heap.size, 4, none⟩ (.bool startT.2.2.2.2)) := (((((hb2.setCell (p := ⟨w.heap.size, 0, none⟩) (Nat.le_refl _) _).setCell (p := ⟨w.heap.size, 1, none⟩) (Nat.le_refl _) _).setCell (p := ⟨w.heap.size, 2, none⟩) (Nat.le_refl _) _).setCell (p := ⟨w.heap.size, 3, none⟩) (Nat.le_refl _) _).setCell (p := ⟨w.heap.size, 4, none⟩) (Nat.le_refl _) _)
    go_wp2_with fail
    generalize (((((w1.setCell ⟨w.heap.size, 0, none⟩ (.int .i64 startT.1)).setCell ⟨w.heap.size, 1, none⟩ (.int .i64 startT.2.1)).setCell ⟨w.heap.size, 2, none⟩ (.int .i64 startT.2.2.1)).setCell ⟨w.heap.size, 3, none⟩ (.int .i64 startT.2.2.2.1)).setCell ⟨w.heap.size, 4, none⟩ (.bool startT.2.2.2.2)) = Z at BZ HBZ ⊢
    obtain ⟨e0, -⟩ := BoxT.cell BZ 0 _ rfl
    obtain ⟨e1, -⟩ := BoxT.cell BZ 1 _ rfl
    obtain ⟨e2, -⟩ := BoxT.cell BZ 2 _ rfl
    obtain ⟨e3, -⟩ := BoxT.cell BZ 3 _ rfl
    obtain ⟨e4, -⟩ := BoxT.cell BZ 4 _ rfl
    refine bodyPost_ret (v := .tuple #[.agg (eTS startT), .slice none 0 0, .int .i64 1]) ?_ rfl ?_
    · refine (results_cell_tmp3 Try.results73 _ _ _).trans ?_
      show (((loadVar 99 ⟨w.heap.size, 0, none⟩).run Try.prog Z).andThen fun v w₂ => Result.ok (Value.tuple #[v, Value.slice none 0 0, Value.int .i64 1]) w₂) = _
      rw [load_tour Z _ _ _ _ _ _ e0 e1 e2 e3 e4]
      rfl
    · exact GivesSC.no HE.out (by decide) HBZ
  have HQ1 := hd q1
  have HOK := hd (hallsOk_of q1)
  have z6 := (hallsOk_of q1).six
  go_enter Try.func73, Try.ntmps73
  go_wp2_with fail
  generalize (w.alloc (.cells #[.int .i64 0, .int .i64 0, .int .i64 0, .int .i64 0, .bool false] 99)).alloc (.cells #[.int .i64 (-1), .int .i64 0, .int .i64 0, .int .i64 0, .bool false] 99) = W at hbW BR BT hsz ⊢
  refine (halls_spec0 _ _ _ (h.below hbW) g _ _ ((hbW.cell hgs).trans p0) ((hbW.cell hgs).trans p1) _ _ (h1.below hbW) (h2.below hbW)).mono ?_
  rintro e w1 ⟨rfl, hb1⟩
  rw [q1]
  have hb2 := below_step hbW hb1
  replace BR := BR.below hb1 (Nat.le_refl _)
  replace BT := BT.below hb1 (Nat.le_refl _)
  have hsz1 : w.heap.size + 2 ≤ w1.heap.size := Nat.le_trans hsz hb1.size
  clear hbW hb1 hsz q1
  go_wp2_with fail
  go_loopw [10] (fun i wr => ∃ k : Nat, k ≤ T.length ∧ i = .int .i64 k ∧ Below w1.heap.size w1 wr ∧ Hid (∀ j, j < k → tourOkAt l.length T j = true)) (fun i _ => T.length - (intOf i).toNat)
  case atStart => exact ⟨0, Nat.zero_le _, rfl, Below.refl _ _, hd (by omega)⟩
  case round =>
    obtain ⟨k, hk, rfl, hbel, HT⟩ := hrel
    by_cases hlt : k < T.length
    · have HX := hd (show tourOkAt l.length T k = (inB T[k] 0 ((l.length : Int) - 1) && !hasI (T.take k) T[k]) by unfold tourOkAt; rw [show T.getD k 0 = T[k] from by simp [hlt]])
      have HN := hd (fun q => tcode2 HQ1.out (allTo_false (p := tourOkAt l.length T) hlt q))
      have hbw := below_step hb2 hbel
      have stw := ht.below hbw
      have stk := stw.taken k (by omega)
      have HSK := hd (fun x => stk.gro x)
      obtain ⟨b, o, rfl, -, hc⟩ := stw.int_at hlt
      have gc := gro_cell hc
      have hz1 : IntKind.i64.wrap ((l.length : Int) - 1) = (l.length : Int) - 1 := IntWalk.i64_in _ (by omega)
      have hkc : k ≤ ct := by omega
      clear stk stw
      generalize T[k] = x at hc gc HX
      rcases r1 : inB x 0 ((l.length : Int) - 1) with _ | _
      · have HE := hd (HN.out (by rw [HX.out, r1]; rfl))
        go_wp2_with fail
        refine wp_region_calm (by kernel_rfl) (by kernel_rfl) ?_
        repeat (first | go_big_quiet_step ((first | (go_at_call 109; exact calm_in_spec _ _ _ _ _) | (go_at_call 117; exact calm_of_same (has_spec _ _ _ (HSK.out _) _)))) | quiet_step ((first | (go_at_call 109; exact calm_in_spec _ _ _ _ _) | (go_at_call 117; exact calm_of_same (has_spec _ _ _ (HSK.out _) _)))))
        refine wpQuiet_nil ?_
        rintro w2 ⟨xw, hw⟩
        have hbx : Below w1.heap.size w1 w2 := by rw [hw]; exact below_step hbel (gro_below xw)
        clear hw
        have BR2 := BoxT.below' BR hbx
        have BT2 := BoxT.below' BT hbx
        have hb3 := below_step hb2 hbx
        obtain ⟨t0, tf0⟩ := BoxT.cell BT2 0 _ rfl
        obtain ⟨t1, tf1⟩ := BoxT.cell BT2 1 _ rfl
        obtain ⟨t2, tf2⟩ := BoxT.cell BT2 2 _ rfl
        obtain ⟨t3, tf3⟩ := BoxT.cell BT2 3 _ rfl
        obtain ⟨t4, tf4⟩ := BoxT.cell BT2 4 _ rfl
        obtain ⟨r0, rf0⟩ := BoxT.cell BR2 0 _ rfl
        obtain ⟨r1, rf1⟩ := BoxT.cell BR2 1 _ rfl
        obtain ⟨r2, rf2⟩ := BoxT.cell BR2 2 _ rfl
        obtain ⟨r3, rf3⟩ := BoxT.cell BR2 3 _ rfl
        obtain ⟨r4, rf4⟩ := BoxT.cell BR2 4 _ rfl
        have hne1 : w.heap.size ≠ w.heap.size + 1 := by omega
        have hne2 : w.heap.size + 1 ≠ w.heap.size := by omega
        have BZ : BoxT (((((w2.setCell ⟨w.heap.size, 0, none⟩ (.int .i64 startT.1)).setCell ⟨w.heap.size, 1, none⟩ (.int .i64 startT.2.1)).setCell ⟨w.heap.size, 2, none⟩ (.int .i64 startT.2.2.1)).setCell ⟨w.heap.size, 3, none⟩ (.int .i64 startT.2.2.2.1)).setCell ⟨w.heap.size, 4, none⟩ (.bool startT.2.2.2.2)) w.heap.size w.heap.size startT := BoxT.stored (t' := startT) BR2
        have HBZ : Below w.heap.size w (((((w2.setCell ⟨w.heap.size, 0, none⟩ (.int .i64 startT.1)).setCell ⟨w.heap.size, 1, none⟩ (.int .i64 startT.2.1)).setCell ⟨w.heap.size, 2, none⟩ (.int .i64 startT.2.2.1)).setCell ⟨w.heap.size, 3, none⟩ (.int .i64 startT.2.2.2.1)).setCell ⟨w.heap.size, 4, none⟩ (.bool startT.2.2.2.2)) := (((((hb3.setCell (p := ⟨w.heap.size, 0, none⟩) (Nat.le_refl _) _).setCell (p := ⟨w.heap.size, 1, none⟩) (Nat.le_refl _) _).setCell (p := ⟨w.heap.size, 2, none⟩) (Nat.le_refl _) _).setCell (p := ⟨w.heap.size, 3, none⟩) (Nat.le_refl _) _).setCell (p := ⟨w.heap.size, 4, none⟩) (Nat.le_refl _) _)
        go_wp2_with fail
        generalize (((((w2.setCell ⟨w.heap.size, 0, none⟩ (.int .i64 startT.1)).setCell ⟨w.heap.size, 1, none⟩ (.int .i64 startT.2.1)).setCell ⟨w.heap.size, 2, none⟩ (.int .i64 startT.2.2.1)).setCell ⟨w.heap.size, 3, none⟩ (.int .i64 startT.2.2.2.1)).setCell ⟨w.heap.size, 4, none⟩ (.bool startT.2.2.2.2)) = Z at BZ HBZ ⊢
        obtain ⟨e0, -⟩ := BoxT.cell BZ 0 _ rfl
        obtain ⟨e1, -⟩ := BoxT.cell BZ 1 _ rfl
        obtain ⟨e2, -⟩ := BoxT.cell BZ 2 _ rfl
        obtain ⟨e3, -⟩ := BoxT.cell BZ 3 _ rfl
        obtain ⟨e4, -⟩ := BoxT.cell BZ 4 _ rfl
        refine bodyPost_ret (v := .tuple #[.agg (eTS startT), .slice none 0 0, .int .i64 2]) ?_ rfl ?_
        · refine (results_cell_tmp3 Try.results73 _ _ _).trans ?_
          show (((loadVar 99 ⟨w.heap.size, 0, none⟩).run Try.prog Z).andThen fun v w₂ => Result.ok (Value.tuple #[v, Value.slice none 0 0, Value.int .i64 2]) w₂) = _
          rw [load_tour Z _ _ _ _ _ _ e0 e1 e2 e3 e4]
          rfl
        · exact GivesSC.no HE.out (by decide) HBZ
      rcases r2 : hasI (T.take k) x with _ | _
      · have HT' := hd (allTo_step HT.out (show tourOkAt l.length T k = true by rw [HX.out, r1, r2]; rfl))
        go_wp2_with fail
        refine wp_region_calm (by kernel_rfl) (by kernel_rfl) ?_
        repeat (first | go_big_quiet_step ((first | (go_at_call 109; exact calm_in_spec _ _ _ _ _) | (go_at_call 117; exact calm_of_same (has_spec _ _ _ (HSK.out _) _)))) | quiet_step ((first | (go_at_call 109; exact calm_in_spec _ _ _ _ _) | (go_at_call 117; exact calm_of_same (has_spec _ _ _ (HSK.out _) _)))))
        refine wpQuiet_nil ?_
        rintro w2 ⟨xw, hw⟩
        have hbx : Below w1.heap.size w1 w2 := by rw [hw]; exact below_step hbel (gro_below xw)
        clear hw
        go_wp2_with fail
        go_roundw
        case rel => exact ⟨k + 1, by omega, by go_num, hbx, HT'⟩
        case measure => simp [intOf]; omega
      · have HE := hd (HN.out (by rw [HX.out, r1, r2]; rfl))
        go_wp2_with fail
        refine wp_region_calm (by kernel_rfl) (by kernel_rfl) ?_
        repeat (first | go_big_quiet_step ((first | (go_at_call 109; exact calm_in_spec _ _ _ _ _) | (go_at_call 117; exact calm_of_same (has_spec _ _ _ (HSK.out _) _)))) | quiet_step ((first | (go_at_call 109; exact calm_in_spec _ _ _ _ _) | (go_at_call 117; exact calm_of_same (has_spec _ _ _ (HSK.out _) _)))))
        refine wpQuiet_nil ?_
        rintro w2 ⟨xw, hw⟩
        have hbx : Below w1.heap.size w1 w2 := by rw [hw]; exact below_step hbel (gro_below xw)
        clear hw
        have BR2 := BoxT.below' BR hbx
        have BT2 := BoxT.below' BT hbx
        have hb3 := below_step hb2 hbx
        obtain ⟨t0, tf0⟩ := BoxT.cell BT2 0 _ rfl
        obtain ⟨t1, tf1⟩ := BoxT.cell BT2 1 _ rfl
        obtain ⟨t2, tf2⟩ := BoxT.cell BT2 2 _ rfl
        obtain ⟨t3, tf3⟩ := BoxT.cell BT2 3 _ rfl
        obtain ⟨t4, tf4⟩ := BoxT.cell BT2 4 _ rfl
        obtain ⟨r0, rf0⟩ := BoxT.cell BR2 0 _ rfl
        obtain ⟨r1, rf1⟩ := BoxT.cell BR2 1 _ rfl
        obtain ⟨r2, rf2⟩ := BoxT.cell BR2 2 _ rfl
        obtain ⟨r3, rf3⟩ := BoxT.cell BR2 3 _ rfl
        obtain ⟨r4, rf4⟩ := BoxT.cell BR2 4 _ rfl
        have hne1 : w.heap.size ≠ w.heap.size + 1 := by omega
        have hne2 : w.heap.size + 1 ≠ w.heap.size := by omega
        have BZ : BoxT (((((w2.setCell ⟨w.heap.size, 0, none⟩ (.int .i64 startT.1)).setCell ⟨w.heap.size, 1, none⟩ (.int .i64 startT.2.1)).setCell ⟨w.heap.size, 2, none⟩ (.int .i64 startT.2.2.1)).setCell ⟨w.heap.size, 3, none⟩ (.int .i64 startT.2.2.2.1)).setCell ⟨w.heap.size, 4, none⟩ (.bool startT.2.2.2.2)) w.heap.size w.heap.size startT := BoxT.stored (t' := startT) BR2
        have HBZ : Below w.heap.size w (((((w2.setCell ⟨w.heap.size, 0, none⟩ (.int .i64 startT.1)).setCell ⟨w.heap.size, 1, none⟩ (.int .i64 startT.2.1)).setCell ⟨w.heap.size, 2, none⟩ (.int .i64 startT.2.2.1)).setCell ⟨w.heap.size, 3, none⟩ (.int .i64 startT.2.2.2.1)).setCell ⟨w.heap.size, 4, none⟩ (.bool startT.2.2.2.2)) := (((((hb3.setCell (p := ⟨w.heap.size, 0, none⟩) (Nat.le_refl _) _).setCell (p := ⟨w.heap.size, 1, none⟩) (Nat.le_refl _) _).setCell (p := ⟨w.heap.size, 2, none⟩) (Nat.le_refl _) _).setCell (p := ⟨w.heap.size, 3, none⟩) (Nat.le_refl _) _).setCell (p := ⟨w.heap.size, 4, none⟩) (Nat.le_refl _) _)
        go_wp2_with fail
        generalize (((((w2.setCell ⟨w.heap.size, 0, none⟩ (.int .i64 startT.1)).setCell ⟨w.heap.size, 1, none⟩ (.int .i64 startT.2.1)).setCell ⟨w.heap.size, 2, none⟩ (.int .i64 startT.2.2.1)).setCell ⟨w.heap.size, 3, none⟩ (.int .i64 startT.2.2.2.1)).setCell ⟨w.heap.size, 4, none⟩ (.bool startT.2.2.2.2)) = Z at BZ HBZ ⊢
        obtain ⟨e0, -⟩ := BoxT.cell BZ 0 _ rfl
        obtain ⟨e1, -⟩ := BoxT.cell BZ 1 _ rfl
        obtain ⟨e2, -⟩ := BoxT.cell BZ 2 _ rfl
        obtain ⟨e3, -⟩ := BoxT.cell BZ 3 _ rfl
        obtain ⟨e4, -⟩ := BoxT.cell BZ 4 _ rfl
        refine bodyPost_ret (v := .tuple #[.agg (eTS startT), .slice none 0 0, .int .i64 2]) ?_ rfl ?_
        · refine (results_cell_tmp3 Try.results73 _ _ _).trans ?_
          show (((loadVar 99 ⟨w.heap.size, 0, none⟩).run Try.prog Z).andThen fun v w₂ => Result.ok (Value.tuple #[v, Value.slice none 0 0, Value.int .i64 2]) w₂) = _
          rw [load_tour Z _ _ _ _ _ _ e0 e1 e2 e3 e4]
          rfl
        · exact GivesSC.no HE.out (by decide) HBZ
    · have htok : tourOk l.length T = true := allTo_true (fun i hi => HT.out i (by omega))
      have HTO := hd htok
      have BRa := BoxT.below' BR hbel
      have BTa := BoxT.below' BT hbel
      have hbw := below_step hb2 hbel
      have hszw : w.heap.size + 2 ≤ wr.heap.size := Nat.le_trans hsz1 hbel.size
      obtain ⟨i0, hi, hz0, hz1, hz2⟩ := info_parts info_i64
      clear BR BT hb2 hbel htok HT hsz1
      go_wp2_with fail
      obtain ⟨wA, rfl⟩ : ∃ wA : World, wA = wr := ⟨_, rfl⟩
      have OD := Own.made0 wA wA.heap.size 2 1 eI (Nat.le_refl _)
      have BRb := Own.alloc BRa (.cells #[] 2)
      have BTb := Own.alloc BTa (.cells #[] 2)
      have hbA := hbw.alloc hbw.size (.cells #[] 2)
      clear BRa BTa hbw
      go_loopw [11, 12] (fun dv i wr => ∃ k : Nat, k ≤ T.length ∧ i = .int .i64 k ∧ Own wr wA.heap.size 2 1 dv eI (showsT l H (rowsOf L) startT (T.take k)) ∧ BoxT wr w.heap.size w.heap.size zeroT ∧ BoxT wr w.heap.size (w.heap.size + 1) (runT l H (rowsOf L) startT (T.take k)) ∧ Below w.heap.size w wr ∧ wA.heap.size ≤ wr.heap.size) (fun _ i _ => T.length - (intOf i).toNat)
      case atStart => exact ⟨0, Nat.zero_le _, rfl, OD, BRb, BTb, hbA, by simp⟩
      case round =>
        obtain ⟨k, hk, rfl, hD, BR, BT, hbel, hzA⟩ := hrel
        clear OD BRb BTb hbA
        by_cases hlt : k < T.length
        · obtain ⟨j, hj, hjl⟩ := tourOk_at HTO.out k hlt
          have HBD := hd (run_bd HOK.out HTO.out k (by omega))
          have HRUN := hd (run_take (l := l) (H := H) (R := rowsOf L) hlt hj)
          have HSH := hd (shows_take (l := l) (H := H) (R := rowsOf L) hlt hj)
          have HDL := hd (show (showsT l H (rowsOf L) startT (T.take k)).length = k by rw [showsT_len, List.length_take]; omega)
          obtain ⟨bt, ot, rfl, hbt, ct0⟩ := (ht.below hbel).int_at hlt
          rw [hj] at ct0
          have hw0s : w.heap.size < wr.heap.size := by omega
          have hw1s : w.heap.size + 1 < wr.heap.size := by omega
          generalize runT l H (rowsOf L) startT (T.take k) = t at BT HBD HRUN HSH
          generalize showsT l H (rowsOf L) startT (T.take k) = D at hD HSH HDL
          have hDl : D.length ≤ 1048576 := by have := HDL.out; omega
          obtain ⟨t0, tf0⟩ := BoxT.cell BT 0 _ rfl
          obtain ⟨t1, tf1⟩ := BoxT.cell BT 1 _ rfl
          obtain ⟨t2, tf2⟩ := BoxT.cell BT 2 _ rfl
          obtain ⟨t3, tf3⟩ := BoxT.cell BT 3 _ rfl
          obtain ⟨t4, tf4⟩ := BoxT.cell BT 4 _ rfl
          have BD : Below w.heap.size w wr.drew := below_drewN hbel 1
          have HJ := hd hj
          clear hj
          go_wp2_with fail
          have BD2 : Below w.heap.size w (wr.alloc (.cells #[.int .i64 0, .int .i64 0, .int .i64 0, .int .i64 0, .bool false] 99)).drew := below_drewN (hbel.alloc hbel.size (.cells #[.int .i64 0, .int .i64 0, .int .i64 0, .int .i64 0, .bool false] 99)) 1
          have gz : (wr.alloc (.cells #[.int .i64 0, .int .i64 0, .int .i64 0, .int .i64 0, .bool false] 99)).drew.heap[wr.heap.size]? = some (.cells (eTS zeroT) 99 (0, 0)) := heap_alloc_new wr (.cells #[.int .i64 0, .int .i64 0, .int .i64 0, .int .i64 0, .bool false] 99)
          have zz : wr.heap.size < (wr.alloc (.cells #[.int .i64 0, .int .i64 0, .int .i64 0, .int .i64 0, .bool false] 99)).drew.heap.size := by show wr.heap.size < (wr.alloc (.cells #[.int .i64 0, .int .i64 0, .int .i64 0, .int .i64 0, .bool false] 99)).heap.size; simp
          go_region_law (first | (go_simp; go_at_call 126; (first | (refine (next_spec wr.drew _ _ (h.below BD) g _ _ ((BD.cell hgs).trans p0) ((BD.cell hgs).trans p1) _ _ (h1.below BD) (h2.below BD) HOK.out t k (by omega) HBD.out j hjl).mono ?_; rintro e w3 ⟨rfl, hb3⟩; unfold eTS) | (refine (next_spec (wr.alloc (.cells #[.int .i64 0, .int .i64 0, .int .i64 0, .int .i64 0, .bool false] 99)).drew _ _ (h.below BD2) g _ _ ((BD2.cell hgs).trans p0) ((BD2.cell hgs).trans p1) _ _ (h1.below BD2) (h2.below BD2) HOK.out t k (by omega) HBD.out j hjl).mono ?_; rintro e w3 ⟨rfl, hb3⟩; unfold eTS; have gz3 := (hb3.block _ zz).trans gz; have x0 : w3.cell? ⟨wr.heap.size, 0, none⟩ = some (.int .i64 0) := cell_of_row w3 wr.heap.size 0 _ _ (0, 0) gz3; have x1 : w3.cell? ⟨wr.heap.size, 1, none⟩ = some (.int .i64 0) := cell_of_row w3 wr.heap.size 1 _ _ (0, 0) gz3; have x2 : w3.cell? ⟨wr.heap.size, 2, none⟩ = some (.int .i64 0) := cell_of_row w3 wr.heap.size 2 _ _ (0, 0) gz3; have x3 : w3.cell? ⟨wr.heap.size, 3, none⟩ = some (.int .i64 0) := cell_of_row w3 wr.heap.size 3 _ _ (0, 0) gz3; have x4 : w3.cell? ⟨wr.heap.size, 4, none⟩ = some (.bool false) := cell_of_row w3 wr.heap.size 4 _ _ (0, 0) gz3; have y0 := free_at gz3 0; have y1 := free_at gz3 1; have y2 := free_at gz3 2; have y3 := free_at gz3 3; have y4 := free_at gz3 4))))
          clear gz zz t0 t1 t2 t3 t4 tf0 tf1 tf2 tf3 tf4 ct0
          all_goals
            first
            | (fail_if_success (have h3 := gz3)
               have BN : BoxT (w3.alloc (.cells #[.int .i64 (nextT l H (rowsOf L) t j).1, .int .i64 (nextT l H (rowsOf L) t j).2.1, .int .i64 (nextT l H (rowsOf L) t j).2.2.1, .int .i64 (nextT l H (rowsOf L) t j).2.2.2.1, .bool (nextT l H (rowsOf L) t j).2.2.2.2] 99)) w.heap.size w3.heap.size (nextT l H (rowsOf L) t j) := Own.base (BoxT.made w3 (nextT l H (rowsOf L) t j)) (by have := hb3.size; have e : wr.drew.heap.size = wr.heap.size := rfl; omega)
               have BRn : BoxT (w3.alloc (.cells #[.int .i64 (nextT l H (rowsOf L) t j).1, .int .i64 (nextT l H (rowsOf L) t j).2.1, .int .i64 (nextT l H (rowsOf L) t j).2.2.1, .int .i64 (nextT l H (rowsOf L) t j).2.2.2.1, .bool (nextT l H (rowsOf L) t j).2.2.2.2] 99)) w.heap.size w.heap.size zeroT := Own.alloc (Own.below (Own.drew BR) hb3 (Nat.le_refl _)) _
               have BTn : BoxT (w3.alloc (.cells #[.int .i64 (nextT l H (rowsOf L) t j).1, .int .i64 (nextT l H (rowsOf L) t j).2.1, .int .i64 (nextT l H (rowsOf L) t j).2.2.1, .int .i64 (nextT l H (rowsOf L) t j).2.2.2.1, .bool (nextT l H (rowsOf L) t j).2.2.2.2] 99)) w.heap.size (w.heap.size + 1) t := Own.alloc (Own.below (Own.drew BT) hb3 (Nat.le_refl _)) _
               have hDn := (Own.below (Own.drew hD) hb3 (Nat.le_refl _)).alloc (.cells #[.int .i64 (nextT l H (rowsOf L) t j).1, .int .i64 (nextT l H (rowsOf L) t j).2.1, .int .i64 (nextT l H (rowsOf L) t j).2.2.1, .int .i64 (nextT l H (rowsOf L) t j).2.2.2.1, .bool (nextT l H (rowsOf L) t j).2.2.2.2] 99)
               have hbN : Below w.heap.size w (w3.alloc (.cells #[.int .i64 (nextT l H (rowsOf L) t j).1, .int .i64 (nextT l H (rowsOf L) t j).2.1, .int .i64 (nextT l H (rowsOf L) t j).2.2.1, .int .i64 (nextT l H (rowsOf L) t j).2.2.2.1, .bool (nextT l H (rowsOf L) t j).2.2.2.2] 99)) := (below_step BD hb3).alloc (below_step BD hb3).size _
               have hzN : wA.heap.size ≤ (w3.alloc (.cells #[.int .i64 (nextT l H (rowsOf L) t j).1, .int .i64 (nextT l H (rowsOf L) t j).2.1, .int .i64 (nextT l H (rowsOf L) t j).2.2.1, .int .i64 (nextT l H (rowsOf L) t j).2.2.2.1, .bool (nextT l H (rowsOf L) t j).2.2.2.2] 99)).heap.size := by have := hb3.size; have e : wr.drew.heap.size = wr.heap.size := rfl; simp; omega
               clear hb3
               generalize (w3.alloc (.cells #[.int .i64 (nextT l H (rowsOf L) t j).1, .int .i64 (nextT l H (rowsOf L) t j).2.1, .int .i64 (nextT l H (rowsOf L) t j).2.2.1, .int .i64 (nextT l H (rowsOf L) t j).2.2.2.1, .bool (nextT l H (rowsOf L) t j).2.2.2.2] 99)) = N at BN BRn BTn hDn hbN hzN ⊢
               skip)
            | (
               have BX : BoxT w3 w.heap.size wr.heap.size zeroT := BoxT.of_heap gz3 (by omega)
               have BN : BoxT (((((w3.setCell ⟨wr.heap.size, 0, none⟩ (.int .i64 (nextT l H (rowsOf L) t j).1)).setCell ⟨wr.heap.size, 1, none⟩ (.int .i64 (nextT l H (rowsOf L) t j).2.1)).setCell ⟨wr.heap.size, 2, none⟩ (.int .i64 (nextT l H (rowsOf L) t j).2.2.1)).setCell ⟨wr.heap.size, 3, none⟩ (.int .i64 (nextT l H (rowsOf L) t j).2.2.2.1)).setCell ⟨wr.heap.size, 4, none⟩ (.bool (nextT l H (rowsOf L) t j).2.2.2.2)) w.heap.size wr.heap.size (nextT l H (rowsOf L) t j) := BoxT.stored (t' := (nextT l H (rowsOf L) t j)) BX
               have hgq := grown_five w3 wr.heap.size (.int .i64 (nextT l H (rowsOf L) t j).1) (.int .i64 (nextT l H (rowsOf L) t j).2.1) (.int .i64 (nextT l H (rowsOf L) t j).2.2.1) (.int .i64 (nextT l H (rowsOf L) t j).2.2.2.1) (.bool (nextT l H (rowsOf L) t j).2.2.2.2)
               have BRn : BoxT (((((w3.setCell ⟨wr.heap.size, 0, none⟩ (.int .i64 (nextT l H (rowsOf L) t j).1)).setCell ⟨wr.heap.size, 1, none⟩ (.int .i64 (nextT l H (rowsOf L) t j).2.1)).setCell ⟨wr.heap.size, 2, none⟩ (.int .i64 (nextT l H (rowsOf L) t j).2.2.1)).setCell ⟨wr.heap.size, 3, none⟩ (.int .i64 (nextT l H (rowsOf L) t j).2.2.2.1)).setCell ⟨wr.heap.size, 4, none⟩ (.bool (nextT l H (rowsOf L) t j).2.2.2.2)) w.heap.size w.heap.size zeroT := Own.grown (Own.below (Own.drew (Own.alloc BR (.cells #[.int .i64 0, .int .i64 0, .int .i64 0, .int .i64 0, .bool false] 99))) hb3 (Nat.le_refl _)) hgq (.inr (by simp [Value.ownBlock]; omega))
               have BTn : BoxT (((((w3.setCell ⟨wr.heap.size, 0, none⟩ (.int .i64 (nextT l H (rowsOf L) t j).1)).setCell ⟨wr.heap.size, 1, none⟩ (.int .i64 (nextT l H (rowsOf L) t j).2.1)).setCell ⟨wr.heap.size, 2, none⟩ (.int .i64 (nextT l H (rowsOf L) t j).2.2.1)).setCell ⟨wr.heap.size, 3, none⟩ (.int .i64 (nextT l H (rowsOf L) t j).2.2.2.1)).setCell ⟨wr.heap.size, 4, none⟩ (.bool (nextT l H (rowsOf L) t j).2.2.2.2)) w.heap.size (w.heap.size + 1) t := Own.grown (Own.below (Own.drew (Own.alloc BT (.cells #[.int .i64 0, .int .i64 0, .int .i64 0, .int .i64 0, .bool false] 99))) hb3 (Nat.le_refl _)) hgq (.inr (by simp [Value.ownBlock]; omega))
               have hDn := (Own.below (Own.drew (Own.alloc hD (.cells #[.int .i64 0, .int .i64 0, .int .i64 0, .int .i64 0, .bool false] 99))) hb3 (Nat.le_refl _)).grown hgq (own_ne_new hD (.inr (Nat.le_refl _)))
               have hbN : Below w.heap.size w (((((w3.setCell ⟨wr.heap.size, 0, none⟩ (.int .i64 (nextT l H (rowsOf L) t j).1)).setCell ⟨wr.heap.size, 1, none⟩ (.int .i64 (nextT l H (rowsOf L) t j).2.1)).setCell ⟨wr.heap.size, 2, none⟩ (.int .i64 (nextT l H (rowsOf L) t j).2.2.1)).setCell ⟨wr.heap.size, 3, none⟩ (.int .i64 (nextT l H (rowsOf L) t j).2.2.2.1)).setCell ⟨wr.heap.size, 4, none⟩ (.bool (nextT l H (rowsOf L) t j).2.2.2.2)) := ((((((below_step BD2 hb3).setCell (p := ⟨wr.heap.size, 0, none⟩) (Nat.le_of_lt hw0s) _).setCell (p := ⟨wr.heap.size, 1, none⟩) (Nat.le_of_lt hw0s) _).setCell (p := ⟨wr.heap.size, 2, none⟩) (Nat.le_of_lt hw0s) _).setCell (p := ⟨wr.heap.size, 3, none⟩) (Nat.le_of_lt hw0s) _).setCell (p := ⟨wr.heap.size, 4, none⟩) (Nat.le_of_lt hw0s) _)
               have hzN : wA.heap.size ≤ (((((w3.setCell ⟨wr.heap.size, 0, none⟩ (.int .i64 (nextT l H (rowsOf L) t j).1)).setCell ⟨wr.heap.size, 1, none⟩ (.int .i64 (nextT l H (rowsOf L) t j).2.1)).setCell ⟨wr.heap.size, 2, none⟩ (.int .i64 (nextT l H (rowsOf L) t j).2.2.1)).setCell ⟨wr.heap.size, 3, none⟩ (.int .i64 (nextT l H (rowsOf L) t j).2.2.2.1)).setCell ⟨wr.heap.size, 4, none⟩ (.bool (nextT l H (rowsOf L) t j).2.2.2.2)).heap.size := by have := hb3.size; simp at this; simp; omega
               clear x0 x1 x2 x3 x4 y0 y1 y2 y3 y4 gz3 hb3 hgq BX
               generalize (((((w3.setCell ⟨wr.heap.size, 0, none⟩ (.int .i64 (nextT l H (rowsOf L) t j).1)).setCell ⟨wr.heap.size, 1, none⟩ (.int .i64 (nextT l H (rowsOf L) t j).2.1)).setCell ⟨wr.heap.size, 2, none⟩ (.int .i64 (nextT l H (rowsOf L) t j).2.2.1)).setCell ⟨wr.heap.size, 3, none⟩ (.int .i64 (nextT l H (rowsOf L) t j).2.2.2.1)).setCell ⟨wr.heap.size, 4, none⟩ (.bool (nextT l H (rowsOf L) t j).2.2.2.2)) = N at BN BRn BTn hDn hbN hzN ⊢
               skip)
          all_goals
            obtain ⟨n0, -⟩ := BoxT.cell BN 0 _ rfl
            obtain ⟨n1, -⟩ := BoxT.cell BN 1 _ rfl
            obtain ⟨n2, -⟩ := BoxT.cell BN 2 _ rfl
            obtain ⟨n3, -⟩ := BoxT.cell BN 3 _ rfl
            obtain ⟨n4, -⟩ := BoxT.cell BN 4 _ rfl
            obtain ⟨c0, f0⟩ := BoxT.cell BTn 0 _ rfl
            obtain ⟨c1, f1⟩ := BoxT.cell BTn 1 _ rfl
            obtain ⟨c2, f2⟩ := BoxT.cell BTn 2 _ rfl
            obtain ⟨c3, f3⟩ := BoxT.cell BTn 3 _ rfl
            obtain ⟨c4, f4⟩ := BoxT.cell BTn 4 _ rfl
            have hg5 := grown_five N (w.heap.size + 1) (.int .i64 (nextT l H (rowsOf L) t j).1) (.int .i64 (nextT l H (rowsOf L) t j).2.1) (.int .i64 (nextT l H (rowsOf L) t j).2.2.1) (.int .i64 (nextT l H (rowsOf L) t j).2.2.2.1) (.bool (nextT l H (rowsOf L) t j).2.2.2.2)
            have hD1 := hDn.grown hg5 (own_ne_new hDn (.inl (by omega)))
            have BT1 : BoxT (((((N.setCell ⟨w.heap.size + 1, 0, none⟩ (.int .i64 (nextT l H (rowsOf L) t j).1)).setCell ⟨w.heap.size + 1, 1, none⟩ (.int .i64 (nextT l H (rowsOf L) t j).2.1)).setCell ⟨w.heap.size + 1, 2, none⟩ (.int .i64 (nextT l H (rowsOf L) t j).2.2.1)).setCell ⟨w.heap.size + 1, 3, none⟩ (.int .i64 (nextT l H (rowsOf L) t j).2.2.2.1)).setCell ⟨w.heap.size + 1, 4, none⟩ (.bool (nextT l H (rowsOf L) t j).2.2.2.2)) w.heap.size (w.heap.size + 1) (nextT l H (rowsOf L) t j) := BoxT.stored (t' := (nextT l H (rowsOf L) t j)) BTn
            have BR1 : BoxT (((((N.setCell ⟨w.heap.size + 1, 0, none⟩ (.int .i64 (nextT l H (rowsOf L) t j).1)).setCell ⟨w.heap.size + 1, 1, none⟩ (.int .i64 (nextT l H (rowsOf L) t j).2.1)).setCell ⟨w.heap.size + 1, 2, none⟩ (.int .i64 (nextT l H (rowsOf L) t j).2.2.1)).setCell ⟨w.heap.size + 1, 3, none⟩ (.int .i64 (nextT l H (rowsOf L) t j).2.2.2.1)).setCell ⟨w.heap.size + 1, 4, none⟩ (.bool (nextT l H (rowsOf L) t j).2.2.2.2)) w.heap.size w.heap.size zeroT := Own.grown BRn hg5 (.inr (by simp [Value.ownBlock]))
            have hb1n : Below w.heap.size w (((((N.setCell ⟨w.heap.size + 1, 0, none⟩ (.int .i64 (nextT l H (rowsOf L) t j).1)).setCell ⟨w.heap.size + 1, 1, none⟩ (.int .i64 (nextT l H (rowsOf L) t j).2.1)).setCell ⟨w.heap.size + 1, 2, none⟩ (.int .i64 (nextT l H (rowsOf L) t j).2.2.1)).setCell ⟨w.heap.size + 1, 3, none⟩ (.int .i64 (nextT l H (rowsOf L) t j).2.2.2.1)).setCell ⟨w.heap.size + 1, 4, none⟩ (.bool (nextT l H (rowsOf L) t j).2.2.2.2)) := (((((hbN.setCell (p := ⟨w.heap.size + 1, 0, none⟩) (Nat.le_succ _) _).setCell (p := ⟨w.heap.size + 1, 1, none⟩) (Nat.le_succ _) _).setCell (p := ⟨w.heap.size + 1, 2, none⟩) (Nat.le_succ _) _).setCell (p := ⟨w.heap.size + 1, 3, none⟩) (Nat.le_succ _) _).setCell (p := ⟨w.heap.size + 1, 4, none⟩) (Nat.le_succ _) _)
            clear hg5 BN BTn BRn hDn
            go_wp2_with (at_builtin; refine wpList_push _ rfl _ _ 25 rfl i0 (.int .i64 0) 8 Try.underlying25 hi hz0 hz1 hz2 rfl (by decide) _ _ (showT l H (rowsOf L) t j) rfl (hD1.alloc _) N.heap.size rfl #[.int .i64 (showT l H (rowsOf L) t j)] 2 (by have e := heap_alloc_new (((((N.setCell ⟨w.heap.size + 1, 0, none⟩ (.int .i64 (nextT l H (rowsOf L) t j).1)).setCell ⟨w.heap.size + 1, 1, none⟩ (.int .i64 (nextT l H (rowsOf L) t j).2.1)).setCell ⟨w.heap.size + 1, 2, none⟩ (.int .i64 (nextT l H (rowsOf L) t j).2.2.1)).setCell ⟨w.heap.size + 1, 3, none⟩ (.int .i64 (nextT l H (rowsOf L) t j).2.2.2.1)).setCell ⟨w.heap.size + 1, 4, none⟩ (.bool (nextT l H (rowsOf L) t j).2.2.2.2)) (.cells #[.int .i64 (showT l H (rowsOf L) t j)] 2); simpa using e) rfl rfl (by intro u hu; simp [eI] at hu; subst hu; rfl) (by unfold maxLen; omega) (by omega) (by simp; omega) ?_)
            intro vd w5 hD2 hg2
            have hA1 : w.heap.size + 1 < wA.heap.size := by omega
            have hA0 : w.heap.size < wA.heap.size := by omega
            have BT2 := (Own.alloc BT1 (.cells #[.int .i64 (showT l H (rowsOf L) t j)] 2)).grown hg2 (ne_symm (own_ne_new hD1 (.inl hA1)))
            have BR2 := (Own.alloc BR1 (.cells #[.int .i64 (showT l H (rowsOf L) t j)] 2)).grown hg2 (ne_symm (own_ne_new hD1 (.inl hA0)))
            have hb5 := (hb1n.alloc hb1n.size (.cells #[.int .i64 (showT l H (rowsOf L) t j)] 2)).grown hg2 (by have := hb1n.size; simp at this; simp; omega) (fun g hg => by have := (hD1.lt g hg).1; omega)
            have hz5 : wA.heap.size ≤ w5.heap.size := by have := hg2.size; simp at this; omega
            clear hD1 BT1 BR1 hb1n hg2
            go_wp2_with fail
            go_roundw
            case rel => exact ⟨k + 1, by omega, by go_num, by rw [HSH.out]; exact hD2, BR2, by rw [HRUN.out]; exact BT2, hb5, hz5⟩
            case measure => simp [intOf]; omega
        · have hkT : k = T.length := by omega
          subst hkT
          rw [List.take_length] at hD BT
          obtain ⟨dv, rfl, hD⟩ := own_name hD
          obtain ⟨⟨ta, tb, tc, td, tl⟩, hrt⟩ : ∃ t', runT l H (rowsOf L) startT T = t' := ⟨_, rfl⟩
          rw [hrt] at BT
          have HRT := hd hrt
          clear hrt
          have hw0s : w.heap.size < wr.heap.size := by omega
          have hne1 : w.heap.size ≠ w.heap.size + 1 := by omega
          have hne2 : w.heap.size + 1 ≠ w.heap.size := by omega
          have t0 : wr.cell? ⟨w.heap.size + 1, 0, none⟩ = some (.int .i64 ta) := (BoxT.cell BT 0 _ rfl).1
          have t1 : wr.cell? ⟨w.heap.size + 1, 1, none⟩ = some (.int .i64 tb) := (BoxT.cell BT 1 _ rfl).1
          have t2 : wr.cell? ⟨w.heap.size + 1, 2, none⟩ = some (.int .i64 tc) := (BoxT.cell BT 2 _ rfl).1
          have t3 : wr.cell? ⟨w.heap.size + 1, 3, none⟩ = some (.int .i64 td) := (BoxT.cell BT 3 _ rfl).1
          have t4 : wr.cell? ⟨w.heap.size + 1, 4, none⟩ = some (.bool tl) := (BoxT.cell BT 4 _ rfl).1
          obtain ⟨r0, rf0⟩ := BoxT.cell BR 0 _ rfl
          obtain ⟨r1, rf1⟩ := BoxT.cell BR 1 _ rfl
          obtain ⟨r2, rf2⟩ := BoxT.cell BR 2 _ rfl
          obtain ⟨r3, rf3⟩ := BoxT.cell BR 3 _ rfl
          obtain ⟨r4, rf4⟩ := BoxT.cell BR 4 _ rfl
          cases tl
          · have HE := hd (tcode0 HQ1.out HTO.out (by unfold lateT; rw [HRT.out]))
            have hDZ := hD.grown (grown_five wr w.heap.size (.int .i64 ta) (.int .i64 tb) (.int .i64 tc) (.int .i64 td) (.bool false)) (own_ne_new hD (.inl (by omega)))
            have BZ : BoxT (((((wr.setCell ⟨w.heap.size, 0, none⟩ (.int .i64 ta)).setCell ⟨w.heap.size, 1, none⟩ (.int .i64 tb)).setCell ⟨w.heap.size, 2, none⟩ (.int .i64 tc)).setCell ⟨w.heap.size, 3, none⟩ (.int .i64 td)).setCell ⟨w.heap.size, 4, none⟩ (.bool false)) w.heap.size w.heap.size (ta, tb, tc, td, false) := BoxT.stored (t' := (ta, tb, tc, td, false)) BR
            have HBZ : Below w.heap.size w (((((wr.setCell ⟨w.heap.size, 0, none⟩ (.int .i64 ta)).setCell ⟨w.heap.size, 1, none⟩ (.int .i64 tb)).setCell ⟨w.heap.size, 2, none⟩ (.int .i64 tc)).setCell ⟨w.heap.size, 3, none⟩ (.int .i64 td)).setCell ⟨w.heap.size, 4, none⟩ (.bool false)) := (((((hbel.setCell (p := ⟨w.heap.size, 0, none⟩) (Nat.le_refl _) _).setCell (p := ⟨w.heap.size, 1, none⟩) (Nat.le_refl _) _).setCell (p := ⟨w.heap.size, 2, none⟩) (Nat.le_refl _) _).setCell (p := ⟨w.heap.size, 3, none⟩) (Nat.le_refl _) _).setCell (p := ⟨w.heap.size, 4, none⟩) (Nat.le_refl _) _)
            go_wp2_with fail
            generalize (((((wr.setCell ⟨w.heap.size, 0, none⟩ (.int .i64 ta)).setCell ⟨w.heap.size, 1, none⟩ (.int .i64 tb)).setCell ⟨w.heap.size, 2, none⟩ (.int .i64 tc)).setCell ⟨w.heap.size, 3, none⟩ (.int .i64 td)).setCell ⟨w.heap.size, 4, none⟩ (.bool false)) = Z at BZ HBZ hDZ ⊢
            obtain ⟨e0, -⟩ := BoxT.cell BZ 0 _ rfl
            obtain ⟨e1, -⟩ := BoxT.cell BZ 1 _ rfl
            obtain ⟨e2, -⟩ := BoxT.cell BZ 2 _ rfl
            obtain ⟨e3, -⟩ := BoxT.cell BZ 3 _ rfl
            obtain ⟨e4, -⟩ := BoxT.cell BZ 4 _ rfl
            refine bodyPost_ret (v := .tuple #[.agg (eTS (ta, tb, tc, td, false)), dv, .int .i64 0]) ?_ rfl ?_
            · refine (results_cell_tmp3 Try.results73 _ _ _).trans ?_
              show (((loadVar 99 ⟨w.heap.size, 0, none⟩).run Try.prog Z).andThen fun v w₂ => Result.ok (Value.tuple #[v, dv, Value.int .i64 0]) w₂) = _
              rw [load_tour Z _ _ _ _ _ _ e0 e1 e2 e3 e4]
              rfl
            · exact ⟨_, _, by rw [HE.out], fun _ => HRT.out.symm, by rw [showsR, if_pos HE.out]; exact Own.base hDZ (Nat.le_trans (Nat.le_add_right _ 2) hszw), HBZ⟩
          · have HE := hd (tcode9 HQ1.out HTO.out (by unfold lateT; rw [HRT.out]))
            have BZ : BoxT (((((wr.setCell ⟨w.heap.size, 0, none⟩ (.int .i64 ta)).setCell ⟨w.heap.size, 1, none⟩ (.int .i64 tb)).setCell ⟨w.heap.size, 2, none⟩ (.int .i64 tc)).setCell ⟨w.heap.size, 3, none⟩ (.int .i64 td)).setCell ⟨w.heap.size, 4, none⟩ (.bool true)) w.heap.size w.heap.size (ta, tb, tc, td, true) := BoxT.stored (t' := (ta, tb, tc, td, true)) BR
            have HBZ : Below w.heap.size w (((((wr.setCell ⟨w.heap.size, 0, none⟩ (.int .i64 ta)).setCell ⟨w.heap.size, 1, none⟩ (.int .i64 tb)).setCell ⟨w.heap.size, 2, none⟩ (.int .i64 tc)).setCell ⟨w.heap.size, 3, none⟩ (.int .i64 td)).setCell ⟨w.heap.size, 4, none⟩ (.bool true)) := (((((hbel.setCell (p := ⟨w.heap.size, 0, none⟩) (Nat.le_refl _) _).setCell (p := ⟨w.heap.size, 1, none⟩) (Nat.le_refl _) _).setCell (p := ⟨w.heap.size, 2, none⟩) (Nat.le_refl _) _).setCell (p := ⟨w.heap.size, 3, none⟩) (Nat.le_refl _) _).setCell (p := ⟨w.heap.size, 4, none⟩) (Nat.le_refl _) _)
            go_wp2_with fail
            generalize (((((wr.setCell ⟨w.heap.size, 0, none⟩ (.int .i64 ta)).setCell ⟨w.heap.size, 1, none⟩ (.int .i64 tb)).setCell ⟨w.heap.size, 2, none⟩ (.int .i64 tc)).setCell ⟨w.heap.size, 3, none⟩ (.int .i64 td)).setCell ⟨w.heap.size, 4, none⟩ (.bool true)) = Z at BZ HBZ ⊢
            obtain ⟨e0, -⟩ := BoxT.cell BZ 0 _ rfl
            obtain ⟨e1, -⟩ := BoxT.cell BZ 1 _ rfl
            obtain ⟨e2, -⟩ := BoxT.cell BZ 2 _ rfl
            obtain ⟨e3, -⟩ := BoxT.cell BZ 3 _ rfl
            obtain ⟨e4, -⟩ := BoxT.cell BZ 4 _ rfl
            refine bodyPost_ret (v := .tuple #[.agg (eTS (ta, tb, tc, td, true)), .slice none 0 0, .int .i64 9]) ?_ rfl ?_
            · refine (results_cell_tmp3 Try.results73 _ _ _).trans ?_
              show (((loadVar 99 ⟨w.heap.size, 0, none⟩).run Try.prog Z).andThen fun v w₂ => Result.ok (Value.tuple #[v, Value.slice none 0 0, Value.int .i64 9]) w₂) = _
              rw [load_tour Z _ _ _ _ _ _ e0 e1 e2 e3 e4]
              rfl
            · exact GivesSC.no HE.out (by decide) HBZ

end Go.Proofs.Ytlgcehdklpbknaa
