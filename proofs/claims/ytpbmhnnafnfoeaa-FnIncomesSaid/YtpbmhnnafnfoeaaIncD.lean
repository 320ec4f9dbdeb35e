/- What the reference draws for prices, seats and shares. No condition but that the bytes read. -/
import Derived.Test.YtpbmhnnafnfoeaaSrc
import Derived.Maps.AppendAt
namespace Go.Proofs.Ytpbmhnnafnfoeaa
open Go Go.RowKit Go.ChangeShapes Go.WideShapes
set_option linter.unusedSimpArgs false
set_option linter.unusedVariables false
theorem Src.below2 {w0 W W' : World} {v : Value} {g n C : Nat} (h : Src w0 v g n W) (hC : g < C) (hb : Below C W W') : Src w0 v g n W' := by
  obtain ⟨h1, h2, h3, p, seed, h4, h5, c0, c1, c2, f1, f2⟩ := h
  exact ⟨Nat.lt_of_lt_of_le h1 hb.size, h2, h3.trans (hb.mono (by omega)), p, seed, h4, h5, (hb.cell (p := ⟨g, 0, none⟩) hC).trans c0, (hb.cell (p := ⟨g, 1, none⟩) hC).trans c1, (hb.cell (p := ⟨g, 2, none⟩) hC).trans c2, (hb.frozen (p := ⟨g, 1, none⟩) hC).trans f1, (hb.frozen (p := ⟨g, 2, none⟩) hC).trans f2⟩
theorem Own.src {α : Type} {W W' : World} {g : Nat} {E : TypeId} {k : Nat} {v : Value} {enc : α → List Value} {L : List α} (h : Own W (g + 1) E k v enc L) (hg : W.grownBy W' (some g)) : Own W' (g + 1) E k v enc L :=
  h.grown hg (by
    rcases q : v.ownBlock with _ | b
    · exact .inl rfl
    · refine .inr ?_
      have := (h.lt b q).1
      intro e
      injection e with e
      omega)
theorem grow_alloc {W W' : World} {r : Option Nat} (h : W.grownBy W' r) (o : Obj) : W.grownBy (W'.alloc o) r := grownBy_trans h (grownBy_of_below ((Below.refl W'.heap.size W').alloc (Nat.le_refl _) o) r)
theorem own_list (W : World) (B : Nat) (hB : B ≤ W.heap.size) (E : TypeId) (L : List Int) (h0 : L.length ≤ 9223372036854775807) : Own (W.alloc (.cells (L.map (Value.int .i64)).toArray E)) B E 1 (.slice (some ⟨W.heap.size, 0, none⟩) L.length L.length) eI L := by
  have hf : L.flatMap eI = L.map (Value.int .i64) := by
    clear h0
    induction L with
    | nil => rfl
    | cons x r ih => rw [List.flatMap_cons, ih]; rfl
  refine ⟨by rw [flatMap_len eI 1 eI_len], .inr ⟨W.heap.size, L.length, (L.map (Value.int .i64)).toArray, rfl, hB, heap_alloc_new W _, Nat.le_refl _, h0, ?_, ?_⟩⟩
  · simp
  · rw [hf]
    simp
    exact List.take_of_length_le (by simp)
/-- the list of a choice, made before the choice -/
theorem list_stays {W : World} {g : Nat} (hg : g < W.heap.size) (E : TypeId) (L : List Int) (h0 : L.length ≤ 9223372036854775807) : ∀ W', (W.alloc (.cells (L.map (Value.int .i64)).toArray E)).grownBy W' (some g) → Sl W' 1 (.slice (some ⟨W.heap.size, 0, none⟩) L.length L.length) eI L := fun W' hgr =>
  (((own_list W (g + 1) (by omega) E L h0).src hgr).sl eI_len)
theorem free_src {w : World} {b : Nat} {cs : Array Value} {t : TypeId} (h : w.heap[b]? = some (.cells cs t (0, 0))) (o : Nat) : w.frozen? ⟨b, o, none⟩ = false := by simp [World.frozen?, h]
theorem src_new (w : World) (v : Value) (T : TypeId) : Src w v w.heap.size 0 (w.alloc (.cells #[v, .int .i64 0, .int .u64 0] T)) := by
  have g0 : (w.alloc (.cells #[v, .int .i64 0, .int .u64 0] T)).heap[w.heap.size]? = some (.cells #[v, .int .i64 0, .int .u64 0] T (0, 0)) := heap_alloc_new w _
  exact ⟨by simp, Nat.le_refl _, (Below.refl _ _).alloc (Nat.le_refl _) _, 0, 0, Nat.le_refl _, by omega, cell_of_row _ _ 0 _ _ (0, 0) g0, cell_of_row _ _ 1 _ _ (0, 0) g0, cell_of_row _ _ 2 _ _ (0, 0) g0, free_src g0 1, free_src g0 2⟩
set_option maxRecDepth 100000 in
set_option maxHeartbeats 2000000 in
theorem cents_src (w0 : World) (v : Value) (l : List UInt8) (hS : Sl w0 1 v eU l) (hl : l.length ≤ 1048576) (w : World) (g n : Nat) (h : Src w0 v g n w) (hn : n ≤ 800000000) :
    Calls Try.prog 17 #[.pointer (some ⟨g, 0, none⟩)] w fun e w' => ∃ x : Int, e = .returned (.int .i64 x) ∧ Src w0 v g (n + 4) w' ∧ w.grownBy w' (some g) := by
  go_enter Try.func17, Try.ntmps17
  go_wp2_with fail
  refine (one_src w0 v l hS hl _ g n h (by omega) 8 (by omega)).mono ?_
  rintro e w1 ⟨b, rfl, S1, G1⟩
  rcases b with _ | _
  · go_wp2_with fail
    refine (pick_src w0 v l hS hl _ g (n + 2) S1 (by omega) 20000 (by omega)).mono ?_
    rintro e w2 ⟨x, -, rfl, S2, G2⟩
    go_wp2_with fail
    go_ret
    exact ⟨x, rfl, S2, grownBy_trans G1 G2⟩
  · have hb := (Below.refl w1.heap.size w1).alloc (Nat.le_refl _) (.cells (([-1, 0, 1, 10000000, 10000001, -9223372036854775808] : List Int).map (Value.int .i64)).toArray 2)
    have S1' := S1.below hb
    have hLs := list_stays S1.1 2 [-1, 0, 1, 10000000, 10000001, -9223372036854775808] (by decide)
    go_wp2_with fail
    refine (among_src w0 v l hS hl _ g (n + 2) S1' (by omega) _ [-1, 0, 1, 10000000, 10000001, -9223372036854775808] hLs (by decide) (by decide)).mono ?_
    rintro e w2 ⟨x, -, rfl, S2, G2⟩
    go_wp2_with fail
    go_ret
    exact ⟨x, rfl, S2, grownBy_trans G1 (grownBy_trans (grownBy_of_below hb _) G2)⟩
theorem from_src (w : World) (v : Value) (hv : ∃ A n c, v = .slice A n c) :
    Calls Try.prog 16 #[v] w fun e w' => e = .returned (.pointer (some ⟨w.heap.size, 0, none⟩)) ∧ Src w v w.heap.size 0 w' ∧ Below w.heap.size w w' ∧ w'.heap.size = w.heap.size + 1 := by
  obtain ⟨A, n, c, rfl⟩ := hv
  go_enter Try.func16, Try.ntmps16
  go_wp2_with fail
  go_ret
  exact ⟨rfl, src_new w _ _, (Below.refl _ _).alloc (Nat.le_refl _) _, by simp⟩
set_option maxRecDepth 100000 in
set_option maxHeartbeats 4000000 in
theorem draw_seats (w : World) (v : Value) (l : List UInt8) (hS : Sl w 1 v eU l) (hl : l.length ≤ 1048576) :
    Calls Try.prog 5 #[v] w fun e w' => ∃ a b c : Int, e = .returned (.tuple #[.int .i64 a, .int .i64 b, .int .i64 c]) ∧ Below w.heap.size w w' := by
  have hv : ∃ A n c, v = .slice A n c := by obtain ⟨A, c, h⟩ := hS.isSlice; exact ⟨A, _, c, h⟩
  go_enter Try.func5, Try.ntmps5
  go_wp2_with fail
  refine (from_src w v hv).mono ?_
  rintro e w1 ⟨rfl, S, K, hz⟩
  go_wp2_with fail
  refine (cents_src w v l hS hl _ _ 0 S (by omega)).mono ?_
  rintro e w2 ⟨a, rfl, S, G⟩
  replace K := K.grown G K.size (fun k hk => by injection hk with hk; omega)
  go_wp2_with fail
  refine (pick_src w v l hS hl _ _ 4 S (by omega) 50 (by omega)).mono ?_
  rintro e w3 ⟨b0, ⟨z1, z2⟩, rfl, S, G⟩
  replace K := K.grown G K.size (fun k hk => by injection hk with hk; omega)
  go_wp2_with fail
  refine (one_src w v l hS hl _ _ 6 S (by omega) 8 (by omega)).mono ?_
  rintro e w4 ⟨y, rfl, S, G⟩
  replace K := K.grown G K.size (fun k hk => by injection hk with hk; omega)
  rcases y with _ | _
  · go_wp2_with fail
    refine (one_src w v l hS hl _ _ 10 (S.le (by omega)) (by omega) 8 (by omega)).mono ?_
    rintro e w6 ⟨y2, rfl, S, G⟩
    replace K := K.grown G K.size (fun k hk => by injection hk with hk; omega)
    rcases y2 with _ | _
    · go_wp2_with fail
      refine (pick_src w v l hS hl _ _ 12 S (by omega) 1000 (by omega)).mono ?_
      rintro e w7 ⟨c0, ⟨z3, z4⟩, rfl, S, G⟩
      replace K := K.grown G K.size (fun k hk => by injection hk with hk; omega)
      go_wp2_with fail
      go_ret3
      exact ⟨_, _, _, rfl, K⟩
    · have hb6 := (Below.refl w6.heap.size w6).alloc (Nat.le_refl _) (.cells (([-1, 0, 1, 1000, 1001] : List Int).map (Value.int .i64)).toArray 2)
      have hLs6 := list_stays S.1 2 [-1, 0, 1, 1000, 1001] (by decide)
      replace S := S.below hb6
      replace K := K.trans (hb6.mono K.size)
      go_wp2_with fail
      refine (among_src w v l hS hl _ _ 12 S (by omega) _ _ hLs6 (by decide) (by decide)).mono ?_
      rintro e w7 ⟨c0, -, rfl, S, G⟩
      replace K := K.grown G K.size (fun k hk => by injection hk with hk; omega)
      go_wp2_with fail
      go_ret3
      exact ⟨_, _, _, rfl, K⟩
  · have hb4 := (Below.refl w4.heap.size w4).alloc (Nat.le_refl _) (.cells (([-1, 0, 1, 10000000, 10000001] : List Int).map (Value.int .i64)).toArray 2)
    have hLs4 := list_stays S.1 2 [-1, 0, 1, 10000000, 10000001] (by decide)
    replace S := S.below hb4
    replace K := K.trans (hb4.mono K.size)
    go_wp2_with fail
    refine (among_src w v l hS hl _ _ 8 S (by omega) _ _ hLs4 (by decide) (by decide)).mono ?_
    rintro e w5 ⟨b1, -, rfl, S, G⟩
    replace K := K.grown G K.size (fun k hk => by injection hk with hk; omega)
    go_wp2_with fail
    refine (one_src w v l hS hl _ _ 10 (S.le (by omega)) (by omega) 8 (by omega)).mono ?_
    rintro e w6 ⟨y2, rfl, S, G⟩
    replace K := K.grown G K.size (fun k hk => by injection hk with hk; omega)
    rcases y2 with _ | _
    · go_wp2_with fail
      refine (pick_src w v l hS hl _ _ 12 S (by omega) 1000 (by omega)).mono ?_
      rintro e w7 ⟨c0, ⟨z3, z4⟩, rfl, S, G⟩
      replace K := K.grown G K.size (fun k hk => by injection hk with hk; omega)
      go_wp2_with fail
      go_ret3
      exact ⟨_, _, _, rfl, K⟩
    · have hb6 := (Below.refl w6.heap.size w6).alloc (Nat.le_refl _) (.cells (([-1, 0, 1, 1000, 1001] : List Int).map (Value.int .i64)).toArray 2)
      have hLs6 := list_stays S.1 2 [-1, 0, 1, 1000, 1001] (by decide)
      replace S := S.below hb6
      replace K := K.trans (hb6.mono K.size)
      go_wp2_with fail
      refine (among_src w v l hS hl _ _ 12 S (by omega) _ _ hLs6 (by decide) (by decide)).mono ?_
      rintro e w7 ⟨c0, -, rfl, S, G⟩
      replace K := K.grown G K.size (fun k hk => by injection hk with hk; omega)
      go_wp2_with fail
      go_ret3
      exact ⟨_, _, _, rfl, K⟩
theorem wpList_push2 {P : Program} {α : Type} {enc : α → List Value} {k : Nat} (w : World) {ops : Array Oper} {rest : List Oper} {o : Oper} {a : Act} {Q : Exit → Act → World → Prop} (hgd : o.guard = none) (s x : Operand) (t : TypeId)
    (ho : o.op = .call { callee := .builtin .append, args := #[s, x], argTypes := #[t, t] })
    {B E : Nat} (i : TypeInfo) (z : Value) (bytes : Nat) (ht : P.underlying t = some (.slice E)) (hi : P.info? E = some i) (hz : i.zero = some z)
    (hsize : i.size = k) (hby : i.bytes = bytes) (hzs : z.cells.size = k) (hsz : 0 < k)
    (v : Value) (l : List α) (y : α) (hs : a.eval s = v) (hown : Own w B E k v enc l)
    (g : Nat) (hx : a.eval x = .slice (some ⟨g, 0, none⟩) 1 1) (cs : Array Value) (E' : TypeId) (hg : w.heap[g]? = some (.cells cs E' (0, 0))) (hcs : cs.toList = enc y) (hlen : (enc y).length = k) (h1 : ∀ u ∈ enc y, u.oneCell' = true)
    (h63 : l.length + 1 ≤ maxLen) (hbytes : (l.length + 1) * bytes ≤ 140737488355328) (hbase : B ≤ w.heap.size)
    (h : ∀ v' w', Own w' B E k v' enc (l ++ [y]) → w.grownBy w' v.ownBlock → (v'.ownBlock = v.ownBlock ∨ v'.ownBlock = some w.heap.size) → wpList P ops Q rest (a.put o.dst v') w') : wpList P ops Q (o :: rest) a w :=
  wpList_plain hgd fun _ hK => by
    obtain ⟨v', w', hr, h2, h3, -, h4⟩ := run_append_own_at (P := P) (w := w) B t o.type E i z k bytes ht hi hz hsize hby hzs hsz v l.length (l.flatMap enc) hown ⟨g, 0, none⟩ 1 1 (enc y) (by simpa using hlen) (fun j u hu => by
      have hadd : (⟨g, 0, none⟩ : Addr).add j = ⟨g, j, none⟩ := by unfold Addr.add; split <;> simp_all
      rw [hadd, cell_of_row w g j cs E' (0, 0) hg, ← hu, ← hcs]
      simp) h1 h63 hbytes hbase
    unfold Oper.wp execOp
    simp only [ho, resolve, invoke, builtin, Sem.run_bind, Sem.run_pure, Result.andThen_ok, List.map_toArray, List.map_cons, List.map_nil, hs, hx, hr]
    exact hK _ _ (h v' w' (by unfold Own; simpa using h2) h3 h4)
set_option maxRecDepth 100000 in
set_option maxHeartbeats 8000000 in
theorem draw_split (w : World) (v : Value) (l : List UInt8) (hS : Sl w 1 v eU l) (hl : l.length ≤ 1048576) :
    Calls Try.prog 11 #[v] w fun e w' => ∃ (a : Int) (u : Value) (L : List Int), e = .returned (.tuple #[.int .i64 a, u]) ∧ Own w' w.heap.size 2 1 u eI L ∧ L.length ≤ 31 ∧ Below w.heap.size w w' := by
  have hv : ∃ A n c, v = .slice A n c := by obtain ⟨A, c, h⟩ := hS.isSlice; exact ⟨A, _, c, h⟩
  obtain ⟨i0, hi, hz0, hz1, hz2⟩ := info_parts info_i64
  go_enter Try.func11, Try.ntmps11
  go_wp2_with fail
  refine (from_src w v hv).mono ?_
  rintro e w1 ⟨rfl, S, K, hz⟩
  go_wp2_with fail
  refine (cents_src w v l hS hl _ _ 0 S (by omega)).mono ?_
  rintro e w2 ⟨inc, rfl, S, G⟩
  replace K := K.grown G K.size (fun k hk => by injection hk with hk; omega)
  have hsz2 : w.heap.size + 1 ≤ w2.heap.size := S.1
  have O := Own.made0 w2 (w.heap.size + 1) 2 1 eI hsz2
  have hb2 := (Below.refl w2.heap.size w2).alloc (Nat.le_refl _) (.cells #[] 2)
  replace S := S.below hb2
  replace K := K.trans (hb2.mono K.size)
  go_wp2_with fail
  refine (pick_src w v l hS hl _ _ 4 S (by omega) 6 (by omega)).mono ?_
  rintro e w3 ⟨n0, ⟨z1, z2⟩, rfl, S, G⟩
  replace K := K.grown G K.size (fun k hk => by injection hk with hk; omega)
  replace O := O.src G
  go_wp2_with fail
  refine (one_src w v l hS hl _ _ 6 S (by omega) 20 (by omega)).mono ?_
  rintro e w4 ⟨y, rfl, S, G⟩
  replace K := K.grown G K.size (fun k hk => by injection hk with hk; omega)
  replace O := O.src G
  clear hb2 G hsz2 hz
  rcases y with _ | _
  · go_wp2_with fail
    go_loopw [6, 8] (fun ov kv wr => ∃ (k : Int) (L : List Int), kv = .int .i64 k ∧ 0 ≤ k ∧ (L.length : Int) + k = n0 ∧ Own wr (w.heap.size + 1) 2 1 ov eI L ∧ Src w v w.heap.size (100 + 2 * L.length) wr ∧ Below w.heap.size w wr) (fun _ kv _ => (intOf kv).toNat)
    case atStart => exact ⟨n0, [], rfl, by omega, by simp, O, S.le (by omega), K⟩
    case round =>
      obtain ⟨k, L, rfl, hk0, hkl, O2, S2, K2⟩ := hrel
      clear O S K
      have hL31 : L.length ≤ 31 := by omega
      by_cases hlt : 0 < k
      · go_wp2_with fail
        refine (pick_src w v l hS hl _ _ _ S2 (by omega) 7 (by omega)).mono ?_
        rintro e w6 ⟨x, ⟨x1, x2⟩, rfl, S3, G3⟩
        have K3 := K2.grown G3 K2.size (fun k hk => by injection hk with hk; omega)
        have O3 := O2.src G3
        have hgs := S3.1
        clear O2 S2 K2 G3
        go_wp2_with (at_builtin; refine wpList_push2 _ rfl _ _ 28 rfl i0 (.int .i64 0) 8 Try.underlying28 hi hz0 hz1 hz2 rfl (by decide) _ _ (x : Int) rfl (O3.alloc _) w6.heap.size rfl #[.int .i64 x] 2 (heap_alloc_new _ _) rfl rfl (by intro u hu; simp [eI] at hu; subst hu; rfl) (by unfold maxLen; omega) (by omega) (by simp; omega) ?_)
        intro v' w7 O7 hg7 ho7
        have E7 := ((Below.refl (w.heap.size + 1) w6).alloc (by omega) (.cells #[.int .i64 x] 2)).grown hg7 (by simp; omega) (fun b hb => (O3.lt b hb).1)
        have S7 := S3.below2 (Nat.lt_succ_self _) E7
        have K7 := K3.trans (E7.mono (by omega))
        clear O3 S3 K3 hg7 E7 ho7
        go_wp2_with fail
        go_roundw
        case rel => exact ⟨k - 1, L ++ [x], by go_num, by omega, by simp; omega, O7, S7.le (by simp; omega), K7⟩
        case measure => simp [intOf]; omega
      · obtain rfl : k = 0 := by omega
        obtain ⟨A, cc, rfl⟩ := O2.isSlice
        by_cases hn : (0 : Int) < n0
        case neg =>
          go_wp2_with fail
          go_ret2
          first | exact ⟨_, _, L, rfl, O2.base (by omega), hL31, K2⟩ | exact ⟨_, _, rfl, L, O2.base (by omega), hL31, K2⟩
        go_wp2_with fail
        refine (one_src w v l hS hl _ _ _ S2 (by omega) 12 (by omega)).mono ?_
        rintro e w6 ⟨y, rfl, S3, G3⟩
        have K3 := K2.grown G3 K2.size (fun k hk => by injection hk with hk; omega)
        have O3 := O2.src G3
        clear O2 S2 K2 G3
        rcases y with _ | _
        · go_wp2_with fail
          go_ret2
          first | exact ⟨_, _, L, rfl, O3.base (by omega), hL31, K3⟩ | exact ⟨_, _, rfl, L, O3.base (by omega), hL31, K3⟩
        have hb7 := (Below.refl w6.heap.size w6).alloc (Nat.le_refl _) (.cells (([-1, 0, 1000, 1001] : List Int).map (Value.int .i64)).toArray 2)
        have hLs := list_stays S3.1 2 [-1, 0, 1000, 1001] (by decide)
        have S4 := S3.below hb7
        have K4 := K3.trans (hb7.mono K3.size)
        have O4 := O3.below hb7 (Nat.le_refl _)
        clear S3 K3 O3
        go_wp2_with fail
        refine (among_src w v l hS hl _ _ _ S4 (by omega) _ _ hLs (by decide) (by decide)).mono ?_
        rintro e w8 ⟨x, -, rfl, S5, G5⟩
        have K5 := K4.grown G5 K4.size (fun k hk => by injection hk with hk; omega)
        have O5 := O4.src G5
        clear S4 K4 O4 G5 hLs hb7
        have hL0 : 0 < L.length := by omega
        rcases O5.form with ⟨-, hn⟩ | ⟨gg, cap, hv5, hg1, hg2, hg3, hg4⟩
        · rw [hn] at hL0; exact absurd hL0 (by decide)
        injection hv5 with hA hB hC
        subst hA
        subst hC
        obtain ⟨b5, o5, hA5, -, c5⟩ := (O5.sl eI_len).int_at hL0
        injection hA5 with hA5
        injection hA5 with hb5 ho5 _
        subst hb5
        subst ho5
        have ff := World.ownsRow.frozenAt O5 0
        have O6 := O5.set1 0 x
        have K6 := K5.setCell (p := ⟨gg, 0, none⟩) (show w.heap.size ≤ gg by omega) (.int .i64 x)
        have HO := hd O6
        have HK := hd K6
        clear O6 K6 K5 O5 S5
        go_wp2_with fail
        go_ret2
        first | exact ⟨_, _, L.set 0 x, rfl, HO.out.base (by omega), by simp; omega, HK.out⟩ | exact ⟨_, _, rfl, L.set 0 x, HO.out.base (by omega), by simp; omega, HK.out⟩
  · go_wp2_with fail
    refine (pick_src w v l hS hl _ _ 8 S (by omega) 2 (by omega)).mono ?_
    rintro e w5 ⟨n1, ⟨z3, z4⟩, rfl, S, G⟩
    replace K := K.grown G K.size (fun k hk => by injection hk with hk; omega)
    replace O := O.src G
    clear G
    go_wp2_with fail
    go_loopw [6, 8] (fun ov kv wr => ∃ (k : Int) (L : List Int), kv = .int .i64 k ∧ 0 ≤ k ∧ (L.length : Int) + k = 30 + n1 ∧ Own wr (w.heap.size + 1) 2 1 ov eI L ∧ Src w v w.heap.size (100 + 2 * L.length) wr ∧ Below w.heap.size w wr) (fun _ kv _ => (intOf kv).toNat)
    case atStart => exact ⟨30 + n1, [], rfl, by omega, by simp, O, S.le (by omega), K⟩
    case round =>
      obtain ⟨k, L, rfl, hk0, hkl, O2, S2, K2⟩ := hrel
      clear O S K
      have hL31 : L.length ≤ 31 := by omega
      by_cases hlt : 0 < k
      · go_wp2_with fail
        refine (pick_src w v l hS hl _ _ _ S2 (by omega) 7 (by omega)).mono ?_
        rintro e w6 ⟨x, ⟨x1, x2⟩, rfl, S3, G3⟩
        have K3 := K2.grown G3 K2.size (fun k hk => by injection hk with hk; omega)
        have O3 := O2.src G3
        have hgs := S3.1
        clear O2 S2 K2 G3
        go_wp2_with (at_builtin; refine wpList_push2 _ rfl _ _ 28 rfl i0 (.int .i64 0) 8 Try.underlying28 hi hz0 hz1 hz2 rfl (by decide) _ _ (x : Int) rfl (O3.alloc _) w6.heap.size rfl #[.int .i64 x] 2 (heap_alloc_new _ _) rfl rfl (by intro u hu; simp [eI] at hu; subst hu; rfl) (by unfold maxLen; omega) (by omega) (by simp; omega) ?_)
        intro v' w7 O7 hg7 ho7
        have E7 := ((Below.refl (w.heap.size + 1) w6).alloc (by omega) (.cells #[.int .i64 x] 2)).grown hg7 (by simp; omega) (fun b hb => (O3.lt b hb).1)
        have S7 := S3.below2 (Nat.lt_succ_self _) E7
        have K7 := K3.trans (E7.mono (by omega))
        clear O3 S3 K3 hg7 E7 ho7
        go_wp2_with fail
        go_roundw
        case rel => exact ⟨k - 1, L ++ [x], by go_num, by omega, by simp; omega, O7, S7.le (by simp; omega), K7⟩
        case measure => simp [intOf]; omega
      · obtain rfl : k = 0 := by omega
        obtain ⟨A, cc, rfl⟩ := O2.isSlice
        by_cases hn : (0 : Int) < 30 + n1
        case neg =>
          go_wp2_with fail
          go_ret2
          first | exact ⟨_, _, L, rfl, O2.base (by omega), hL31, K2⟩ | exact ⟨_, _, rfl, L, O2.base (by omega), hL31, K2⟩
        go_wp2_with fail
        refine (one_src w v l hS hl _ _ _ S2 (by omega) 12 (by omega)).mono ?_
        rintro e w6 ⟨y, rfl, S3, G3⟩
        have K3 := K2.grown G3 K2.size (fun k hk => by injection hk with hk; omega)
        have O3 := O2.src G3
        clear O2 S2 K2 G3
        rcases y with _ | _
        · go_wp2_with fail
          go_ret2
          first | exact ⟨_, _, L, rfl, O3.base (by omega), hL31, K3⟩ | exact ⟨_, _, rfl, L, O3.base (by omega), hL31, K3⟩
        have hb7 := (Below.refl w6.heap.size w6).alloc (Nat.le_refl _) (.cells (([-1, 0, 1000, 1001] : List Int).map (Value.int .i64)).toArray 2)
        have hLs := list_stays S3.1 2 [-1, 0, 1000, 1001] (by decide)
        have S4 := S3.below hb7
        have K4 := K3.trans (hb7.mono K3.size)
        have O4 := O3.below hb7 (Nat.le_refl _)
        clear S3 K3 O3
        go_wp2_with fail
        refine (among_src w v l hS hl _ _ _ S4 (by omega) _ _ hLs (by decide) (by decide)).mono ?_
        rintro e w8 ⟨x, -, rfl, S5, G5⟩
        have K5 := K4.grown G5 K4.size (fun k hk => by injection hk with hk; omega)
        have O5 := O4.src G5
        clear S4 K4 O4 G5 hLs hb7
        have hL0 : 0 < L.length := by omega
        rcases O5.form with ⟨-, hn⟩ | ⟨gg, cap, hv5, hg1, hg2, hg3, hg4⟩
        · rw [hn] at hL0; exact absurd hL0 (by decide)
        injection hv5 with hA hB hC
        subst hA
        subst hC
        obtain ⟨b5, o5, hA5, -, c5⟩ := (O5.sl eI_len).int_at hL0
        injection hA5 with hA5
        injection hA5 with hb5 ho5 _
        subst hb5
        subst ho5
        have ff := World.ownsRow.frozenAt O5 0
        have O6 := O5.set1 0 x
        have K6 := K5.setCell (p := ⟨gg, 0, none⟩) (show w.heap.size ≤ gg by omega) (.int .i64 x)
        have HO := hd O6
        have HK := hd K6
        clear O6 K6 K5 O5 S5
        go_wp2_with fail
        go_ret2
        first | exact ⟨_, _, L.set 0 x, rfl, HO.out.base (by omega), by simp; omega, HK.out⟩ | exact ⟨_, _, rfl, L.set 0 x, HO.out.base (by omega), by simp; omega, HK.out⟩
set_option maxRecDepth 100000 in
set_option maxHeartbeats 8000000 in
theorem draw_best (w : World) (v : Value) (l : List UInt8) (hS : Sl w 1 v eU l) (hl : l.length ≤ 1048576) :
    Calls Try.prog 8 #[v] w fun e w' => ∃ (u1 u2 : Value) (P Z : List Int), e = .returned (.tuple #[u1, u2]) ∧ Own w' w.heap.size 2 1 u1 eI P ∧ Own w' w.heap.size 2 1 u2 eI Z ∧ P.length ≤ 31 ∧ Z.length ≤ 32 ∧ Below w.heap.size w w' := by
  have hv : ∃ A n c, v = .slice A n c := by obtain ⟨A, c, h⟩ := hS.isSlice; exact ⟨A, _, c, h⟩
  obtain ⟨i0, hi, hz0, hz1, hz2⟩ := info_parts info_i64
  go_enter Try.func8, Try.ntmps8
  go_wp2_with fail
  refine (from_src w v hv).mono ?_
  rintro e w1 ⟨rfl, S, K, hz⟩
  have hsz2 : w.heap.size + 1 ≤ w1.heap.size := S.1
  have O1 := (Own.made0 w1 (w.heap.size + 1) 2 1 eI hsz2).alloc (.cells #[] 2)
  have O2 := Own.made0 (w1.alloc (.cells #[] 2)) (w.heap.size + 1) 2 1 eI (by simp; omega)
  have hz3 : (w1.alloc (.cells #[] 2)).heap.size = w1.heap.size + 1 := by simp
  rw [hz3] at O2
  have hb2 := ((Below.refl w1.heap.size w1).alloc (Nat.le_refl _) (.cells #[] 2)).alloc (show w1.heap.size ≤ (w1.alloc (.cells #[] 2)).heap.size by omega) (.cells #[] 2)
  replace S := S.below hb2
  replace K := K.trans (hb2.mono K.size)
  have N : (Value.slice (some ⟨w1.heap.size, 0, none⟩) 0 0).ownBlock = none ∨ (Value.slice (some ⟨w1.heap.size, 0, none⟩) 0 0).ownBlock ≠ (Value.slice (some ⟨w1.heap.size + 1, 0, none⟩) 0 0).ownBlock := .inr (by simp [Value.ownBlock])
  clear hz hz3
  go_wp2_with fail
  refine (pick_src w v l hS hl _ _ 0 S (by omega) 7 (by omega)).mono ?_
  rintro e w3 ⟨n0, ⟨z1, z2⟩, rfl, S, G⟩
  replace K := K.grown G K.size (fun k hk => by injection hk with hk; omega)
  replace O1 := O1.src G
  replace O2 := O2.src G
  go_wp2_with fail
  refine (one_src w v l hS hl _ _ 2 S (by omega) 20 (by omega)).mono ?_
  rintro e w4 ⟨y, rfl, S, G⟩
  replace K := K.grown G K.size (fun k hk => by injection hk with hk; omega)
  replace O1 := O1.src G
  replace O2 := O2.src G
  clear hb2 G hsz2
  rcases y with _ | _
  · go_wp2_with fail
    go_loopw [5, 6, 8] (fun ov uv kv wr => ∃ (k : Int) (L M : List Int) (o u : Value), o = ov ∧ u = uv ∧ kv = .int .i64 k ∧ 0 ≤ k ∧ (L.length : Int) + k = n0 ∧ M.length = L.length ∧ Own wr (w.heap.size + 1) 2 1 o eI L ∧ Own wr (w.heap.size + 1) 2 1 u eI M ∧ (o.ownBlock = none ∨ o.ownBlock ≠ u.ownBlock) ∧ Src w v w.heap.size (100 + 4 * L.length) wr ∧ Below w.heap.size w wr) (fun _ _ kv _ => (intOf kv).toNat)
    case atStart => exact ⟨n0, [], [], _, _, rfl, rfl, rfl, by omega, by simp, rfl, O1, O2, N, S.le (by omega), K⟩
    case round =>
      obtain ⟨k, L, M, o, u, rfl, rfl, rfl, hk0, hkl, hml, P1, P2, N2, S2, K2⟩ := hrel
      clear O1 O2 S K N
      have hL31 : L.length ≤ 31 := by omega
      by_cases hlt : 0 < k
      · go_wp2_with fail
        refine (pick_src w v l hS hl _ _ _ S2 (by omega) 60 (by omega)).mono ?_
        rintro e w6 ⟨x, ⟨x1, x2⟩, rfl, S3, G3⟩
        have K3 := K2.grown G3 K2.size (fun k hk => by injection hk with hk; omega)
        have Q1 := P1.src G3
        have Q2 := P2.src G3
        have hgs := S3.1
        clear P1 P2 S2 K2 G3
        go_wp2_with (at_builtin; refine wpList_push2 _ rfl _ _ 28 rfl i0 (.int .i64 0) 8 Try.underlying28 hi hz0 hz1 hz2 rfl (by decide) _ _ ((10 * x) : Int) rfl (Q1.alloc _) w6.heap.size rfl #[.int .i64 (10 * x)] 2 (heap_alloc_new _ _) rfl rfl (by intro u hu; simp [eI] at hu; subst hu; rfl) (by unfold maxLen; omega) (by omega) (by simp; omega) ?_)
        intro v7 w7 R1 hg7 ho7
        have E7 := ((Below.refl (w.heap.size + 1) w6).alloc (by omega) (.cells #[.int .i64 (10 * x)] 2)).grown hg7 (by simp; omega) (fun b hb => (Q1.lt b hb).1)
        have R2 := (Q2.alloc (.cells #[.int .i64 (10 * x)] 2)).grown hg7 (ne_symm N2)
        have N7 : v7.ownBlock = none ∨ v7.ownBlock ≠ u.ownBlock := by
          rcases ho7 with h | h
          · rw [h]; exact N2
          · rw [h]
            rcases q : u.ownBlock with _ | b
            · exact .inr (by simp)
            · refine .inr ?_
              have := (Q2.lt b q).2
              intro e
              injection e with e
              first | omega | (simp at e; omega)
        have S7 := S3.below2 (Nat.lt_succ_self _) E7
        have K7 := K3.trans (E7.mono (by omega))
        have hgs7 := S7.1
        clear Q1 Q2 S3 K3 hg7 E7 ho7 N2
        go_wp2_with fail
        refine (pick_src w v l hS hl _ _ _ S7 (by omega) 300 (by omega)).mono ?_
        rintro e w8 ⟨x8, ⟨x3, x4⟩, rfl, S8, G8⟩
        have K8 := K7.grown G8 K7.size (fun k hk => by injection hk with hk; omega)
        have T1 := R1.src G8
        have T2 := R2.src G8
        have hgs8 := S8.1
        clear R1 R2 S7 K7 G8
        go_wp2_with (at_builtin; refine wpList_push2 _ rfl _ _ 28 rfl i0 (.int .i64 0) 8 Try.underlying28 hi hz0 hz1 hz2 rfl (by decide) _ _ ((x8) : Int) rfl (T2.alloc _) w8.heap.size rfl #[.int .i64 (x8)] 2 (heap_alloc_new _ _) rfl rfl (by intro u hu; simp [eI] at hu; subst hu; rfl) (by unfold maxLen; omega) (by omega) (by simp; omega) ?_)
        intro v9 w9 U2 hg9 ho9
        have E9 := ((Below.refl (w.heap.size + 1) w8).alloc (by omega) (.cells #[.int .i64 (x8)] 2)).grown hg9 (by simp; omega) (fun b hb => (T2.lt b hb).1)
        have U1 := (T1.alloc (.cells #[.int .i64 (x8)] 2)).grown hg9 N7
        have N9 : v7.ownBlock = none ∨ v7.ownBlock ≠ v9.ownBlock := by
          rcases ho9 with h | h
          · rw [h]; exact N7
          · rw [h]
            rcases q : v7.ownBlock with _ | b
            · exact .inl rfl
            · refine .inr ?_
              have := (T1.lt b q).2
              intro e
              injection e with e
              first | omega | (simp at e; omega)
        have S9 := S8.below2 (Nat.lt_succ_self _) E9
        have K9 := K8.trans (E9.mono (by omega))
        clear T1 T2 S8 K8 hg9 E9 ho9 N7
        go_wp2_with fail
        go_roundw
        case rel => exact ⟨k - 1, L ++ [10 * x], M ++ [x8], _, _, rfl, rfl, by go_num, by omega, by simp; omega, by simp; omega, U1, U2, N9, S9.le (by simp; omega), K9⟩
        case measure => simp [intOf]; omega
      · obtain rfl : k = 0 := by omega
        go_wp2_with fail
        refine (pick_src w v l hS hl _ _ _ S2 (by omega) 16 (by omega)).mono ?_
        rintro e w6 ⟨x6, ⟨x1, x2⟩, rfl, S3, G3⟩
        have K3 := K2.grown G3 K2.size (fun k hk => by injection hk with hk; omega)
        have Q1 := P1.src G3
        have Q2 := P2.src G3
        have hgs := S3.1
        clear P1 P2 S2 K2 G3
        by_cases y0 : x6 = 0
        · have e0 : (x6 == 0) = true := by simpa using y0
          clear y0
          go_wp2_with (at_builtin; refine wpList_push2 _ rfl _ _ 28 rfl i0 (.int .i64 0) 8 Try.underlying28 hi hz0 hz1 hz2 rfl (by decide) _ _ ((5) : Int) rfl (Q2.alloc _) w6.heap.size rfl #[.int .i64 (5)] 2 (heap_alloc_new _ _) rfl rfl (by intro u hu; simp [eI] at hu; subst hu; rfl) (by unfold maxLen; omega) (by omega) (by simp; omega) ?_)
          intro v7 w7 R2 hg7 ho7
          have E7 := ((Below.refl (w.heap.size + 1) w6).alloc (by omega) (.cells #[.int .i64 (5)] 2)).grown hg7 (by simp; omega) (fun b hb => (Q2.lt b hb).1)
          have R1 := (Q1.alloc (.cells #[.int .i64 (5)] 2)).grown hg7 N2
          have K7 := K3.trans (E7.mono (by omega))
          clear Q1 Q2 hg7 E7 ho7
          go_wp2_with fail
          go_ret2
          first | exact ⟨_, _, L, (M ++ [5]), rfl, R1.base (by omega), R2.base (by omega), (by first | omega | (simp; omega)), (by first | omega | (simp; omega)), K7⟩ | exact ⟨_, _, rfl, L, (M ++ [5]), R1.base (by omega), R2.base (by omega), (by first | omega | (simp; omega)), (by first | omega | (simp; omega)), K7⟩
        have e0 : (x6 == 0) = false := by simpa using y0
        by_cases y1 : x6 = 1
        · have e1 : (x6 == 1) = true := by simpa using y1
          clear y1 y0
          by_cases hn : (0 : Int) < n0
          case neg =>
            first
            | (exfalso; omega)
            | (go_wp2_with fail
               go_ret2
               first | exact ⟨_, _, L, M, rfl, Q1.base (by omega), Q2.base (by omega), (by first | omega | (simp; omega)), (by first | omega | (simp; omega)), K3⟩ | exact ⟨_, _, rfl, L, M, Q1.base (by omega), Q2.base (by omega), (by first | omega | (simp; omega)), (by first | omega | (simp; omega)), K3⟩)
          go_wp2_with fail
          refine (cents_src w v l hS hl _ _ _ S3 (by omega)).mono ?_
          rintro e w8 ⟨x, rfl, S5, G5⟩
          have K5 := K3.grown G5 K3.size (fun k hk => by injection hk with hk; omega)
          have T1 := Q1.src G5
          have T2 := Q2.src G5
          clear Q1 Q2 K3 S3 G5
          have hL0 : 0 < L.length := by omega
          rcases T1.form with ⟨-, hn⟩ | ⟨gg, cap, hv5, hg1, hg2, hg3, hg4⟩
          · rw [hn] at hL0; exact absurd hL0 (by decide)
          subst hv5
          obtain ⟨b5, o5, hA5, -, c5⟩ := (T1.sl eI_len).int_at hL0
          injection hA5 with hA5
          injection hA5 with hb5 ho5 _
          subst hb5
          subst ho5
          have ff := World.ownsRow.frozenAt T1 0
          have O6 := T1.set1 0 x
          have V6 := T2.grown (grow_set w8 ⟨gg, 0, none⟩ (.int .i64 x)) (ne_symm N2)
          have K6 := K5.setCell (p := ⟨gg, 0, none⟩) (show w.heap.size ≤ gg by omega) (.int .i64 x)
          have HO := hd O6
          have HV := hd V6
          have HK := hd K6
          clear O6 V6 K6
          go_wp2_with fail
          go_ret2
          first | exact ⟨_, _, (L.set 0 x), M, rfl, HO.out.base (by omega), HV.out.base (by omega), (by first | omega | (simp; omega)), (by first | omega | (simp; omega)), HK.out⟩ | exact ⟨_, _, rfl, (L.set 0 x), M, HO.out.base (by omega), HV.out.base (by omega), (by first | omega | (simp; omega)), (by first | omega | (simp; omega)), HK.out⟩
        have e1 : (x6 == 1) = false := by simpa using y1
        by_cases y2 : x6 = 2
        · have e2 : (x6 == 2) = true := by simpa using y2
          clear y2 y1 y0
          by_cases hn : (0 : Int) < n0
          case neg =>
            first
            | (exfalso; omega)
            | (go_wp2_with fail
               go_ret2
               first | exact ⟨_, _, L, M, rfl, Q1.base (by omega), Q2.base (by omega), (by first | omega | (simp; omega)), (by first | omega | (simp; omega)), K3⟩ | exact ⟨_, _, rfl, L, M, Q1.base (by omega), Q2.base (by omega), (by first | omega | (simp; omega)), (by first | omega | (simp; omega)), K3⟩)
          have hb7 := (Below.refl w6.heap.size w6).alloc (Nat.le_refl _) (.cells (([-1, 0, 100000, 100001] : List Int).map (Value.int .i64)).toArray 2)
          have hLs := list_stays S3.1 2 [-1, 0, 100000, 100001] (by decide)
          have S4 := S3.below hb7
          have K4 := K3.trans (hb7.mono K3.size)
          have V1 := Q1.below hb7 (Nat.le_refl _)
          have V2 := Q2.below hb7 (Nat.le_refl _)
          clear S3 K3 Q1 Q2
          go_wp2_with fail
          refine (among_src w v l hS hl _ _ _ S4 (by omega) _ _ hLs (by decide) (by decide)).mono ?_
          rintro e w8 ⟨x, -, rfl, S5, G5⟩
          have K5 := K4.grown G5 K4.size (fun k hk => by injection hk with hk; omega)
          have T1 := V1.src G5
          have T2 := V2.src G5
          clear V1 V2 K4 S4 G5 hLs hb7
          have hL0 : 0 < M.length := by omega
          have hM31 : M.length ≤ 31 := by omega
          clear hml
          rcases T2.form with ⟨-, hn⟩ | ⟨gg, cap, hv5, hg1, hg2, hg3, hg4⟩
          · rw [hn] at hL0; exact absurd hL0 (by decide)
          subst hv5
          obtain ⟨b5, o5, hA5, -, c5⟩ := (T2.sl eI_len).int_at hL0
          injection hA5 with hA5
          injection hA5 with hb5 ho5 _
          subst hb5
          subst ho5
          have ff := World.ownsRow.frozenAt T2 0
          have O6 := T2.set1 0 x
          have V6 := T1.grown (grow_set w8 ⟨gg, 0, none⟩ (.int .i64 x)) N2
          have K6 := K5.setCell (p := ⟨gg, 0, none⟩) (show w.heap.size ≤ gg by omega) (.int .i64 x)
          have HO := hd O6
          have HV := hd V6
          have HK := hd K6
          clear O6 V6 K6
          go_wp2_with fail
          go_ret2
          first | exact ⟨_, _, L, (M.set 0 x), rfl, HV.out.base (by omega), HO.out.base (by omega), (by first | omega | (simp; omega)), (by first | omega | (simp; omega)), HK.out⟩ | exact ⟨_, _, rfl, L, (M.set 0 x), HV.out.base (by omega), HO.out.base (by omega), (by first | omega | (simp; omega)), (by first | omega | (simp; omega)), HK.out⟩
        have e2 : (x6 == 2) = false := by simpa using y2
        clear y2 y1 y0
        go_wp2_with fail
        go_ret2
        first | exact ⟨_, _, L, M, rfl, Q1.base (by omega), Q2.base (by omega), (by first | omega | (simp; omega)), (by first | omega | (simp; omega)), K3⟩ | exact ⟨_, _, rfl, L, M, Q1.base (by omega), Q2.base (by omega), (by first | omega | (simp; omega)), (by first | omega | (simp; omega)), K3⟩
  · go_wp2_with fail
    refine (pick_src w v l hS hl _ _ 4 S (by omega) 2 (by omega)).mono ?_
    rintro e w5 ⟨n1, ⟨z3, z4⟩, rfl, S, G⟩
    replace K := K.grown G K.size (fun k hk => by injection hk with hk; omega)
    replace O1 := O1.src G
    replace O2 := O2.src G
    clear G
    go_wp2_with fail
    go_loopw [5, 6, 8] (fun ov uv kv wr => ∃ (k : Int) (L M : List Int) (o u : Value), o = ov ∧ u = uv ∧ kv = .int .i64 k ∧ 0 ≤ k ∧ (L.length : Int) + k = 30 + n1 ∧ M.length = L.length ∧ Own wr (w.heap.size + 1) 2 1 o eI L ∧ Own wr (w.heap.size + 1) 2 1 u eI M ∧ (o.ownBlock = none ∨ o.ownBlock ≠ u.ownBlock) ∧ Src w v w.heap.size (100 + 4 * L.length) wr ∧ Below w.heap.size w wr) (fun _ _ kv _ => (intOf kv).toNat)
    case atStart => exact ⟨30 + n1, [], [], _, _, rfl, rfl, rfl, by omega, by simp, rfl, O1, O2, N, S.le (by omega), K⟩
    case round =>
      obtain ⟨k, L, M, o, u, rfl, rfl, rfl, hk0, hkl, hml, P1, P2, N2, S2, K2⟩ := hrel
      clear O1 O2 S K N
      have hL31 : L.length ≤ 31 := by omega
      by_cases hlt : 0 < k
      · go_wp2_with fail
        refine (pick_src w v l hS hl _ _ _ S2 (by omega) 60 (by omega)).mono ?_
        rintro e w6 ⟨x, ⟨x1, x2⟩, rfl, S3, G3⟩
        have K3 := K2.grown G3 K2.size (fun k hk => by injection hk with hk; omega)
        have Q1 := P1.src G3
        have Q2 := P2.src G3
        have hgs := S3.1
        clear P1 P2 S2 K2 G3
        go_wp2_with (at_builtin; refine wpList_push2 _ rfl _ _ 28 rfl i0 (.int .i64 0) 8 Try.underlying28 hi hz0 hz1 hz2 rfl (by decide) _ _ ((10 * x) : Int) rfl (Q1.alloc _) w6.heap.size rfl #[.int .i64 (10 * x)] 2 (heap_alloc_new _ _) rfl rfl (by intro u hu; simp [eI] at hu; subst hu; rfl) (by unfold maxLen; omega) (by omega) (by simp; omega) ?_)
        intro v7 w7 R1 hg7 ho7
        have E7 := ((Below.refl (w.heap.size + 1) w6).alloc (by omega) (.cells #[.int .i64 (10 * x)] 2)).grown hg7 (by simp; omega) (fun b hb => (Q1.lt b hb).1)
        have R2 := (Q2.alloc (.cells #[.int .i64 (10 * x)] 2)).grown hg7 (ne_symm N2)
        have N7 : v7.ownBlock = none ∨ v7.ownBlock ≠ u.ownBlock := by
          rcases ho7 with h | h
          · rw [h]; exact N2
          · rw [h]
            rcases q : u.ownBlock with _ | b
            · exact .inr (by simp)
            · refine .inr ?_
              have := (Q2.lt b q).2
              intro e
              injection e with e
              first | omega | (simp at e; omega)
        have S7 := S3.below2 (Nat.lt_succ_self _) E7
        have K7 := K3.trans (E7.mono (by omega))
        have hgs7 := S7.1
        clear Q1 Q2 S3 K3 hg7 E7 ho7 N2
        go_wp2_with fail
        refine (pick_src w v l hS hl _ _ _ S7 (by omega) 300 (by omega)).mono ?_
        rintro e w8 ⟨x8, ⟨x3, x4⟩, rfl, S8, G8⟩
        have K8 := K7.grown G8 K7.size (fun k hk => by injection hk with hk; omega)
        have T1 := R1.src G8
        have T2 := R2.src G8
        have hgs8 := S8.1
        clear R1 R2 S7 K7 G8
        go_wp2_with (at_builtin; refine wpList_push2 _ rfl _ _ 28 rfl i0 (.int .i64 0) 8 Try.underlying28 hi hz0 hz1 hz2 rfl (by decide) _ _ ((x8) : Int) rfl (T2.alloc _) w8.heap.size rfl #[.int .i64 (x8)] 2 (heap_alloc_new _ _) rfl rfl (by intro u hu; simp [eI] at hu; subst hu; rfl) (by unfold maxLen; omega) (by omega) (by simp; omega) ?_)
        intro v9 w9 U2 hg9 ho9
        have E9 := ((Below.refl (w.heap.size + 1) w8).alloc (by omega) (.cells #[.int .i64 (x8)] 2)).grown hg9 (by simp; omega) (fun b hb => (T2.lt b hb).1)
        have U1 := (T1.alloc (.cells #[.int .i64 (x8)] 2)).grown hg9 N7
        have N9 : v7.ownBlock = none ∨ v7.ownBlock ≠ v9.ownBlock := by
          rcases ho9 with h | h
          · rw [h]; exact N7
          · rw [h]
            rcases q : v7.ownBlock with _ | b
            · exact .inl rfl
            · refine .inr ?_
              have := (T1.lt b q).2
              intro e
              injection e with e
              first | omega | (simp at e; omega)
        have S9 := S8.below2 (Nat.lt_succ_self _) E9
        have K9 := K8.trans (E9.mono (by omega))
        clear T1 T2 S8 K8 hg9 E9 ho9 N7
        go_wp2_with fail
        go_roundw
        case rel => exact ⟨k - 1, L ++ [10 * x], M ++ [x8], _, _, rfl, rfl, by go_num, by omega, by simp; omega, by simp; omega, U1, U2, N9, S9.le (by simp; omega), K9⟩
        case measure => simp [intOf]; omega
      · obtain rfl : k = 0 := by omega
        go_wp2_with fail
        refine (pick_src w v l hS hl _ _ _ S2 (by omega) 16 (by omega)).mono ?_
        rintro e w6 ⟨x6, ⟨x1, x2⟩, rfl, S3, G3⟩
        have K3 := K2.grown G3 K2.size (fun k hk => by injection hk with hk; omega)
        have Q1 := P1.src G3
        have Q2 := P2.src G3
        have hgs := S3.1
        clear P1 P2 S2 K2 G3
        by_cases y0 : x6 = 0
        · have e0 : (x6 == 0) = true := by simpa using y0
          clear y0
          go_wp2_with (at_builtin; refine wpList_push2 _ rfl _ _ 28 rfl i0 (.int .i64 0) 8 Try.underlying28 hi hz0 hz1 hz2 rfl (by decide) _ _ ((5) : Int) rfl (Q2.alloc _) w6.heap.size rfl #[.int .i64 (5)] 2 (heap_alloc_new _ _) rfl rfl (by intro u hu; simp [eI] at hu; subst hu; rfl) (by unfold maxLen; omega) (by omega) (by simp; omega) ?_)
          intro v7 w7 R2 hg7 ho7
          have E7 := ((Below.refl (w.heap.size + 1) w6).alloc (by omega) (.cells #[.int .i64 (5)] 2)).grown hg7 (by simp; omega) (fun b hb => (Q2.lt b hb).1)
          have R1 := (Q1.alloc (.cells #[.int .i64 (5)] 2)).grown hg7 N2
          have K7 := K3.trans (E7.mono (by omega))
          clear Q1 Q2 hg7 E7 ho7
          go_wp2_with fail
          go_ret2
          first | exact ⟨_, _, L, (M ++ [5]), rfl, R1.base (by omega), R2.base (by omega), (by first | omega | (simp; omega)), (by first | omega | (simp; omega)), K7⟩ | exact ⟨_, _, rfl, L, (M ++ [5]), R1.base (by omega), R2.base (by omega), (by first | omega | (simp; omega)), (by first | omega | (simp; omega)), K7⟩
        have e0 : (x6 == 0) = false := by simpa using y0
        by_cases y1 : x6 = 1
        · have e1 : (x6 == 1) = true := by simpa using y1
          clear y1 y0
          by_cases hn : (0 : Int) < 30 + n1
          case neg =>
            first
            | (exfalso; omega)
            | (go_wp2_with fail
               go_ret2
               first | exact ⟨_, _, L, M, rfl, Q1.base (by omega), Q2.base (by omega), (by first | omega | (simp; omega)), (by first | omega | (simp; omega)), K3⟩ | exact ⟨_, _, rfl, L, M, Q1.base (by omega), Q2.base (by omega), (by first | omega | (simp; omega)), (by first | omega | (simp; omega)), K3⟩)
          go_wp2_with fail
          refine (cents_src w v l hS hl _ _ _ S3 (by omega)).mono ?_
          rintro e w8 ⟨x, rfl, S5, G5⟩
          have K5 := K3.grown G5 K3.size (fun k hk => by injection hk with hk; omega)
          have T1 := Q1.src G5
          have T2 := Q2.src G5
          clear Q1 Q2 K3 S3 G5
          have hL0 : 0 < L.length := by omega
          rcases T1.form with ⟨-, hn⟩ | ⟨gg, cap, hv5, hg1, hg2, hg3, hg4⟩
          · rw [hn] at hL0; exact absurd hL0 (by decide)
          subst hv5
          obtain ⟨b5, o5, hA5, -, c5⟩ := (T1.sl eI_len).int_at hL0
          injection hA5 with hA5
          injection hA5 with hb5 ho5 _
          subst hb5
          subst ho5
          have ff := World.ownsRow.frozenAt T1 0
          have O6 := T1.set1 0 x
          have V6 := T2.grown (grow_set w8 ⟨gg, 0, none⟩ (.int .i64 x)) (ne_symm N2)
          have K6 := K5.setCell (p := ⟨gg, 0, none⟩) (show w.heap.size ≤ gg by omega) (.int .i64 x)
          have HO := hd O6
          have HV := hd V6
          have HK := hd K6
          clear O6 V6 K6
          go_wp2_with fail
          go_ret2
          first | exact ⟨_, _, (L.set 0 x), M, rfl, HO.out.base (by omega), HV.out.base (by omega), (by first | omega | (simp; omega)), (by first | omega | (simp; omega)), HK.out⟩ | exact ⟨_, _, rfl, (L.set 0 x), M, HO.out.base (by omega), HV.out.base (by omega), (by first | omega | (simp; omega)), (by first | omega | (simp; omega)), HK.out⟩
        have e1 : (x6 == 1) = false := by simpa using y1
        by_cases y2 : x6 = 2
        · have e2 : (x6 == 2) = true := by simpa using y2
          clear y2 y1 y0
          by_cases hn : (0 : Int) < 30 + n1
          case neg =>
            first
            | (exfalso; omega)
            | (go_wp2_with fail
               go_ret2
               first | exact ⟨_, _, L, M, rfl, Q1.base (by omega), Q2.base (by omega), (by first | omega | (simp; omega)), (by first | omega | (simp; omega)), K3⟩ | exact ⟨_, _, rfl, L, M, Q1.base (by omega), Q2.base (by omega), (by first | omega | (simp; omega)), (by first | omega | (simp; omega)), K3⟩)
          have hb7 := (Below.refl w6.heap.size w6).alloc (Nat.le_refl _) (.cells (([-1, 0, 100000, 100001] : List Int).map (Value.int .i64)).toArray 2)
          have hLs := list_stays S3.1 2 [-1, 0, 100000, 100001] (by decide)
          have S4 := S3.below hb7
          have K4 := K3.trans (hb7.mono K3.size)
          have V1 := Q1.below hb7 (Nat.le_refl _)
          have V2 := Q2.below hb7 (Nat.le_refl _)
          clear S3 K3 Q1 Q2
          go_wp2_with fail
          refine (among_src w v l hS hl _ _ _ S4 (by omega) _ _ hLs (by decide) (by decide)).mono ?_
          rintro e w8 ⟨x, -, rfl, S5, G5⟩
          have K5 := K4.grown G5 K4.size (fun k hk => by injection hk with hk; omega)
          have T1 := V1.src G5
          have T2 := V2.src G5
          clear V1 V2 K4 S4 G5 hLs hb7
          have hL0 : 0 < M.length := by omega
          have hM31 : M.length ≤ 31 := by omega
          clear hml
          rcases T2.form with ⟨-, hn⟩ | ⟨gg, cap, hv5, hg1, hg2, hg3, hg4⟩
          · rw [hn] at hL0; exact absurd hL0 (by decide)
          subst hv5
          obtain ⟨b5, o5, hA5, -, c5⟩ := (T2.sl eI_len).int_at hL0
          injection hA5 with hA5
          injection hA5 with hb5 ho5 _
          subst hb5
          subst ho5
          have ff := World.ownsRow.frozenAt T2 0
          have O6 := T2.set1 0 x
          have V6 := T1.grown (grow_set w8 ⟨gg, 0, none⟩ (.int .i64 x)) N2
          have K6 := K5.setCell (p := ⟨gg, 0, none⟩) (show w.heap.size ≤ gg by omega) (.int .i64 x)
          have HO := hd O6
          have HV := hd V6
          have HK := hd K6
          clear O6 V6 K6
          go_wp2_with fail
          go_ret2
          first | exact ⟨_, _, L, (M.set 0 x), rfl, HV.out.base (by omega), HO.out.base (by omega), (by first | omega | (simp; omega)), (by first | omega | (simp; omega)), HK.out⟩ | exact ⟨_, _, rfl, L, (M.set 0 x), HV.out.base (by omega), HO.out.base (by omega), (by first | omega | (simp; omega)), (by first | omega | (simp; omega)), HK.out⟩
        have e2 : (x6 == 2) = false := by simpa using y2
        clear y2 y1 y0
        go_wp2_with fail
        go_ret2
        first | exact ⟨_, _, L, M, rfl, Q1.base (by omega), Q2.base (by omega), (by first | omega | (simp; omega)), (by first | omega | (simp; omega)), K3⟩ | exact ⟨_, _, rfl, L, M, Q1.base (by omega), Q2.base (by omega), (by first | omega | (simp; omega)), (by first | omega | (simp; omega)), K3⟩
end Go.Proofs.Ytpbmhnnafnfoeaa
