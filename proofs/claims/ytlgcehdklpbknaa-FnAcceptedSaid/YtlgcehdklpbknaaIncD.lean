/- What the reference draws for prices, seats and shares. No condition but that the bytes read. -/
import Derived.Test.YtlgcehdklpbknaaSrc
import Derived.Maps.AppendAt
namespace Go.Proofs.Ytlgcehdklpbknaa
open Go Go.RowKit Go.ChangeShapes Go.WideShapes
set_option linter.unusedSimpArgs false
set_option linter.unusedVariables false
theorem Src.below2 {w0 W W' : World} {v : Value} {g n C : Nat} (h : Src w0 v g n W) (hC : g < C) (hb : Below C W W') : Src w0 v g n W' := by
  obtain ⟨h1, h2, h3, p, seed, h4, h5, c0, c1, c2, f1, f2⟩ := h
  exact ⟨Nat.lt_of_lt_of_le h1 hb.size, h2, h3.trans (hb.mono (by omega)), p, seed, h4, h5, (hb.cell (p := ⟨g, 0, none⟩) hC).trans c0, (hb.cell (p := ⟨g, 1, none⟩) hC).trans c1, (hb.cell (p := ⟨g, 2, none⟩) hC).trans c2, (hb.frozen (p := ⟨g, 1, none⟩) hC).trans f1, (hb.frozen (p := ⟨g, 2, none⟩) hC).trans f2⟩
theorem Own.src {α : Type} {W W' : World} {g : Nat} {E : TypeId} {k : Nat} {v : Value} {enc : α → List Value} {L : List α} (h : Own W (g + 1) E k v enc L) (hg : W.grownBy W' (some g)) : Own W' (g + 1) E k v enc L :=
  h.grown hg (by
    rcases q : v.ownBlock with _ | b
    · exact .inl rfl
    · refine .inr ?_
      have := (h.lt b q).1
      intro e
      injection e with e
      omega)
theorem grow_alloc {W W' : World} {r : Option Nat} (h : W.grownBy W' r) (o : Obj) : W.grownBy (W'.alloc o) r := grownBy_trans h (grownBy_of_below ((Below.refl W'.heap.size W').alloc (Nat.le_refl _) o) r)
theorem own_list (W : World) (B : Nat) (hB : B ≤ W.heap.size) (E : TypeId) (L : List Int) (h0 : L.length ≤ 9223372036854775807) : Own (W.alloc (.cells (L.map (Value.int .i64)).toArray E)) B E 1 (.slice (some ⟨W.heap.size, 0, none⟩) L.length L.length) eI L := by
  have hf : L.flatMap eI = L.map (Value.int .i64) := by
    clear h0
    induction L with
    | nil => rfl
    | cons x r ih => rw [List.flatMap_cons, ih]; rfl
  refine ⟨by rw [flatMap_len eI 1 eI_len], .inr ⟨W.heap.size, L.length, (L.map (Value.int .i64)).toArray, rfl, hB, heap_alloc_new W _, Nat.le_refl _, h0, ?_, ?_⟩⟩
  · simp
  · rw [hf]
    simp
    exact List.take_of_length_le (by simp)
/-- the list of a choice, made before the choice -/
theorem list_stays {W : World} {g : Nat} (hg : g < W.heap.size) (E : TypeId) (L : List Int) (h0 : L.length ≤ 9223372036854775807) : ∀ W', (W.alloc (.cells (L.map (Value.int .i64)).toArray E)).grownBy W' (some g) → Sl W' 1 (.slice (some ⟨W.heap.size, 0, none⟩) L.length L.length) eI L := fun W' hgr =>
  (((own_list W (g + 1) (by omega) E L h0).src hgr).sl eI_len)
theorem free_src {w : World} {b : Nat} {cs : Array Value} {t : TypeId} (h : w.heap[b]? = some (.cells cs t (0, 0))) (o : Nat) : w.frozen? ⟨b, o, none⟩ = false := by simp [World.frozen?, h]
theorem src_new (w : World) (v : Value) (T : TypeId) : Src w v w.heap.size 0 (w.alloc (.cells #[v, .int .i64 0, .int .u64 0] T)) := by
  have g0 : (w.alloc (.cells #[v, .int .i64 0, .int .u64 0] T)).heap[w.heap.size]? = some (.cells #[v, .int .i64 0, .int .u64 0] T (0, 0)) := heap_alloc_new w _
  exact ⟨by simp, Nat.le_refl _, (Below.refl _ _).alloc (Nat.le_refl _) _, 0, 0, Nat.le_refl _, by omega, cell_of_row _ _ 0 _ _ (0, 0) g0, cell_of_row _ _ 1 _ _ (0, 0) g0, cell_of_row _ _ 2 _ _ (0, 0) g0, free_src g0 1, free_src g0 2⟩
theorem from_src (w : World) (v : Value) (hv : ∃ A n c, v = .slice A n c) :
    Calls Try.prog 60 #[v] w fun e w' => e = .returned (.pointer (some ⟨w.heap.size, 0, none⟩)) ∧ Src w v w.heap.size 0 w' ∧ Below w.heap.size w w' ∧ w'.heap.size = w.heap.size + 1 := by
  obtain ⟨A, n, c, rfl⟩ := hv
  go_enter Try.func60, Try.ntmps60
  go_wp2_with fail
  go_ret
  exact ⟨rfl, src_new w _ _, (Below.refl _ _).alloc (Nat.le_refl _) _, by simp⟩
theorem wpList_push2 {P : Program} {α : Type} {enc : α → List Value} {k : Nat} (w : World) {ops : Array Oper} {rest : List Oper} {o : Oper} {a : Act} {Q : Exit → Act → World → Prop} (hgd : o.guard = none) (s x : Operand) (t : TypeId)
    (ho : o.op = .call { callee := .builtin .append, args := #[s, x], argTypes := #[t, t] })
    {B E : Nat} (i : TypeInfo) (z : Value) (bytes : Nat) (ht : P.underlying t = some (.slice E)) (hi : P.info? E = some i) (hz : i.zero = some z)
    (hsize : i.size = k) (hby : i.bytes = bytes) (hzs : z.cells.size = k) (hsz : 0 < k)
    (v : Value) (l : List α) (y : α) (hs : a.eval s = v) (hown : Own w B E k v enc l)
    (g : Nat) (hx : a.eval x = .slice (some ⟨g, 0, none⟩) 1 1) (cs : Array Value) (E' : TypeId) (hg : w.heap[g]? = some (.cells cs E' (0, 0))) (hcs : cs.toList = enc y) (hlen : (enc y).length = k) (h1 : ∀ u ∈ enc y, u.oneCell' = true)
    (h63 : l.length + 1 ≤ maxLen) (hbytes : (l.length + 1) * bytes ≤ 140737488355328) (hbase : B ≤ w.heap.size)
    (h : ∀ v' w', Own w' B E k v' enc (l ++ [y]) → w.grownBy w' v.ownBlock → (v'.ownBlock = v.ownBlock ∨ v'.ownBlock = some w.heap.size) → wpList P ops Q rest (a.put o.dst v') w') : wpList P ops Q (o :: rest) a w :=
  wpList_plain hgd fun _ hK => by
    obtain ⟨v', w', hr, h2, h3, -, h4⟩ := run_append_own_at (P := P) (w := w) B t o.type E i z k bytes ht hi hz hsize hby hzs hsz v l.length (l.flatMap enc) hown ⟨g, 0, none⟩ 1 1 (enc y) (by simpa using hlen) (fun j u hu => by
      have hadd : (⟨g, 0, none⟩ : Addr).add j = ⟨g, j, none⟩ := by unfold Addr.add; split <;> simp_all
      rw [hadd, cell_of_row w g j cs E' (0, 0) hg, ← hu, ← hcs]
      simp) h1 h63 hbytes hbase
    unfold Oper.wp execOp
    simp only [ho, resolve, invoke, builtin, Sem.run_bind, Sem.run_pure, Result.andThen_ok, List.map_toArray, List.map_cons, List.map_nil, hs, hx, hr]
    exact hK _ _ (h v' w' (by unfold Own; simpa using h2) h3 h4)
end Go.Proofs.Ytlgcehdklpbknaa
