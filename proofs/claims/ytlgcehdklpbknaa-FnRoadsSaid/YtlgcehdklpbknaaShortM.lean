/- Shorter roads: the memory of both sides between two stores, and how roads are copied row by row. No condition. -/
import Derived.Test.YtlgcehdklpbknaaShortQ
import Derived.Test.YtlgcehdklpbknaaNextI
import Derived.Test.YtlgcehdklpbknaaVisitS
import Derived.Test.YtlgcehdklpbknaaRec
import Derived.Deep.RegionLaw
namespace Go.Proofs.Ytlgcehdklpbknaa
open Go Go.RowKit Go.ChangeShapes Go.WideShapes
set_option linter.unusedSimpArgs false
set_option linter.unusedVariables false
/-- one element behind a list, as a step of a region that draws -/
theorem step_push_at {P : Program} {α : Type} {enc : α → List Value} {k : Nat} (w : World) {ops : Array Oper} {o : Oper} {a : Act} {K : Act → World → Prop} {Q : Exit → Act → World → Prop} {X : Prop} (hgd : o.guard = none) (s x : Operand) (t : TypeId)
    (ho : o.op = .call { callee := .builtin .append, args := #[s, x], argTypes := #[t, t] })
    {B E : Nat} (i : TypeInfo) (z : Value) (bytes : Nat) (ht : P.underlying t = some (.slice E)) (hi : P.info? E = some i) (hz : i.zero = some z)
    (hsize : i.size = k) (hby : i.bytes = bytes) (hzs : z.cells.size = k) (hsz : 0 < k)
    (v : Value) (l : List α) (y : α) (hs : a.eval s = v) (hown : Own w B E k v enc l)
    (g : Nat) (hx : a.eval x = .slice (some ⟨g, 0, none⟩) 1 1) (cs : Array Value) (E' : TypeId) (hg : w.heap[g]? = some (.cells cs E' (0, 0))) (hcs : cs.toList = enc y) (hlen : (enc y).length = k) (h1 : ∀ u ∈ enc y, u.oneCell' = true)
    (h63 : l.length + 1 ≤ maxLen) (hbytes : (l.length + 1) * bytes ≤ 140737488355328) (hbase : B ≤ w.heap.size)
    (h : ∀ v' w', Own w' B E k v' enc (l ++ [y]) → w.grownBy w' v.ownBlock → (v'.ownBlock = v.ownBlock ∨ v'.ownBlock = some w.heap.size) → K (a.put o.dst v') w') :
    if Region.wanted o (yielded ops a.tmps) = true then Oper.wp P o a w K Q else X := by
  have hw : Region.wanted o (yielded ops a.tmps) = true := by simp [Region.wanted, hgd]
  rw [if_pos hw]
  exact wp_push_at w s x t ho i z bytes ht hi hz hsize hby hzs hsz v l y hs hown g hx cs E' hg hcs hlen h1 h63 hbytes hbase h
/-- one more row -/
theorem OwnR.push {W W1 W2 : World} {B : Nat} {u u' vx : Value} {M : List TRow} {r : List Int} {o : Obj} (h : OwnR W B u M) (hB : B ≤ W.heap.size) (hb : Below W.heap.size W W1) (hr : Own W1 W.heap.size 2 1 vx eI r)
    (hg : (W1.alloc o).grownBy W2 u.ownBlock) (ho : Own W2 B 25 1 u' eV (M ++ [(vx, r)])) (hu : u'.ownBlock = u.ownBlock ∨ u'.ownBlock = some (W1.alloc o).heap.size) : OwnR W2 B u' (M ++ [(vx, r)]) := by
  obtain ⟨h1, h2, h3⟩ := h
  obtain ⟨p1, p2⟩ := List.pairwise_cons.1 h3
  have hz : (W1.alloc o).heap.size = W1.heap.size + 1 := by simp
  have hrow : ∀ x ∈ M, Own W2 B 2 1 x.1 eI x.2 := fun x hx =>
    (((h2 x hx).below hb (Nat.le_refl _)).alloc o).grown hg (apart_symm (p1 _ (List.mem_map.2 ⟨x, hx, rfl⟩)))
  have hvu : apart vx.ownBlock u.ownBlock := by
    rcases q : vx.ownBlock with _ | b
    · exact .inl rfl
    · refine .inr fun e => ?_
      have := hr.lt b q
      have := h1.lt b e.symm
      omega
  have hrl : ∀ b ∈ M.map (·.1.ownBlock), ∀ g, b = some g → g < W.heap.size := fun b hb g hg => by
    obtain ⟨x, hx, rfl⟩ := List.mem_map.1 hb
    exact ((h2 x hx).lt g hg).2
  refine ⟨ho, fun x hx => ?_, ?_⟩
  · rcases List.mem_append.1 hx with hx | hx
    · exact hrow x hx
    · rw [List.mem_singleton.1 hx]
      exact ((hr.alloc o).grown hg hvu).base hB
  · rw [List.map_append, List.pairwise_cons]
    have hbs : W.heap.size ≤ W1.heap.size := hb.size
    refine ⟨fun b hb' => ?_, ?_⟩
    · rcases List.mem_append.1 hb' with hb' | hb'
      · rcases hu with hu | hu
        · rw [hu]; exact p1 b hb'
        · rw [hu]
          refine .inr fun e => ?_
          have := hrl b hb' _ e.symm
          omega
      · simp only [List.map_cons, List.map_nil, List.mem_singleton] at hb'
        subst hb'
        rcases hu with hu | hu
        · rw [hu]; exact apart_symm hvu
        · rw [hu]
          refine .inr fun e => ?_
          have := (hr.lt _ e.symm).2
          omega
    · rw [List.pairwise_append]
      refine ⟨p2, by simp, fun a ha b hb' => ?_⟩
      simp only [List.map_cons, List.map_nil, List.mem_singleton] at hb'
      subst hb'
      rcases q : a with _ | c
      · exact .inl rfl
      · refine .inr fun e => ?_
        have := hrl a ha c q
        have := (hr.lt c e.symm).1
        omega
theorem OwnR.nil (w : World) (B : Nat) : OwnR w B (.slice none 0 0) [] := ⟨Own.nil _ _ _ _ _, fun x hx => by simp at hx, by simp⟩
theorem OwnR.none_of (w : World) (B : Nat) {v : Value} (h : Own w B 25 1 v eV []) : OwnR w B v [] := ⟨h, fun x hx => by simp at hx, by simp⟩
/-- the answer's block, the block of 'out' at G, its ways home and its first rows (these from Br on) -/
structure Bld (w : World) (G Br : Nat) (u1 : Value) (h : List Int) (Ls : List TRow) (k : Nat) (u2 : Value) (M : List TRow) (W : World) : Prop where
  bel : Below w.heap.size w W
  res : Rec W w.heap.size (w.heap.size + 1) 28 [.slice none 0 0, .slice none 0 0]
  out : Rec W w.heap.size G 28 [u1, u2]
  hG : w.heap.size + 1 < G
  hB : w.heap.size + 1 < Br
  hBW : Br ≤ W.heap.size
  home : Own W w.heap.size 2 1 u1 eI h
  hlt : ∀ b, u1.ownBlock = some b → b < Br ∧ b ≠ G
  rows : OwnR W Br u2 M
  hne : ∀ b ∈ blocksR u2 M, b ≠ some G
  read : rowsOf M = rowsOf (Ls.take k)
theorem apart_of {u : Value} {c : Option Nat} (h : ∀ b, u.ownBlock = some b → c ≠ some b) : u.ownBlock = none ∨ u.ownBlock ≠ c := by
  rcases q : u.ownBlock with _ | b
  · exact .inl rfl
  · exact .inr fun e => h b q e.symm
theorem Bld.step {w W W1 W2 : World} {G Br : Nat} {u1 u2 u2' vx : Value} {h : List Int} {Ls M : List TRow} {k : Nat} {o : Obj} (S : Bld w G Br u1 h Ls k u2 M W) (hk : k < Ls.length) (hb : Below W.heap.size W W1) (hr : Own W1 W.heap.size 2 1 vx eI Ls[k].2)
    (hg : (W1.alloc o).grownBy W2 u2.ownBlock) (ho : Own W2 Br 25 1 u2' eV (M ++ [(vx, Ls[k].2)])) (hu : u2'.ownBlock = u2.ownBlock ∨ u2'.ownBlock = some (W1.alloc o).heap.size) :
    Bld w G Br u1 h Ls (k + 1) u2' (M ++ [(vx, Ls[k].2)]) (W2.setCell ⟨G, 1, none⟩ u2') := by
  have hGW : G < W.heap.size := S.out.lt.2
  have hu2 : ∀ b, u2.ownBlock = some b → Br ≤ b := fun b hb => (S.rows.1.lt b hb).1
  have hR := S.rows.push S.hBW hb hr hg ho hu
  have hz : (W1.alloc o).heap.size = W1.heap.size + 1 := by simp
  have hbs := hb.size
  have hB := S.hB
  have hbel : Below w.heap.size w W2 := ((below_step S.bel hb).alloc (below_step S.bel hb).size o).grown hg ((below_step S.bel hb).alloc (below_step S.bel hb).size o).size (fun b e => by have := hu2 b e; omega)
  have hhome : Own W2 w.heap.size 2 1 u1 eI h := ((S.home.below hb (Nat.le_refl _)).alloc o).grown hg (apart_of fun b q e => by
    have := (S.hlt b q).1
    have := hu2 b e
    omega)
  have hres := ((S.res.below hb).alloc o).keep hg (fun e => by have := hu2 _ e.symm; omega)
  have hout := ((S.out.below hb).alloc o).keep hg (fun e => S.hne _ (List.mem_cons_self ..) e.symm)
  have hgr := grow_set W2 ⟨G, 1, none⟩ u2'
  have hne : ∀ b ∈ blocksR u2' (M ++ [(vx, Ls[k].2)]), b ≠ some G := fun b hm e => by
    subst e
    rcases List.mem_cons.1 hm with hm | hm
    · rcases hu with hu | hu
      · exact S.hne _ (List.mem_cons_self ..) (hu ▸ hm.symm)
      · rw [hu] at hm
        injection hm with hm
        omega
    · rw [List.map_append] at hm
      rcases List.mem_append.1 hm with hm | hm
      · exact S.hne _ (List.mem_cons_of_mem _ hm) rfl
      · simp only [List.map_cons, List.map_nil, List.mem_singleton] at hm
        have := (hr.lt G hm.symm).1
        omega
  refine ⟨hbel.setCell (p := ⟨G, 1, none⟩) (by have := S.hG; show w.heap.size ≤ G; omega) u2', hres.other 1 u2' (by have := S.hG; omega), hout.set 1 u2', S.hG, S.hB, ?_, hhome.grown hgr (apart_of fun b q e => (S.hlt b q).2 (by have e2 : some G = some b := e; injection e2 with e2; exact e2.symm)), S.hlt, ?_, hne, ?_⟩
  · have h1 := hgr.size
    have h2 := hg.size
    have h3 := S.hBW
    omega
  · refine hR.touched (TouchL.of_grown hgr) fun a ha b hb' => ?_
    rw [List.mem_singleton.1 hb']
    exact .inr (hne a ha)
  · have hr2 := S.read
    unfold rowsOf at hr2 ⊢
    rw [List.take_succ_eq_append_getElem hk, List.map_append, List.map_append, hr2]
    rfl
theorem Bld.drew {w W : World} {G Br : Nat} {u1 u2 : Value} {h : List Int} {Ls M : List TRow} {k : Nat} (S : Bld w G Br u1 h Ls k u2 M W) : Bld w G Br u1 h Ls k u2 M W.drew := ⟨below_drewN S.bel 1, S.res, S.out, S.hG, S.hB, S.hBW, S.home.drew, S.hlt, S.rows.drew, S.hne, S.read⟩
theorem Bld.cell_after {w W W1 W2 : World} {G Br : Nat} {u1 u2 : Value} {h : List Int} {Ls M : List TRow} {k : Nat} {o : Obj} (S : Bld w G Br u1 h Ls k u2 M W) (hb : Below W.heap.size W W1) (hg : (W1.alloc o).grownBy W2 u2.ownBlock) : W2.cell? ⟨G, 1, none⟩ = some u2 ∧ W2.frozen? ⟨G, 1, none⟩ = false := by
  have := ((S.out.below hb).alloc o).keep hg (fun e => S.hne _ (List.mem_cons_self ..) e.symm)
  exact ⟨this.cell 1 _ rfl, this.free 1⟩
/-- the state between two stores -/
structure SR (w : World) (n G Br : Nat) (u1 u2 : Value) (h : Nat → Int) (f : Nat → Nat → Int) (W : World) : Prop where
  bel : Below w.heap.size w W
  res : Rec W w.heap.size (w.heap.size + 1) 28 [.slice none 0 0, .slice none 0 0]
  out : Rec W w.heap.size G 28 [u1, u2]
  hG : w.heap.size + 1 < G
  hB : w.heap.size + 1 < Br
  home : Own W w.heap.size 2 1 u1 eI (vec n h)
  hlt : ∀ b, u1.ownBlock = some b → b < Br ∧ b ≠ G
  hle : ∀ b, u1.ownBlock = some b → w.heap.size + 1 < b
  rows : ∃ M, OwnR W Br u2 M ∧ rowsOf M = mat n f ∧ ∀ b ∈ blocksR u2 M, b ≠ some G
theorem SR.ext {w W : World} {n G Br : Nat} {u1 u2 : Value} {h h' : Nat → Int} {f f' : Nat → Nat → Int} (S : SR w n G Br u1 u2 h f W) (e1 : vec n h = vec n h') (e2 : mat n f = mat n f') : SR w n G Br u1 u2 h' f' W := by
  obtain ⟨M, hM, hr, hne⟩ := S.rows
  exact ⟨S.bel, S.res, S.out, S.hG, S.hB, e1 ▸ S.home, S.hlt, S.hle, M, hM, hr.trans e2, hne⟩
theorem SR.drewN {w W : World} {n G Br : Nat} {u1 u2 : Value} {h : Nat → Int} {f : Nat → Nat → Int} (S : SR w n G Br u1 u2 h f W) (d : Nat) : SR w n G Br u1 u2 h f (W.drewN d) := by
  obtain ⟨M, hM, hr, hne⟩ := S.rows
  exact ⟨below_drewN S.bel d, S.res, S.out, S.hG, S.hB, S.home.drewN d, S.hlt, S.hle, M, hM.drewN d, hr, hne⟩
theorem SR.drew {w W : World} {n G Br : Nat} {u1 u2 : Value} {h : Nat → Int} {f : Nat → Nat → Int} (S : SR w n G Br u1 u2 h f W) : SR w n G Br u1 u2 h f W.drew := S.drewN 1
/-- what is read at (i, k), and the way home at a place -/
theorem SR.at_ {w W : World} {n G Br : Nat} {u1 u2 : Value} {h : Nat → Int} {f : Nat → Nat → Int} (S : SR w n G Br u1 u2 h f W) {i k : Nat} (hi : i < n) (hk : k < n) :
    ∃ gd cd g c, u2 = .slice (some ⟨gd, 0, none⟩) n cd ∧ W.cell? ⟨gd, i, none⟩ = some (.slice (some ⟨g, 0, none⟩) n c) ∧ W.cell? ⟨g, k, none⟩ = some (.int .i64 (f i k)) ∧ W.frozen? ⟨g, k, none⟩ = false ∧ w.heap.size + 1 < g ∧ ∀ x, SR w n G Br u1 u2 h (fun a b => if a = i ∧ b = k then x else f a b) (W.setCell ⟨g, k, none⟩ (.int .i64 x)) := by
  obtain ⟨M, hM, hr, hne⟩ := S.rows
  obtain ⟨gd, cd, g, c, e1, e2, e3, e4, e5, e6, e7⟩ := hM.at_ hr hi hk
  refine ⟨gd, cd, g, c, e1, e5, e6, e7, by have := S.hB; omega, fun x => ?_⟩
  obtain ⟨p1, p2, p3⟩ := hM.put hr hi hk e3 x
  have hgr := grow_set W ⟨g, k, none⟩ (.int .i64 x)
  have hgG : g ≠ G := fun e => hne (some g) (List.mem_cons_of_mem _ (List.mem_map.2 ⟨_, List.mem_of_getElem? e3, rfl⟩)) (by rw [e])
  have hB := S.hB
  exact ⟨S.bel.setCell (p := ⟨g, k, none⟩) (by show w.heap.size ≤ g; omega) _, S.res.other k _ (by omega), S.out.other k _ (fun e => hgG e.symm), S.hG, S.hB, S.home.grown hgr (apart_of fun b q e => by have h1 := (S.hlt b q).1; have e2 : some g = some b := e; injection e2 with e2; omega), S.hlt, S.hle, _, p1, p2, by rw [p3]; exact hne⟩
theorem SR.home_at {w W : World} {n G Br : Nat} {u1 u2 : Value} {h : Nat → Int} {f : Nat → Nat → Int} (S : SR w n G Br u1 u2 h f W) {i : Nat} (hi : i < n) :
    ∃ g c, u1 = .slice (some ⟨g, 0, none⟩) n c ∧ (∀ k, k < n → W.cell? ⟨g, k, none⟩ = some (.int .i64 (h k))) ∧ W.frozen? ⟨g, i, none⟩ = false ∧ w.heap.size + 1 < g ∧ ∀ x, SR w n G Br u1 u2 (fun a => if a = i then x else h a) f (W.setCell ⟨g, i, none⟩ (.int .i64 x)) := by
  obtain ⟨M, hM, hr, hne⟩ := S.rows
  have hO := S.home
  rcases hO.form with ⟨-, hn⟩ | ⟨g, c, rfl, h1, h2, -, -⟩
  · have := congrArg List.length hn
    rw [vec_len] at this
    simp at this
    omega
  rw [vec_len] at hO
  obtain ⟨hlt, hgG⟩ := S.hlt g (by rfl)
  have hle := S.hle g (by rfl)
  refine ⟨g, c, by rw [vec_len], fun k hk => ?_, (hO.cell1 i (by rw [vec_len]; exact hi)).2, hle, fun x => ?_⟩
  · have := (hO.cell1 k (by rw [vec_len]; exact hk)).1
    rw [vec_at] at this
    exact this
  · have hgr := grow_set W ⟨g, i, none⟩ (.int .i64 x)
    have hn := hO.set1 i x
    rw [vec_set] at hn
    refine ⟨S.bel.setCell (p := ⟨g, i, none⟩) (by show w.heap.size ≤ g; omega) _, S.res.other i _ (by omega), S.out.other i _ (fun e => hgG e.symm), S.hG, S.hB, by rw [vec_len]; exact hn, S.hlt, S.hle, M, ?_, hr, hne⟩
    refine hM.touched (TouchL.of_grown hgr) fun a ha b hb' => ?_
    rw [List.mem_singleton.1 hb']
    rcases q : a with _ | c
    · exact .inl rfl
    · refine .inr fun e => ?_
      have h1 := (hM.lt a ha c q).1
      have e2 : some c = some g := e
      injection e2 with e2
      omega
theorem SR.three {w W : World} {n G Br : Nat} {u1 : Value} {A : Option Addr} {c : Nat} {h : Nat → Int} {f : Nat → Nat → Int} (S : SR w n G Br u1 (.slice A n c) h f W) {i k t : Nat} (hi : i < n) (hk : k < n) (ht : t < n) :
    ∃ gd gi ci gt ct, A = some ⟨gd, 0, none⟩ ∧ W.cell? ⟨gd, i, none⟩ = some (.slice (some ⟨gi, 0, none⟩) n ci) ∧ W.cell? ⟨gd, t, none⟩ = some (.slice (some ⟨gt, 0, none⟩) n ct) ∧ W.cell? ⟨gi, k, none⟩ = some (.int .i64 (f i k)) ∧ W.cell? ⟨gi, t, none⟩ = some (.int .i64 (f i t)) ∧ W.cell? ⟨gt, k, none⟩ = some (.int .i64 (f t k)) ∧ W.frozen? ⟨gi, k, none⟩ = false ∧ w.heap.size + 1 < gi ∧
      ∀ x, SR w n G Br u1 (.slice A n c) h (fun a b => if a = i ∧ b = k then x else f a b) (W.setCell ⟨gi, k, none⟩ (.int .i64 x)) := by
  obtain ⟨gd, cd, gi, ci, e1, e2, e3, e4, e6, e5⟩ := S.at_ hi hk
  obtain ⟨gd', cd', gi', ci', e1', e2', e3', -, -, -⟩ := S.at_ hi ht
  obtain ⟨gd'', cd'', gt, ct, e1'', e2'', e3'', -, -, -⟩ := S.at_ ht hk
  injection e1 with a1 _ a2
  subst a1 a2
  injection e1' with a1 _ _
  injection a1 with a1
  injection a1 with a1 _ _
  subst a1
  injection e1'' with a1 _ _
  injection a1 with a1
  injection a1 with a1 _ _
  subst a1
  rw [e2] at e2'
  injection e2' with e2'
  injection e2' with a1 _ _
  injection a1 with a1
  injection a1 with a1 _ _
  subst a1
  exact ⟨gd, gi, ci, gt, ct, rfl, e2, e2'', e3, e3', e3'', e4, e6, e5⟩
theorem SR.one {w W : World} {n G Br : Nat} {u1 : Value} {A : Option Addr} {c : Nat} {h : Nat → Int} {f : Nat → Nat → Int} (S : SR w n G Br u1 (.slice A n c) h f W) {i k : Nat} (hi : i < n) (hk : k < n) :
    ∃ gd gi ci, A = some ⟨gd, 0, none⟩ ∧ W.cell? ⟨gd, i, none⟩ = some (.slice (some ⟨gi, 0, none⟩) n ci) ∧ W.cell? ⟨gi, k, none⟩ = some (.int .i64 (f i k)) := by
  obtain ⟨gd, cd, gi, ci, e1, e2, e3, -, -, -⟩ := S.at_ hi hk
  injection e1 with a1 _ _
  exact ⟨gd, gi, ci, a1, e2, e3⟩
theorem SR.home1 {w W : World} {n G Br : Nat} {u2 : Value} {A : Option Addr} {c : Nat} {h : Nat → Int} {f : Nat → Nat → Int} (S : SR w n G Br (.slice A n c) u2 h f W) {i t : Nat} (hi : i < n) (ht : t < n) :
    ∃ g, A = some ⟨g, 0, none⟩ ∧ W.cell? ⟨g, i, none⟩ = some (.int .i64 (h i)) ∧ W.cell? ⟨g, t, none⟩ = some (.int .i64 (h t)) ∧ W.frozen? ⟨g, i, none⟩ = false ∧ w.heap.size + 1 < g ∧ ∀ x, SR w n G Br (.slice A n c) u2 (fun a => if a = i then x else h a) f (W.setCell ⟨g, i, none⟩ (.int .i64 x)) := by
  obtain ⟨g, c', e1, e2, e3, e5, e4⟩ := S.home_at hi
  injection e1 with a1 _ _
  exact ⟨g, a1, e2 i hi, e2 t ht, e3, e5, e4⟩
theorem Bld.sr {w W : World} {n G Br : Nat} {u1 u2 : Value} {H : List Int} {Ls M : List TRow} {R : List (List Int)} (S : Bld w G Br u1 H Ls Ls.length u2 M W) (hle : ∀ b, u1.ownBlock = some b → w.heap.size + 1 < b) (hH : H.length = n) (hR : rowsOf Ls = R) (hn : R.length = n) (hr : ∀ r ∈ R, r.length = n) : SR w n G Br u1 u2 (hfn H) (dfn R) W := by
  have hread := S.read
  rw [List.take_length, hR] at hread
  exact ⟨S.bel, S.res, S.out, S.hG, S.hB, by rw [vec_hfn hH]; exact S.home, S.hlt, hle, M, S.rows, by rw [mat_dfn hn hr]; exact hread, S.hne⟩
end Go.Proofs.Ytlgcehdklpbknaa
