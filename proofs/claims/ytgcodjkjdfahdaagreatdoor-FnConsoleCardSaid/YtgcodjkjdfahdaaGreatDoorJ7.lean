/- Texts of the claim, joined: each says at its head what it proves. No condition. -/
import Derived.Test.YtgcodjkjdfahdaaGreatDoorJ4
import Derived.Test.YtgcodjkjdfahdaaGreatDoorJ1
import Derived.Test.YtgcodjkjdfahdaaGreatDoorJ5
import Derived.BigQuiet
import Derived.RangeFuncBox
import Derived.Laws.Bits64b
import Derived.Maps.AppendAt
/- The reference's source of choices: next, pick, one, among. No condition but that the source reads its bytes. -/
namespace Go.Proofs.YtgcodjkjdfahdaaGreatDoor
open Go Go.RowKit Go.ChangeShapes Go.WideShapes
set_option linter.unusedSimpArgs false
set_option linter.unusedVariables false
theorem grow_set (W : World) (a : Addr) (v : Value) : W.grownBy (W.setCell a v) (some a.block) :=
  ⟨rfl, rfl, rfl, (KeepsWalks.setCell W _ v).size, fun k _ hk => Below.heap_setCell _ _ _ k (fun e => hk (by rw [e]))⟩
/-- a source lies in a block of its own; it has made n choices at the most -/
def Src (w0 : World) (v : Value) (g n : Nat) (W : World) : Prop :=
  g < W.heap.size ∧ w0.heap.size ≤ g ∧ Below w0.heap.size w0 W ∧ ∃ (p : Nat) (seed : Int), p ≤ n ∧ (0 ≤ seed ∧ seed ≤ 18446744073709551615) ∧ W.cell? ⟨g, 0, none⟩ = some v ∧ W.cell? ⟨g, 1, none⟩ = some (.int .i64 (p : Int)) ∧ W.cell? ⟨g, 2, none⟩ = some (.int .u64 seed) ∧ W.frozen? ⟨g, 1, none⟩ = false ∧ W.frozen? ⟨g, 2, none⟩ = false
theorem Src.below {w0 W W' : World} {v : Value} {g n : Nat} (h : Src w0 v g n W) (hb : Below W.heap.size W W') : Src w0 v g n W' := by
  obtain ⟨h1, h2, h3, p, seed, h4, h5, c0, c1, c2, f1, f2⟩ := h
  exact ⟨Nat.lt_of_lt_of_le h1 hb.size, h2, h3.trans (hb.mono h3.size), p, seed, h4, h5, (hb.cell (p := ⟨g, 0, none⟩) h1).trans c0, (hb.cell (p := ⟨g, 1, none⟩) h1).trans c1, (hb.cell (p := ⟨g, 2, none⟩) h1).trans c2, (hb.frozen (p := ⟨g, 1, none⟩) h1).trans f1, (hb.frozen (p := ⟨g, 2, none⟩) h1).trans f2⟩
theorem Src.le {w0 W : World} {v : Value} {g n m : Nat} (h : Src w0 v g n W) (hm : n ≤ m) : Src w0 v g m W := by
  obtain ⟨h1, h2, h3, p, seed, h4, h5⟩ := h
  exact ⟨h1, h2, h3, p, seed, Nat.le_trans h4 hm, h5⟩
theorem u64_bd (x : Int) : 0 ≤ IntKind.u64.wrap x ∧ IntKind.u64.wrap x ≤ 18446744073709551615 := by
  have h : IntKind.u64.wrap x = x % 18446744073709551616 := by simp [IntKind.wrap, IntKind.signed, IntKind.bits]
  rw [h]
  omega
theorem and255 {x : Int} (h0 : 0 ≤ x) (h1 : x ≤ 18446744073709551615) : 0 ≤ bits .and .u64 x 255 ∧ bits .and .u64 x 255 ≤ 255 := by
  obtain ⟨a, rfl⟩ : ∃ a : Nat, x = (a : Int) := ⟨x.toNat, by omega⟩
  have h := bits_and_u64_nat a 255 (by omega) (by omega)
  have h2 : a &&& 255 ≤ 255 := Nat.and_le_right
  have h3 : ((255 : Nat) : Int) = 255 := rfl
  rw [h3] at h
  rw [h]
  omega
/-- the source's two stores -/
theorem src_step {w0 w : World} {v : Value} {g m p : Nat} {sd : Int} (hg : g < w.heap.size) (h0 : w0.heap.size ≤ g) (hB : Below w0.heap.size w0 w) {a b : Value}
    (c0 : w.cell? ⟨g, 0, none⟩ = some v) (c1 : w.cell? ⟨g, 1, none⟩ = some a) (c2 : w.cell? ⟨g, 2, none⟩ = some b) (f1 : w.frozen? ⟨g, 1, none⟩ = false) (f2 : w.frozen? ⟨g, 2, none⟩ = false)
    (W : World) (hW : ((w.drewN m).setCell ⟨g, 1, none⟩ (.int .i64 ((p : Int) + 1))).setCell ⟨g, 2, none⟩ (.int .u64 sd) = W) :
    (g < W.heap.size ∧ Below w0.heap.size w0 W ∧ w.grownBy W (some g)) ∧ W.cell? ⟨g, 0, none⟩ = some v ∧ W.cell? ⟨g, 1, none⟩ = some (.int .i64 ((p : Int) + 1)) ∧ W.cell? ⟨g, 2, none⟩ = some (.int .u64 sd) ∧ W.frozen? ⟨g, 1, none⟩ = false ∧ W.frozen? ⟨g, 2, none⟩ = false := by
  have hgr : w.grownBy W (some g) := by
    rw [← hW]
    exact grownBy_trans (grownBy_trans (show w.grownBy (w.drewN m) (some g) from ⟨rfl, rfl, rfl, Nat.le_refl _, fun _ _ _ => rfl⟩) (grow_set _ ⟨g, 1, none⟩ _)) (grow_set _ ⟨g, 2, none⟩ _)
  have d0 : (w.drewN m).cell? ⟨g, 0, none⟩ = some v := c0
  have d1 : (w.drewN m).cell? ⟨g, 1, none⟩ = some a := c1
  have d2 : (w.drewN m).cell? ⟨g, 2, none⟩ = some b := c2
  have e1 : (w.drewN m).frozen? ⟨g, 1, none⟩ = false := f1
  have e2 : (w.drewN m).frozen? ⟨g, 2, none⟩ = false := f2
  refine ⟨⟨Nat.lt_of_lt_of_le hg hgr.size, hB.grown hgr hB.size (fun k hk => by injection hk with hk; omega), hgr⟩, ?_⟩
  clear hgr c0 c1 c2 f1 f2
  generalize w.drewN m = N at d0 d1 d2 e1 e2 hW
  subst hW
  refine ⟨?_, ?_, ?_, ?_, ?_⟩ <;> first | (go_simp; done) | (go_simp; assumption)
set_option maxRecDepth 100000 in
set_option maxHeartbeats 4000000 in
theorem next_src (w0 : World) (v : Value) (l : List UInt8) (hS : Sl w0 1 v eU l) (hl : l.length ≤ 1048576) (w : World) (g n : Nat) (h : Src w0 v g n w) (hn : n ≤ 1000000000) :
    Calls Tryz.prog 55 #[.pointer (some ⟨g, 0, none⟩)] w fun e w' => ∃ x : Int, (0 ≤ x ∧ x ≤ 255) ∧ e = .returned (.int .i64 x) ∧ Src w0 v g (n + 1) w' ∧ w.grownBy w' (some g) := by
  obtain ⟨A, cc, rfl⟩ := hS.isSlice
  obtain ⟨h1, h2, h3, p, seed, h4, ⟨s1, s2⟩, c0, c1, c2, f1, f2⟩ := h
  have S1 := hS.below h3
  by_cases hp : p < l.length
  · obtain ⟨b, o, x, hx, hA, hb, hc⟩ := S1.at_ hp
    subst hA
    have hc0 := hc 0 (.int .u8 (x.toNat : Int)) rfl
    rw [show o + p * 1 + 0 = o + p by omega] at hc0
    have hxb := x.toNat_lt
    clear hc hx
    go_enter Tryz.func55, Tryz.ntmps55
    go_wp2_with fail
    go_quiet (fail)
    revert nq
    intro m1
    go_wp2_with fail
    go_quiet (fail)
    revert nq
    intro m2
    go_wp2_with fail
    have HSD := u64_bd (IntKind.u64.wrap (IntKind.u64.wrap (seed * 6364136223846793005) + (x.toNat : Int)) + 1442695040888963407)
    generalize IntKind.u64.wrap (IntKind.u64.wrap (IntKind.u64.wrap (seed * 6364136223846793005) + (x.toNat : Int)) + 1442695040888963407) = sd at HSD ⊢
    generalize hW : ((w.drewN (m1 + m2)).setCell ⟨g, 1, none⟩ (.int .i64 ((p : Int) + 1))).setCell ⟨g, 2, none⟩ (.int .u64 sd) = W2
    obtain ⟨⟨k1, k2, k3⟩, d0, d1, d2, e1, e2⟩ := src_step h1 h2 h3 c0 c1 c2 f1 f2 W2 hW
    have HK := hd (show Src w0 (.slice (some ⟨b, o, none⟩) l.length cc) g (n + 1) W2 from ⟨k1, h2, k2, p + 1, sd, by omega, HSD, d0, d1, d2, e1, e2⟩)
    have HG := hd k3
    obtain ⟨z1, z2⟩ := HSD
    clear hW c0 c1 c2 f1 f2 k1 k2 k3 h3
    have hle : p + 1 ≤ l.length := hp
    go_quiet (fail)
    go_wp2_with fail
    go_ret
    refine ⟨(x.toNat : Int), by omega, rfl, (HK.out.below (below_drewN (Below.refl _ _) nq)), ?_⟩
    exact grownBy_trans HG.out ⟨rfl, rfl, rfl, Nat.le_refl _, fun _ _ _ => rfl⟩
  · have hp' : l.length ≤ p := by omega
    go_enter Tryz.func55, Tryz.ntmps55
    go_wp2_with fail
    go_quiet (fail)
    revert nq
    intro m1
    go_wp2_with fail
    have HSD := u64_bd (IntKind.u64.wrap (IntKind.u64.wrap (seed * 6364136223846793005)) + 1442695040888963407)
    generalize IntKind.u64.wrap (IntKind.u64.wrap (IntKind.u64.wrap (seed * 6364136223846793005)) + 1442695040888963407) = sd at HSD ⊢
    generalize hW : ((w.drewN m1).setCell ⟨g, 1, none⟩ (.int .i64 ((p : Int) + 1))).setCell ⟨g, 2, none⟩ (.int .u64 sd) = W2
    obtain ⟨⟨k1, k2, k3⟩, d0, d1, d2, e1, e2⟩ := src_step h1 h2 h3 c0 c1 c2 f1 f2 W2 hW
    have HK := hd (show Src w0 (.slice A l.length cc) g (n + 1) W2 from ⟨k1, h2, k2, p + 1, sd, by omega, HSD, d0, d1, d2, e1, e2⟩)
    have HG := hd k3
    obtain ⟨z1, z2⟩ := HSD
    clear hW c0 c1 c2 f1 f2 k1 k2 k3 h3
    have hlt : l.length < p + 1 := by omega
    obtain ⟨b1, b2⟩ := and255 (x := sd / 1099511627776) (by omega) (by omega)
    go_quiet (fail)
    go_wp2_with fail
    go_ret
    refine ⟨bits .and .u64 (sd / 1099511627776) 255, ⟨b1, b2⟩, ?_, (HK.out.below (below_drewN (Below.refl _ _) nq)), ?_⟩
    · rfl
    · exact grownBy_trans HG.out ⟨rfl, rfl, rfl, Nat.le_refl _, fun _ _ _ => rfl⟩
set_option maxRecDepth 100000 in
set_option maxHeartbeats 2000000 in
theorem pick_src (w0 : World) (v : Value) (l : List UInt8) (hS : Sl w0 1 v eU l) (hl : l.length ≤ 1048576) (w : World) (g n : Nat) (h : Src w0 v g n w) (hn : n ≤ 900000000) (m : Int) (hm : -1000000 ≤ m ∧ m ≤ 1000000) :
    Calls Tryz.prog 24 #[.pointer (some ⟨g, 0, none⟩), .int .i64 m] w fun e w' => ∃ x : Int, (0 ≤ x ∧ (x < m ∨ x = 0)) ∧ e = .returned (.int .i64 x) ∧ Src w0 v g (n + 2) w' ∧ w.grownBy w' (some g) := by
  obtain ⟨hm1, hm2⟩ := hm
  by_cases h1 : m ≤ 1
  · go_enter Tryz.func24, Tryz.ntmps24
    go_wp2_with fail
    go_ret
    exact ⟨0, ⟨Int.le_refl _, .inr rfl⟩, rfl, h.le (by omega), World.grownBy.refl _ _⟩
  by_cases h2 : m ≤ 200
  · go_enter Tryz.func24, Tryz.ntmps24
    go_wp2_with fail
    refine (next_src w0 v l hS hl _ g n h (by omega)).mono ?_
    rintro e w1 ⟨x, ⟨x1, x2⟩, rfl, S1, G1⟩
    have hx1 := Int.emod_nonneg x (show m ≠ 0 by omega)
    have hx2 := Int.emod_lt_of_pos x (show 0 < m by omega)
    have hx3 : x.tmod m = x % m := Int.tmod_eq_emod_of_nonneg x1
    go_wp2_with fail
    go_ret
    exact ⟨x % m, ⟨hx1, .inl hx2⟩, by first | rfl | (rw [← hx3]; rfl), S1.le (by omega), G1⟩
  · have h2' : 200 < m := by omega
    go_enter Tryz.func24, Tryz.ntmps24
    go_wp2_with fail
    refine (next_src w0 v l hS hl _ g n h (by omega)).mono ?_
    rintro e w1 ⟨x, ⟨x1, x2⟩, rfl, S1, G1⟩
    go_wp2_with fail
    refine (next_src w0 v l hS hl _ g (n + 1) S1 (by omega)).mono ?_
    rintro e w2 ⟨y, ⟨y1, y2⟩, rfl, S2, G2⟩
    have hx0 : 0 ≤ x * 256 + y := by omega
    have hx1 := Int.emod_nonneg (x * 256 + y) (show m ≠ 0 by omega)
    have hx2 := Int.emod_lt_of_pos (x * 256 + y) (show 0 < m by omega)
    have hx3 : (x * 256 + y).tmod m = (x * 256 + y) % m := Int.tmod_eq_emod_of_nonneg hx0
    go_wp2_with fail
    go_ret
    exact ⟨(x * 256 + y) % m, ⟨hx1, .inl hx2⟩, by first | rfl | (rw [← hx3]; rfl), S2.le (by omega), grownBy_trans G1 G2⟩
end Go.Proofs.YtgcodjkjdfahdaaGreatDoor

/- What the reference draws for prices, seats and shares. No condition but that the bytes read. -/
namespace Go.Proofs.YtgcodjkjdfahdaaGreatDoor
open Go Go.RowKit Go.ChangeShapes Go.WideShapes
set_option linter.unusedSimpArgs false
set_option linter.unusedVariables false
theorem Src.below2 {w0 W W' : World} {v : Value} {g n C : Nat} (h : Src w0 v g n W) (hC : g < C) (hb : Below C W W') : Src w0 v g n W' := by
  obtain ⟨h1, h2, h3, p, seed, h4, h5, c0, c1, c2, f1, f2⟩ := h
  exact ⟨Nat.lt_of_lt_of_le h1 hb.size, h2, h3.trans (hb.mono (by omega)), p, seed, h4, h5, (hb.cell (p := ⟨g, 0, none⟩) hC).trans c0, (hb.cell (p := ⟨g, 1, none⟩) hC).trans c1, (hb.cell (p := ⟨g, 2, none⟩) hC).trans c2, (hb.frozen (p := ⟨g, 1, none⟩) hC).trans f1, (hb.frozen (p := ⟨g, 2, none⟩) hC).trans f2⟩
theorem Own.src {α : Type} {W W' : World} {g : Nat} {E : TypeId} {k : Nat} {v : Value} {enc : α → List Value} {L : List α} (h : Own W (g + 1) E k v enc L) (hg : W.grownBy W' (some g)) : Own W' (g + 1) E k v enc L :=
  h.grown hg (by
    rcases q : v.ownBlock with _ | b
    · exact .inl rfl
    · refine .inr ?_
      have := (h.lt b q).1
      intro e
      injection e with e
      omega)
theorem grow_alloc {W W' : World} {r : Option Nat} (h : W.grownBy W' r) (o : Obj) : W.grownBy (W'.alloc o) r := grownBy_trans h (grownBy_of_below ((Below.refl W'.heap.size W').alloc (Nat.le_refl _) o) r)
theorem free_src {w : World} {b : Nat} {cs : Array Value} {t : TypeId} (h : w.heap[b]? = some (.cells cs t (0, 0))) (o : Nat) : w.frozen? ⟨b, o, none⟩ = false := by simp [World.frozen?, h]
theorem src_new (w : World) (v : Value) (T : TypeId) : Src w v w.heap.size 0 (w.alloc (.cells #[v, .int .i64 0, .int .u64 0] T)) := by
  have g0 : (w.alloc (.cells #[v, .int .i64 0, .int .u64 0] T)).heap[w.heap.size]? = some (.cells #[v, .int .i64 0, .int .u64 0] T (0, 0)) := heap_alloc_new w _
  exact ⟨by simp, Nat.le_refl _, (Below.refl _ _).alloc (Nat.le_refl _) _, 0, 0, Nat.le_refl _, by omega, cell_of_row _ _ 0 _ _ (0, 0) g0, cell_of_row _ _ 1 _ _ (0, 0) g0, cell_of_row _ _ 2 _ _ (0, 0) g0, free_src g0 1, free_src g0 2⟩
theorem from_src (w : World) (v : Value) (hv : ∃ A n c, v = .slice A n c) :
    Calls Tryz.prog 23 #[v] w fun e w' => e = .returned (.pointer (some ⟨w.heap.size, 0, none⟩)) ∧ Src w v w.heap.size 0 w' ∧ Below w.heap.size w w' ∧ w'.heap.size = w.heap.size + 1 := by
  obtain ⟨A, n, c, rfl⟩ := hv
  go_enter Tryz.func23, Tryz.ntmps23
  go_wp2_with fail
  go_ret
  exact ⟨rfl, src_new w _ _, (Below.refl _ _).alloc (Nat.le_refl _) _, by simp⟩
end Go.Proofs.YtgcodjkjdfahdaaGreatDoor

/- The reference's choice among texts. No condition but that the source reads its bytes. -/
namespace Go.Proofs.YtgcodjkjdfahdaaGreatDoor
open Go Go.RowKit Go.ChangeShapes Go.WideShapes
set_option linter.unusedSimpArgs false
set_option linter.unusedVariables false
theorem own_texts (W : World) (B : Nat) (hB : B ≤ W.heap.size) (E : TypeId) (L : List ByteArray) (h0 : L.length ≤ 9223372036854775807) : Own (W.alloc (.cells (L.map Value.string).toArray E)) B E 1 (.slice (some ⟨W.heap.size, 0, none⟩) L.length L.length) eS L := by
  have hf : L.flatMap eS = L.map Value.string := by
    clear h0
    induction L with
    | nil => rfl
    | cons x r ih => rw [List.flatMap_cons, ih]; rfl
  refine ⟨by rw [flatMap_len eS 1 eS_len], .inr ⟨W.heap.size, L.length, (L.map Value.string).toArray, rfl, hB, heap_alloc_new W _, Nat.le_refl _, h0, ?_, ?_⟩⟩
  · simp
  · rw [hf]
    simp
    exact List.take_of_length_le (by simp)
/-- the texts of a choice, made before the choice -/
theorem texts_stay {W : World} {g : Nat} (hg : g < W.heap.size) (E : TypeId) (L : List ByteArray) (h0 : L.length ≤ 9223372036854775807) : ∀ W', (W.alloc (.cells (L.map Value.string).toArray E)).grownBy W' (some g) → Sl W' 1 (.slice (some ⟨W.heap.size, 0, none⟩) L.length L.length) eS L := fun W' hgr =>
  (((own_texts W (g + 1) (by omega) E L h0).src hgr).sl eS_len)
set_option maxRecDepth 100000 in
set_option maxHeartbeats 2000000 in
theorem text_src (w0 : World) (v : Value) (l : List UInt8) (hS : Sl w0 1 v eU l) (hl : l.length ≤ 1048576) (w : World) (g n : Nat) (h : Src w0 v g n w) (hn : n ≤ 900000000) (u : Value) (L : List ByteArray) (hL : ∀ W, w.grownBy W (some g) → Sl W 1 u eS L) (h0 : 0 < L.length) (h1 : L.length ≤ 1000) :
    Calls Tryz.prog 56 #[.pointer (some ⟨g, 0, none⟩), u] w fun e w' => ∃ x : ByteArray, x ∈ L ∧ e = .returned (.string x) ∧ Src w0 v g (n + 2) w' ∧ w.grownBy w' (some g) := by
  obtain ⟨A, cc, rfl⟩ := (hL w (World.grownBy.refl _ _)).isSlice
  go_enter Tryz.func56, Tryz.ntmps56
  go_wp2_with fail
  refine (pick_src w0 v l hS hl _ g n h hn (L.length : Int) (by omega)).mono ?_
  rintro e w1 ⟨x, ⟨x1, x2⟩, rfl, S1, G1⟩
  obtain ⟨k, rfl⟩ : ∃ k : Nat, x = (k : Int) := ⟨x.toNat, by omega⟩
  have hk : k < L.length := by omega
  obtain ⟨b, o, hA, hb, hc⟩ := (hL w1 G1).str_at hk
  subst hA
  have hm := List.getElem_mem hk
  generalize L[k] = y at hc hm
  go_wp2_with fail
  go_ret
  exact ⟨y, hm, rfl, S1, G1⟩
end Go.Proofs.YtgcodjkjdfahdaaGreatDoor

/- A record that lies in a block of its own: its cells, its stores; what a source of choices and a grown world keep of it. No condition. -/
namespace Go.Proofs.YtgcodjkjdfahdaaGreatDoor
open Go Go.RowKit Go.ChangeShapes Go.WideShapes
set_option linter.unusedSimpArgs false
set_option linter.unusedVariables false
def Rec (W : World) (B E : Nat) (T : TypeId) (cs : List Value) : Prop := W.ownsRow B T cs.length (.slice (some ⟨E, 0, none⟩) 1 1) 1 cs
section
variable {W W' : World} {B E : Nat} {T : TypeId} {cs : List Value}
theorem Rec.lt (h : Rec W B E T cs) : B ≤ E ∧ E < W.heap.size := World.ownsRow.lt h E rfl
theorem Rec.cell (h : Rec W B E T cs) (j : Nat) (u : Value) (hj : cs[j]? = some u) : W.cell? ⟨E, j, none⟩ = some u := by
  have hl := (List.getElem?_eq_some_iff.1 hj).1
  rw [World.ownsRow.cellAt h j (by omega)]
  exact hj
theorem Rec.free (h : Rec W B E T cs) (j : Nat) : W.frozen? ⟨E, j, none⟩ = false := World.ownsRow.frozenAt h j
theorem Rec.keep {row : Option Nat} (h : Rec W B E T cs) (hg : W.grownBy W' row) (hne : some E ≠ row) : Rec W' B E T cs := World.ownsRow.kept h hg (.inr hne)
theorem Rec.alloc (h : Rec W B E T cs) (o : Obj) : Rec (W.alloc o) B E T cs := World.ownsRow.alloc h o
theorem Rec.below (h : Rec W B E T cs) (hb : Below W.heap.size W W') : Rec W' B E T cs := h.keep (grownBy_of_below hb none) (by simp)
theorem Rec.set (h : Rec W B E T cs) (j : Nat) (u : Value) : Rec (W.setCell ⟨E, j, none⟩ u) B E T (cs.set j u) := by
  unfold Rec
  rw [List.length_set]
  exact (World.ownsRow.stored h j u).1
theorem Rec.other {E' : Nat} (h : Rec W B E T cs) (j : Nat) (u : Value) (hne : E ≠ E') : Rec (W.setCell ⟨E', j, none⟩ u) B E T cs := h.keep (grow_set W ⟨E', j, none⟩ u) (by simpa using hne)
theorem Rec.base {B' : Nat} (h : Rec W B E T cs) (hB : B' ≤ B) : Rec W B' E T cs := by
  refine ⟨h.1, ?_⟩
  rcases h.2 with hn | ⟨g, cap, cur, hv, hbg, rest⟩
  · exact .inl hn
  · exact .inr ⟨g, cap, cur, hv, by omega, rest⟩
end
theorem Own.src2 {α : Type} {W W' : World} {B g : Nat} {E : TypeId} {k : Nat} {v : Value} {enc : α → List Value} {L : List α} (h : Own W B E k v enc L) (hB : g < B) (hg : W.grownBy W' (some g)) : Own W' B E k v enc L :=
  h.grown hg (by
    rcases q : v.ownBlock with _ | b
    · exact .inl rfl
    · refine .inr ?_
      have := (h.lt b q).1
      intro e
      injection e with e
      omega)
theorem grow_below {w W W' : World} {row : Option Nat} (h : w.grownBy W row) (hb : Below w.heap.size W W') : w.grownBy W' row :=
  ⟨hb.os.trans h.os, hb.tape.trans h.tape, hb.output.trans h.output, Nat.le_trans h.size hb.size, fun k hk hne => (hb.block k hk).trans (h.block k hk hne)⟩
theorem Src.put {w0 W : World} {v : Value} {g n E : Nat} (h : Src w0 v g n W) (hE : g < E) (j : Nat) (u : Value) : Src w0 v g n (W.setCell ⟨E, j, none⟩ u) :=
  h.below2 (Nat.lt_succ_self g) ((Below.refl (g + 1) W).setCell (p := ⟨E, j, none⟩) (by exact hE) u)
theorem Src.drew {w0 W : World} {v : Value} {g n : Nat} (h : Src w0 v g n W) : Src w0 v g n W.drew := h.below (Below.drew (Below.refl _ _))
theorem Src.more {w0 W : World} {v : Value} {g n : Nat} (h : Src w0 v g n W) (o : Obj) : Src w0 v g n (W.alloc o) := h.below ((Below.refl _ _).alloc (Nat.le_refl _) o)
end Go.Proofs.YtgcodjkjdfahdaaGreatDoor
