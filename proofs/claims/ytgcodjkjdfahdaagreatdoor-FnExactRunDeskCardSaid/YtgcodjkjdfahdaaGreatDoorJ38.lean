/- Texts of the claim, joined: each says at its head what it proves. No condition. -/
import Derived.Test.YtgcodjkjdfahdaaGreatDoorJ33
import Derived.Test.YtgcodjkjdfahdaaGreatDoorJ37
import Derived.Test.YtgcodjkjdfahdaaGreatDoorJ2
import Derived.Test.YtgcodjkjdfahdaaGreatDoorJ5
/- The state of a run of the console: what is kept from line to line. No condition. -/
namespace Go.Proofs.YtgcodjkjdfahdaaGreatDoor
open Go Go.RowKit Go.ChangeShapes Go.WideShapes
set_option linter.unusedSimpArgs false
set_option linter.unusedVariables false
/-- the state of a run: a desk in a block, the lines so far -/
def RInv (B g : Nat) (T : TDk × List ByteArray) (ov : Value) (W : World) : Prop :=
  ∃ v1 v2, DeskAt W g T.1.1 v1 v2 T.1.2.2.2 ∧ (∀ i, W.frozen? ⟨g, i, none⟩ = false) ∧ B ≤ g ∧ Own W B 92 4 v1 eCue T.1.2.1 ∧ Own W B 95 4 v2 eTitle T.1.2.2.1 ∧ Own W B 9 1 ov eS T.2 ∧ (∀ k, v1.ownBlock = some k → k ≠ g) ∧ (∀ k, v2.ownBlock = some k → k ≠ g) ∧ (∀ k, ov.ownBlock = some k → k ≠ g) ∧ (v1.ownBlock = none ∨ v1.ownBlock ≠ ov.ownBlock) ∧ (v2.ownBlock = none ∨ v2.ownBlock ≠ ov.ownBlock)
theorem DeskAt.of_block {W W' : World} {g : Nat} {p : ByteArray} {v1 v2 : Value} {q : ByteArray} (h : DeskAt W g p v1 v2 q) (hb : W'.heap[g]? = W.heap[g]?) (hs : W.heap.size ≤ W'.heap.size) : DeskAt W' g p v1 v2 q :=
  ⟨Nat.lt_of_lt_of_le h.1 hs, (World.cell?_of_block (w := W) (a := ⟨g, 0, none⟩) hb).trans h.2.1, (World.cell?_of_block (w := W) (a := ⟨g, 1, none⟩) hb).trans h.2.2.1, (World.cell?_of_block (w := W) (a := ⟨g, 2, none⟩) hb).trans h.2.2.2.1, (World.cell?_of_block (w := W) (a := ⟨g, 3, none⟩) hb).trans h.2.2.2.2⟩
theorem ne_of_all {v : Value} {g : Nat} (h : ∀ k, v.ownBlock = some k → k ≠ g) : v.ownBlock = none ∨ v.ownBlock ≠ some g := .inr fun e => h g e rfl
theorem frozen_set4 {W : World} {g : Nat} (F : ∀ i, W.frozen? ⟨g, i, none⟩ = false) (i : Nat) (a b c d : Value) : ((((W.setCell ⟨g, 0, none⟩ a).setCell ⟨g, 1, none⟩ b).setCell ⟨g, 2, none⟩ c).setCell ⟨g, 3, none⟩ d).frozen? ⟨g, i, none⟩ = false := by
  have f := F i
  go_simp
theorem RInv.grow {B g : Nat} {T : TDk × List ByteArray} {ov ov' : Value} {w W W' : World} {l : List ByteArray} (H : RInv B g T ov w) (HB : Below w.heap.size w W) (hg : W.grownBy W' ov.ownBlock) (ho : Own W' B 9 1 ov' eS l) (hat : ov'.ownBlock = ov.ownBlock ∨ ov'.ownBlock = some W.heap.size) : RInv B g (T.1, l) ov' W' := by
  obtain ⟨v1, v2, D, F, hBg, O1, O2, O3, n1, n2, n3, a1, a2⟩ := H
  have hgW : g < W.heap.size := Nat.lt_of_lt_of_le D.1 HB.size
  have hblk := hg.block g hgW (fun e => n3 g e.symm rfl)
  refine ⟨v1, v2, (D.below HB).of_block hblk hg.size, fun i => (World.frozen?_of_block (w := W) (a := ⟨g, i, none⟩) hblk).trans ((HB.frozen (p := ⟨g, i, none⟩) D.1).trans (F i)), hBg, (O1.below HB (Nat.le_refl _)).grown hg a1, (O2.below HB (Nat.le_refl _)).grown hg a2, ho, n1, n2, ?_, ?_, ?_⟩
  · intro k e
    rcases hat with h | h
    · exact n3 k (h ▸ e)
    · rw [h] at e
      injection e with e
      omega
  · rcases hat with h | h
    · rw [h]; exact a1
    · rw [h]
      refine .inr fun e => ?_
      have h1 := (O1.lt _ e).2
      have := HB.size
      omega
  · rcases hat with h | h
    · rw [h]; exact a2
    · rw [h]
      refine .inr fun e => ?_
      have h1 := (O2.lt _ e).2
      have := HB.size
      omega
theorem RInv.below {B g : Nat} {T : TDk × List ByteArray} {ov : Value} {w W : World} (H : RInv B g T ov w) (HB : Below w.heap.size w W) : RInv B g T ov W := by
  obtain ⟨v1, v2, D, F, hBg, O1, O2, O3, n1, n2, n3, a1, a2⟩ := H
  exact ⟨v1, v2, D.below HB, fun i => (HB.frozen (p := ⟨g, i, none⟩) D.1).trans (F i), hBg, O1.below HB (Nat.le_refl _), O2.below HB (Nat.le_refl _), O3.below HB (Nat.le_refl _), n1, n2, n3, a1, a2⟩
/-- the lines are appended, then the state is stored -/
theorem RInv.nextA {B g : Nat} {T : TDk × List ByteArray} {d : TDk} {ov ov' u1 u2 : Value} {w W W' : World} {l : List ByteArray} (H : RInv B g T ov w) (HB : Below w.heap.size w W) (P1 : Own W w.heap.size 92 4 u1 eCue d.2.1) (P2 : Own W w.heap.size 95 4 u2 eTitle d.2.2.1) (hg : W.grownBy W' ov.ownBlock) (ho : Own W' B 9 1 ov' eS l) (hat : ov'.ownBlock = ov.ownBlock ∨ ov'.ownBlock = some W.heap.size) (k1 : u1.oneCell' = true) (k2 : u2.oneCell' = true) :
    RInv B g (d, l) ov' ((((W'.setCell ⟨g, 0, none⟩ (.string d.1)).setCell ⟨g, 1, none⟩ u1).setCell ⟨g, 2, none⟩ u2).setCell ⟨g, 3, none⟩ (.string d.2.2.2)) := by
  obtain ⟨v1, v2, D, F, hBg, O1, O2, O3, n1, n2, n3, a1, a2⟩ := H
  have hgw : g < w.heap.size := D.1
  have hgW : g < W.heap.size := Nat.lt_of_lt_of_le D.1 HB.size
  have hblk := hg.block g hgW (fun e => n3 g e.symm rfl)
  have D' := (D.below HB).of_block hblk hg.size
  have F' : ∀ i, W'.frozen? ⟨g, i, none⟩ = false := fun i => (World.frozen?_of_block (w := W) (a := ⟨g, i, none⟩) hblk).trans ((HB.frozen (p := ⟨g, i, none⟩) D.1).trans (F i))
  have ap : ∀ v : Value, (∀ k, v.ownBlock = some k → w.heap.size ≤ k ∧ k < W.heap.size) → (v.ownBlock = none ∨ v.ownBlock ≠ ov.ownBlock) := fun v hv => by
    rcases hk : v.ownBlock with _ | k
    · exact .inl rfl
    · refine .inr fun e => ?_
      have h1 := hv k hk
      have h2 := (O3.lt k e.symm).2
      omega
  have ap' : ∀ v : Value, (∀ k, v.ownBlock = some k → w.heap.size ≤ k ∧ k < W.heap.size) → (v.ownBlock = none ∨ v.ownBlock ≠ ov'.ownBlock) := fun v hv => by
    rcases hat with h | h
    · rw [h]; exact ap v hv
    · rw [h]
      refine .inr fun e => ?_
      have := (hv _ e).2
      omega
  have ng : ∀ v : Value, (∀ k, v.ownBlock = some k → w.heap.size ≤ k ∧ k < W.heap.size) → ∀ k, v.ownBlock = some k → k ≠ g := fun v hv k e => by
    have := (hv k e).1
    omega
  have l1 : ∀ k, u1.ownBlock = some k → w.heap.size ≤ k ∧ k < W.heap.size := fun k e => P1.lt k e
  have l2 : ∀ k, u2.ownBlock = some k → w.heap.size ≤ k ∧ k < W.heap.size := fun k e => P2.lt k e
  have ng3 : ∀ k, ov'.ownBlock = some k → k ≠ g := fun k e => by
    rcases hat with h | h
    · exact n3 k (h ▸ e)
    · rw [h] at e
      injection e with e
      omega
  have hBw : B ≤ w.heap.size := by omega
  refine ⟨u1, u2, desk_set d.1 d.2.2.2 u1 u2 k1 k2 D'.1 D'.2.1 D'.2.2.1 D'.2.2.2.1 D'.2.2.2.2 F', fun i => ?_, hBg, own_set4 ((P1.grown hg (ap u1 l1)).base hBw) (ne_of_all (ng u1 l1)) _ _ _ _, own_set4 ((P2.grown hg (ap u2 l2)).base hBw) (ne_of_all (ng u2 l2)) _ _ _ _, own_set4 ho (ne_of_all ng3) _ _ _ _, ng u1 l1, ng u2 l2, ng3, ap' u1 l1, ap' u2 l2⟩
  exact frozen_set4 F' i _ _ _ _
end Go.Proofs.YtgcodjkjdfahdaaGreatDoor

/- The reference's record of the console in its block: what is kept from step to step. No condition. -/
namespace Go.Proofs.YtgcodjkjdfahdaaGreatDoor
open Go Go.RowKit Go.ChangeShapes Go.WideShapes
set_option linter.unusedSimpArgs false
set_option linter.unusedVariables false
/-- the reference's record of the console: a desk, the lines so far, two cells more -/
structure SAt (W : World) (B g : Nat) (d : TDk) (vo : Value) (L : List ByteArray) : Prop where
  desk : ∃ v1 v2, DeskAt W g d.1 v1 v2 d.2.2.2 ∧ Own W B 92 4 v1 eCue d.2.1 ∧ Own W B 95 4 v2 eTitle d.2.2.1 ∧ (∀ k, v1.ownBlock = some k → k ≠ g) ∧ (∀ k, v2.ownBlock = some k → k ≠ g) ∧ apart v1.ownBlock vo.ownBlock ∧ apart v2.ownBlock vo.ownBlock
  lt : g < W.heap.size
  base : B ≤ g
  fr : ∀ i, W.frozen? ⟨g, i, none⟩ = false
  c4 : W.cell? ⟨g, 4, none⟩ = some vo
  out : Own W B 9 1 vo eS L
  no : ∀ k, vo.ownBlock = some k → k ≠ g
  c5 : ∃ x, W.cell? ⟨g, 5, none⟩ = some x
  c6 : ∃ x, W.cell? ⟨g, 6, none⟩ = some x
theorem cell_blk {W W' : World} {g i : Nat} {v : Value} (hb : W'.heap[g]? = W.heap[g]?) (h : W.cell? ⟨g, i, none⟩ = some v) : W'.cell? ⟨g, i, none⟩ = some v := (World.cell?_of_block (w := W) (a := ⟨g, i, none⟩) hb).trans h
theorem SAt.below {W W' : World} {B g : Nat} {d : TDk} {vo : Value} {L : List ByteArray} (H : SAt W B g d vo L) (hb : Below W.heap.size W W') : SAt W' B g d vo L := by
  obtain ⟨v1, v2, D, O1, O2, r⟩ := H.desk
  obtain ⟨x, hx⟩ := H.c5
  obtain ⟨y, hy⟩ := H.c6
  have hblk := hb.block g H.lt
  exact ⟨⟨v1, v2, D.below hb, O1.below hb (Nat.le_refl _), O2.below hb (Nat.le_refl _), r⟩, Nat.lt_of_lt_of_le H.lt hb.size, H.base, fun i => (hb.frozen (p := ⟨g, i, none⟩) H.lt).trans (H.fr i), cell_blk hblk H.c4, H.out.below hb (Nat.le_refl _), H.no, ⟨x, cell_blk hblk hx⟩, ⟨y, cell_blk hblk hy⟩⟩
/-- only the record, its lines and what is new are written -/
def Fr (g : Nat) (vo : Value) (W : World) (vo' : Value) (W' : World) : Prop := TouchL W W' [some g, vo.ownBlock] ∧ (vo'.ownBlock = vo.ownBlock ∨ ∀ k, vo'.ownBlock = some k → W.heap.size ≤ k)
theorem touch_below {W W' : World} (hb : Below W.heap.size W W') (bs : List (Option Nat)) : TouchL W W' bs := ⟨hb.os, hb.tape, hb.output, hb.size, fun k hk _ => hb.block k hk⟩
theorem Fr.refl (g : Nat) (vo : Value) (W : World) : Fr g vo W vo W := ⟨TouchL.refl _ _, .inl rfl⟩
theorem Fr.trans {g : Nat} {vo vo1 vo2 : Value} {W W1 W2 : World} (h : Fr g vo W vo1 W1) (h' : Fr g vo1 W1 vo2 W2) : Fr g vo W vo2 W2 := by
  refine ⟨⟨h'.1.os.trans h.1.os, h'.1.tape.trans h.1.tape, h'.1.output.trans h.1.output, Nat.le_trans h.1.size h'.1.size, fun k hk hn => ?_⟩, ?_⟩
  · refine (h'.1.block k (Nat.lt_of_lt_of_le hk h.1.size) (fun b hb e => ?_)).trans (h.1.block k hk hn)
    simp only [List.mem_cons, List.not_mem_nil, or_false] at hb
    rcases hb with rfl | rfl
    · exact hn (some g) (by simp) e
    · rcases h.2 with q | q
      · exact hn vo.ownBlock (by simp) (q.symm.trans e)
      · have := q k e
        omega
  · rcases h'.2 with q | q
    · rcases h.2 with q2 | q2
      · exact .inl (q.trans q2)
      · exact .inr fun k e => q2 k (q.symm.trans e)
    · exact .inr fun k e => Nat.le_trans h.1.size (q k e)
theorem Fr.of_below {g : Nat} {vo : Value} {W W1 : World} (hb : Below W.heap.size W W1) : Fr g vo W vo W1 := ⟨touch_below hb _, .inl rfl⟩
theorem Fr.pre {g : Nat} {vo vo' : Value} {W W1 W2 : World} (hb : Below W.heap.size W W1) (h : Fr g vo W1 vo' W2) : Fr g vo W vo' W2 := (Fr.of_below hb).trans h
theorem Fr.post {g : Nat} {vo vo' : Value} {W W1 W2 : World} (h : Fr g vo W vo' W1) (hb : Below W1.heap.size W1 W2) : Fr g vo W vo' W2 := h.trans (Fr.of_below hb)
theorem Fr.below {W W' : World} {B g : Nat} {d : TDk} {vo vo' : Value} {L : List ByteArray} (H : SAt W B g d vo L) (h : Fr g vo W vo' W') : Below B W W' :=
  below_touched h.1 (Nat.le_trans H.base (Nat.le_of_lt H.lt)) (fun b hb k e => by
    simp only [List.mem_cons, List.not_mem_nil, or_false] at hb
    rcases hb with rfl | rfl
    · injection e with e; rw [← e]; exact H.base
    · exact (H.out.lt k e).1)
/-- what a step leaves: a desk and the lines -/
def SRes (B g : Nat) (vo : Value) (W : World) (d : TDk) (L : List ByteArray) (W' : World) : Prop := ∃ vo', SAt W' B g d vo' L ∧ Fr g vo W vo' W'
theorem SRes.pre {B g : Nat} {vo : Value} {W W1 W2 : World} {d : TDk} {L : List ByteArray} (hb : Below W.heap.size W W1) (h : SRes B g vo W1 d L W2) : SRes B g vo W d L W2 := by
  obtain ⟨vo', h1, h2⟩ := h
  exact ⟨vo', h1, h2.pre hb⟩
theorem SRes.after {B g : Nat} {vo vo1 : Value} {W W1 W2 : World} {d : TDk} {L : List ByteArray} (hf : Fr g vo W vo1 W1) (h : SRes B g vo1 W1 d L W2) : SRes B g vo W d L W2 := by
  obtain ⟨vo', h1, h2⟩ := h
  exact ⟨vo', h1, hf.trans h2⟩
theorem SRes.post {B g : Nat} {vo : Value} {W W1 W2 : World} {d : TDk} {L : List ByteArray} (h : SRes B g vo W d L W1) (hb : Below W1.heap.size W1 W2) : SRes B g vo W d L W2 := by
  obtain ⟨vo', h1, h2⟩ := h
  exact ⟨vo', h1.below hb, h2.post hb⟩
theorem SAt.same {W : World} {B g : Nat} {d : TDk} {vo : Value} {L : List ByteArray} (H : SAt W B g d vo L) : SRes B g vo W d L W := ⟨vo, H, Fr.refl _ _ _⟩
/-- the lines are written anew -/
theorem SAt.put4 {W W1 W2 : World} {B g : Nat} {d : TDk} {vo vo' : Value} {L L' : List ByteArray} (H : SAt W B g d vo L) (hb : Below W.heap.size W W1) (hg : W1.grownBy W2 vo.ownBlock) (ho : Own W2 B 9 1 vo' eS L') (hat : vo'.ownBlock = vo.ownBlock ∨ ∀ k, vo'.ownBlock = some k → W.heap.size ≤ k) (h1 : vo'.oneCell' = true) :
    SRes B g vo W d L' (W2.setCell ⟨g, 4, none⟩ vo') := by
  obtain ⟨v1, v2, D, O1, O2, n1, n2, a1, a2⟩ := H.desk
  obtain ⟨x, hx⟩ := H.c5
  obtain ⟨y, hy⟩ := H.c6
  have hgW : g < W1.heap.size := Nat.lt_of_lt_of_le H.lt hb.size
  have hblk : W2.heap[g]? = W.heap[g]? := (hg.block g hgW (fun e => H.no g e.symm rfl)).trans (hb.block g H.lt)
  obtain ⟨hl, c0, c1, c2, c3⟩ := D.of_block hblk (Nat.le_trans hb.size hg.size)
  have c4 := cell_blk hblk H.c4
  have c5 := cell_blk hblk hx
  have c6 := cell_blk hblk hy
  have F : ∀ i, W2.frozen? ⟨g, i, none⟩ = false := fun i => (World.frozen?_of_block (w := W) (a := ⟨g, i, none⟩) hblk).trans (H.fr i)
  have f4 := F 4
  have hgs := grownBy_set W2 ⟨g, 4, none⟩ vo'
  have no' : ∀ k, vo'.ownBlock = some k → k ≠ g := fun k e => by
    rcases hat with h | h
    · exact H.no k (h.symm.trans e)
    · have := h k e; have := H.lt; omega
  have ap : ∀ v : Value, apart v.ownBlock vo.ownBlock → (∀ k, v.ownBlock = some k → k < W.heap.size) → apart v.ownBlock vo'.ownBlock := fun v a hv => by
    rcases hat with h | h
    · rw [h]; exact a
    · rcases hk : v.ownBlock with _ | k
      · exact .inl rfl
      · refine .inr fun e => ?_
        have h2 := hv k hk
        have h3 := h k e.symm
        omega
  have O1' := ((O1.below hb (Nat.le_refl _)).grown hg a1).grown hgs (ne_of_all n1)
  have O2' := ((O2.below hb (Nat.le_refl _)).grown hg a2).grown hgs (ne_of_all n2)
  have O3' := ho.grown hgs (ne_of_all no')
  have e0 : (W2.setCell ⟨g, 4, none⟩ vo').cell? ⟨g, 0, none⟩ = some (.string d.1) := by go_simp
  have e1 : (W2.setCell ⟨g, 4, none⟩ vo').cell? ⟨g, 1, none⟩ = some v1 := by go_simp
  have e2 : (W2.setCell ⟨g, 4, none⟩ vo').cell? ⟨g, 2, none⟩ = some v2 := by go_simp
  have e3 : (W2.setCell ⟨g, 4, none⟩ vo').cell? ⟨g, 3, none⟩ = some (.string d.2.2.2) := by go_simp
  have e4 : (W2.setCell ⟨g, 4, none⟩ vo').cell? ⟨g, 4, none⟩ = some vo' := by go_simp
  have e5 : (W2.setCell ⟨g, 4, none⟩ vo').cell? ⟨g, 5, none⟩ = some x := by go_simp
  have e6 : (W2.setCell ⟨g, 4, none⟩ vo').cell? ⟨g, 6, none⟩ = some y := by go_simp
  have ef : ∀ i, (W2.setCell ⟨g, 4, none⟩ vo').frozen? ⟨g, i, none⟩ = false := fun i => by
    have := F i
    go_simp
  have hls : g < (W2.setCell ⟨g, 4, none⟩ vo').heap.size := Nat.lt_of_lt_of_le hl hgs.size
  refine ⟨vo', ⟨⟨v1, v2, ⟨hls, e0, e1, e2, e3⟩, O1', O2', n1, n2, ap v1 a1 (fun k e => (O1.lt k e).2), ap v2 a2 (fun k e => (O2.lt k e).2)⟩, hls, H.base, ef, e4, O3', no', ⟨x, e5⟩, ⟨y, e6⟩⟩, ?_, hat⟩
  exact ((touch_below hb [some g, vo.ownBlock]).trans ((TouchL.of_grown hg).trans (TouchL.of_grown hgs))).mono fun b hb => by
    simp only [List.mem_append, List.mem_cons, List.not_mem_nil, or_false] at hb ⊢
    rcases hb with (h | h) | h | h
    · exact .inl h
    · exact .inr h
    · exact .inr h
    · exact .inl h
/-- a cell of the desk is written anew -/
theorem SAt.set_ {W : World} {B g : Nat} {d : TDk} {vo : Value} {L : List ByteArray} (H : SAt W B g d vo L) (i : Nat) (hi : i ≠ 4 ∧ i ≠ 5 ∧ i ≠ 6) (u : Value) (d' : TDk) (v1 v2 : Value) (D : DeskAt (W.setCell ⟨g, i, none⟩ u) g d'.1 v1 v2 d'.2.2.2) (O1 : Own W B 92 4 v1 eCue d'.2.1) (O2 : Own W B 95 4 v2 eTitle d'.2.2.1) (n1 : ∀ k, v1.ownBlock = some k → k ≠ g) (n2 : ∀ k, v2.ownBlock = some k → k ≠ g) (a1 : apart v1.ownBlock vo.ownBlock) (a2 : apart v2.ownBlock vo.ownBlock) :
    SRes B g vo W d' L (W.setCell ⟨g, i, none⟩ u) := by
  obtain ⟨x, hx⟩ := H.c5
  obtain ⟨y, hy⟩ := H.c6
  have c4 := H.c4
  have fi := H.fr i
  obtain ⟨i4, i5, i6⟩ := hi
  have j4 : ¬ 4 = i := fun e => i4 e.symm
  have j5 : ¬ 5 = i := fun e => i5 e.symm
  have j6 : ¬ 6 = i := fun e => i6 e.symm
  have hgs := grownBy_set W ⟨g, i, none⟩ u
  have e4 : (W.setCell ⟨g, i, none⟩ u).cell? ⟨g, 4, none⟩ = some vo := by go_simp
  have e5 : (W.setCell ⟨g, i, none⟩ u).cell? ⟨g, 5, none⟩ = some x := by go_simp
  have e6 : (W.setCell ⟨g, i, none⟩ u).cell? ⟨g, 6, none⟩ = some y := by go_simp
  have ef : ∀ j, (W.setCell ⟨g, i, none⟩ u).frozen? ⟨g, j, none⟩ = false := fun j => by
    have := H.fr j
    go_simp
  refine ⟨vo, ⟨⟨v1, v2, D, O1.grown hgs (ne_of_all n1), O2.grown hgs (ne_of_all n2), n1, n2, a1, a2⟩, D.1, H.base, ef, e4, H.out.grown hgs (ne_of_all H.no), H.no, ⟨x, e5⟩, ⟨y, e6⟩⟩, (TouchL.of_grown hgs).mono fun b hb => ?_, .inl rfl⟩
  simp only [List.mem_cons, List.not_mem_nil, or_false] at hb ⊢
  exact .inl hb
theorem SAt.set0 {W : World} {B g : Nat} {d : TDk} {vo : Value} {L : List ByteArray} (H : SAt W B g d vo L) (s : ByteArray) : SRes B g vo W (s, d.2) L (W.setCell ⟨g, 0, none⟩ (.string s)) := by
  obtain ⟨v1, v2, D, O1, O2, n1, n2, a1, a2⟩ := H.desk
  exact H.set_ 0 (by decide) _ (s, d.2) v1 v2 (desk_set0 D H.fr s) O1 O2 n1 n2 a1 a2
theorem SAt.set3 {W : World} {B g : Nat} {d : TDk} {vo : Value} {L : List ByteArray} (H : SAt W B g d vo L) (s : ByteArray) : SRes B g vo W (d.1, d.2.1, d.2.2.1, s) L (W.setCell ⟨g, 3, none⟩ (.string s)) := by
  obtain ⟨v1, v2, D, O1, O2, n1, n2, a1, a2⟩ := H.desk
  exact H.set_ 3 (by decide) _ (d.1, d.2.1, d.2.2.1, s) v1 v2 (desk_set3 D H.fr s) O1 O2 n1 n2 a1 a2
theorem SAt.set1 {W : World} {B g : Nat} {d : TDk} {vo : Value} {L : List ByteArray} (H : SAt W B g d vo L) {v : Value} {l : List TCue} (O : Own W B 92 4 v eCue l) (n : ∀ k, v.ownBlock = some k → k ≠ g) (a : apart v.ownBlock vo.ownBlock) (h1 : v.oneCell' = true) : SRes B g vo W (d.1, l, d.2.2.1, d.2.2.2) L (W.setCell ⟨g, 1, none⟩ v) := by
  obtain ⟨v1, v2, D, O1, O2, n1, n2, a1, a2⟩ := H.desk
  exact H.set_ 1 (by decide) _ (d.1, l, d.2.2.1, d.2.2.2) v v2 (desk_set1 D H.fr v h1) O O2 n n2 a a2
theorem SAt.set2 {W : World} {B g : Nat} {d : TDk} {vo : Value} {L : List ByteArray} (H : SAt W B g d vo L) {v : Value} {l : List TTitle} (O : Own W B 95 4 v eTitle l) (n : ∀ k, v.ownBlock = some k → k ≠ g) (a : apart v.ownBlock vo.ownBlock) (h1 : v.oneCell' = true) : SRes B g vo W (d.1, d.2.1, l, d.2.2.2) L (W.setCell ⟨g, 2, none⟩ v) := by
  obtain ⟨v1, v2, D, O1, O2, n1, n2, a1, a2⟩ := H.desk
  exact H.set_ 2 (by decide) _ (d.1, d.2.1, l, d.2.2.2) v1 v (desk_set2 D H.fr v h1) O1 O n1 n a1 a
/-- a slice made later is apart from the record and its lines -/
theorem SAt.fresh {W : World} {B g : Nat} {d : TDk} {vo : Value} {L : List ByteArray} (H : SAt W B g d vo L) {v : Value} (hv : ∀ k, v.ownBlock = some k → W.heap.size ≤ k) : (∀ k, v.ownBlock = some k → k ≠ g) ∧ apart v.ownBlock vo.ownBlock := by
  refine ⟨fun k e => by have := hv k e; have := H.lt; omega, ?_⟩
  rcases hk : v.ownBlock with _ | k
  · exact .inl rfl
  · refine .inr fun e => ?_
    have h1 := hv k hk
    have h2 := (H.out.lt k e.symm).2
    omega
/-- the numbers and the texts behind a command's first word -/
def NT (W : World) (B g : Nat) (ns : List Int) (ts : List ByteArray) : Prop := ∃ vn vt, W.cell? ⟨g, 5, none⟩ = some vn ∧ W.cell? ⟨g, 6, none⟩ = some vt ∧ Own W B 2 1 vn eI ns ∧ Own W B 9 1 vt eS ts ∧ (∀ k, vn.ownBlock = some k → k ≠ g) ∧ (∀ k, vt.ownBlock = some k → k ≠ g)
theorem NT.below {W W' : World} {B g : Nat} {ns : List Int} {ts : List ByteArray} (H : NT W B g ns ts) (hb : Below W.heap.size W W') : NT W' B g ns ts := by
  obtain ⟨vn, vt, c5, c6, O1, O2, n1, n2⟩ := H
  exact ⟨vn, vt, (hb.cell (World.block_lt_of_cell? W _ c5)).trans c5, (hb.cell (World.block_lt_of_cell? W _ c6)).trans c6, O1.below hb (Nat.le_refl _), O2.below hb (Nat.le_refl _), n1, n2⟩
theorem NT.set3 {W : World} {B g : Nat} {ns : List Int} {ts : List ByteArray} (H : NT W B g ns ts) (F : ∀ i, W.frozen? ⟨g, i, none⟩ = false) (u : Value) : NT (W.setCell ⟨g, 3, none⟩ u) B g ns ts := by
  obtain ⟨vn, vt, c5, c6, O1, O2, n1, n2⟩ := H
  have f3 := F 3
  have hgs := grownBy_set W ⟨g, 3, none⟩ u
  exact ⟨vn, vt, by go_simp, by go_simp, O1.grown hgs (ne_of_all n1), O2.grown hgs (ne_of_all n2), n1, n2⟩
end Go.Proofs.YtgcodjkjdfahdaaGreatDoor

/- The words of a command by the reference's form, plain. No condition. -/
namespace Go.Proofs.YtgcodjkjdfahdaaGreatDoor
open Go Go.RowKit Go.ChangeShapes Go.WideShapes
set_option linter.unusedSimpArgs false
set_option linter.unusedVariables false
/-- the reference's form of what follows a command's first word -/
def formS (s : ByteArray) : ByteArray :=
  if s = ⟨#[116, 105, 116, 108, 101]⟩ then ⟨#[114]⟩
  else if s = ⟨#[100, 105, 115, 99]⟩ then ⟨#[120]⟩
  else if s = ⟨#[102, 101, 119, 101, 115, 116]⟩ then ⟨#[120]⟩
  else if s = ⟨#[115, 104, 111, 119, 115]⟩ then ⟨#[110]⟩
  else if s = ⟨#[115, 104, 105, 102, 116, 115]⟩ then ⟨#[110]⟩
  else if s = ⟨#[115, 101, 101, 110]⟩ then ⟨#[110, 110]⟩
  else if s = ⟨#[105, 109, 97, 103, 101]⟩ then ⟨#[110, 110]⟩
  else if s = ⟨#[99, 117, 101]⟩ then ⟨#[110, 110, 110, 110]⟩
  else if s = ⟨#[98, 117, 114, 110]⟩ then ⟨#[110, 110, 110, 110]⟩
  else if s = ⟨#[102, 111, 114]⟩ then ⟨#[120, 110]⟩
  else if s = ⟨#[108, 111, 97, 100, 115]⟩ then ⟨#[120, 110]⟩
  else if s = ⟨#[101, 110, 116, 101, 114]⟩ then ⟨#[110, 120, 110]⟩
  else if s = ⟨#[116, 105, 116, 108, 101, 115]⟩ then ⟨#[]⟩
  else if s = ⟨#[108, 111, 103]⟩ then ⟨#[]⟩
  else ⟨#[45]⟩
theorem formS_title : formS ⟨#[116, 105, 116, 108, 101]⟩ = ⟨#[114]⟩ := by unfold formS; simp
theorem formS_disc : formS ⟨#[100, 105, 115, 99]⟩ = ⟨#[120]⟩ := by unfold formS; simp
theorem formS_fewest : formS ⟨#[102, 101, 119, 101, 115, 116]⟩ = ⟨#[120]⟩ := by unfold formS; simp
theorem formS_shows : formS ⟨#[115, 104, 111, 119, 115]⟩ = ⟨#[110]⟩ := by unfold formS; simp
theorem formS_shifts : formS ⟨#[115, 104, 105, 102, 116, 115]⟩ = ⟨#[110]⟩ := by unfold formS; simp
theorem formS_seen : formS ⟨#[115, 101, 101, 110]⟩ = ⟨#[110, 110]⟩ := by unfold formS; simp
theorem formS_image : formS ⟨#[105, 109, 97, 103, 101]⟩ = ⟨#[110, 110]⟩ := by unfold formS; simp
theorem formS_cue : formS ⟨#[99, 117, 101]⟩ = ⟨#[110, 110, 110, 110]⟩ := by unfold formS; simp
theorem formS_burn : formS ⟨#[98, 117, 114, 110]⟩ = ⟨#[110, 110, 110, 110]⟩ := by unfold formS; simp
theorem formS_for : formS ⟨#[102, 111, 114]⟩ = ⟨#[120, 110]⟩ := by unfold formS; simp
theorem formS_loads : formS ⟨#[108, 111, 97, 100, 115]⟩ = ⟨#[120, 110]⟩ := by unfold formS; simp
theorem formS_enter : formS ⟨#[101, 110, 116, 101, 114]⟩ = ⟨#[110, 120, 110]⟩ := by unfold formS; simp
theorem formS_titles : formS ⟨#[116, 105, 116, 108, 101, 115]⟩ = ⟨#[]⟩ := by unfold formS; simp
theorem formS_log : formS ⟨#[108, 111, 103]⟩ = ⟨#[]⟩ := by unfold formS; simp
theorem formS_none {s : ByteArray} (h0 : ¬ s = ⟨#[116, 105, 116, 108, 101]⟩) (h1 : ¬ s = ⟨#[100, 105, 115, 99]⟩) (h2 : ¬ s = ⟨#[102, 101, 119, 101, 115, 116]⟩) (h3 : ¬ s = ⟨#[115, 104, 111, 119, 115]⟩) (h4 : ¬ s = ⟨#[115, 104, 105, 102, 116, 115]⟩) (h5 : ¬ s = ⟨#[115, 101, 101, 110]⟩) (h6 : ¬ s = ⟨#[105, 109, 97, 103, 101]⟩) (h7 : ¬ s = ⟨#[99, 117, 101]⟩) (h8 : ¬ s = ⟨#[98, 117, 114, 110]⟩) (h9 : ¬ s = ⟨#[102, 111, 114]⟩) (h10 : ¬ s = ⟨#[108, 111, 97, 100, 115]⟩) (h11 : ¬ s = ⟨#[101, 110, 116, 101, 114]⟩) (h12 : ¬ s = ⟨#[116, 105, 116, 108, 101, 115]⟩) (h13 : ¬ s = ⟨#[108, 111, 103]⟩) : formS s = ⟨#[45]⟩ := by
  unfold formS
  rw [if_neg h0, if_neg h1, if_neg h2, if_neg h3, if_neg h4, if_neg h5, if_neg h6, if_neg h7, if_neg h8, if_neg h9, if_neg h10, if_neg h11, if_neg h12, if_neg h13]
theorem ba_ext {s t : ByteArray} (h : s.data.toList = t.data.toList) : s = t := by
  rcases s with ⟨⟨a⟩⟩
  rcases t with ⟨⟨b⟩⟩
  have h2 : a = b := h
  rw [h2]
/-- words from one on up to another, a space between them -/
def restTo (L : List ByteArray) (k : Nat) : ByteArray := joinS ⟨#[32]⟩ (L.take k)
theorem joinS_list (sep : ByteArray) (L : List ByteArray) : (joinS sep L).data.toList = Lib.join (L.map (·.data.toList)) sep.data.toList := by simp [joinS]
theorem restTo_one (x : ByteArray) (r : List ByteArray) : restTo (x :: r) 1 = x := by
  refine ba_ext ?_
  unfold restTo
  rw [joinS_list]
  show Lib.join [x.data.toList] _ = _
  rw [Lib.join_cons]
  simp [Lib.joinTail]
theorem restTo_succ {L : List ByteArray} {k : Nat} (h0 : 1 ≤ k) (h : k < L.length) : restTo L (k + 1) = restTo L k ++ (⟨#[32]⟩ ++ L[k]) := by
  obtain ⟨j, rfl⟩ : ∃ j, k = j + 1 := ⟨k - 1, by omega⟩
  cases L with
  | nil => simp at h
  | cons x r =>
    have hj : j < r.length := by simpa using h
    refine ba_ext ?_
    unfold restTo
    rw [toList_append, toList_append, joinS_list, joinS_list]
    rw [List.take_succ_cons, List.take_succ_cons, List.map_cons, List.map_cons, Lib.join_cons, Lib.join_cons, List.map_take, List.map_take, Lib.joinTail_take_succ _ _ j (r[j].data.toList) (by rw [List.getElem?_map, List.getElem?_eq_getElem hj]; rfl)]
    simp
theorem restTo_all {L : List ByteArray} {k : Nat} (h : L.length ≤ k) : restTo L k = joinS ⟨#[32]⟩ L := by unfold restTo; rw [List.take_of_length_le h]
theorem restTo_le (L : List ByteArray) (k : Nat) : (restTo L k).size ≤ (joinS ⟨#[32]⟩ L).size := by
  rw [← size_list, ← size_list, joinS_list]
  unfold restTo
  rw [joinS_list]
  cases L with
  | nil => simp
  | cons x r =>
    cases k with
    | zero => simp [Lib.join]
    | succ k =>
      rw [List.take_succ_cons, List.map_cons, List.map_cons, Lib.join_cons, Lib.join_cons, List.length_append, List.length_append, List.map_take]
      have := Lib.joinTail_take_le (⟨#[32]⟩ : ByteArray).data.toList (r.map (·.data.toList)) k
      omega
/-- the texts among a command's words, as its form tells -/
def textsTo (fm : List UInt8) (ws : List ByteArray) : Nat → List ByteArray
  | 0 => []
  | k + 1 => if fm.getD k 0 = 110 then textsTo fm ws k else textsTo fm ws k ++ [if fm.getD k 0 = 114 then joinS ⟨#[32]⟩ (ws.drop (k + 1)) else ws.getD (k + 1) ⟨#[]⟩]
theorem textsTo_num {fm : List UInt8} {ws : List ByteArray} {k : Nat} (h : fm.getD k 0 = 110) : textsTo fm ws (k + 1) = textsTo fm ws k := by
  show (if _ then _ else _) = _
  rw [if_pos h]
theorem textsTo_rest {fm : List UInt8} {ws : List ByteArray} {k : Nat} (h : fm.getD k 0 = 114) : textsTo fm ws (k + 1) = textsTo fm ws k ++ [joinS ⟨#[32]⟩ (ws.drop (k + 1))] := by
  show (if _ then _ else _) = _
  rw [if_neg (by rw [h]; decide), if_pos h]
theorem textsTo_word {fm : List UInt8} {ws : List ByteArray} {k : Nat} (h : ¬ fm.getD k 0 = 110) (h2 : ¬ fm.getD k 0 = 114) : textsTo fm ws (k + 1) = textsTo fm ws k ++ [ws.getD (k + 1) ⟨#[]⟩] := by
  show (if _ then _ else _) = _
  rw [if_neg h, if_neg h2]
theorem textsTo_len (fm : List UInt8) (ws : List ByteArray) : ∀ k, (textsTo fm ws k).length ≤ k
  | 0 => Nat.le_refl _
  | k + 1 => by
    have ih := textsTo_len fm ws k
    show (if _ then _ else _ : List ByteArray).length ≤ _
    split
    · omega
    · rw [List.length_append]; simp; omega
theorem numsTo_like {a b : List UInt8} (ws : List ByteArray) (h : ∀ k, a.getD k 0 = 110 ↔ b.getD k 0 = 110) : ∀ k, numsTo a ws k = numsTo b ws k
  | 0 => rfl
  | k + 1 => by
    have ih := numsTo_like ws h k
    unfold numsTo
    rw [ih]
    rcases numsTo b ws k with _ | l
    · rfl
    · dsimp only
      by_cases hk : a.getD k 0 = 110
      · rw [if_pos hk, if_pos ((h k).1 hk)]
      · rw [if_neg hk, if_neg (fun e => hk ((h k).2 e))]
/-- the forms -/
def formL : List ByteArray := [⟨#[114]⟩, ⟨#[120]⟩, ⟨#[110]⟩, ⟨#[110, 110]⟩, ⟨#[110, 110, 110, 110]⟩, ⟨#[120, 110]⟩, ⟨#[110, 120, 110]⟩, ⟨#[]⟩]
def fitF (fm : ByteArray) (n : Nat) : Bool := if fm = ⟨#[114]⟩ then decide (1 ≤ n) else decide (n = fm.size)
theorem words_cases {w0 : ByteArray} (hm : w0 ∈ dWords) : w0 = ⟨#[98, 117, 114, 110]⟩ ∨ w0 = ⟨#[99, 117, 101]⟩ ∨ w0 = ⟨#[100, 105, 115, 99]⟩ ∨ w0 = ⟨#[101, 110, 116, 101, 114]⟩ ∨ w0 = ⟨#[102, 101, 119, 101, 115, 116]⟩ ∨ w0 = ⟨#[102, 111, 114]⟩ ∨ w0 = ⟨#[105, 109, 97, 103, 101]⟩ ∨ w0 = ⟨#[108, 111, 97, 100, 115]⟩ ∨ w0 = ⟨#[108, 111, 103]⟩ ∨ w0 = ⟨#[115, 101, 101, 110]⟩ ∨ w0 = ⟨#[115, 104, 105, 102, 116, 115]⟩ ∨ w0 = ⟨#[115, 104, 111, 119, 115]⟩ ∨ w0 = ⟨#[116, 105, 116, 108, 101]⟩ ∨ w0 = ⟨#[116, 105, 116, 108, 101, 115]⟩ := by
  unfold dWords at hm
  simp only [List.mem_cons, List.not_mem_nil, or_false] at hm
  exact hm
theorem form_mem {w0 : ByteArray} (hm : w0 ∈ dWords) : formS w0 ∈ formL := by
  rcases words_cases hm with rfl | rfl | rfl | rfl | rfl | rfl | rfl | rfl | rfl | rfl | rfl | rfl | rfl | rfl
  · rw [formS_burn]; unfold formL; simp
  · rw [formS_cue]; unfold formL; simp
  · rw [formS_disc]; unfold formL; simp
  · rw [formS_enter]; unfold formL; simp
  · rw [formS_fewest]; unfold formL; simp
  · rw [formS_for]; unfold formL; simp
  · rw [formS_image]; unfold formL; simp
  · rw [formS_loads]; unfold formL; simp
  · rw [formS_log]; unfold formL; simp
  · rw [formS_seen]; unfold formL; simp
  · rw [formS_shifts]; unfold formL; simp
  · rw [formS_shows]; unfold formL; simp
  · rw [formS_title]; unfold formL; simp
  · rw [formS_titles]; unfold formL; simp
theorem form_none {w0 : ByteArray} (hm : ¬ w0 ∈ dWords) : formS w0 = ⟨#[45]⟩ := by
  refine formS_none (fun e => hm (by rw [e]; unfold dWords; simp)) (fun e => hm (by rw [e]; unfold dWords; simp)) (fun e => hm (by rw [e]; unfold dWords; simp)) (fun e => hm (by rw [e]; unfold dWords; simp)) (fun e => hm (by rw [e]; unfold dWords; simp)) (fun e => hm (by rw [e]; unfold dWords; simp)) (fun e => hm (by rw [e]; unfold dWords; simp)) (fun e => hm (by rw [e]; unfold dWords; simp)) (fun e => hm (by rw [e]; unfold dWords; simp)) (fun e => hm (by rw [e]; unfold dWords; simp)) (fun e => hm (by rw [e]; unfold dWords; simp)) (fun e => hm (by rw [e]; unfold dWords; simp)) (fun e => hm (by rw [e]; unfold dWords; simp)) (fun e => hm (by rw [e]; unfold dWords; simp))
theorem fit_form {w0 : ByteArray} (hm : w0 ∈ dWords) (n : Nat) : fitF (formS w0) n = fitN w0 (n + 1) := by
  rcases words_cases hm with rfl | rfl | rfl | rfl | rfl | rfl | rfl | rfl | rfl | rfl | rfl | rfl | rfl | rfl
  · rw [formS_burn]
    unfold fitF fitN
    rw [if_neg (by simp), if_neg (by unfold titleW; simp), shapeS_burn]
    exact decide_eq_decide.2 (by show n = 4 ↔ n + 1 = 4 + 1; omega)
  · rw [formS_cue]
    unfold fitF fitN
    rw [if_neg (by simp), if_neg (by unfold titleW; simp), shapeS_cue]
    exact decide_eq_decide.2 (by show n = 4 ↔ n + 1 = 4 + 1; omega)
  · rw [formS_disc]
    unfold fitF fitN
    rw [if_neg (by simp), if_neg (by unfold titleW; simp), shapeS_disc]
    exact decide_eq_decide.2 (by show n = 1 ↔ n + 1 = 1 + 1; omega)
  · rw [formS_enter]
    unfold fitF fitN
    rw [if_neg (by simp), if_neg (by unfold titleW; simp), shapeS_enter]
    exact decide_eq_decide.2 (by show n = 3 ↔ n + 1 = 3 + 1; omega)
  · rw [formS_fewest]
    unfold fitF fitN
    rw [if_neg (by simp), if_neg (by unfold titleW; simp), shapeS_fewest]
    exact decide_eq_decide.2 (by show n = 1 ↔ n + 1 = 1 + 1; omega)
  · rw [formS_for]
    unfold fitF fitN
    rw [if_neg (by simp), if_neg (by unfold titleW; simp), shapeS_for]
    exact decide_eq_decide.2 (by show n = 2 ↔ n + 1 = 2 + 1; omega)
  · rw [formS_image]
    unfold fitF fitN
    rw [if_neg (by simp), if_neg (by unfold titleW; simp), shapeS_image]
    exact decide_eq_decide.2 (by show n = 2 ↔ n + 1 = 2 + 1; omega)
  · rw [formS_loads]
    unfold fitF fitN
    rw [if_neg (by simp), if_neg (by unfold titleW; simp), shapeS_loads]
    exact decide_eq_decide.2 (by show n = 2 ↔ n + 1 = 2 + 1; omega)
  · rw [formS_log]
    unfold fitF fitN
    rw [if_neg (by simp), if_neg (by unfold titleW; simp), shape_log]
    exact decide_eq_decide.2 (by show n = 0 ↔ n + 1 = 0 + 1; omega)
  · rw [formS_seen]
    unfold fitF fitN
    rw [if_neg (by simp), if_neg (by unfold titleW; simp), shapeS_seen]
    exact decide_eq_decide.2 (by show n = 2 ↔ n + 1 = 2 + 1; omega)
  · rw [formS_shifts]
    unfold fitF fitN
    rw [if_neg (by simp), if_neg (by unfold titleW; simp), shapeS_shifts]
    exact decide_eq_decide.2 (by show n = 1 ↔ n + 1 = 1 + 1; omega)
  · rw [formS_shows]
    unfold fitF fitN
    rw [if_neg (by simp), if_neg (by unfold titleW; simp), shapeS_shows]
    exact decide_eq_decide.2 (by show n = 1 ↔ n + 1 = 1 + 1; omega)
  · show _ = fitN titleW (n + 1)
    rw [formS_title]
    unfold fitF fitN
    rw [if_pos rfl, if_pos rfl]
    exact decide_eq_decide.2 (by omega)
  · rw [formS_titles]
    unfold fitF fitN
    rw [if_neg (by simp), if_neg (by unfold titleW; simp), shape_titles]
    exact decide_eq_decide.2 (by show n = 0 ↔ n + 1 = 0 + 1; omega)
theorem nums_form {w0 : ByteArray} (hm : w0 ∈ dWords) (ws : List ByteArray) : numsTo (formS w0).data.toList ws (formS w0).size = numsTo (shapeS w0).data.toList ws (shapeS w0).size := by
  rcases words_cases hm with rfl | rfl | rfl | rfl | rfl | rfl | rfl | rfl | rfl | rfl | rfl | rfl | rfl | rfl
  · rw [formS_burn, shapeS_burn]
  · rw [formS_cue, shapeS_cue]
  · rw [formS_disc, shapeS_disc]
    exact numsTo_like (a := [(120 : UInt8)]) (b := [(119 : UInt8)]) ws (fun k => by rcases k with _ | _ | _ | k <;> simp) 1
  · rw [formS_enter, shapeS_enter]
    exact numsTo_like (a := [(110 : UInt8), (120 : UInt8), (110 : UInt8)]) (b := [(110 : UInt8), (119 : UInt8), (110 : UInt8)]) ws (fun k => by rcases k with _ | _ | _ | k <;> simp) 3
  · rw [formS_fewest, shapeS_fewest]
    exact numsTo_like (a := [(120 : UInt8)]) (b := [(119 : UInt8)]) ws (fun k => by rcases k with _ | _ | _ | k <;> simp) 1
  · rw [formS_for, shapeS_for]
    exact numsTo_like (a := [(120 : UInt8), (110 : UInt8)]) (b := [(119 : UInt8), (110 : UInt8)]) ws (fun k => by rcases k with _ | _ | _ | k <;> simp) 2
  · rw [formS_image, shapeS_image]
  · rw [formS_loads, shapeS_loads]
    exact numsTo_like (a := [(120 : UInt8), (110 : UInt8)]) (b := [(119 : UInt8), (110 : UInt8)]) ws (fun k => by rcases k with _ | _ | _ | k <;> simp) 2
  · rw [formS_log, shape_log]
  · rw [formS_seen, shapeS_seen]
  · rw [formS_shifts, shapeS_shifts]
  · rw [formS_shows, shapeS_shows]
  · show _ = numsTo (shapeS titleW).data.toList ws (shapeS titleW).size
    rw [formS_title, shape_title]
    rfl
  · rw [formS_titles, shape_titles]
end Go.Proofs.YtgcodjkjdfahdaaGreatDoor
