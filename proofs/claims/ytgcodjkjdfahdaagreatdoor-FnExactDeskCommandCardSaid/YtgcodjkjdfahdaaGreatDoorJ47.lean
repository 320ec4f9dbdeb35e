/- Lemmas for the claim (the walks of its functions and their plain laws), joined. No condition. -/
import Derived.Test.YtgcodjkjdfahdaaGreatDoorJ40
import Derived.Test.YtgcodjkjdfahdaaGreatDoorJ37
import Derived.Deep.RegionHeld3
namespace Go.Proofs.YtgcodjkjdfahdaaGreatDoor
open Go Go.RowKit Go.ChangeShapes Go.WideShapes
set_option linter.unusedSimpArgs false
set_option linter.unusedVariables false
theorem dWords_own (w : World) (E : TypeId) : Own (w.alloc (.cells (dWords.map Value.string).toArray E)) w.heap.size E 1 (.slice (some ⟨w.heap.size, 0, none⟩) 14 14) eS dWords :=
  ⟨rfl, .inr ⟨w.heap.size, 14, (dWords.map Value.string).toArray, rfl, Nat.le_refl _, heap_alloc_new w _, Nat.le_refl _, by decide, rfl, rfl⟩⟩
theorem dWords_pos : 0 < dWords.length := by decide
theorem partsB_pos (c : UInt8) (s : ByteArray) : 0 < (partsB c s).length := by
  rw [partsB_len]
  exact List.length_pos_iff.2 (parts_ne c _)
theorem desk_own_new {W5 W6 : World} {d : TDk} {u1 u2 : Value} (P1 : Own W6 W5.heap.size 92 4 u1 eCue d.2.1) (P2 : Own W6 W5.heap.size 95 4 u2 eTitle d.2.2.1) (hap : u2.ownBlock = none ∨ u2.ownBlock ≠ u1.ownBlock) (hb : Below W5.heap.size W5 W6) :
    DeskOwn (W6.alloc (.cells #[.string d.1, u1, u2, .string d.2.2.2] 29)) W5.heap.size W6.heap.size d :=
  ⟨u1, u2, desk_new W6 d.1 u1 u2 d.2.2.2 _, fun i => free2 (heap_alloc_new W6 _) i, hb.size, P1.alloc _, P2.alloc _, fun k e => (P1.lt k e).2, fun k e => (P2.lt k e).2, hap⟩
theorem DeskOwn.grown {W W' : World} {B g : Nat} {d : TDk} {row : Option Nat} (h : DeskOwn W B g d) (hg : W.grownBy W' row) (hr : ∀ q, row = some q → q < B ∨ g < q) : DeskOwn W' B g d := by
  obtain ⟨v1, v2, ⟨h0, c0, c1, c2, c3⟩, h2, h3, h4, h5, a1, a2, a3⟩ := h
  have hb : W'.heap[g]? = W.heap[g]? := hg.block g h0 (fun e => by have := hr g e.symm; omega)
  have key : ∀ v : Value, (∀ k, v.ownBlock = some k → B ≤ k ∧ k < g) → (v.ownBlock = none ∨ v.ownBlock ≠ row) := fun v hv => by
    rcases hq : v.ownBlock with _ | k
    · exact .inl rfl
    · refine .inr fun e => ?_
      have := hr k e.symm
      have := hv k hq
      omega
  exact ⟨v1, v2, ⟨Nat.lt_of_lt_of_le h0 hg.size, (World.cell?_of_block (w := W) (a := ⟨g, 0, none⟩) hb).trans c0, (World.cell?_of_block (w := W) (a := ⟨g, 1, none⟩) hb).trans c1, (World.cell?_of_block (w := W) (a := ⟨g, 2, none⟩) hb).trans c2, (World.cell?_of_block (w := W) (a := ⟨g, 3, none⟩) hb).trans c3⟩, fun i => (World.frozen?_of_block (w := W) (a := ⟨g, i, none⟩) hb).trans (h2 i), h3, h4.grown hg (key v1 fun k e => ⟨(h4.lt k e).1, a1 k e⟩), h5.grown hg (key v2 fun k e => ⟨(h5.lt k e).1, a2 k e⟩), a1, a2, a3⟩
theorem lens_parts (c : UInt8) : ∀ l : List UInt8, Lib.lens (parts c l) + (parts c l).length = l.length + 1
  | [] => rfl
  | x :: l => by
    have ih := lens_parts c l
    by_cases h : x = c
    · subst h
      rw [parts_hit]
      simp only [Lib.lens, List.map_cons, List.sum_cons, List.length_cons, List.length_nil] at ih ⊢
      omega
    · rw [parts_miss h]
      rcases hp : parts c l with _ | ⟨y, t⟩
      · exact absurd hp (parts_ne c l)
      · rw [hp] at ih
        simp only [consW, Lib.lens, List.map_cons, List.sum_cons, List.length_cons, List.length_append, List.length_nil] at ih ⊢
        omega
theorem join_rest {c : UInt8} {s : ByteArray} {w0 : ByteArray} {r : List ByteArray} (h : partsB c s = w0 :: r) : (joinS ⟨#[c]⟩ r).size ≤ s.size := by
  have h1 := lens_parts c s.data.toList
  have h2 : parts c s.data.toList = (partsB c s).map (·.data.toList) := by
    unfold partsB
    rw [List.map_map]
    conv => lhs; rw [← List.map_id (parts c s.data.toList)]
    rfl
  rw [h2, h, List.length_map] at h1
  have h3 : s.data.toList.length = s.size := Array.length_toList
  rw [h3] at h1
  have h4 : (joinS ⟨#[c]⟩ r).size = (Lib.join (r.map (·.data.toList)) [c]).length := by unfold joinS; exact List.size_toArray
  rw [h4]
  cases r with
  | nil => exact Nat.zero_le _
  | cons x t =>
    rw [List.map_cons, Lib.join_cons, List.length_append, Lib.joinTail_length]
    simp only [Lib.lens, List.map_cons, List.sum_cons, List.length_cons, List.length_map, List.length_nil] at h1 ⊢
    omega
theorem DeskAt.keep {W W' : World} {B g : Nat} {p : ByteArray} {v1 v2 : Value} {q : ByteArray} (h : DeskAt W g p v1 v2 q) (hg : g < B) (hb : Below B W W') : DeskAt W' g p v1 v2 q :=
  ⟨Nat.lt_of_lt_of_le h.1 hb.size, (hb.cell (p := ⟨g, 0, none⟩) hg).trans h.2.1, (hb.cell (p := ⟨g, 1, none⟩) hg).trans h.2.2.1, (hb.cell (p := ⟨g, 2, none⟩) hg).trans h.2.2.2.1, (hb.cell (p := ⟨g, 3, none⟩) hg).trans h.2.2.2.2⟩
theorem geLt {v : Value} {B h : Nat} (H : ∀ k, v.ownBlock = some k → B ≤ k) (hB : h < B) : v.ownBlock = none ∨ v.ownBlock ≠ some h := .inr fun e => by have := H h e; omega
def CmdTo (w : World) (r : TRes) (e : Ending) (w' : World) : Prop := ∃ u1 u2 lv, e = .returned (.tuple #[.agg #[.string r.1.1, u1, u2, .string r.1.2.2.2], lv, .int .i64 r.2.2]) ∧ Own w' w.heap.size 92 4 u1 eCue r.1.2.1 ∧ Own w' w.heap.size 95 4 u2 eTitle r.1.2.2.1 ∧ Own w' w.heap.size 9 1 lv eS r.2.1 ∧ Below w.heap.size w w'
theorem cmd_zero {w Z : World} {c : Int} (hb : Below w.heap.size w Z) {r : TRes} (hr : r = (zD, [], c)) : CmdTo w r (.returned (.tuple #[.agg #[.string ⟨#[]⟩, .slice none 0 0, .slice none 0 0, .string ⟨#[]⟩], .slice none 0 0, .int .i64 c])) Z := by
  subst hr
  exact ⟨_, _, _, rfl, Own.nil _ _ _ _ _, Own.nil _ _ _ _ _, Own.nil _ _ _ _ _, hb⟩
theorem cmd_to {w Z : World} {c : Int} {d : TDk} {L : List ByteArray} {u1 u2 lv : Value} (hb : Below w.heap.size w Z) (h1 : Own Z w.heap.size 92 4 u1 eCue d.2.1) (h2 : Own Z w.heap.size 95 4 u2 eTitle d.2.2.1) (h3 : Own Z w.heap.size 9 1 lv eS L) {r : TRes} (hr : r = (d, L, c)) : CmdTo w r (.returned (.tuple #[.agg #[.string d.1, u1, u2, .string d.2.2.2], lv, .int .i64 c])) Z := by
  subst hr
  exact ⟨_, _, _, rfl, h1, h2, h3, hb⟩
theorem cmd_endA {w W : World} {d : TDk} {p q : ByteArray} {z1 z2 v1 v2 : Value} (hb : Below w.heap.size w W) (DA : DeskAt W (w.heap.size + 1) p z1 z2 q) (FA : ∀ i, W.frozen? ⟨w.heap.size + 1, i, none⟩ = false) (O1 : Own W w.heap.size 92 4 v1 eCue d.2.1) (O2 : Own W w.heap.size 95 4 v2 eTitle d.2.2.1) (n1 : v1.ownBlock = none ∨ v1.ownBlock ≠ some (w.heap.size + 1)) (n2 : v2.ownBlock = none ∨ v2.ownBlock ≠ some (w.heap.size + 1)) (k1 : v1.oneCell' = true) (k2 : v2.oneCell' = true) (tx : ByteArray) :
    DeskAt (((((W.setCell ⟨w.heap.size + 1, 0, none⟩ (.string d.1)).setCell ⟨w.heap.size + 1, 1, none⟩ v1).setCell ⟨w.heap.size + 1, 2, none⟩ v2).setCell ⟨w.heap.size + 1, 3, none⟩ (.string d.2.2.2)).alloc (.cells #[.string tx] 9)) (w.heap.size + 1) d.1 v1 v2 d.2.2.2 ∧ CmdTo w (d, [tx], 0) (.returned (.tuple #[.agg #[.string d.1, v1, v2, .string d.2.2.2], .slice (some ⟨W.heap.size, 0, none⟩) 1 1, .int .i64 0])) (((((W.setCell ⟨w.heap.size + 1, 0, none⟩ (.string d.1)).setCell ⟨w.heap.size + 1, 1, none⟩ v1).setCell ⟨w.heap.size + 1, 2, none⟩ v2).setCell ⟨w.heap.size + 1, 3, none⟩ (.string d.2.2.2)).alloc (.cells #[.string tx] 9)) := by
  have DSC := desk_set d.1 d.2.2.2 v1 v2 k1 k2 DA.1 DA.2.1 DA.2.2.1 DA.2.2.2.1 DA.2.2.2.2 FA
  have BZ := desk_setB (h := w.heap.size + 1) hb (Nat.le_succ _) (.string d.1) v1 v2 (.string d.2.2.2)
  have R1 := own_set4 O1 n1 (.string d.1) v1 v2 (.string d.2.2.2)
  have R2 := own_set4 O2 n2 (.string d.1) v1 v2 (.string d.2.2.2)
  have hz : ((((W.setCell ⟨w.heap.size + 1, 0, none⟩ (.string d.1)).setCell ⟨w.heap.size + 1, 1, none⟩ v1).setCell ⟨w.heap.size + 1, 2, none⟩ v2).setCell ⟨w.heap.size + 1, 3, none⟩ (.string d.2.2.2)).heap.size = W.heap.size := by simp
  have R3 := (own_texts1 ((((W.setCell ⟨w.heap.size + 1, 0, none⟩ (.string d.1)).setCell ⟨w.heap.size + 1, 1, none⟩ v1).setCell ⟨w.heap.size + 1, 2, none⟩ v2).setCell ⟨w.heap.size + 1, 3, none⟩ (.string d.2.2.2)) tx).base BZ.size
  rw [hz] at R3
  exact ⟨DSC.below ((Below.refl _ _).alloc (Nat.le_refl _) _), _, _, _, rfl, R1.alloc _, R2.alloc _, R3, BZ.alloc BZ.size _⟩
theorem CmdTo.drew {w Z : World} {r : TRes} {e : Ending} (h : CmdTo w r e Z) : CmdTo w r e Z.drew := by
  obtain ⟨u1, u2, lv, he, h1, h2, h3, h4⟩ := h
  exact ⟨u1, u2, lv, he, h1.drew, h2.drew, h3.drew, Below.drew h4⟩
theorem four_set {W : World} {g h : Nat} (hne : g ≠ h) (x0 x1 x2 x3 : Value) {a b c d : Value} (H : W.cell? ⟨g, 0, none⟩ = some a ∧ W.cell? ⟨g, 1, none⟩ = some b ∧ W.cell? ⟨g, 2, none⟩ = some c ∧ W.cell? ⟨g, 3, none⟩ = some d) :
    ((((W.setCell ⟨h, 0, none⟩ x0).setCell ⟨h, 1, none⟩ x1).setCell ⟨h, 2, none⟩ x2).setCell ⟨h, 3, none⟩ x3).cell? ⟨g, 0, none⟩ = some a ∧ ((((W.setCell ⟨h, 0, none⟩ x0).setCell ⟨h, 1, none⟩ x1).setCell ⟨h, 2, none⟩ x2).setCell ⟨h, 3, none⟩ x3).cell? ⟨g, 1, none⟩ = some b ∧ ((((W.setCell ⟨h, 0, none⟩ x0).setCell ⟨h, 1, none⟩ x1).setCell ⟨h, 2, none⟩ x2).setCell ⟨h, 3, none⟩ x3).cell? ⟨g, 2, none⟩ = some c ∧ ((((W.setCell ⟨h, 0, none⟩ x0).setCell ⟨h, 1, none⟩ x1).setCell ⟨h, 2, none⟩ x2).setCell ⟨h, 3, none⟩ x3).cell? ⟨g, 3, none⟩ = some d := by
  have hb := set4_other W (h := h) (b := g) hne x0 x1 x2 x3
  exact ⟨(World.cell?_of_block (w := W) (a := ⟨g, 0, none⟩) hb).trans H.1, (World.cell?_of_block (w := W) (a := ⟨g, 1, none⟩) hb).trans H.2.1, (World.cell?_of_block (w := W) (a := ⟨g, 2, none⟩) hb).trans H.2.2.1, (World.cell?_of_block (w := W) (a := ⟨g, 3, none⟩) hb).trans H.2.2.2⟩
theorem four_alloc {W : World} {g : Nat} (o : Obj) {a b c d : Value} (H : W.cell? ⟨g, 0, none⟩ = some a ∧ W.cell? ⟨g, 1, none⟩ = some b ∧ W.cell? ⟨g, 2, none⟩ = some c ∧ W.cell? ⟨g, 3, none⟩ = some d) :
    (W.alloc o).cell? ⟨g, 0, none⟩ = some a ∧ (W.alloc o).cell? ⟨g, 1, none⟩ = some b ∧ (W.alloc o).cell? ⟨g, 2, none⟩ = some c ∧ (W.alloc o).cell? ⟨g, 3, none⟩ = some d :=
  ⟨(World.cell?_alloc_some W _ o (by rw [H.1]; rfl)).trans H.1, (World.cell?_alloc_some W _ o (by rw [H.2.1]; rfl)).trans H.2.1, (World.cell?_alloc_some W _ o (by rw [H.2.2.1]; rfl)).trans H.2.2.1, (World.cell?_alloc_some W _ o (by rw [H.2.2.2]; rfl)).trans H.2.2.2⟩
theorem cell_drew {W : World} {p : Addr} {v : Value} (h : W.cell? p = some v) : W.drew.cell? p = some v := h
theorem four_drew {W : World} {g : Nat} {a b c d : Value} (H : W.cell? ⟨g, 0, none⟩ = some a ∧ W.cell? ⟨g, 1, none⟩ = some b ∧ W.cell? ⟨g, 2, none⟩ = some c ∧ W.cell? ⟨g, 3, none⟩ = some d) :
    W.drew.cell? ⟨g, 0, none⟩ = some a ∧ W.drew.cell? ⟨g, 1, none⟩ = some b ∧ W.drew.cell? ⟨g, 2, none⟩ = some c ∧ W.drew.cell? ⟨g, 3, none⟩ = some d := H
theorem load_desk (Z : World) (b : Nat) (p q : ByteArray) (v1 v2 : Value) (e0 : Z.cell? ⟨b, 0, none⟩ = some (.string p)) (e1 : Z.cell? ⟨b, 1, none⟩ = some v1) (e2 : Z.cell? ⟨b, 2, none⟩ = some v2) (e3 : Z.cell? ⟨b, 3, none⟩ = some (.string q)) :
    (loadVar 29 ⟨b, 0, none⟩).run Tryz.prog Z = .ok (.agg #[.string p, v1, v2, .string q]) Z := by
  simp [go_sem, loadVar, e0, e1, e2, e3]
theorem dwords_impl (w : World) : Calls Tryz.prog 30 #[] w (GivesOwn w 9 1 eS dWords) := by
  go_enter Tryz.func30, Tryz.ntmps30
  go_wp2_with (fail)
  go_ret
  exact ⟨_, rfl, dWords_own w _, (Below.refl _ _).alloc (Nat.le_refl _) _⟩
theorem hasword_impl (w : World) (v : Value) (zs : List ByteArray) (x : ByteArray) (h : Sl w 1 v eS zs) (h0 : 0 < zs.length) : Calls Tryz.prog 29 #[v, .string x] w fun e w' => e = .returned (.bool (Lib.containsS zs x)) ∧ w' = w := by
  have hn := h.len
  obtain ⟨b, o, c, rfl, hb, hc, hcell⟩ := h.strs h0
  have H := Tryz.slices_Contains_string b o zs.length c zs x w (Nat.le_refl _) hn (fun j hj => by
    rw [List.getD_eq_getElem?_getD, List.getElem?_eq_getElem hj]
    exact hcell j _ (List.getElem?_eq_getElem hj))
  rw [List.take_length] at H
  exact H
set_option maxRecDepth 100000 in
set_option maxHeartbeats 8000000 in
theorem cmd_impl (w : World) (d : TDk) (v1 v2 : Value) (line : ByteArray) (hC : Sl w 4 v1 eCue d.2.1) (hT : Sl w 4 v2 eTitle d.2.2.1) (hp : d.1.size ≤ 1048576) (hq : d.2.2.2.size ≤ 1048576) (hz : line.size ≤ 1048576) (hsh : Shop w) (hnm : Names w) :
    Calls Tryz.prog 9 #[.agg #[.string d.1, v1, v2, .string d.2.2.2], .string line] w (CmdTo w (cmdR d line)) := by
  obtain ⟨A1, c1, rfl⟩ := hC.isSlice
  obtain ⟨A2, c2, rfl⟩ := hT.isSlice
  have D0 := desk_new w d.1 (.slice A1 d.2.1.length c1) (.slice A2 d.2.2.1.length c2) d.2.2.2 29
  have B0 := (Below.refl w.heap.size w).alloc (Nat.le_refl _) (.cells #[.string d.1, .slice A1 d.2.1.length c1, .slice A2 d.2.2.1.length c2, .string d.2.2.2] 29)
  have D1 := desk_new (w.alloc (.cells #[.string d.1, .slice A1 d.2.1.length c1, .slice A2 d.2.2.1.length c2, .string d.2.2.2] 29)) ⟨#[]⟩ (.slice none 0 0) (.slice none 0 0) ⟨#[]⟩ 29
  have hz1 : (w.alloc (.cells #[.string d.1, .slice A1 d.2.1.length c1, .slice A2 d.2.2.1.length c2, .string d.2.2.2] 29)).heap.size = w.heap.size + 1 := by simp
  have F1 : ∀ i, ((w.alloc (.cells #[.string d.1, .slice A1 d.2.1.length c1, .slice A2 d.2.2.1.length c2, .string d.2.2.2] 29)).alloc (.cells #[.string ⟨#[]⟩, .slice none 0 0, .slice none 0 0, .string ⟨#[]⟩] 29)).frozen? ⟨w.heap.size + 1, i, none⟩ = false := fun i => by
    have := heap_alloc_new (w.alloc (.cells #[.string d.1, .slice A1 d.2.1.length c1, .slice A2 d.2.2.1.length c2, .string d.2.2.2] 29)) (.cells #[.string ⟨#[]⟩, .slice none 0 0, .slice none 0 0, .string ⟨#[]⟩] 29)
    rw [hz1] at this
    exact free2 this i
  rw [hz1] at D1
  have D2 := D0.below ((Below.refl _ _).alloc (Nat.le_refl _) (.cells #[.string ⟨#[]⟩, .slice none 0 0, .slice none 0 0, .string ⟨#[]⟩] 29))
  have B1 := B0.alloc B0.size (.cells #[.string ⟨#[]⟩, .slice none 0 0, .slice none 0 0, .string ⟨#[]⟩] 29)
  clear D0 B0 hz1
  obtain ⟨ws, hws⟩ : ∃ ws, partsB 32 line = ws := ⟨_, rfl⟩
  have hwl := partsB_len_le 32 line
  have hwz := partsB_size 32 line
  have hwn : 0 < ws.length := by rw [← hws]; exact partsB_pos 32 line
  rw [hws] at hwl hwz
  obtain ⟨w0, r, rfl, hrl⟩ := list_cons (show ws.length = (ws.length - 1) + 1 by omega)
  clear hrl
  have hln : (w0 :: r).length = r.length + 1 := rfl
  have HR := hd (show cmdR d line = cmdW d (w0 :: r) w0 by unfold cmdR; rw [hws]; rfl)
  have HJR := hd (join_rest hws)
  have HSPL := hd (fun W hm => split_impl W line 32 (Nat.le_trans hz (by decide)) hm)
  have HCC := hd (fun W (hb : Below w.heap.size w W) => hC.below hb)
  have HTT := hd (fun W (hb : Below w.heap.size w W) => hT.below hb)
  have HSH := hd hsh.at_
  have HNM := hd (fun W (hb : Below w.heap.size w W) => hnm.below hb)
  rw [hws] at HSPL
  clear hws hC hT hsh hnm
  go_enter Tryz.func9, Tryz.ntmps9
  go_wp2_with fail
  generalize (w.alloc (.cells #[.string d.1, .slice A1 d.2.1.length c1, .slice A2 d.2.2.1.length c2, .string d.2.2.2] 29)).alloc (.cells #[.string ⟨#[]⟩, .slice none 0 0, .slice none 0 0, .string ⟨#[]⟩] 29) = W1 at D1 F1 D2 B1 ⊢
  refine (HSPL.out W1 (HSH.out _ B1).2.2).mono ?_
  rintro e W2 ⟨vw, rfl, OW, hb2⟩
  have SW := OW.sl eS_len
  have hbw : ∀ b, vw.ownBlock = some b → b < W2.heap.size := fun b e => (OW.lt b e).2
  obtain ⟨bw, ow, cw, rfl, hbb, hcw, hcell⟩ := SW.strs hwn
  rw [hln] at hcw hwl SW hbw ⊢
  clear hln
  have q0 := hcell 0 w0 rfl
  rw [Nat.add_zero] at q0
  have B2 := below_step B1 hb2
  have D22 := D2.below hb2
  have D12 := D1.below hb2
  have F12 : ∀ i, W2.frozen? ⟨w.heap.size + 1, i, none⟩ = false := fun i => (hb2.frozen (p := ⟨w.heap.size + 1, i, none⟩) D1.1).trans (F1 i)
  clear D1 F1 D2 B1 HSPL OW hb2 hcell
  obtain ⟨-, e0, e1, e2, e3⟩ := id D22
  go_wp2_with fail
  refine (shape_impl _ _).mono ?_
  rintro e ww ⟨rfl, hw⟩
  have hw := hw.symm
  subst hw
  go_wp2_with fail
  refine (desk_impl W2 d.1 d.2.2.2 _ _ d.2.1 d.2.2.1 (HCC.out _ B2) (HTT.out _ B2) hp hq (HSH.out _ B2)).mono ?_
  rintro e W3 ⟨rfl, hb3⟩
  have HOK := hd (show okD d = okDeskB d.1 d.2.1 d.2.2.1 d.2.2.2 from rfl)
  have B3 := below_step B2 hb3
  have S3 := SW.below hb3
  have D23 := D22.below hb3
  have D13 := D12.below hb3
  have F13 : ∀ i, W3.frozen? ⟨w.heap.size + 1, i, none⟩ = false := fun i => (hb3.frozen (p := ⟨w.heap.size + 1, i, none⟩) D12.1).trans (F12 i)
  have q03 := cell_below q0 _ hb3
  have hbw3 : ∀ b, (.slice (some ⟨bw, ow, none⟩) (r.length + 1) cw : Value).ownBlock = some b → b < W3.heap.size := fun b e => Nat.lt_of_lt_of_le (hbw b e) hb3.size
  clear D22 D12 F12 q0 e0 e1 e2 e3 hb3 B2 SW hbw hbb
  obtain ⟨-, x0, x1, x2, x3⟩ := id D13
  have xf0 := F13 0
  have xf1 := F13 1
  have xf2 := F13 2
  have xf3 := F13 3
  rcases ho : okDeskB d.1 d.2.1 d.2.2.1 d.2.2.2 with _ | _
  · have HR2 := hd (show cmdR d line = (zD, [], 1) by rw [HR.out]; unfold cmdW; rw [HOK.out, ho]; rfl)
    have DSC := desk_set ⟨#[]⟩ ⟨#[]⟩ (.slice none 0 0) (.slice none 0 0) rfl rfl D13.1 x0 x1 x2 x3 F13
    have BZ := desk_setB (h := w.heap.size + 1) B3 (Nat.le_succ _) (.string ⟨#[]⟩) (.slice none 0 0) (.slice none 0 0) (.string ⟨#[]⟩)
    go_wp2_with fail
    generalize ((((W3.setCell ⟨w.heap.size + 1, 0, none⟩ (.string ⟨#[]⟩)).setCell ⟨w.heap.size + 1, 1, none⟩ (.slice none 0 0)).setCell ⟨w.heap.size + 1, 2, none⟩ (.slice none 0 0)).setCell ⟨w.heap.size + 1, 3, none⟩ (.string ⟨#[]⟩)) = Z at DSC BZ ⊢
    obtain ⟨-, z0, z1, z2, z3⟩ := DSC
    refine bodyPost_ret (v := .tuple #[.agg #[.string ⟨#[]⟩, .slice none 0 0, .slice none 0 0, .string ⟨#[]⟩], .slice none 0 0, .int .i64 1]) ?_ rfl (cmd_zero BZ HR2.out)
    refine (results_cell_tmp2 Tryz.results9 _ _ _).trans ?_
    show (((loadVar 29 ⟨w.heap.size + 1, 0, none⟩).run Tryz.prog Z).andThen fun v w₂ => Result.ok (Value.tuple #[v, .slice none 0 0, Value.int .i64 1]) w₂) = _
    rw [load_desk Z _ _ _ _ _ z0 z1 z2 z3]
    rfl
  have HOK2 := hd (show okD d = true from ho)
  clear HOK ho
  have HKP := hd (show ∀ W, Below W3.heap.size W3 W → W.cell? ⟨bw, ow, none⟩ = some (.string w0) from fun W K => cell_below q03 W K)
  have K := Below.refl W3.heap.size W3
  go_wp2_with fail
  rcases hc : Lib.containsS dWords w0 with _ | _
  · have HR2 := hd (show cmdR d line = (zD, [], 7) by rw [HR.out]; unfold cmdW; rw [if_pos HOK2.out, if_neg (by rw [hc]; decide)])
    have HC := hd hc
    clear hc xf0 xf1 xf2 xf3 x0 x1 x2 x3
    go_region_held3 (fun ww => ww.cell? ⟨bw, ow, none⟩ = some (.string w0)) (first | with_reducible exact HKP.out _ K | with_reducible exact HKP.out _ (Below.drew K)) (first | (go_at_call 30; replace K := Below.drew K; (with_reducible refine (dwords_impl _).mono ?_); rintro e W4 ⟨vd, rfl, OD, hb4⟩; have SD := OD.sl eS_len; obtain ⟨Ad, cd, rfl⟩ := OD.isSlice; replace K := below_step K hb4; clear hb4 OD) | (go_at_call 29; (with_reducible refine (hasword_impl _ _ dWords w0 SD dWords_pos).mono ?_); rintro e ww ⟨rfl, hw⟩; have hw := hw.symm; subst hw; rw [HC.out]))
    have B4 := below_step B3 K
    have D14 := D13.below K
    have F14 : ∀ i, W4.frozen? ⟨w.heap.size + 1, i, none⟩ = false := fun i => (K.frozen (p := ⟨w.heap.size + 1, i, none⟩) D13.1).trans (F13 i)
    obtain ⟨-, x0, x1, x2, x3⟩ := id D14
    have xf0 := F14 0
    have xf1 := F14 1
    have xf2 := F14 2
    have xf3 := F14 3
    clear q03 SD
    have DSC := desk_set ⟨#[]⟩ ⟨#[]⟩ (.slice none 0 0) (.slice none 0 0) rfl rfl D14.1 x0 x1 x2 x3 F14
    have BZ := desk_setB (h := w.heap.size + 1) B4 (Nat.le_succ _) (.string ⟨#[]⟩) (.slice none 0 0) (.slice none 0 0) (.string ⟨#[]⟩)
    go_wp2_with fail
    generalize ((((W4.setCell ⟨w.heap.size + 1, 0, none⟩ (.string ⟨#[]⟩)).setCell ⟨w.heap.size + 1, 1, none⟩ (.slice none 0 0)).setCell ⟨w.heap.size + 1, 2, none⟩ (.slice none 0 0)).setCell ⟨w.heap.size + 1, 3, none⟩ (.string ⟨#[]⟩)) = Z at DSC BZ ⊢
    obtain ⟨-, z0, z1, z2, z3⟩ := DSC
    refine bodyPost_ret (v := .tuple #[.agg #[.string ⟨#[]⟩, .slice none 0 0, .slice none 0 0, .string ⟨#[]⟩], .slice none 0 0, .int .i64 7]) ?_ rfl (cmd_zero BZ HR2.out)
    refine (results_cell_tmp2 Tryz.results9 _ _ _).trans ?_
    show (((loadVar 29 ⟨w.heap.size + 1, 0, none⟩).run Tryz.prog Z).andThen fun v w₂ => Result.ok (Value.tuple #[v, .slice none 0 0, Value.int .i64 7]) w₂) = _
    rw [load_desk Z _ _ _ _ _ z0 z1 z2 z3]
    rfl
  have HC := hd hc
  clear hc xf0 xf1 xf2 xf3 x0 x1 x2 x3
  go_region_held3 (fun ww => ww.cell? ⟨bw, ow, none⟩ = some (.string w0)) (first | with_reducible exact HKP.out _ K | with_reducible exact HKP.out _ (Below.drew K)) (first | (go_at_call 30; replace K := Below.drew K; (with_reducible refine (dwords_impl _).mono ?_); rintro e W4 ⟨vd, rfl, OD, hb4⟩; have SD := OD.sl eS_len; obtain ⟨Ad, cd, rfl⟩ := OD.isSlice; replace K := below_step K hb4; clear hb4 OD) | (go_at_call 29; (with_reducible refine (hasword_impl _ _ dWords w0 SD dWords_pos).mono ?_); rintro e ww ⟨rfl, hw⟩; have hw := hw.symm; subst hw; rw [HC.out]))
  have B4 := below_step B3 K
  have D14 := D13.below K
  have D24 := D23.below K
  have S4 := S3.below K
  have F14 : ∀ i, W4.frozen? ⟨w.heap.size + 1, i, none⟩ = false := fun i => (K.frozen (p := ⟨w.heap.size + 1, i, none⟩) D13.1).trans (F13 i)
  have hbw4 : ∀ b, (.slice (some ⟨bw, ow, none⟩) (r.length + 1) cw : Value).ownBlock = some b → b < W4.heap.size := fun b e => Nat.lt_of_lt_of_le (hbw3 b e) K.size
  have q04 := HKP.out _ K
  clear q03 SD K HKP D13 D23 S3 F13 hbw3 B3
  obtain ⟨-, x0, x1, x2, x3⟩ := id D14
  have xf0 := F14 0
  have xf1 := F14 1
  have xf2 := F14 2
  have xf3 := F14 3
  have hsz := shapeS_size w0
  rcases hf : fitN w0 (r.length + 1) with _ | _
  · have HR2 := hd (show cmdR d line = (zD, [], 7) by rw [HR.out]; unfold cmdW; rw [if_pos HOK2.out, if_pos HC.out, if_neg (by rw [show (w0 :: r).length = r.length + 1 from rfl, hf]; decide)])
    unfold fitN at hf
    by_cases ht : w0 = titleW
    · rw [if_pos ht] at hf
      have h2 : ¬ 2 ≤ r.length + 1 := of_decide_eq_false hf
      unfold titleW at ht
      subst ht
      have h3 : ((r.length + 1 : Nat) : Int) < 2 := by omega
      have h4 : ((r.length : Int) + 1 < 2) := by omega
      clear hf
      have DSC := desk_set ⟨#[]⟩ ⟨#[]⟩ (.slice none 0 0) (.slice none 0 0) rfl rfl D14.1 x0 x1 x2 x3 F14
      have BZ := desk_setB (h := w.heap.size + 1) B4 (Nat.le_succ _) (.string ⟨#[]⟩) (.slice none 0 0) (.slice none 0 0) (.string ⟨#[]⟩)
      go_wp2_with fail
      generalize ((((W4.setCell ⟨w.heap.size + 1, 0, none⟩ (.string ⟨#[]⟩)).setCell ⟨w.heap.size + 1, 1, none⟩ (.slice none 0 0)).setCell ⟨w.heap.size + 1, 2, none⟩ (.slice none 0 0)).setCell ⟨w.heap.size + 1, 3, none⟩ (.string ⟨#[]⟩)) = Z at DSC BZ ⊢
      obtain ⟨-, z0, z1, z2, z3⟩ := DSC
      refine bodyPost_ret (v := .tuple #[.agg #[.string ⟨#[]⟩, .slice none 0 0, .slice none 0 0, .string ⟨#[]⟩], .slice none 0 0, .int .i64 7]) ?_ rfl (cmd_zero BZ HR2.out)
      refine (results_cell_tmp2 Tryz.results9 _ _ _).trans ?_
      show (((loadVar 29 ⟨w.heap.size + 1, 0, none⟩).run Tryz.prog Z).andThen fun v w₂ => Result.ok (Value.tuple #[v, .slice none 0 0, Value.int .i64 7]) w₂) = _
      rw [load_desk Z _ _ _ _ _ z0 z1 z2 z3]
      rfl
    · rw [if_neg ht] at hf
      have h2 : ¬ r.length + 1 = (shapeS w0).size + 1 := of_decide_eq_false hf
      have ht2 : (w0.toList == [116, 105, 116, 108, 101]) = false := lit_ne ht
      have ht3 : (w0.toList != [116, 105, 116, 108, 101]) = true := by rw [bne, ht2]; rfl
      clear hf ht
      have HS := hd (rfl : shapeS w0 = shapeS w0)
      generalize shapeS w0 = sh at h2 hsz ⊢
      have h3 : ¬ ((r.length : Int) = (sh.size : Int)) := by omega
      have h5 : decide (r.length = sh.size) = false := decide_eq_false (by omega)
      have DSC := desk_set ⟨#[]⟩ ⟨#[]⟩ (.slice none 0 0) (.slice none 0 0) rfl rfl D14.1 x0 x1 x2 x3 F14
      have BZ := desk_setB (h := w.heap.size + 1) B4 (Nat.le_succ _) (.string ⟨#[]⟩) (.slice none 0 0) (.slice none 0 0) (.string ⟨#[]⟩)
      go_wp2_with fail
      generalize ((((W4.setCell ⟨w.heap.size + 1, 0, none⟩ (.string ⟨#[]⟩)).setCell ⟨w.heap.size + 1, 1, none⟩ (.slice none 0 0)).setCell ⟨w.heap.size + 1, 2, none⟩ (.slice none 0 0)).setCell ⟨w.heap.size + 1, 3, none⟩ (.string ⟨#[]⟩)) = Z at DSC BZ ⊢
      obtain ⟨-, z0, z1, z2, z3⟩ := DSC
      refine bodyPost_ret (v := .tuple #[.agg #[.string ⟨#[]⟩, .slice none 0 0, .slice none 0 0, .string ⟨#[]⟩], .slice none 0 0, .int .i64 7]) ?_ rfl (cmd_zero BZ HR2.out)
      refine (results_cell_tmp2 Tryz.results9 _ _ _).trans ?_
      show (((loadVar 29 ⟨w.heap.size + 1, 0, none⟩).run Tryz.prog Z).andThen fun v w₂ => Result.ok (Value.tuple #[v, .slice none 0 0, Value.int .i64 7]) w₂) = _
      rw [load_desk Z _ _ _ _ _ z0 z1 z2 z3]
      rfl
  · have HFT := hd hf
    have hf2 := hf
    unfold fitN at hf
    have HNR := hd (show cmdR d line = numG d (w0 :: r) (numsTo (shapeS w0).data.toList (w0 :: r) (shapeS w0).size) by rw [HR.out]; unfold cmdW; rw [if_pos HOK2.out, if_pos HC.out, if_pos (by rw [show (w0 :: r).length = r.length + 1 from rfl]; exact hf2)])
    have HFI := hd (fun ns h => fits_of ((Lib.containsS_iff _ _).1 HC.out) hf2 (ns := ns) h)
    clear hf2
    obtain ⟨sh, hsh⟩ : ∃ sh, shapeS w0 = sh := ⟨_, rfl⟩
    by_cases ht : w0 = titleW
    · rw [if_pos ht] at hf
      have h2 : 2 ≤ r.length + 1 := of_decide_eq_true hf
      have hls : sh.size ≤ r.length := by rw [← hsh, ht, shape_title]; exact Nat.zero_le _
      have hnt : Hid (cmdR d line = numG d (w0 :: r) (numsTo sh.data.toList (w0 :: r) sh.size)) ∧ Hid (∀ ns, numsTo sh.data.toList (w0 :: r) sh.size = some ns → fitsB (w0 :: r) ns) := ⟨by rw [← hsh]; exact HNR.out, by rw [← hsh]; exact HFI.out⟩
      have htt : w0 = ⟨#[116, 105, 116, 108, 101]⟩ := ht
      rw [hsh] at hsz ⊢
      clear hf HNR HFI hsh ht HR HC HFT
      subst htt
      have h3 : ¬ ((r.length : Int) + 1 < 2) := by omega
      have h4 : ¬ (((r.length + 1 : Nat) : Int) < 2) := by omega
      have HNT := hd hnt
      have n1 := (okD_bd HOK2.out).2.1
      have n2 := (okD_bd HOK2.out).2.2.1
      have HLS := hd hls
      have own0 := Own.made0 W4 W4.heap.size 2 1 eI (Nat.le_refl _)
      have K0 := (Below.refl W4.heap.size W4).alloc (Nat.le_refl _) (.cells #[] 2)
      obtain ⟨-, e0, e1, e2, e3⟩ := id (D24.below K0)
      have hz5 : W4.heap.size < (W4.alloc (.cells #[] 2)).heap.size := by simp
      clear hnt hls x0 x1 x2 x3 xf0 xf1 xf2 xf3 q04
      go_wp2_with fail
      try clear h2 h5 h6
      generalize W4.alloc (.cells #[] 2) = W5 at own0 K0 e0 e1 e2 e3 hz5 ⊢
      refine (copy_impl W5 d _ _ (HCC.out _ (below_step B4 K0)) (HTT.out _ (below_step B4 K0)) (Nat.le_trans n1 (by decide)) (Nat.le_trans n2 (by decide))).mono ?_
      rintro e W6 ⟨u1, u2, rfl, P1, P2, hap, hb6⟩
      clear e0 e1 e2 e3
      have K6 := below_step K0 hb6
      have own6 := Own.below own0 hb6 (Nat.le_refl _)
      have hDO := desk_own_new P1 P2 hap hb6
      obtain ⟨X1, y1, rfl⟩ := P1.isSlice
      obtain ⟨X2, y2, rfl⟩ := P2.isSlice
      have K7 := K6.alloc K6.size (.cells #[.string d.1, .slice X1 d.2.1.length y1, .slice X2 d.2.2.1.length y2, .string d.2.2.2] 29)
      have own7 := own6.alloc (.cells #[.string d.1, .slice X1 d.2.1.length y1, .slice X2 d.2.2.1.length y2, .string d.2.2.2] 29)
      have hg56 : W5.heap.size ≤ W6.heap.size := hb6.size
      clear P1 P2 hap hb6 K6 own6 own0 K0
      go_wp2_with fail
      generalize W6.alloc (.cells #[.string d.1, .slice X1 d.2.1.length y1, .slice X2 d.2.2.1.length y2, .string d.2.2.2] 29) = W7 at hDO K7 own7 ⊢
      have HOWN := hd own7
      have hkk : W4.heap.size < W5.heap.size := hz5
      clear hz5
      go_loopw [9, 63] (fun nv iv wr => ∃ (k : Nat) (l : List Int), k ≤ sh.size ∧ iv = .int .i64 k ∧ numsTo sh.data.toList ((⟨#[116, 105, 116, 108, 101]⟩ : ByteArray) :: r) k = some l ∧ Own wr W4.heap.size 2 1 nv eI l ∧ (∀ q, nv.ownBlock = some q → q < W5.heap.size ∨ W6.heap.size < q) ∧ DeskOwn wr W5.heap.size W6.heap.size d ∧ Below W4.heap.size W4 wr) (fun _ iv _ => sh.size - (intOf iv).toNat)
      case atStart => exact ⟨0, [], Nat.zero_le _, rfl, rfl, own7, fun q e => .inl (by have e2 : W4.heap.size = q := by { injection e }; omega), hDO, K7⟩
      case round =>
        obtain ⟨k, l, hk, rfl, hnk, hown, hqq, hDw, hbel⟩ := hrel
        clear own7 hDO K7 HOWN
        have hll := numsTo_len hnk
        have hsw := hbel.size
        by_cases hlt : k < sh.size
        · have hgb := get_listK sh k hlt
          have hslot : k + 1 < ((⟨#[116, 105, 116, 108, 101]⟩ : ByteArray) :: r).length := by have := HLS.out; show k + 1 < r.length + 1; omega
          by_cases hn : sh[k] = 110
          · have HGB := hd (hgb.trans hn)
            have kb : (((sh[k].toNat : Nat) : Int) != 110) = false := byte_same (c := 110) hn
            obtain ⟨b', o', hA, -, hcell⟩ := (S4.below hbel).str_at hslot
            injection hA with hA
            injection hA with ee1 ee2 _
            subst ee1
            subst ee2
            have hxm : ((⟨#[116, 105, 116, 108, 101]⟩ : ByteArray) :: r)[k + 1] ∈ ((⟨#[116, 105, 116, 108, 101]⟩ : ByteArray) :: r) := List.getElem_mem hslot
            have hxz := hwz _ hxm
            have HXG := hd (show ((⟨#[116, 105, 116, 108, 101]⟩ : ByteArray) :: r).getD (k + 1) ⟨#[]⟩ = ((⟨#[116, 105, 116, 108, 101]⟩ : ByteArray) :: r)[k + 1] by rw [List.getD_eq_getElem?_getD, List.getElem?_eq_getElem hslot]; rfl)
            generalize ((⟨#[116, 105, 116, 108, 101]⟩ : ByteArray) :: r)[k + 1] = x at hcell hxz HXG
            have HTB := hd (HSH.out wr (below_step B4 hbel))
            have HRD := hd (readDec_impl wr x (Nat.le_trans hxz (Nat.le_trans hz (by decide))) HTB.out.1 HTB.out.2.1)
            have kw : IntKind.i64.wrap ((k : Int) + 1) = ((k + 1 : Nat) : Int) := by rw [show ((k : Int) + 1) = ((k + 1 : Nat) : Int) from rfl]; exact IntWalk.i64_in _ (by omega)
            have hlr : k + 1 < r.length + 1 := by have := HLS.out; omega
            have HNK := hd hnk
            have HLL := hd hll
            clear hgb hn hxm hnk hll
            rcases hr : numS x.data.toList with _ | n
            · rw [rd_none hr] at HRD
              have HNO := hd (numsTo_no HNK.out HGB.out (show rdN _ = none by rw [HXG.out]; exact hr))
              clear hr
              go_wp2_with fail
              refine HRD.out.mono ?_
              rintro e Wa ⟨rfl, hba⟩
              have hnn : numsTo sh.data.toList ((⟨#[116, 105, 116, 108, 101]⟩ : ByteArray) :: r) sh.size = none := by
                have := numsTo_bad HNO.out (sh.size - (k + 1))
                rwa [show k + 1 + (sh.size - (k + 1)) = sh.size by omega] at this
              have HR3 := hd (show cmdR d line = (d, [errS 7], 0) by rw [HNT.out.1.out, hnn]; rfl)
              obtain ⟨v1, v2, DG, -, hg5, O1, O2, -, -, -⟩ := hDw.below hba
              have hbw := below_step hbel hba
              have BLw := below_step B4 hbw
              have DA := D14.below hbw
              have FA : ∀ i, Wa.frozen? ⟨w.heap.size + 1, i, none⟩ = false := fun i => (hbw.frozen (p := ⟨w.heap.size + 1, i, none⟩) D14.1).trans (F14 i)
              have hgt : w.heap.size + 1 < W5.heap.size := Nat.lt_trans D14.1 hkk
              have O1a := O1.base (show w.heap.size ≤ W5.heap.size by omega)
              have O2a := O2.base (show w.heap.size ≤ W5.heap.size by omega)
              have ne1 := geLt (fun k e => (O1.lt k e).1) hgt
              have ne2 := geLt (fun k e => (O2.lt k e).1) hgt
              obtain ⟨B1, y1, rfl⟩ := O1.isSlice
              obtain ⟨B2, y2, rfl⟩ := O2.isSlice
              obtain ⟨cs, hcs⟩ : ∃ cs, codeS 7 = cs := ⟨_, rfl⟩
              have hcz := codeS_size 7
              have HEA := hd (cmd_endA BLw DA FA O1a O2a ne1 ne2 rfl rfl (⟨#[101, 114, 114, 111, 114, 32]⟩ ++ cs))
              have HN1 := hd (HNM.out _ (Below.drew BLw))
              have HN2 := hd (HNM.out _ (Below.drew (desk_setB (h := w.heap.size + 1) BLw (Nat.le_succ _) (.string d.1) (.slice B1 d.2.1.length y1) (.slice B2 d.2.2.1.length y2) (.string d.2.2.2))))
              have HCN := hd (show ∀ ww, Names ww → Calls Tryz.prog 33 #[.int .i64 7] ww fun e w' => e = .returned (.string cs) ∧ w' = ww from fun ww hn => hcs ▸ cname_impl ww 7 hn)
              have HR4 := hd (show cmdR d line = (d, [⟨#[101, 114, 114, 111, 114, 32]⟩ ++ cs], 0) by rw [HR3.out]; unfold errS; rw [hcs])
              rw [hcs] at hcz
              clear hcs hnn HR3
              have HS0 := DG.2
              have HSa := hd (four_drew HS0)
              have HSb := hd (four_drew (four_alloc (.cells #[.string (⟨#[101, 114, 114, 111, 114, 32]⟩ ++ cs)] 9) HS0))
              have HSc0 := four_set (h := w.heap.size + 1) (show W6.heap.size ≠ w.heap.size + 1 by omega) (.string d.1) (.slice B1 d.2.1.length y1) (.slice B2 d.2.2.1.length y2) (.string d.2.2.2) HS0
              have HSc := hd (four_drew HSc0)
              have HSd := hd (four_drew (four_alloc (.cells #[.string (⟨#[101, 114, 114, 111, 114, 32]⟩ ++ cs)] 9) HSc0))
              have hc6 : 6 + cs.size ≤ 9223372036854775807 := by omega
              obtain ⟨hgA, d0, d1, d2, d3⟩ := DA
              have fa0 := FA 0
              have fa1 := FA 1
              have fa2 := FA 2
              have fa3 := FA 3
              clear DG O1 O2 O1a O2a ne1 ne2 FA BLw hbw hDw hbel hba hown hqq hcell HS0 HSc0
              go_wp2_with fail
              have hc7 : ¬ (9223372036854775807 < 6 + cs.size) := by omega
              go_region_held3 (fun ww => ww.cell? ⟨W6.heap.size, 0, none⟩ = some (.string d.1) ∧ ww.cell? ⟨W6.heap.size, 1, none⟩ = some (.slice B1 d.2.1.length y1) ∧ ww.cell? ⟨W6.heap.size, 2, none⟩ = some (.slice B2 d.2.2.1.length y2) ∧ ww.cell? ⟨W6.heap.size, 3, none⟩ = some (.string d.2.2.2)) (first | with_reducible exact HSa.out | with_reducible exact HSb.out | with_reducible exact HSc.out | with_reducible exact HSd.out) (first | (go_at_call 33; (first | (with_reducible refine (HCN.out _ HN1.out).mono ?_) | (with_reducible refine (HCN.out _ HN2.out).mono ?_)); rintro e ww ⟨rfl, hw⟩; have hw := hw.symm; subst hw))
              all_goals
                clear d0 d1 d2 d3 fa0 fa1 fa2 fa3 HSa HSb HSc HSd HN1 HN2 HCN hc6 hc7
                obtain ⟨⟨-, z0, z1, z2, z3⟩, HTO⟩ := HEA.out
                replace HTO := HTO.drew
                go_wp2_with fail
                rw [← HR4.out] at HTO
                refine bodyPost_ret (v := .tuple #[.agg #[.string d.1, .slice B1 d.2.1.length y1, .slice B2 d.2.2.1.length y2, .string d.2.2.2], .slice (some ⟨Wa.heap.size, 0, none⟩) 1 1, .int .i64 0]) ?_ rfl HTO
                refine (results_cell_tmp2 Tryz.results9 _ _ _).trans ?_
                show (((loadVar 29 ⟨w.heap.size + 1, 0, none⟩).run Tryz.prog (((((Wa.setCell ⟨w.heap.size + 1, 0, none⟩ (.string d.1)).setCell ⟨w.heap.size + 1, 1, none⟩ (.slice B1 d.2.1.length y1)).setCell ⟨w.heap.size + 1, 2, none⟩ (.slice B2 d.2.2.1.length y2)).setCell ⟨w.heap.size + 1, 3, none⟩ (.string d.2.2.2)).alloc (.cells #[.string (⟨#[101, 114, 114, 111, 114, 32]⟩ ++ cs)] 9)).drew).andThen fun v w₂ => Result.ok (Value.tuple #[v, .slice (some ⟨Wa.heap.size, 0, none⟩) 1 1, Value.int .i64 0]) w₂) = _
                rw [load_desk _ _ _ _ _ _ (cell_drew z0) (cell_drew z1) (cell_drew z2) (cell_drew z3)]
                rfl
            · rw [rd_some hr] at HRD
              have HYE := hd (numsTo_yes HNK.out HGB.out (show rdN _ = some n by rw [HXG.out]; exact hr))
              clear hr
              go_wp2_with fail
              refine HRD.out.mono ?_
              rintro e Wa ⟨rfl, hba⟩
              have own1 := Own.below hown hba (Nat.le_refl _)
              have hD1 := hDw.below hba
              have bel1 := below_step hbel hba
              have hsz1 := bel1.size
              have hlb : l.length ≤ 4 := Nat.le_trans HLL.out (by omega)
              obtain ⟨i0, hi, hz0, hz1, hz2⟩ := info_parts info_i64
              clear hown hDw hbel hba hsw hcell
              go_wp2_with (at_builtin; refine wpList_push_at _ rfl _ _ 56 rfl i0 (.int .i64 0) 8 Tryz.underlying56 hi hz0 hz1 hz2 rfl (by decide) _ l n rfl (own1.alloc _) Wa.heap.size rfl #[.int .i64 n] 2 (heap_alloc_new _ _) rfl rfl (by intro u hu; simp [eI] at hu; subst hu; rfl) (by unfold maxLen; omega) (by omega) (by simp; omega) ?_)
              intro v' w3 hown2 hgr2 hat2
              have hgW : W6.heap.size < Wa.heap.size := by
                obtain ⟨vv1, vv2, hq1, -⟩ := hD1
                exact hq1.1
              have hD2 := (hD1.below ((Below.refl Wa.heap.size Wa).alloc (Nat.le_refl _) (.cells #[.int .i64 n] 2))).grown hgr2 hqq
              have hbel2 := (bel1.alloc hsz1 (.cells #[.int .i64 n] 2)).grown hgr2 (by simp; omega) (fun q hq => (own1.lt q hq).1)
              have hq2 : ∀ q, v'.ownBlock = some q → q < W5.heap.size ∨ W6.heap.size < q := by
                intro q hq
                rcases hat2 with e | e
                · exact hqq q (by rw [← e]; exact hq)
                · rw [e] at hq
                  injection hq with hq
                  refine .inr ?_
                  rw [← hq]
                  first | omega | (simp; omega)
              clear own1 hgr2 bel1 hD1 hat2 hqq
              go_wp2_with fail
              go_roundw
              case rel => exact ⟨k + 1, _, by omega, by go_num, HYE.out, hown2, hq2, hD2, hbel2⟩
              case measure => simp [intOf]; omega
          · have HNW := hd (numsTo_word hnk (by rw [hgb]; exact hn))
            have kb : (((sh[k].toNat : Nat) : Int) != 110) = true := byte_ne (c := 110) hn
            clear hgb hn hnk
            go_wp2_with fail
            go_roundw
            case rel => exact ⟨k + 1, l, by omega, by go_num, HNW.out, hown, hqq, hDw, hbel⟩
            case measure => simp [intOf]; omega
        · obtain rfl : k = sh.size := by omega
          have HRG := hd (show cmdR d line = doneG d (execR d ((⟨#[116, 105, 116, 108, 101]⟩ : ByteArray) :: r) l) by rw [HNT.out.1.out, hnk]; rfl)
          have HSB := hd (show ShopB W5.heap.size wr from ⟨w, HSH.out w (Below.refl _ _), Nat.le_trans B4.size (Nat.le_of_lt hkk), below_step B4 hbel⟩)
          have HEX := hd (fun (vN : Value) (h1 : Own wr W4.heap.size 2 1 vN eI l) (h2 : ∀ q, vN.ownBlock = some q → q < W5.heap.size ∨ W6.heap.size < q) => exec_impl wr W5.heap.size W6.heap.size d hDw HOK2.out _ vN ((⟨#[116, 105, 116, 108, 101]⟩ : ByteArray) :: r) l (HNT.out.2.out l hnk) (S4.below hbel) (h1.sl eI_len) (Nat.le_trans hwl (by omega)) (fun x hx => Nat.le_trans (hwz x hx) (Nat.le_trans hz (by decide))) (Nat.le_trans HJR.out (by omega)) h2 (fun b e => Nat.lt_trans (hbw4 b e) hkk) HSB.out)
          clear hnk HSB
          have HE2 := hd (HEX.out _ hown hqq)
          clear HEX hqq hown
          go_wp2_with fail
          refine HE2.out.mono ?_
          clear HE2
          rintro e Wz ⟨lv, rfl, OL, BL, hDD⟩
          have hgt : w.heap.size + 1 < W5.heap.size := Nat.lt_trans D14.1 hkk
          have DZ4 := (D14.below hbel).keep hgt BL
          have FZ4 : ∀ i, Wz.frozen? ⟨w.heap.size + 1, i, none⟩ = false := fun i => (BL.frozen (p := ⟨w.heap.size + 1, i, none⟩) hgt).trans ((hbel.frozen (p := ⟨w.heap.size + 1, i, none⟩) D14.1).trans (F14 i))
          have DZ2 := (D24.below hbel).keep (Nat.lt_trans (Nat.lt_succ_self _) hgt) BL
          have hw5 : w.heap.size ≤ W5.heap.size := by omega
          have BLw : Below w.heap.size w Wz := (below_step B4 hbel).trans (BL.mono hw5)
          clear hDw hbel hsw hll hcw hwl hbw4 S4
          obtain ⟨p', C', T', q', L', c', hR⟩ : ∃ p' C' T' q' L' c', execR d ((⟨#[116, 105, 116, 108, 101]⟩ : ByteArray) :: r) l = ((p', C', T', q'), L', c') := ⟨_, _, _, _, _, _, rfl⟩
          rw [hR] at OL hDD HRG ⊢
          clear hR
          have OLb := OL
          obtain ⟨AL, cL, rfl⟩ := OL.isSlice
          obtain ⟨-, x0, x1, x2, x3⟩ := id DZ4
          have xf0 := FZ4 0
          have xf1 := FZ4 1
          have xf2 := FZ4 2
          have xf3 := FZ4 3
          by_cases hc0 : c' = 0
          · subst hc0
            have HR2 := hd (show cmdR d line = ((p', C', T', q'), L', 0) by rw [HRG.out]; rfl)
            obtain ⟨v1, v2, DG, Q1, Q2⟩ := hDD rfl
            have ne1 := geLt (fun k e => (Q1.lt k e).1) hgt
            have ne2 := geLt (fun k e => (Q2.lt k e).1) hgt
            have ne3 := geLt (fun k e => (OLb.lt k e).1) hgt
            have Q1b := Q1.base hw5
            have Q2b := Q2.base hw5
            have OLc := OLb.base hw5
            obtain ⟨B1, y1, rfl⟩ := Q1.isSlice
            obtain ⟨B2, y2, rfl⟩ := Q2.isSlice
            have DSC := desk_set p' q' (.slice B1 C'.length y1) (.slice B2 T'.length y2) rfl rfl DZ4.1 x0 x1 x2 x3 FZ4
            have BZ := desk_setB (h := w.heap.size + 1) BLw (Nat.le_succ _) (.string p') (.slice B1 C'.length y1) (.slice B2 T'.length y2) (.string q')
            have R1 := own_set4 Q1b ne1 (.string p') (.slice B1 C'.length y1) (.slice B2 T'.length y2) (.string q')
            have R2 := own_set4 Q2b ne2 (.string p') (.slice B1 C'.length y1) (.slice B2 T'.length y2) (.string q')
            have R3 := own_set4 OLc ne3 (.string p') (.slice B1 C'.length y1) (.slice B2 T'.length y2) (.string q')
            obtain ⟨-, g0, g1, g2, g3⟩ := id DG
            clear hDD DG Q1 Q2 Q1b Q2b OLc OL OLb ne1 ne2 ne3 BLw BL DZ2 DZ4 FZ4
            go_wp2_with fail
            generalize ((((Wz.setCell ⟨w.heap.size + 1, 0, none⟩ (.string p')).setCell ⟨w.heap.size + 1, 1, none⟩ (.slice B1 C'.length y1)).setCell ⟨w.heap.size + 1, 2, none⟩ (.slice B2 T'.length y2)).setCell ⟨w.heap.size + 1, 3, none⟩ (.string q')) = Z at DSC BZ R1 R2 R3 ⊢
            obtain ⟨-, z0, z1, z2, z3⟩ := DSC
            refine bodyPost_ret (v := .tuple #[.agg #[.string p', .slice B1 C'.length y1, .slice B2 T'.length y2, .string q'], .slice AL L'.length cL, .int .i64 0]) ?_ rfl (cmd_to (d := (p', C', T', q')) BZ R1 R2 R3 HR2.out)
            refine (results_cell_tmp2 Tryz.results9 _ _ _).trans ?_
            show (((loadVar 29 ⟨w.heap.size + 1, 0, none⟩).run Tryz.prog Z).andThen fun v w₂ => Result.ok (Value.tuple #[v, .slice AL L'.length cL, Value.int .i64 0]) w₂) = _
            rw [load_desk Z _ _ _ _ _ z0 z1 z2 z3]
            rfl
          · have HR2 := hd (show cmdR d line = (d, [errS c'], 0) by rw [HRG.out]; unfold doneG; rw [if_neg hc0])
            have kc : (c' != 0) = true := by simpa using hc0
            clear hc0 hDD OL OLb
            obtain ⟨-, b0, b1, b2, b3⟩ := id DZ2
            go_wp2_with fail
            refine (copy_impl Wz d _ _ (HCC.out _ BLw) (HTT.out _ BLw) (Nat.le_trans n1 (by decide)) (Nat.le_trans n2 (by decide))).mono ?_
            rintro e Wy ⟨u1', u2', rfl, P1, P2, -, hby⟩
            have BLy := below_step BLw hby
            have hwy : w.heap.size ≤ Wz.heap.size := BLw.size
            have DY := DZ4.below hby
            have hwz2 : w.heap.size + 1 < Wz.heap.size := DZ4.1
            have FY : ∀ i, Wy.frozen? ⟨w.heap.size + 1, i, none⟩ = false := fun i => (hby.frozen (p := ⟨w.heap.size + 1, i, none⟩) DZ4.1).trans (FZ4 i)
            have HNY := hd (HNM.out _ BLy)
            obtain ⟨cs, hcs⟩ : ∃ cs, codeS c' = cs := ⟨_, rfl⟩
            have hcz := codeS_size c'
            have HCN := hd (show ∀ ww, Names ww → Calls Tryz.prog 33 #[.int .i64 c'] ww fun e w' => e = .returned (.string cs) ∧ w' = ww from fun ww hn => hcs ▸ cname_impl ww c' hn)
            have HR4 := hd (show cmdR d line = (d, [⟨#[101, 114, 114, 111, 114, 32]⟩ ++ cs], 0) by rw [HR2.out]; unfold errS; rw [hcs])
            rw [hcs] at hcz
            have ne1 := geLt (fun k e => (P1.lt k e).1) hwz2
            have ne2 := geLt (fun k e => (P2.lt k e).1) hwz2
            have P1b := P1.base hwy
            have P2b := P2.base hwy
            obtain ⟨B1, y1, rfl⟩ := P1.isSlice
            obtain ⟨B2, y2, rfl⟩ := P2.isSlice
            have HEA := hd (cmd_endA BLy DY FY P1b P2b ne1 ne2 rfl rfl (⟨#[101, 114, 114, 111, 114, 32]⟩ ++ cs))
            clear b0 b1 b2 b3 x0 x1 x2 x3 xf0 xf1 xf2 xf3 DZ2 DZ4 FZ4 BLw BL hby HR2 hcs P1 P2 P1b P2b ne1 ne2 BLy hwy
            go_wp2_with fail
            refine (HCN.out _ HNY.out).mono ?_
            rintro e ww ⟨rfl, hw⟩
            have hw := hw.symm
            subst hw
            obtain ⟨hgy, x0, x1, x2, x3⟩ := DY
            have xf0 := FY 0
            have xf1 := FY 1
            have xf2 := FY 2
            have xf3 := FY 3
            clear FY HNY HCN
            go_wp2_with fail
            clear x0 x1 x2 x3 xf0 xf1 xf2 xf3
            obtain ⟨⟨-, z0, z1, z2, z3⟩, HTO⟩ := HEA.out
            rw [← HR4.out] at HTO
            refine bodyPost_ret (v := .tuple #[.agg #[.string d.1, .slice B1 d.2.1.length y1, .slice B2 d.2.2.1.length y2, .string d.2.2.2], .slice (some ⟨Wy.heap.size, 0, none⟩) 1 1, .int .i64 0]) ?_ rfl HTO
            refine (results_cell_tmp2 Tryz.results9 _ _ _).trans ?_
            show (((loadVar 29 ⟨w.heap.size + 1, 0, none⟩).run Tryz.prog (((((Wy.setCell ⟨w.heap.size + 1, 0, none⟩ (.string d.1)).setCell ⟨w.heap.size + 1, 1, none⟩ (.slice B1 d.2.1.length y1)).setCell ⟨w.heap.size + 1, 2, none⟩ (.slice B2 d.2.2.1.length y2)).setCell ⟨w.heap.size + 1, 3, none⟩ (.string d.2.2.2)).alloc (.cells #[.string (⟨#[101, 114, 114, 111, 114, 32]⟩ ++ cs)] 9))).andThen fun v w₂ => Result.ok (Value.tuple #[v, .slice (some ⟨Wy.heap.size, 0, none⟩) 1 1, Value.int .i64 0]) w₂) = _
            rw [load_desk _ _ _ _ _ _ z0 z1 z2 z3]
            rfl
    · rw [if_neg ht] at hf
      have h2 : r.length + 1 = (shapeS w0).size + 1 := of_decide_eq_true hf
      have hls : sh.size ≤ r.length := by rw [← hsh]; omega
      have hnt : Hid (cmdR d line = numG d (w0 :: r) (numsTo sh.data.toList (w0 :: r) sh.size)) ∧ Hid (∀ ns, numsTo sh.data.toList (w0 :: r) sh.size = some ns → fitsB (w0 :: r) ns) := ⟨by rw [← hsh]; exact HNR.out, by rw [← hsh]; exact HFI.out⟩
      have ht2 : (w0.toList == [116, 105, 116, 108, 101]) = false := lit_ne ht
      have ht3 : (w0.toList != [116, 105, 116, 108, 101]) = true := by rw [bne, ht2]; rfl
      rw [hsh] at hsz h2 ⊢
      clear hf HNR HFI hsh ht HR HC HFT
      have h5 : decide (r.length = sh.size) = true := decide_eq_true (by omega)
      have h6 : ((r.length : Int) = (sh.size : Int)) := by omega
      have HNT := hd hnt
      have n1 := (okD_bd HOK2.out).2.1
      have n2 := (okD_bd HOK2.out).2.2.1
      have HLS := hd hls
      have own0 := Own.made0 W4 W4.heap.size 2 1 eI (Nat.le_refl _)
      have K0 := (Below.refl W4.heap.size W4).alloc (Nat.le_refl _) (.cells #[] 2)
      obtain ⟨-, e0, e1, e2, e3⟩ := id (D24.below K0)
      have hz5 : W4.heap.size < (W4.alloc (.cells #[] 2)).heap.size := by simp
      clear hnt hls x0 x1 x2 x3 xf0 xf1 xf2 xf3 q04
      go_wp2_with fail
      try clear h2 h5 h6
      generalize W4.alloc (.cells #[] 2) = W5 at own0 K0 e0 e1 e2 e3 hz5 ⊢
      refine (copy_impl W5 d _ _ (HCC.out _ (below_step B4 K0)) (HTT.out _ (below_step B4 K0)) (Nat.le_trans n1 (by decide)) (Nat.le_trans n2 (by decide))).mono ?_
      rintro e W6 ⟨u1, u2, rfl, P1, P2, hap, hb6⟩
      clear e0 e1 e2 e3
      have K6 := below_step K0 hb6
      have own6 := Own.below own0 hb6 (Nat.le_refl _)
      have hDO := desk_own_new P1 P2 hap hb6
      obtain ⟨X1, y1, rfl⟩ := P1.isSlice
      obtain ⟨X2, y2, rfl⟩ := P2.isSlice
      have K7 := K6.alloc K6.size (.cells #[.string d.1, .slice X1 d.2.1.length y1, .slice X2 d.2.2.1.length y2, .string d.2.2.2] 29)
      have own7 := own6.alloc (.cells #[.string d.1, .slice X1 d.2.1.length y1, .slice X2 d.2.2.1.length y2, .string d.2.2.2] 29)
      have hg56 : W5.heap.size ≤ W6.heap.size := hb6.size
      clear P1 P2 hap hb6 K6 own6 own0 K0
      go_wp2_with fail
      generalize W6.alloc (.cells #[.string d.1, .slice X1 d.2.1.length y1, .slice X2 d.2.2.1.length y2, .string d.2.2.2] 29) = W7 at hDO K7 own7 ⊢
      have HOWN := hd own7
      have hkk : W4.heap.size < W5.heap.size := hz5
      clear hz5
      go_loopw [9, 63] (fun nv iv wr => ∃ (k : Nat) (l : List Int), k ≤ sh.size ∧ iv = .int .i64 k ∧ numsTo sh.data.toList (w0 :: r) k = some l ∧ Own wr W4.heap.size 2 1 nv eI l ∧ (∀ q, nv.ownBlock = some q → q < W5.heap.size ∨ W6.heap.size < q) ∧ DeskOwn wr W5.heap.size W6.heap.size d ∧ Below W4.heap.size W4 wr) (fun _ iv _ => sh.size - (intOf iv).toNat)
      case atStart => exact ⟨0, [], Nat.zero_le _, rfl, rfl, own7, fun q e => .inl (by have e2 : W4.heap.size = q := by { injection e }; omega), hDO, K7⟩
      case round =>
        obtain ⟨k, l, hk, rfl, hnk, hown, hqq, hDw, hbel⟩ := hrel
        clear own7 hDO K7 HOWN
        have hll := numsTo_len hnk
        have hsw := hbel.size
        by_cases hlt : k < sh.size
        · have hgb := get_listK sh k hlt
          have hslot : k + 1 < (w0 :: r).length := by have := HLS.out; show k + 1 < r.length + 1; omega
          by_cases hn : sh[k] = 110
          · have HGB := hd (hgb.trans hn)
            have kb : (((sh[k].toNat : Nat) : Int) != 110) = false := byte_same (c := 110) hn
            obtain ⟨b', o', hA, -, hcell⟩ := (S4.below hbel).str_at hslot
            injection hA with hA
            injection hA with ee1 ee2 _
            subst ee1
            subst ee2
            have hxm : (w0 :: r)[k + 1] ∈ (w0 :: r) := List.getElem_mem hslot
            have hxz := hwz _ hxm
            have HXG := hd (show (w0 :: r).getD (k + 1) ⟨#[]⟩ = (w0 :: r)[k + 1] by rw [List.getD_eq_getElem?_getD, List.getElem?_eq_getElem hslot]; rfl)
            generalize (w0 :: r)[k + 1] = x at hcell hxz HXG
            have HTB := hd (HSH.out wr (below_step B4 hbel))
            have HRD := hd (readDec_impl wr x (Nat.le_trans hxz (Nat.le_trans hz (by decide))) HTB.out.1 HTB.out.2.1)
            have kw : IntKind.i64.wrap ((k : Int) + 1) = ((k + 1 : Nat) : Int) := by rw [show ((k : Int) + 1) = ((k + 1 : Nat) : Int) from rfl]; exact IntWalk.i64_in _ (by omega)
            have hlr : k + 1 < r.length + 1 := by have := HLS.out; omega
            have HNK := hd hnk
            have HLL := hd hll
            clear hgb hn hxm hnk hll
            rcases hr : numS x.data.toList with _ | n
            · rw [rd_none hr] at HRD
              have HNO := hd (numsTo_no HNK.out HGB.out (show rdN _ = none by rw [HXG.out]; exact hr))
              clear hr
              go_wp2_with fail
              refine HRD.out.mono ?_
              rintro e Wa ⟨rfl, hba⟩
              have hnn : numsTo sh.data.toList (w0 :: r) sh.size = none := by
                have := numsTo_bad HNO.out (sh.size - (k + 1))
                rwa [show k + 1 + (sh.size - (k + 1)) = sh.size by omega] at this
              have HR3 := hd (show cmdR d line = (d, [errS 7], 0) by rw [HNT.out.1.out, hnn]; rfl)
              obtain ⟨v1, v2, DG, -, hg5, O1, O2, -, -, -⟩ := hDw.below hba
              have hbw := below_step hbel hba
              have BLw := below_step B4 hbw
              have DA := D14.below hbw
              have FA : ∀ i, Wa.frozen? ⟨w.heap.size + 1, i, none⟩ = false := fun i => (hbw.frozen (p := ⟨w.heap.size + 1, i, none⟩) D14.1).trans (F14 i)
              have hgt : w.heap.size + 1 < W5.heap.size := Nat.lt_trans D14.1 hkk
              have O1a := O1.base (show w.heap.size ≤ W5.heap.size by omega)
              have O2a := O2.base (show w.heap.size ≤ W5.heap.size by omega)
              have ne1 := geLt (fun k e => (O1.lt k e).1) hgt
              have ne2 := geLt (fun k e => (O2.lt k e).1) hgt
              obtain ⟨B1, y1, rfl⟩ := O1.isSlice
              obtain ⟨B2, y2, rfl⟩ := O2.isSlice
              obtain ⟨cs, hcs⟩ : ∃ cs, codeS 7 = cs := ⟨_, rfl⟩
              have hcz := codeS_size 7
              have HEA := hd (cmd_endA BLw DA FA O1a O2a ne1 ne2 rfl rfl (⟨#[101, 114, 114, 111, 114, 32]⟩ ++ cs))
              have HN1 := hd (HNM.out _ (Below.drew BLw))
              have HN2 := hd (HNM.out _ (Below.drew (desk_setB (h := w.heap.size + 1) BLw (Nat.le_succ _) (.string d.1) (.slice B1 d.2.1.length y1) (.slice B2 d.2.2.1.length y2) (.string d.2.2.2))))
              have HCN := hd (show ∀ ww, Names ww → Calls Tryz.prog 33 #[.int .i64 7] ww fun e w' => e = .returned (.string cs) ∧ w' = ww from fun ww hn => hcs ▸ cname_impl ww 7 hn)
              have HR4 := hd (show cmdR d line = (d, [⟨#[101, 114, 114, 111, 114, 32]⟩ ++ cs], 0) by rw [HR3.out]; unfold errS; rw [hcs])
              rw [hcs] at hcz
              clear hcs hnn HR3
              have HS0 := DG.2
              have HSa := hd (four_drew HS0)
              have HSb := hd (four_drew (four_alloc (.cells #[.string (⟨#[101, 114, 114, 111, 114, 32]⟩ ++ cs)] 9) HS0))
              have HSc0 := four_set (h := w.heap.size + 1) (show W6.heap.size ≠ w.heap.size + 1 by omega) (.string d.1) (.slice B1 d.2.1.length y1) (.slice B2 d.2.2.1.length y2) (.string d.2.2.2) HS0
              have HSc := hd (four_drew HSc0)
              have HSd := hd (four_drew (four_alloc (.cells #[.string (⟨#[101, 114, 114, 111, 114, 32]⟩ ++ cs)] 9) HSc0))
              have hc6 : 6 + cs.size ≤ 9223372036854775807 := by omega
              obtain ⟨hgA, d0, d1, d2, d3⟩ := DA
              have fa0 := FA 0
              have fa1 := FA 1
              have fa2 := FA 2
              have fa3 := FA 3
              clear DG O1 O2 O1a O2a ne1 ne2 FA BLw hbw hDw hbel hba hown hqq hcell HS0 HSc0
              go_wp2_with fail
              have hc7 : ¬ (9223372036854775807 < 6 + cs.size) := by omega
              go_region_held3 (fun ww => ww.cell? ⟨W6.heap.size, 0, none⟩ = some (.string d.1) ∧ ww.cell? ⟨W6.heap.size, 1, none⟩ = some (.slice B1 d.2.1.length y1) ∧ ww.cell? ⟨W6.heap.size, 2, none⟩ = some (.slice B2 d.2.2.1.length y2) ∧ ww.cell? ⟨W6.heap.size, 3, none⟩ = some (.string d.2.2.2)) (first | with_reducible exact HSa.out | with_reducible exact HSb.out | with_reducible exact HSc.out | with_reducible exact HSd.out) (first | (go_at_call 33; (first | (with_reducible refine (HCN.out _ HN1.out).mono ?_) | (with_reducible refine (HCN.out _ HN2.out).mono ?_)); rintro e ww ⟨rfl, hw⟩; have hw := hw.symm; subst hw))
              all_goals
                clear d0 d1 d2 d3 fa0 fa1 fa2 fa3 HSa HSb HSc HSd HN1 HN2 HCN hc6 hc7
                obtain ⟨⟨-, z0, z1, z2, z3⟩, HTO⟩ := HEA.out
                replace HTO := HTO.drew
                go_wp2_with fail
                rw [← HR4.out] at HTO
                refine bodyPost_ret (v := .tuple #[.agg #[.string d.1, .slice B1 d.2.1.length y1, .slice B2 d.2.2.1.length y2, .string d.2.2.2], .slice (some ⟨Wa.heap.size, 0, none⟩) 1 1, .int .i64 0]) ?_ rfl HTO
                refine (results_cell_tmp2 Tryz.results9 _ _ _).trans ?_
                show (((loadVar 29 ⟨w.heap.size + 1, 0, none⟩).run Tryz.prog (((((Wa.setCell ⟨w.heap.size + 1, 0, none⟩ (.string d.1)).setCell ⟨w.heap.size + 1, 1, none⟩ (.slice B1 d.2.1.length y1)).setCell ⟨w.heap.size + 1, 2, none⟩ (.slice B2 d.2.2.1.length y2)).setCell ⟨w.heap.size + 1, 3, none⟩ (.string d.2.2.2)).alloc (.cells #[.string (⟨#[101, 114, 114, 111, 114, 32]⟩ ++ cs)] 9)).drew).andThen fun v w₂ => Result.ok (Value.tuple #[v, .slice (some ⟨Wa.heap.size, 0, none⟩) 1 1, Value.int .i64 0]) w₂) = _
                rw [load_desk _ _ _ _ _ _ (cell_drew z0) (cell_drew z1) (cell_drew z2) (cell_drew z3)]
                rfl
            · rw [rd_some hr] at HRD
              have HYE := hd (numsTo_yes HNK.out HGB.out (show rdN _ = some n by rw [HXG.out]; exact hr))
              clear hr
              go_wp2_with fail
              refine HRD.out.mono ?_
              rintro e Wa ⟨rfl, hba⟩
              have own1 := Own.below hown hba (Nat.le_refl _)
              have hD1 := hDw.below hba
              have bel1 := below_step hbel hba
              have hsz1 := bel1.size
              have hlb : l.length ≤ 4 := Nat.le_trans HLL.out (by omega)
              obtain ⟨i0, hi, hz0, hz1, hz2⟩ := info_parts info_i64
              clear hown hDw hbel hba hsw hcell
              go_wp2_with (at_builtin; refine wpList_push_at _ rfl _ _ 56 rfl i0 (.int .i64 0) 8 Tryz.underlying56 hi hz0 hz1 hz2 rfl (by decide) _ l n rfl (own1.alloc _) Wa.heap.size rfl #[.int .i64 n] 2 (heap_alloc_new _ _) rfl rfl (by intro u hu; simp [eI] at hu; subst hu; rfl) (by unfold maxLen; omega) (by omega) (by simp; omega) ?_)
              intro v' w3 hown2 hgr2 hat2
              have hgW : W6.heap.size < Wa.heap.size := by
                obtain ⟨vv1, vv2, hq1, -⟩ := hD1
                exact hq1.1
              have hD2 := (hD1.below ((Below.refl Wa.heap.size Wa).alloc (Nat.le_refl _) (.cells #[.int .i64 n] 2))).grown hgr2 hqq
              have hbel2 := (bel1.alloc hsz1 (.cells #[.int .i64 n] 2)).grown hgr2 (by simp; omega) (fun q hq => (own1.lt q hq).1)
              have hq2 : ∀ q, v'.ownBlock = some q → q < W5.heap.size ∨ W6.heap.size < q := by
                intro q hq
                rcases hat2 with e | e
                · exact hqq q (by rw [← e]; exact hq)
                · rw [e] at hq
                  injection hq with hq
                  refine .inr ?_
                  rw [← hq]
                  first | omega | (simp; omega)
              clear own1 hgr2 bel1 hD1 hat2 hqq
              go_wp2_with fail
              go_roundw
              case rel => exact ⟨k + 1, _, by omega, by go_num, HYE.out, hown2, hq2, hD2, hbel2⟩
              case measure => simp [intOf]; omega
          · have HNW := hd (numsTo_word hnk (by rw [hgb]; exact hn))
            have kb : (((sh[k].toNat : Nat) : Int) != 110) = true := byte_ne (c := 110) hn
            clear hgb hn hnk
            go_wp2_with fail
            go_roundw
            case rel => exact ⟨k + 1, l, by omega, by go_num, HNW.out, hown, hqq, hDw, hbel⟩
            case measure => simp [intOf]; omega
        · obtain rfl : k = sh.size := by omega
          have HRG := hd (show cmdR d line = doneG d (execR d (w0 :: r) l) by rw [HNT.out.1.out, hnk]; rfl)
          have HSB := hd (show ShopB W5.heap.size wr from ⟨w, HSH.out w (Below.refl _ _), Nat.le_trans B4.size (Nat.le_of_lt hkk), below_step B4 hbel⟩)
          have HEX := hd (fun (vN : Value) (h1 : Own wr W4.heap.size 2 1 vN eI l) (h2 : ∀ q, vN.ownBlock = some q → q < W5.heap.size ∨ W6.heap.size < q) => exec_impl wr W5.heap.size W6.heap.size d hDw HOK2.out _ vN (w0 :: r) l (HNT.out.2.out l hnk) (S4.below hbel) (h1.sl eI_len) (Nat.le_trans hwl (by omega)) (fun x hx => Nat.le_trans (hwz x hx) (Nat.le_trans hz (by decide))) (Nat.le_trans HJR.out (by omega)) h2 (fun b e => Nat.lt_trans (hbw4 b e) hkk) HSB.out)
          clear hnk HSB
          have HE2 := hd (HEX.out _ hown hqq)
          clear HEX hqq hown
          go_wp2_with fail
          refine HE2.out.mono ?_
          clear HE2
          rintro e Wz ⟨lv, rfl, OL, BL, hDD⟩
          have hgt : w.heap.size + 1 < W5.heap.size := Nat.lt_trans D14.1 hkk
          have DZ4 := (D14.below hbel).keep hgt BL
          have FZ4 : ∀ i, Wz.frozen? ⟨w.heap.size + 1, i, none⟩ = false := fun i => (BL.frozen (p := ⟨w.heap.size + 1, i, none⟩) hgt).trans ((hbel.frozen (p := ⟨w.heap.size + 1, i, none⟩) D14.1).trans (F14 i))
          have DZ2 := (D24.below hbel).keep (Nat.lt_trans (Nat.lt_succ_self _) hgt) BL
          have hw5 : w.heap.size ≤ W5.heap.size := by omega
          have BLw : Below w.heap.size w Wz := (below_step B4 hbel).trans (BL.mono hw5)
          clear hDw hbel hsw hll hcw hwl hbw4 S4
          obtain ⟨p', C', T', q', L', c', hR⟩ : ∃ p' C' T' q' L' c', execR d (w0 :: r) l = ((p', C', T', q'), L', c') := ⟨_, _, _, _, _, _, rfl⟩
          rw [hR] at OL hDD HRG ⊢
          clear hR
          have OLb := OL
          obtain ⟨AL, cL, rfl⟩ := OL.isSlice
          obtain ⟨-, x0, x1, x2, x3⟩ := id DZ4
          have xf0 := FZ4 0
          have xf1 := FZ4 1
          have xf2 := FZ4 2
          have xf3 := FZ4 3
          by_cases hc0 : c' = 0
          · subst hc0
            have HR2 := hd (show cmdR d line = ((p', C', T', q'), L', 0) by rw [HRG.out]; rfl)
            obtain ⟨v1, v2, DG, Q1, Q2⟩ := hDD rfl
            have ne1 := geLt (fun k e => (Q1.lt k e).1) hgt
            have ne2 := geLt (fun k e => (Q2.lt k e).1) hgt
            have ne3 := geLt (fun k e => (OLb.lt k e).1) hgt
            have Q1b := Q1.base hw5
            have Q2b := Q2.base hw5
            have OLc := OLb.base hw5
            obtain ⟨B1, y1, rfl⟩ := Q1.isSlice
            obtain ⟨B2, y2, rfl⟩ := Q2.isSlice
            have DSC := desk_set p' q' (.slice B1 C'.length y1) (.slice B2 T'.length y2) rfl rfl DZ4.1 x0 x1 x2 x3 FZ4
            have BZ := desk_setB (h := w.heap.size + 1) BLw (Nat.le_succ _) (.string p') (.slice B1 C'.length y1) (.slice B2 T'.length y2) (.string q')
            have R1 := own_set4 Q1b ne1 (.string p') (.slice B1 C'.length y1) (.slice B2 T'.length y2) (.string q')
            have R2 := own_set4 Q2b ne2 (.string p') (.slice B1 C'.length y1) (.slice B2 T'.length y2) (.string q')
            have R3 := own_set4 OLc ne3 (.string p') (.slice B1 C'.length y1) (.slice B2 T'.length y2) (.string q')
            obtain ⟨-, g0, g1, g2, g3⟩ := id DG
            clear hDD DG Q1 Q2 Q1b Q2b OLc OL OLb ne1 ne2 ne3 BLw BL DZ2 DZ4 FZ4
            go_wp2_with fail
            generalize ((((Wz.setCell ⟨w.heap.size + 1, 0, none⟩ (.string p')).setCell ⟨w.heap.size + 1, 1, none⟩ (.slice B1 C'.length y1)).setCell ⟨w.heap.size + 1, 2, none⟩ (.slice B2 T'.length y2)).setCell ⟨w.heap.size + 1, 3, none⟩ (.string q')) = Z at DSC BZ R1 R2 R3 ⊢
            obtain ⟨-, z0, z1, z2, z3⟩ := DSC
            refine bodyPost_ret (v := .tuple #[.agg #[.string p', .slice B1 C'.length y1, .slice B2 T'.length y2, .string q'], .slice AL L'.length cL, .int .i64 0]) ?_ rfl (cmd_to (d := (p', C', T', q')) BZ R1 R2 R3 HR2.out)
            refine (results_cell_tmp2 Tryz.results9 _ _ _).trans ?_
            show (((loadVar 29 ⟨w.heap.size + 1, 0, none⟩).run Tryz.prog Z).andThen fun v w₂ => Result.ok (Value.tuple #[v, .slice AL L'.length cL, Value.int .i64 0]) w₂) = _
            rw [load_desk Z _ _ _ _ _ z0 z1 z2 z3]
            rfl
          · have HR2 := hd (show cmdR d line = (d, [errS c'], 0) by rw [HRG.out]; unfold doneG; rw [if_neg hc0])
            have kc : (c' != 0) = true := by simpa using hc0
            clear hc0 hDD OL OLb
            obtain ⟨-, b0, b1, b2, b3⟩ := id DZ2
            go_wp2_with fail
            refine (copy_impl Wz d _ _ (HCC.out _ BLw) (HTT.out _ BLw) (Nat.le_trans n1 (by decide)) (Nat.le_trans n2 (by decide))).mono ?_
            rintro e Wy ⟨u1', u2', rfl, P1, P2, -, hby⟩
            have BLy := below_step BLw hby
            have hwy : w.heap.size ≤ Wz.heap.size := BLw.size
            have DY := DZ4.below hby
            have hwz2 : w.heap.size + 1 < Wz.heap.size := DZ4.1
            have FY : ∀ i, Wy.frozen? ⟨w.heap.size + 1, i, none⟩ = false := fun i => (hby.frozen (p := ⟨w.heap.size + 1, i, none⟩) DZ4.1).trans (FZ4 i)
            have HNY := hd (HNM.out _ BLy)
            obtain ⟨cs, hcs⟩ : ∃ cs, codeS c' = cs := ⟨_, rfl⟩
            have hcz := codeS_size c'
            have HCN := hd (show ∀ ww, Names ww → Calls Tryz.prog 33 #[.int .i64 c'] ww fun e w' => e = .returned (.string cs) ∧ w' = ww from fun ww hn => hcs ▸ cname_impl ww c' hn)
            have HR4 := hd (show cmdR d line = (d, [⟨#[101, 114, 114, 111, 114, 32]⟩ ++ cs], 0) by rw [HR2.out]; unfold errS; rw [hcs])
            rw [hcs] at hcz
            have ne1 := geLt (fun k e => (P1.lt k e).1) hwz2
            have ne2 := geLt (fun k e => (P2.lt k e).1) hwz2
            have P1b := P1.base hwy
            have P2b := P2.base hwy
            obtain ⟨B1, y1, rfl⟩ := P1.isSlice
            obtain ⟨B2, y2, rfl⟩ := P2.isSlice
            have HEA := hd (cmd_endA BLy DY FY P1b P2b ne1 ne2 rfl rfl (⟨#[101, 114, 114, 111, 114, 32]⟩ ++ cs))
            clear b0 b1 b2 b3 x0 x1 x2 x3 xf0 xf1 xf2 xf3 DZ2 DZ4 FZ4 BLw BL hby HR2 hcs P1 P2 P1b P2b ne1 ne2 BLy hwy
            go_wp2_with fail
            refine (HCN.out _ HNY.out).mono ?_
            rintro e ww ⟨rfl, hw⟩
            have hw := hw.symm
            subst hw
            obtain ⟨hgy, x0, x1, x2, x3⟩ := DY
            have xf0 := FY 0
            have xf1 := FY 1
            have xf2 := FY 2
            have xf3 := FY 3
            clear FY HNY HCN
            go_wp2_with fail
            clear x0 x1 x2 x3 xf0 xf1 xf2 xf3
            obtain ⟨⟨-, z0, z1, z2, z3⟩, HTO⟩ := HEA.out
            rw [← HR4.out] at HTO
            refine bodyPost_ret (v := .tuple #[.agg #[.string d.1, .slice B1 d.2.1.length y1, .slice B2 d.2.2.1.length y2, .string d.2.2.2], .slice (some ⟨Wy.heap.size, 0, none⟩) 1 1, .int .i64 0]) ?_ rfl HTO
            refine (results_cell_tmp2 Tryz.results9 _ _ _).trans ?_
            show (((loadVar 29 ⟨w.heap.size + 1, 0, none⟩).run Tryz.prog (((((Wy.setCell ⟨w.heap.size + 1, 0, none⟩ (.string d.1)).setCell ⟨w.heap.size + 1, 1, none⟩ (.slice B1 d.2.1.length y1)).setCell ⟨w.heap.size + 1, 2, none⟩ (.slice B2 d.2.2.1.length y2)).setCell ⟨w.heap.size + 1, 3, none⟩ (.string d.2.2.2)).alloc (.cells #[.string (⟨#[101, 114, 114, 111, 114, 32]⟩ ++ cs)] 9))).andThen fun v w₂ => Result.ok (Value.tuple #[v, .slice (some ⟨Wy.heap.size, 0, none⟩) 1 1, Value.int .i64 0]) w₂) = _
            rw [load_desk _ _ _ _ _ _ z0 z1 z2 z3]
            rfl
end Go.Proofs.YtgcodjkjdfahdaaGreatDoor
