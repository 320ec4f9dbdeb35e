/- Lemmas for the claim (the walks of its functions and their plain laws), joined. No condition. -/
import Derived.Test.YtgcodjkjdfahdaaGreatDoorJ18
import Derived.Test.YtgcodjkjdfahdaaGreatDoorJ9
import Derived.Test.YtgcodjkjdfahdaaGreatDoorJ27
import Derived.Test.YtgcodjkjdfahdaaGreatDoorJ34
import Derived.Test.YtgcodjkjdfahdaaGreatDoorJ26
import Derived.Test.YtgcodjkjdfahdaaGreatDoorJ30
import Derived.Test.YtgcodjkjdfahdaaGreatDoorJ36
import Derived.Test.YtgcodjkjdfahdaaGreatDoorJ19
import Derived.Test.YtgcodjkjdfahdaaGreatDoorJ24
import Derived.Deep.RegionHeld3
namespace Go.Proofs.YtgcodjkjdfahdaaGreatDoor
open Go Go.RowKit Go.ChangeShapes Go.WideShapes
set_option linter.unusedSimpArgs false
set_option linter.unusedVariables false
abbrev TDk := ByteArray × List TCue × List TTitle × ByteArray
def okD (d : TDk) : Bool := okDeskB d.1 d.2.1 d.2.2.1 d.2.2.2
def DeskOwn (W : World) (B g : Nat) (d : TDk) : Prop := ∃ v1 v2, DeskAt W g d.1 v1 v2 d.2.2.2 ∧ (∀ i, W.frozen? ⟨g, i, none⟩ = false) ∧ B ≤ g ∧ Own W B 92 4 v1 eCue d.2.1 ∧ Own W B 95 4 v2 eTitle d.2.2.1 ∧ (∀ k, v1.ownBlock = some k → k < g) ∧ (∀ k, v2.ownBlock = some k → k < g) ∧ (v2.ownBlock = none ∨ v2.ownBlock ≠ v1.ownBlock)
theorem DeskOwn.below {W W' : World} {B g : Nat} {d : TDk} (h : DeskOwn W B g d) (hb : Below W.heap.size W W') : DeskOwn W' B g d := by
  obtain ⟨v1, v2, h1, h2, h3, h4, h5⟩ := h
  exact ⟨v1, v2, h1.below hb, fun i => (hb.frozen (p := ⟨g, i, none⟩) h1.1).trans (h2 i), h3, h4.below hb (Nat.le_refl _), h5.1.below hb (Nat.le_refl _), h5.2⟩
abbrev TRes := TDk × List ByteArray × Int
def ExecTo (B g : Nat) (w : World) (r : TRes) (e : Ending) (w' : World) : Prop :=
  ∃ v, e = .returned (.tuple #[v, .int .i64 r.2.2]) ∧ Own w' B 9 1 v eS r.2.1 ∧ Below B w w' ∧ (r.2.2 = 0 → ∃ v1 v2, DeskAt w' g r.1.1 v1 v2 r.1.2.2.2 ∧ Own w' B 92 4 v1 eCue r.1.2.1 ∧ Own w' B 95 4 v2 eTitle r.1.2.2.1)
theorem exec_same {B g : Nat} {w w' : World} {d : TDk} {s : ByteArray} {c : Int} {v : Value} (hD : DeskOwn w B g d) (hb : Below w.heap.size w w') (ho : Own w' w.heap.size 9 1 v eS [s]) {r : TRes} (hr : r = (d, [s], c)) : ExecTo B g w r (.returned (.tuple #[v, .int .i64 c])) w' := by
  subst hr
  obtain ⟨v1, v2, h1, h2, h3, h4, h5⟩ := id hD
  have hB : B ≤ w.heap.size := Nat.le_trans h3 (Nat.le_of_lt h1.1)
  exact ⟨v, rfl, ho.base hB, hb.mono hB, fun _ => ⟨v1, v2, h1.below hb, h4.below hb (Nat.le_refl _), h5.1.below hb (Nat.le_refl _)⟩⟩
theorem exec_err {B g : Nat} {w w' : World} {d : TDk} {c : Int} (hb : Below B w w') (hc : c ≠ 0) {r : TRes} (hr : r = (d, [], c)) : ExecTo B g w r (.returned (.tuple #[.slice none 0 0, .int .i64 c])) w' := by
  subst hr
  exact ⟨_, rfl, Own.nil _ _ _ _ _, hb, fun h => absurd h hc⟩
theorem exec_to {B g : Nat} {w w' : World} {d : TDk} {L : List ByteArray} {c : Int} {v v1 v2 : Value} (hb : Below B w w') (ho : Own w' B 9 1 v eS L) (h1 : DeskAt w' g d.1 v1 v2 d.2.2.2) (h2 : Own w' B 92 4 v1 eCue d.2.1) (h3 : Own w' B 95 4 v2 eTitle d.2.2.1) {r : TRes} (hr : r = (d, L, c)) : ExecTo B g w r (.returned (.tuple #[v, .int .i64 c])) w' := by
  subst hr
  exact ⟨v, rfl, ho, hb, fun _ => ⟨v1, v2, h1, h2, h3⟩⟩
theorem neLt {v : Value} {g : Nat} (h : ∀ k, v.ownBlock = some k → k < g) : v.ownBlock = none ∨ v.ownBlock ≠ some g := .inr fun e => Nat.lt_irrefl _ (h g e)
theorem desk_set0 {W : World} {g : Nat} {p q : ByteArray} {v1 v2 : Value} (h : DeskAt W g p v1 v2 q) (hf : ∀ i, W.frozen? ⟨g, i, none⟩ = false) (x : ByteArray) : DeskAt (W.setCell ⟨g, 0, none⟩ (.string x)) g x v1 v2 q := by
  obtain ⟨h0, c0, c1, c2, c3⟩ := h
  have f0 := hf 0
  refine ⟨Nat.lt_of_lt_of_le h0 ((Below.refl 0 W).setCell (p := ⟨g, 0, none⟩) (Nat.zero_le _) _).size, ?_, ?_, ?_, ?_⟩
  all_goals go_simp
theorem desk_set1 {W : World} {g : Nat} {p q : ByteArray} {v1 v2 : Value} (h : DeskAt W g p v1 v2 q) (hf : ∀ i, W.frozen? ⟨g, i, none⟩ = false) (x : Value) (hx : x.oneCell' = true) : DeskAt (W.setCell ⟨g, 1, none⟩ x) g p x v2 q := by
  obtain ⟨h0, c0, c1, c2, c3⟩ := h
  have f0 := hf 1
  refine ⟨Nat.lt_of_lt_of_le h0 ((Below.refl 0 W).setCell (p := ⟨g, 1, none⟩) (Nat.zero_le _) _).size, ?_, ?_, ?_, ?_⟩
  all_goals go_simp
theorem desk_set2 {W : World} {g : Nat} {p q : ByteArray} {v1 v2 : Value} (h : DeskAt W g p v1 v2 q) (hf : ∀ i, W.frozen? ⟨g, i, none⟩ = false) (x : Value) (hx : x.oneCell' = true) : DeskAt (W.setCell ⟨g, 2, none⟩ x) g p v1 x q := by
  obtain ⟨h0, c0, c1, c2, c3⟩ := h
  have f0 := hf 2
  refine ⟨Nat.lt_of_lt_of_le h0 ((Below.refl 0 W).setCell (p := ⟨g, 2, none⟩) (Nat.zero_le _) _).size, ?_, ?_, ?_, ?_⟩
  all_goals go_simp
theorem desk_set3 {W : World} {g : Nat} {p q : ByteArray} {v1 v2 : Value} (h : DeskAt W g p v1 v2 q) (hf : ∀ i, W.frozen? ⟨g, i, none⟩ = false) (x : ByteArray) : DeskAt (W.setCell ⟨g, 3, none⟩ (.string x)) g p v1 v2 x := by
  obtain ⟨h0, c0, c1, c2, c3⟩ := h
  have f0 := hf 3
  refine ⟨Nat.lt_of_lt_of_le h0 ((Below.refl 0 W).setCell (p := ⟨g, 3, none⟩) (Nat.zero_le _) _).size, ?_, ?_, ?_, ?_⟩
  all_goals go_simp
theorem own_set {α : Type} {W : World} {B E k g : Nat} {v : Value} {enc : α → List Value} {l : List α} (h : Own W B E k v enc l) (hne : ∀ k, v.ownBlock = some k → k < g) (i : Nat) (x : Value) : Own (W.setCell ⟨g, i, none⟩ x) B E k v enc l :=
  h.grown (grownBy_set W ⟨g, i, none⟩ x) (neLt hne)
theorem Sl.strs {w : World} {v : Value} {L : List ByteArray} (h : Sl w 1 v eS L) (h0 : 0 < L.length) : ∃ b o c, v = .slice (some ⟨b, o, none⟩) L.length c ∧ b < w.heap.size ∧ L.length ≤ c ∧ ∀ i x, L[i]? = some x → w.cell? ⟨b, o + i, none⟩ = some (.string x) := by
  obtain ⟨h1, A, c, rfl, hc, -, h2⟩ := h
  obtain ⟨b, o, hA, hb, -⟩ := h2 0 _ (List.getElem?_eq_getElem h0)
  subst hA
  refine ⟨b, o, c, rfl, hb, hc, fun i x hx => ?_⟩
  obtain ⟨b', o', hA, -, h3⟩ := h2 i x hx
  injection hA with hA
  injection hA with e1 e2 _
  subst e1
  subst e2
  have h4 := h3 0 _ (show (eS x)[0]? = some (.string x) from rfl)
  rw [Nat.mul_one, Nat.add_zero] at h4
  exact h4
theorem Sl.ints {w : World} {v : Value} {L : List Int} (h : Sl w 1 v eI L) (h0 : 0 < L.length) : ∃ b o c, v = .slice (some ⟨b, o, none⟩) L.length c ∧ b < w.heap.size ∧ ∀ i x, L[i]? = some x → w.cell? ⟨b, o + i, none⟩ = some (.int .i64 x) := by
  obtain ⟨h1, A, c, rfl, -, -, h2⟩ := h
  obtain ⟨b, o, hA, hb, -⟩ := h2 0 _ (List.getElem?_eq_getElem h0)
  subst hA
  refine ⟨b, o, c, rfl, hb, fun i x hx => ?_⟩
  obtain ⟨b', o', hA, -, h3⟩ := h2 i x hx
  injection hA with hA
  injection hA with e1 e2 _
  subst e1
  subst e2
  have h4 := h3 0 _ (show (eI x)[0]? = some (.int .i64 x) from rfl)
  rw [Nat.mul_one, Nat.add_zero] at h4
  exact h4
theorem cell_below {w : World} {p : Addr} {v : Value} (h : w.cell? p = some v) : ∀ W, Below w.heap.size w W → W.cell? p = some v := fun W hb => (hb.cell (World.block_lt_of_cell? w p h)).trans h
theorem Shop.at_ {w : World} (h : Shop w) : ∀ W, Below w.heap.size w W → Shop W := fun W hb => h.below hb
def ShopB (B : Nat) (w : World) : Prop := ∃ w0, Shop w0 ∧ w0.heap.size ≤ B ∧ Below w0.heap.size w0 w
theorem ShopB.shop {B : Nat} {w : World} (h : ShopB B w) : Shop w := by
  obtain ⟨w0, h1, -, h3⟩ := h
  exact h1.below h3
theorem ShopB.keep {B : Nat} {w W : World} (h : ShopB B w) (hb : Below B w W) : ShopB B W := by
  obtain ⟨w0, h1, h2, h3⟩ := h
  exact ⟨w0, h1, h2, h3.trans (hb.mono h2)⟩
end Go.Proofs.YtgcodjkjdfahdaaGreatDoor

namespace Go.Proofs.YtgcodjkjdfahdaaGreatDoor
open Go Go.RowKit Go.ChangeShapes Go.WideShapes
set_option linter.unusedSimpArgs false
set_option linter.unusedVariables false
theorem info_TitleK : (Tryz.prog.info? 95).map (fun i => (i.zero, i.size, i.bytes)) = some (some (.agg #[.int .i64 0, .string ByteArray.empty, .int .i64 0, .int .i64 0]), 4, 40) := by kernel_rfl
set_option maxRecDepth 100000 in
set_option maxHeartbeats 1000000 in
theorem clone_T (w : World) (v : Value) (l : List TTitle) (h : Sl w 4 v eTitle l) (hl : l.length ≤ 1048576) :
    Calls Tryz.prog 64 #[v] w (GivesOwn w 95 4 eTitle l) := by
  obtain ⟨-, A, c, rfl, -, -, hA⟩ := id h
  obtain ⟨i0, hi, hz0, hz1, hz2⟩ := info_parts info_TitleK
  have q : ∀ (w : World) (a : Option Addr) (n c n' c' : Nat), (binOp .eql 27 (.slice a n c) (.slice none n' c')).run Tryz.prog w = .ok (.bool a.isNone) w := fun w a n c n' c' => Go.Lib.run_eql_slice_nil w _ _ a n c n' c' Tryz.underlying27
  rcases A with _ | ad
  · have hnil : l = [] := by
      rcases l with _ | ⟨y, l⟩
      · rfl
      · obtain ⟨b, o, he, -⟩ := hA 0 y rfl
        cases he
    subst hnil
    go_enter Tryz.func64, Tryz.ntmps64
    go_wp2_with fail
    go_ret
    exact ⟨_, rfl, Own.nil _ _ _ _ _, Below.refl _ _⟩
  · clear hA
    go_enter Tryz.func64, Tryz.ntmps64
    go_wp2_with (at_builtin; refine wpList_append_sl _ rfl _ _ 27 rfl i0 (.agg #[.int .i64 0, .string ByteArray.empty, .int .i64 0, .int .i64 0]) 40 Tryz.underlying27 hi hz0 hz1 hz2 rfl (by decide) eTitle_len (by rintro ⟨a, b, c, d⟩ u hu; simp [eTitle] at hu; rcases hu with rfl | rfl | rfl | rfl <;> rfl) _ [] rfl (Own.made0 w w.heap.size 95 4 eTitle (Nat.le_refl _)) _ l rfl (h.alloc _) (by unfold maxLen; simp; omega) (by simp; omega) (by simp) ?_)
    intro v' w1 hown hgr
    have hbel := ((Below.refl w.heap.size w).alloc (Nat.le_refl _) (.cells #[] 95)).grown hgr (by simp) (by intro g hg; simp [Value.ownBlock] at hg; omega)
    go_wp2_with fail
    go_ret
    exact ⟨_, rfl, by simpa using hown, hbel⟩
theorem desk_set {W : World} {h : Nat} {z0 z1 z2 z3 : Value} (p q : ByteArray) (v1 v2 : Value) (k1 : v1.oneCell' = true) (k2 : v2.oneCell' = true) (h0 : h < W.heap.size) (c0 : W.cell? ⟨h, 0, none⟩ = some z0) (c1 : W.cell? ⟨h, 1, none⟩ = some z1) (c2 : W.cell? ⟨h, 2, none⟩ = some z2) (c3 : W.cell? ⟨h, 3, none⟩ = some z3) (f : ∀ i, W.frozen? ⟨h, i, none⟩ = false) :
    DeskAt ((((W.setCell ⟨h, 0, none⟩ (.string p)).setCell ⟨h, 1, none⟩ v1).setCell ⟨h, 2, none⟩ v2).setCell ⟨h, 3, none⟩ (.string q)) h p v1 v2 q := by
  have f0 := f 0
  have f1 := f 1
  have f2 := f 2
  have f3 := f 3
  refine ⟨Nat.lt_of_lt_of_le h0 (((((Below.refl 0 W).setCell (p := ⟨h, 0, none⟩) (Nat.zero_le _) (.string p)).setCell (p := ⟨h, 1, none⟩) (Nat.zero_le _) v1).setCell (p := ⟨h, 2, none⟩) (Nat.zero_le _) v2).setCell (p := ⟨h, 3, none⟩) (Nat.zero_le _) (.string q)).size, ?_, ?_, ?_, ?_⟩
  all_goals go_simp
theorem desk_setB {B h : Nat} {w W : World} (hb : Below B w W) (hB : B ≤ h) (a b c d : Value) : Below B w ((((W.setCell ⟨h, 0, none⟩ a).setCell ⟨h, 1, none⟩ b).setCell ⟨h, 2, none⟩ c).setCell ⟨h, 3, none⟩ d) :=
  (((hb.setCell (p := ⟨h, 0, none⟩) hB _).setCell (p := ⟨h, 1, none⟩) hB _).setCell (p := ⟨h, 2, none⟩) hB _).setCell (p := ⟨h, 3, none⟩) hB _
theorem own_set4 {α : Type} {W : World} {B E k h : Nat} {v : Value} {enc : α → List Value} {l : List α} (H : Own W B E k v enc l) (hne : v.ownBlock = none ∨ v.ownBlock ≠ some h) (a b c d : Value) : Own ((((W.setCell ⟨h, 0, none⟩ a).setCell ⟨h, 1, none⟩ b).setCell ⟨h, 2, none⟩ c).setCell ⟨h, 3, none⟩ d) B E k v enc l :=
  (((H.grown (grownBy_set W ⟨h, 0, none⟩ a) hne).grown (grownBy_set _ ⟨h, 1, none⟩ b) hne).grown (grownBy_set _ ⟨h, 2, none⟩ c) hne).grown (grownBy_set _ ⟨h, 3, none⟩ d) hne
theorem set4_other (W : World) {h b : Nat} (hne : b ≠ h) (x0 x1 x2 x3 : Value) : ((((W.setCell ⟨h, 0, none⟩ x0).setCell ⟨h, 1, none⟩ x1).setCell ⟨h, 2, none⟩ x2).setCell ⟨h, 3, none⟩ x3).heap[b]? = W.heap[b]? := by
  rw [heap_setCell_other _ _ _ _ (by first | exact fun e => hne e | exact fun e => hne e.symm), heap_setCell_other _ _ _ _ (by first | exact fun e => hne e | exact fun e => hne e.symm), heap_setCell_other _ _ _ _ (by first | exact fun e => hne e | exact fun e => hne e.symm), heap_setCell_other _ _ _ _ (by first | exact fun e => hne e | exact fun e => hne e.symm)]
def CopyD (w : World) (d : TDk) (e : Ending) (w' : World) : Prop := ∃ u1 u2, e = .returned (.agg #[.string d.1, u1, u2, .string d.2.2.2]) ∧ Own w' w.heap.size 92 4 u1 eCue d.2.1 ∧ Own w' w.heap.size 95 4 u2 eTitle d.2.2.1 ∧ (u2.ownBlock = none ∨ u2.ownBlock ≠ u1.ownBlock) ∧ Below w.heap.size w w'
set_option maxRecDepth 100000 in
set_option maxHeartbeats 8000000 in
theorem copy_impl (w : World) (d : TDk) (v1 v2 : Value) (hC : Sl w 4 v1 eCue d.2.1) (hT : Sl w 4 v2 eTitle d.2.2.1) (n1 : d.2.1.length ≤ 1048576) (n2 : d.2.2.1.length ≤ 1048576) :
    Calls Tryz.prog 31 #[.agg #[.string d.1, v1, v2, .string d.2.2.2]] w (CopyD w d) := by
  obtain ⟨A1, c1, rfl⟩ := hC.isSlice
  obtain ⟨A2, c2, rfl⟩ := hT.isSlice
  have D0 := desk_new w d.1 (.slice A1 d.2.1.length c1) (.slice A2 d.2.2.1.length c2) d.2.2.2 29
  have B0 := (Below.refl w.heap.size w).alloc (Nat.le_refl _) (.cells #[.string d.1, .slice A1 d.2.1.length c1, .slice A2 d.2.2.1.length c2, .string d.2.2.2] 29)
  have D1 := desk_new (w.alloc (.cells #[.string d.1, .slice A1 d.2.1.length c1, .slice A2 d.2.2.1.length c2, .string d.2.2.2] 29)) ⟨#[]⟩ (.slice none 0 0) (.slice none 0 0) ⟨#[]⟩ 29
  have hz1 : (w.alloc (.cells #[.string d.1, .slice A1 d.2.1.length c1, .slice A2 d.2.2.1.length c2, .string d.2.2.2] 29)).heap.size = w.heap.size + 1 := by simp
  have F1 : ∀ i, ((w.alloc (.cells #[.string d.1, .slice A1 d.2.1.length c1, .slice A2 d.2.2.1.length c2, .string d.2.2.2] 29)).alloc (.cells #[.string ⟨#[]⟩, .slice none 0 0, .slice none 0 0, .string ⟨#[]⟩] 29)).frozen? ⟨w.heap.size + 1, i, none⟩ = false := fun i => by
    have := heap_alloc_new (w.alloc (.cells #[.string d.1, .slice A1 d.2.1.length c1, .slice A2 d.2.2.1.length c2, .string d.2.2.2] 29)) (.cells #[.string ⟨#[]⟩, .slice none 0 0, .slice none 0 0, .string ⟨#[]⟩] 29)
    rw [hz1] at this
    exact free2 this i
  rw [hz1] at D1
  have D2 := D0.below ((Below.refl _ _).alloc (Nat.le_refl _) (.cells #[.string ⟨#[]⟩, .slice none 0 0, .slice none 0 0, .string ⟨#[]⟩] 29))
  have B1 := B0.alloc B0.size (.cells #[.string ⟨#[]⟩, .slice none 0 0, .slice none 0 0, .string ⟨#[]⟩] 29)
  clear D0 B0 hz1
  go_enter Tryz.func31, Tryz.ntmps31
  go_wp2_with fail
  generalize (w.alloc (.cells #[.string d.1, .slice A1 d.2.1.length c1, .slice A2 d.2.2.1.length c2, .string d.2.2.2] 29)).alloc (.cells #[.string ⟨#[]⟩, .slice none 0 0, .slice none 0 0, .string ⟨#[]⟩] 29) = W at D1 F1 D2 B1 ⊢
  have HC := hd (show ∀ ww, Below W.heap.size W ww → Sl ww 4 (.slice A1 d.2.1.length c1) eCue d.2.1 from fun ww K => (hC.below B1).below K)
  have HT := hd (show ∀ ww, Below W.heap.size W ww → Sl ww 4 (.slice A2 d.2.2.1.length c2) eTitle d.2.2.1 from fun ww K => (hT.below B1).below K)
  obtain ⟨-, e0, e1, e2, e3⟩ := D2
  have HS := hd (show ∀ ww, Below W.heap.size W ww → ww.cell? ⟨w.heap.size, 0, none⟩ = some (.string d.1) ∧ ww.cell? ⟨w.heap.size, 1, none⟩ = some (.slice A1 d.2.1.length c1) ∧ ww.cell? ⟨w.heap.size, 2, none⟩ = some (.slice A2 d.2.2.1.length c2) ∧ ww.cell? ⟨w.heap.size, 3, none⟩ = some (.string d.2.2.2) from fun ww K => ⟨cell_below e0 ww K, cell_below e1 ww K, cell_below e2 ww K, cell_below e3 ww K⟩)
  have HX := hd (show ∀ ww, Below W.heap.size W ww → DeskAt ww (w.heap.size + 1) ⟨#[]⟩ (.slice none 0 0) (.slice none 0 0) ⟨#[]⟩ ∧ ∀ i, ww.frozen? ⟨w.heap.size + 1, i, none⟩ = false from fun ww K => ⟨D1.below K, fun i => (K.frozen (p := ⟨w.heap.size + 1, i, none⟩) D1.1).trans (F1 i)⟩)
  have hW1 := D1.1
  have HPZ := hd (show ∀ ww : World, (ww.cell? ⟨w.heap.size, 0, none⟩ = some (.string d.1) ∧ ww.cell? ⟨w.heap.size, 1, none⟩ = some (.slice A1 d.2.1.length c1) ∧ ww.cell? ⟨w.heap.size, 2, none⟩ = some (.slice A2 d.2.2.1.length c2) ∧ ww.cell? ⟨w.heap.size, 3, none⟩ = some (.string d.2.2.2)) → ∀ x0 x1 x2 x3 : Value, ((((ww.setCell ⟨w.heap.size + 1, 0, none⟩ x0).setCell ⟨w.heap.size + 1, 1, none⟩ x1).setCell ⟨w.heap.size + 1, 2, none⟩ x2).setCell ⟨w.heap.size + 1, 3, none⟩ x3).cell? ⟨w.heap.size, 0, none⟩ = some (.string d.1) ∧ ((((ww.setCell ⟨w.heap.size + 1, 0, none⟩ x0).setCell ⟨w.heap.size + 1, 1, none⟩ x1).setCell ⟨w.heap.size + 1, 2, none⟩ x2).setCell ⟨w.heap.size + 1, 3, none⟩ x3).cell? ⟨w.heap.size, 1, none⟩ = some (.slice A1 d.2.1.length c1) ∧ ((((ww.setCell ⟨w.heap.size + 1, 0, none⟩ x0).setCell ⟨w.heap.size + 1, 1, none⟩ x1).setCell ⟨w.heap.size + 1, 2, none⟩ x2).setCell ⟨w.heap.size + 1, 3, none⟩ x3).cell? ⟨w.heap.size, 2, none⟩ = some (.slice A2 d.2.2.1.length c2) ∧ ((((ww.setCell ⟨w.heap.size + 1, 0, none⟩ x0).setCell ⟨w.heap.size + 1, 1, none⟩ x1).setCell ⟨w.heap.size + 1, 2, none⟩ x2).setCell ⟨w.heap.size + 1, 3, none⟩ x3).cell? ⟨w.heap.size, 3, none⟩ = some (.string d.2.2.2) from fun ww h x0 x1 x2 x3 => by
    have hb := set4_other ww (h := w.heap.size + 1) (b := w.heap.size) (by omega) x0 x1 x2 x3
    exact ⟨(World.cell?_of_block (w := ww) (a := ⟨w.heap.size, 0, none⟩) hb).trans h.1, (World.cell?_of_block (w := ww) (a := ⟨w.heap.size, 1, none⟩) hb).trans h.2.1, (World.cell?_of_block (w := ww) (a := ⟨w.heap.size, 2, none⟩) hb).trans h.2.2.1, (World.cell?_of_block (w := ww) (a := ⟨w.heap.size, 3, none⟩) hb).trans h.2.2.2⟩)
  have K := Below.refl W.heap.size W
  clear hC hT e0 e1 e2 e3 D1 F1
  go_region_held3 (fun ww => ww.cell? ⟨w.heap.size, 0, none⟩ = some (.string d.1) ∧ ww.cell? ⟨w.heap.size, 1, none⟩ = some (.slice A1 d.2.1.length c1) ∧ ww.cell? ⟨w.heap.size, 2, none⟩ = some (.slice A2 d.2.2.1.length c2) ∧ ww.cell? ⟨w.heap.size, 3, none⟩ = some (.string d.2.2.2)) (first | with_reducible exact HS.out _ K | with_reducible exact HS.out _ (Below.drew K) | with_reducible assumption)
    (first | (go_at_call 63; replace K := Below.drew K; (with_reducible refine (clone_Q _ _ _ (HC.out _ K) n1).mono ?_); rintro e w5 ⟨u1, rfl, O1, hb5⟩; obtain ⟨A5, c5, rfl⟩ := O1.isSlice; have O1b := O1.base K.size; replace K := below_step K hb5; clear hb5 O1) | (go_at_call 64; (with_reducible refine (clone_T _ _ _ (HT.out _ K) n2).mono ?_); rintro e w6 ⟨u2, rfl, O2, hb6⟩; obtain ⟨A6, c6, rfl⟩ := O2.isSlice; have O1c := O1b.below hb6 (Nat.le_refl _); have O2b := O2.base K.size; have hap : ∀ k, (.slice A6 d.2.2.1.length c6 : Value).ownBlock = some k → w5.heap.size ≤ k := fun k e => (O2.lt k e).1; have hal : ∀ k, (.slice A5 d.2.1.length c5 : Value).ownBlock = some k → k < w5.heap.size := fun k e => (O1b.lt k e).2; replace K := below_step K hb6; obtain ⟨⟨x0, x1, x2, x3, x4⟩, XF⟩ := HX.out _ K; have xf0 := XF 0; have xf1 := XF 1; have xf2 := XF 2; have xf3 := XF 3; have DSC := desk_set d.1 d.2.2.2 (.slice A5 d.2.1.length c5) (.slice A6 d.2.2.1.length c6) rfl rfl x0 x1 x2 x3 x4 XF; have SZ := HPZ.out w6 (HS.out _ K) (.string d.1) (.slice A5 d.2.1.length c5) (.slice A6 d.2.2.1.length c6) (.string d.2.2.2); clear hb6 O2))
  all_goals
    have ne1 : ∀ v : Value, (∀ k, v.ownBlock = some k → W.heap.size ≤ k) → (v.ownBlock = none ∨ v.ownBlock ≠ some (w.heap.size + 1)) := fun v hv => .inr fun e => by have := hv _ e; omega
    have P1 := own_set4 O1c (ne1 _ (fun k e => (O1c.lt k e).1)) (.string d.1) (.slice A5 d.2.1.length c5) (.slice A6 d.2.2.1.length c6) (.string d.2.2.2)
    have P2 := own_set4 O2b (ne1 _ (fun k e => (O2b.lt k e).1)) (.string d.1) (.slice A5 d.2.1.length c5) (.slice A6 d.2.2.1.length c6) (.string d.2.2.2)
    have BZ := desk_setB (below_step B1 K) (Nat.le_succ _) (.string d.1) (.slice A5 d.2.1.length c5) (.slice A6 d.2.2.1.length c6) (.string d.2.2.2)
    clear SZ HPZ HX HS HC HT x0 x1 x2 x3 x4 XF xf0 xf1 xf2 xf3 O1b O1c O2b ne1
    generalize ((((w6.setCell ⟨w.heap.size + 1, 0, none⟩ (.string d.1)).setCell ⟨w.heap.size + 1, 1, none⟩ (.slice A5 d.2.1.length c5)).setCell ⟨w.heap.size + 1, 2, none⟩ (.slice A6 d.2.2.1.length c6)).setCell ⟨w.heap.size + 1, 3, none⟩ (.string d.2.2.2)) = Z at DSC P1 P2 BZ ⊢
    obtain ⟨-, e0, e1, e2, e3⟩ := DSC
    go_wp2_with fail
    refine bodyPost_ret (v := .agg #[.string d.1, .slice A5 d.2.1.length c5, .slice A6 d.2.2.1.length c6, .string d.2.2.2]) (by simp [results, Tryz.results31, go_sem, e0, e1, e2, e3]) rfl ⟨_, _, rfl, P1.base B1.size, P2.base B1.size, ?_, BZ⟩
    rcases h : (.slice A6 d.2.2.1.length c6 : Value).ownBlock with _ | k
    · exact .inl rfl
    · refine .inr fun e => ?_
      have := hap k h
      have := hal k e.symm
      omega
end Go.Proofs.YtgcodjkjdfahdaaGreatDoor

namespace Go.Proofs.YtgcodjkjdfahdaaGreatDoor
open Go Go.RowKit Go.ChangeShapes Go.WideShapes
set_option linter.unusedSimpArgs false
set_option linter.unusedVariables false
set_option maxRecDepth 100000 in
set_option maxHeartbeats 8000000 in
theorem exec_seen (w : World) (B g : Nat) (d : TDk) (hD : DeskOwn w B g d) (vW vN : Value) (s1 s2 : ByteArray) (n0 n1 : Int) (hW : Sl w 1 vW eS [⟨#[115, 101, 101, 110]⟩, s1, s2]) (hN : Sl w 1 vN eI [n0, n1]) (hsh : Shop w) :
    Calls Tryz.prog 34 #[.pointer (some ⟨g, 0, none⟩), vW, vN] w (ExecTo B g w (d, [orS (numsS ⟨#[32]⟩ (seenR n0 n1).1)], (seenR n0 n1).2)) := by
  obtain ⟨bw, ow, cw, rfl, -, -, hw⟩ := hW.strs (Nat.succ_pos _)
  obtain ⟨bn, on, cn, rfl, -, hn⟩ := hN.ints (Nat.succ_pos _)
  have w0 := hw 0 _ rfl
  rw [Nat.add_zero] at w0
  have k0 := hn 0 _ rfl
  rw [Nat.add_zero] at k0
  have k1 := hn 1 _ rfl
  have HD := hd hD
  have HSH := hd hsh.at_
  have HS := hd (show ∀ W, Below w.heap.size w W → W.cell? ⟨bn, on, none⟩ = some (.int .i64 n0) ∧ W.cell? ⟨bn, on + 1, none⟩ = some (.int .i64 n1) from fun W hb => ⟨cell_below k0 W hb, cell_below k1 W hb⟩)
  have K := Below.refl w.heap.size w
  clear hD hW hN hw hn hsh
  have HSL := hd (show (seenR n0 n1).1.length ≤ 48 from seenR_len n0 n1)
  have HSM := hd (show ∀ x ∈ (seenR n0 n1).1, 0 ≤ x ∧ x ≤ 48 from seenR_mem n0 n1)
  go_enter Tryz.func34, Tryz.ntmps34
  go_wp2_with fail
  clear w0
  first | (go_region_held3 (fun ww => ww.cell? ⟨bn, on, none⟩ = some (.int .i64 n0) ∧ ww.cell? ⟨bn, on + 1, none⟩ = some (.int .i64 n1)) (first | with_reducible exact HS.out _ K | with_reducible exact HS.out _ (Below.drew K)) (first | (go_at_call 68; replace K := Below.drew K; (with_reducible refine (seen_impl _ n0 n1).mono ?_); rintro e w2 ⟨v2, rfl, O2, hb2⟩; obtain ⟨A2, c2, rfl⟩ := O2.isSlice; replace K := below_step K hb2; clear hb2))) | fail
  all_goals
    clear k0 k1
    have SL := O2.sl eI_len
    clear O2
    obtain ⟨l, hl⟩ : ∃ l, (seenR n0 n1).1 = l := ⟨_, rfl⟩
    obtain ⟨cd, hc⟩ : ∃ c, (seenR n0 n1).2 = c := ⟨_, rfl⟩
    have HR := hd (show (d, [orS (numsS ⟨#[32]⟩ (seenR n0 n1).1)], (seenR n0 n1).2) = (d, [orS (numsS ⟨#[32]⟩ l)], cd) by rw [hl, hc])
    rw [hl] at SL HSL HSM ⊢
    rw [hc]
    clear hl hc
    have HNU := hd (nums_impl w2 _ l SL (Nat.le_trans HSL.out (by decide)) (fun x hx => by have := HSM.out x hx; omega) (HSH.out _ K).1)
    clear SL
    go_wp2_with fail
    refine HNU.out.mono ?_
    rintro e w3 ⟨rfl, hb3⟩
    replace K := below_step K hb3
    clear HNU hb3
    go_wp2_with fail
    refine (or_impl _ _).mono ?_
    rintro e w4 ⟨v4, rfl, O4, hb4⟩
    have O5 := O4.base K.size
    replace K := below_step K hb4
    obtain ⟨A4, c4, rfl⟩ := O4.isSlice
    go_wp2_with fail
    go_ret2
    exact exec_same HD.out K O5 HR.out
set_option maxRecDepth 100000 in
set_option maxHeartbeats 8000000 in
theorem exec_shows (w : World) (B g : Nat) (d : TDk) (hD : DeskOwn w B g d) (hp : d.1.size ≤ 1048576) (vW vN : Value) (s1 : ByteArray) (n0 : Int) (hW : Sl w 1 vW eS [⟨#[115, 104, 111, 119, 115]⟩, s1]) (hN : Sl w 1 vN eI [n0]) (hsh : Shop w) :
    Calls Tryz.prog 34 #[.pointer (some ⟨g, 0, none⟩), vW, vN] w (ExecTo B g w (d, [orS (motR d.1 n0).1], (motR d.1 n0).2)) := by
  obtain ⟨bw, ow, cw, rfl, -, -, hw⟩ := hW.strs (Nat.succ_pos _)
  obtain ⟨bn, on, cn, rfl, -, hn⟩ := hN.ints (Nat.succ_pos _)
  have w0 := hw 0 _ rfl
  rw [Nat.add_zero] at w0
  have k0 := hn 0 _ rfl
  rw [Nat.add_zero] at k0
  obtain ⟨v1, v2, ⟨hg, d0, d1, d2, d3⟩, hfr, hBg, O1, O2⟩ := id hD
  clear hfr hBg O2 O1 hg d3 d2 d1
  have HD := hd hD
  have HSH := hd hsh.at_
  have HS := hd (show ∀ W, Below w.heap.size w W → W.cell? ⟨bn, on, none⟩ = some (.int .i64 n0) ∧ W.cell? ⟨g, 0, none⟩ = some (.string d.1) from fun W hb => ⟨cell_below k0 W hb, cell_below d0 W hb⟩)
  have K := Below.refl w.heap.size w
  clear hD hW hN hw hn hsh
  go_enter Tryz.func34, Tryz.ntmps34
  go_wp2_with fail
  clear w0
  first | (go_region_held3 (fun ww => ww.cell? ⟨bn, on, none⟩ = some (.int .i64 n0) ∧ ww.cell? ⟨g, 0, none⟩ = some (.string d.1)) (first | with_reducible exact HS.out _ K | with_reducible exact HS.out _ (Below.drew K)) (first | (go_at_call 71; replace K := Below.drew K; (with_reducible refine (mof_impl _ _ hp n0).mono ?_); rintro e w2 ⟨rfl, hb2⟩; replace K := below_step K hb2; clear hb2))) | fail
  all_goals
    clear k0 d0
    obtain ⟨l, hl⟩ : ∃ l, (motR d.1 n0).1 = l := ⟨_, rfl⟩
    obtain ⟨cd, hc⟩ : ∃ c, (motR d.1 n0).2 = c := ⟨_, rfl⟩
    have HR := hd (show (d, [orS (motR d.1 n0).1], (motR d.1 n0).2) = (d, [orS l], cd) by rw [hl, hc])
    rw [hl, hc]
    clear hl hc
    go_wp2_with fail
    refine (or_impl _ _).mono ?_
    rintro e w4 ⟨v4, rfl, O4, hb4⟩
    have O5 := O4.base K.size
    replace K := below_step K hb4
    obtain ⟨A4, c4, rfl⟩ := O4.isSlice
    go_wp2_with fail
    go_ret2
    exact exec_same HD.out K O5 HR.out
set_option maxRecDepth 100000 in
set_option maxHeartbeats 8000000 in
theorem exec_fewest (w : World) (B g : Nat) (d : TDk) (hD : DeskOwn w B g d) (vW vN : Value) (s1 : ByteArray) (hz : s1.size ≤ 1048576) (hW : Sl w 1 vW eS [⟨#[102, 101, 119, 101, 115, 116]⟩, s1]) (hN : Sl w 1 vN eI []) (hsh : Shop w) :
    Calls Tryz.prog 34 #[.pointer (some ⟨g, 0, none⟩), vW, vN] w (ExecTo B g w (d, [orS (decS (fewR s1).1)], (fewR s1).2)) := by
  obtain ⟨bw, ow, cw, rfl, -, -, hw⟩ := hW.strs (Nat.succ_pos _)
  obtain ⟨bn, cn, rfl⟩ := hN.isSlice
  have w0 := hw 0 _ rfl
  rw [Nat.add_zero] at w0
  have w1 := hw 1 _ rfl
  have HD := hd hD
  have HSH := hd hsh.at_
  have HS := hd (show ∀ W, Below w.heap.size w W → W.cell? ⟨bw, ow + 1, none⟩ = some (.string s1) from fun W hb => cell_below w1 W hb)
  have K := Below.refl w.heap.size w
  clear hD hW hN hw hsh
  have HBD := hd (fewR_bd s1)
  go_enter Tryz.func34, Tryz.ntmps34
  go_wp2_with fail
  refine (few_impl _ s1 hz).mono ?_
  rintro e w2 ⟨rfl, hb2⟩
  replace K := below_step K hb2
  clear hb2 w0 w1
  obtain ⟨l, hl⟩ : ∃ l, (fewR s1).1 = l := ⟨_, rfl⟩
  obtain ⟨cd, hc⟩ : ∃ c, (fewR s1).2 = c := ⟨_, rfl⟩
  have HR := hd (show (d, [orS (decS (fewR s1).1)], (fewR s1).2) = (d, [orS (decS l)], cd) by rw [hl, hc])
  rw [hl] at HBD
  rw [hl, hc]
  clear hl hc
  have HNU := hd (dec_impl w2 l (by have := HBD.out; omega) (HSH.out _ K).1)
  clear HBD
  go_wp2_with fail
  refine HNU.out.mono ?_
  rintro e w3 ⟨rfl, hb3⟩
  replace K := below_step K hb3
  clear HNU hb3
  go_wp2_with fail
  refine (or_impl _ _).mono ?_
  rintro e w4 ⟨v4, rfl, O4, hb4⟩
  have O5 := O4.base K.size
  replace K := below_step K hb4
  obtain ⟨A4, c4, rfl⟩ := O4.isSlice
  go_wp2_with fail
  go_ret2
  exact exec_same HD.out K O5 HR.out
set_option maxRecDepth 100000 in
set_option maxHeartbeats 8000000 in
theorem exec_for (w : World) (B g : Nat) (d : TDk) (hD : DeskOwn w B g d) (vW vN : Value) (s1 s2 : ByteArray) (hz : s1.size ≤ 1048576) (n0 : Int) (hW : Sl w 1 vW eS [⟨#[102, 111, 114]⟩, s1, s2]) (hN : Sl w 1 vN eI [n0]) (hsh : Shop w) :
    Calls Tryz.prog 34 #[.pointer (some ⟨g, 0, none⟩), vW, vN] w (ExecTo B g w (d, [orS (dforR s1 n0).1], (dforR s1 n0).2)) := by
  obtain ⟨bw, ow, cw, rfl, -, -, hw⟩ := hW.strs (Nat.succ_pos _)
  obtain ⟨bn, on, cn, rfl, -, hn⟩ := hN.ints (Nat.succ_pos _)
  have w0 := hw 0 _ rfl
  rw [Nat.add_zero] at w0
  have w1 := hw 1 _ rfl
  have k0 := hn 0 _ rfl
  rw [Nat.add_zero] at k0
  have HD := hd hD
  have HSH := hd hsh.at_
  have HS := hd (show ∀ W, Below w.heap.size w W → W.cell? ⟨bw, ow + 1, none⟩ = some (.string s1) ∧ W.cell? ⟨bn, on, none⟩ = some (.int .i64 n0) from fun W hb => ⟨cell_below w1 W hb, cell_below k0 W hb⟩)
  have K := Below.refl w.heap.size w
  clear hD hW hN hw hn hsh
  go_enter Tryz.func34, Tryz.ntmps34
  go_wp2_with fail
  clear w0
  first | (go_region_held3 (fun ww => ww.cell? ⟨bw, ow + 1, none⟩ = some (.string s1) ∧ ww.cell? ⟨bn, on, none⟩ = some (.int .i64 n0)) (first | with_reducible exact HS.out _ K | with_reducible exact HS.out _ (Below.drew K)) (first | (go_at_call 73; replace K := Below.drew K; (with_reducible refine (dfor_impl _ s1 hz n0).mono ?_); rintro e w2 ⟨rfl, hb2⟩; replace K := below_step K hb2; clear hb2))) | fail
  all_goals
    clear w1 k0
    obtain ⟨l, hl⟩ : ∃ l, (dforR s1 n0).1 = l := ⟨_, rfl⟩
    obtain ⟨cd, hc⟩ : ∃ c, (dforR s1 n0).2 = c := ⟨_, rfl⟩
    have HR := hd (show (d, [orS (dforR s1 n0).1], (dforR s1 n0).2) = (d, [orS l], cd) by rw [hl, hc])
    rw [hl, hc]
    clear hl hc
    go_wp2_with fail
    refine (or_impl _ _).mono ?_
    rintro e w4 ⟨v4, rfl, O4, hb4⟩
    have O5 := O4.base K.size
    replace K := below_step K hb4
    obtain ⟨A4, c4, rfl⟩ := O4.isSlice
    go_wp2_with fail
    go_ret2
    exact exec_same HD.out K O5 HR.out
set_option maxRecDepth 100000 in
set_option maxHeartbeats 8000000 in
theorem exec_shifts (w : World) (B g : Nat) (d : TDk) (hD : DeskOwn w B g d) (vW vN : Value) (s1 : ByteArray) (n0 : Int) (hW : Sl w 1 vW eS [⟨#[115, 104, 105, 102, 116, 115]⟩, s1]) (hN : Sl w 1 vN eI [n0]) (hsh : Shop w) :
    Calls Tryz.prog 34 #[.pointer (some ⟨g, 0, none⟩), vW, vN] w (ExecTo B g w (d, [orS (numsS ⟨#[32]⟩ (leastR d.2.1 n0).1)], (leastR d.2.1 n0).2)) := by
  obtain ⟨bw, ow, cw, rfl, -, -, hw⟩ := hW.strs (Nat.succ_pos _)
  obtain ⟨bn, on, cn, rfl, -, hn⟩ := hN.ints (Nat.succ_pos _)
  have w0 := hw 0 _ rfl
  rw [Nat.add_zero] at w0
  have k0 := hn 0 _ rfl
  rw [Nat.add_zero] at k0
  obtain ⟨v1, v2, ⟨hg, d0, d1, d2, d3⟩, hfr, hBg, O1, O2⟩ := id hD
  have SC := O1.sl eCue_len
  obtain ⟨A1, c1, rfl⟩ := O1.isSlice
  clear hfr hBg O2 hg d3 d2 d0
  clear O1
  have HD := hd hD
  have HSH := hd hsh.at_
  have HS := hd (show ∀ W, Below w.heap.size w W → W.cell? ⟨bn, on, none⟩ = some (.int .i64 n0) ∧ W.cell? ⟨g, 1, none⟩ = some (.slice A1 d.2.1.length c1) from fun W hb => ⟨cell_below k0 W hb, cell_below d1 W hb⟩)
  have K := Below.refl w.heap.size w
  clear hD hW hN hw hn hsh
  have HSL := hd (show (leastR d.2.1 n0).1.length ≤ 6 from (leastR_sh _ _).1)
  have HSM := hd (show ∀ x ∈ (leastR d.2.1 n0).1, 0 ≤ x ∧ x ≤ 6 from (leastR_sh _ _).2)
  have HSC := hd (show ∀ W, Below w.heap.size w W → Sl W 4 (.slice A1 d.2.1.length c1) eCue d.2.1 from fun W hb => SC.below hb)
  clear SC
  go_enter Tryz.func34, Tryz.ntmps34
  go_wp2_with fail
  clear w0
  first | (go_region_held3 (fun ww => ww.cell? ⟨bn, on, none⟩ = some (.int .i64 n0) ∧ ww.cell? ⟨g, 1, none⟩ = some (.slice A1 d.2.1.length c1)) (first | with_reducible exact HS.out _ K | with_reducible exact HS.out _ (Below.drew K)) (first | (go_at_call 76; replace K := Below.drew K; (with_reducible refine (least_impl _ _ _ (HSC.out _ K) n0).mono ?_); rintro e w2 ⟨v2, rfl, O2, hb2⟩; obtain ⟨A2, c2, rfl⟩ := O2.isSlice; replace K := below_step K hb2; clear hb2))) | fail
  all_goals
    clear k0 d1
    have SL := O2.sl eI_len
    clear O2
    obtain ⟨l, hl⟩ : ∃ l, (leastR d.2.1 n0).1 = l := ⟨_, rfl⟩
    obtain ⟨cd, hc⟩ : ∃ c, (leastR d.2.1 n0).2 = c := ⟨_, rfl⟩
    have HR := hd (show (d, [orS (numsS ⟨#[32]⟩ (leastR d.2.1 n0).1)], (leastR d.2.1 n0).2) = (d, [orS (numsS ⟨#[32]⟩ l)], cd) by rw [hl, hc])
    rw [hl] at SL HSL HSM ⊢
    rw [hc]
    clear hl hc
    have HNU := hd (nums_impl w2 _ l SL (Nat.le_trans HSL.out (by decide)) (fun x hx => by have := HSM.out x hx; omega) (HSH.out _ K).1)
    clear SL
    go_wp2_with fail
    refine HNU.out.mono ?_
    rintro e w3 ⟨rfl, hb3⟩
    replace K := below_step K hb3
    clear HNU hb3
    go_wp2_with fail
    refine (or_impl _ _).mono ?_
    rintro e w4 ⟨v4, rfl, O4, hb4⟩
    have O5 := O4.base K.size
    replace K := below_step K hb4
    obtain ⟨A4, c4, rfl⟩ := O4.isSlice
    go_wp2_with fail
    go_ret2
    exact exec_same HD.out K O5 HR.out
set_option maxRecDepth 100000 in
set_option maxHeartbeats 8000000 in
theorem exec_loads (w : World) (B g : Nat) (d : TDk) (hD : DeskOwn w B g d) (vW vN : Value) (s1 s2 : ByteArray) (hz : s1.size ≤ 1048576) (n0 : Int) (hW : Sl w 1 vW eS [⟨#[108, 111, 97, 100, 115]⟩, s1, s2]) (hN : Sl w 1 vN eI [n0]) (hsh : Shop w) :
    Calls Tryz.prog 34 #[.pointer (some ⟨g, 0, none⟩), vW, vN] w (ExecTo B g w (d, [orS (decS (loadR s1 n0).1)], (loadR s1 n0).2)) := by
  obtain ⟨bw, ow, cw, rfl, -, -, hw⟩ := hW.strs (Nat.succ_pos _)
  obtain ⟨bn, on, cn, rfl, -, hn⟩ := hN.ints (Nat.succ_pos _)
  have w0 := hw 0 _ rfl
  rw [Nat.add_zero] at w0
  have w1 := hw 1 _ rfl
  have k0 := hn 0 _ rfl
  rw [Nat.add_zero] at k0
  have HD := hd hD
  have HSH := hd hsh.at_
  have HS := hd (show ∀ W, Below w.heap.size w W → W.cell? ⟨bw, ow + 1, none⟩ = some (.string s1) ∧ W.cell? ⟨bn, on, none⟩ = some (.int .i64 n0) from fun W hb => ⟨cell_below w1 W hb, cell_below k0 W hb⟩)
  have K := Below.refl w.heap.size w
  clear hD hW hN hw hn hsh
  have HBD := hd (loadR_bd s1 n0)
  go_enter Tryz.func34, Tryz.ntmps34
  go_wp2_with fail
  clear w0
  first | (go_region_held3 (fun ww => ww.cell? ⟨bw, ow + 1, none⟩ = some (.string s1) ∧ ww.cell? ⟨bn, on, none⟩ = some (.int .i64 n0)) (first | with_reducible exact HS.out _ K | with_reducible exact HS.out _ (Below.drew K)) (first | (go_at_call 77; replace K := Below.drew K; (with_reducible refine (fewL_impl _ s1 hz n0).mono ?_); rintro e w2 ⟨rfl, hb2⟩; replace K := below_step K hb2; clear hb2))) | fail
  all_goals
    clear w1 k0
    obtain ⟨l, hl⟩ : ∃ l, (loadR s1 n0).1 = l := ⟨_, rfl⟩
    obtain ⟨cd, hc⟩ : ∃ c, (loadR s1 n0).2 = c := ⟨_, rfl⟩
    have HR := hd (show (d, [orS (decS (loadR s1 n0).1)], (loadR s1 n0).2) = (d, [orS (decS l)], cd) by rw [hl, hc])
    rw [hl] at HBD
    rw [hl, hc]
    clear hl hc
    have HNU := hd (dec_impl w2 l (by have := HBD.out; omega) (HSH.out _ K).1)
    clear HBD
    go_wp2_with fail
    refine HNU.out.mono ?_
    rintro e w3 ⟨rfl, hb3⟩
    replace K := below_step K hb3
    clear HNU hb3
    go_wp2_with fail
    refine (or_impl _ _).mono ?_
    rintro e w4 ⟨v4, rfl, O4, hb4⟩
    have O5 := O4.base K.size
    replace K := below_step K hb4
    obtain ⟨A4, c4, rfl⟩ := O4.isSlice
    go_wp2_with fail
    go_ret2
    exact exec_same HD.out K O5 HR.out
set_option maxRecDepth 100000 in
set_option maxHeartbeats 8000000 in
theorem exec_burn (w : World) (B g : Nat) (d : TDk) (hD : DeskOwn w B g d) (vW vN : Value) (s1 s2 s3 s4 : ByteArray) (n0 n1 n2 n3 : Int) (hW : Sl w 1 vW eS [⟨#[98, 117, 114, 110]⟩, s1, s2, s3, s4]) (hN : Sl w 1 vN eI [n0, n1, n2, n3]) (hsh : Shop w) :
    Calls Tryz.prog 34 #[.pointer (some ⟨g, 0, none⟩), vW, vN] w (ExecTo B g w (d, [orS (lampR n0 n1 n2 n3).1], (lampR n0 n1 n2 n3).2)) := by
  obtain ⟨bw, ow, cw, rfl, -, -, hw⟩ := hW.strs (Nat.succ_pos _)
  obtain ⟨bn, on, cn, rfl, -, hn⟩ := hN.ints (Nat.succ_pos _)
  have w0 := hw 0 _ rfl
  rw [Nat.add_zero] at w0
  have k0 := hn 0 _ rfl
  rw [Nat.add_zero] at k0
  have k1 := hn 1 _ rfl
  have k2 := hn 2 _ rfl
  have k3 := hn 3 _ rfl
  have HD := hd hD
  have HSH := hd hsh.at_
  have HS := hd (show ∀ W, Below w.heap.size w W → W.cell? ⟨bn, on, none⟩ = some (.int .i64 n0) ∧ W.cell? ⟨bn, on + 1, none⟩ = some (.int .i64 n1) ∧ W.cell? ⟨bn, on + 2, none⟩ = some (.int .i64 n2) ∧ W.cell? ⟨bn, on + 3, none⟩ = some (.int .i64 n3) from fun W hb => ⟨cell_below k0 W hb, cell_below k1 W hb, cell_below k2 W hb, cell_below k3 W hb⟩)
  have K := Below.refl w.heap.size w
  clear hD hW hN hw hn hsh
  go_enter Tryz.func34, Tryz.ntmps34
  go_wp2_with fail
  clear w0
  first | (go_region_held3 (fun ww => ww.cell? ⟨bn, on, none⟩ = some (.int .i64 n0) ∧ ww.cell? ⟨bn, on + 1, none⟩ = some (.int .i64 n1) ∧ ww.cell? ⟨bn, on + 2, none⟩ = some (.int .i64 n2) ∧ ww.cell? ⟨bn, on + 3, none⟩ = some (.int .i64 n3)) (first | with_reducible exact HS.out _ K | with_reducible exact HS.out _ (Below.drew K)) (first | (go_at_call 78; replace K := Below.drew K; (with_reducible refine (lamp_impl _ n0 n1 n2 n3).mono ?_); rintro e w2 ⟨rfl, hb2⟩; replace K := below_step K hb2; clear hb2))) | fail
  all_goals
    clear k0 k1 k2 k3
    obtain ⟨l, hl⟩ : ∃ l, (lampR n0 n1 n2 n3).1 = l := ⟨_, rfl⟩
    obtain ⟨cd, hc⟩ : ∃ c, (lampR n0 n1 n2 n3).2 = c := ⟨_, rfl⟩
    have HR := hd (show (d, [orS (lampR n0 n1 n2 n3).1], (lampR n0 n1 n2 n3).2) = (d, [orS l], cd) by rw [hl, hc])
    rw [hl, hc]
    clear hl hc
    go_wp2_with fail
    refine (or_impl _ _).mono ?_
    rintro e w4 ⟨v4, rfl, O4, hb4⟩
    have O5 := O4.base K.size
    replace K := below_step K hb4
    obtain ⟨A4, c4, rfl⟩ := O4.isSlice
    go_wp2_with fail
    go_ret2
    exact exec_same HD.out K O5 HR.out
end Go.Proofs.YtgcodjkjdfahdaaGreatDoor
