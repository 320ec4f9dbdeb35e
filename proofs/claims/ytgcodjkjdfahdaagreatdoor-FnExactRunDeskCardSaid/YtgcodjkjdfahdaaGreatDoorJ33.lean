/- Texts of the claim, joined: each says at its head what it proves. No condition. -/
import Derived.Test.YtgcodjkjdfahdaaGreatDoorJ16
import Derived.Test.YtgcodjkjdfahdaaGreatDoorJ12
import Derived.Test.YtgcodjkjdfahdaaGreatDoorJ24
import Derived.Test.YtgcodjkjdfahdaaGreatDoorJ29
import Derived.Test.YtgcodjkjdfahdaaGreatDoorJ28
import Derived.Test.YtgcodjkjdfahdaaGreatDoorJ30
import Derived.Test.YtgcodjkjdfahdaaGreatDoorJ32
import Derived.Test.YtgcodjkjdfahdaaGreatDoorJ17
import Derived.Test.YtgcodjkjdfahdaaGreatDoorJ23
import Derived.Test.YtgcodjkjdfahdaaGreatDoorJ21
import Derived.Deep.RegionHeld3
/- What a command does to a desk: words of it. No condition. -/
namespace Go.Proofs.YtgcodjkjdfahdaaGreatDoor
open Go Go.RowKit Go.ChangeShapes Go.WideShapes
set_option linter.unusedSimpArgs false
set_option linter.unusedVariables false
/-- a desk's values -/
abbrev TDk := ByteArray × List TCue × List TTitle × ByteArray
def okD (d : TDk) : Bool := okDeskB d.1 d.2.1 d.2.2.1 d.2.2.2
/-- a desk in a block of its own: nothing of it lies below B -/
def DeskOwn (W : World) (B g : Nat) (d : TDk) : Prop := ∃ v1 v2, DeskAt W g d.1 v1 v2 d.2.2.2 ∧ (∀ i, W.frozen? ⟨g, i, none⟩ = false) ∧ B ≤ g ∧ Own W B 92 4 v1 eCue d.2.1 ∧ Own W B 95 4 v2 eTitle d.2.2.1 ∧ (∀ k, v1.ownBlock = some k → k < g) ∧ (∀ k, v2.ownBlock = some k → k < g) ∧ (v2.ownBlock = none ∨ v2.ownBlock ≠ v1.ownBlock)
theorem DeskOwn.below {W W' : World} {B g : Nat} {d : TDk} (h : DeskOwn W B g d) (hb : Below W.heap.size W W') : DeskOwn W' B g d := by
  obtain ⟨v1, v2, h1, h2, h3, h4, h5⟩ := h
  exact ⟨v1, v2, h1.below hb, fun i => (hb.frozen (p := ⟨g, i, none⟩) h1.1).trans (h2 i), h3, h4.below hb (Nat.le_refl _), h5.1.below hb (Nat.le_refl _), h5.2⟩
/-- what a command leaves: a desk, lines, a code -/
abbrev TRes := TDk × List ByteArray × Int
def ExecTo (B g : Nat) (w : World) (r : TRes) (e : Ending) (w' : World) : Prop :=
  ∃ v, e = .returned (.tuple #[v, .int .i64 r.2.2]) ∧ Own w' B 9 1 v eS r.2.1 ∧ Below B w w' ∧ (r.2.2 = 0 → ∃ v1 v2, DeskAt w' g r.1.1 v1 v2 r.1.2.2.2 ∧ Own w' B 92 4 v1 eCue r.1.2.1 ∧ Own w' B 95 4 v2 eTitle r.1.2.2.1)
/-- nothing is written to the desk -/
theorem exec_same {B g : Nat} {w w' : World} {d : TDk} {s : ByteArray} {c : Int} {v : Value} (hD : DeskOwn w B g d) (hb : Below w.heap.size w w') (ho : Own w' w.heap.size 9 1 v eS [s]) {r : TRes} (hr : r = (d, [s], c)) : ExecTo B g w r (.returned (.tuple #[v, .int .i64 c])) w' := by
  subst hr
  obtain ⟨v1, v2, h1, h2, h3, h4, h5⟩ := id hD
  have hB : B ≤ w.heap.size := Nat.le_trans h3 (Nat.le_of_lt h1.1)
  exact ⟨v, rfl, ho.base hB, hb.mono hB, fun _ => ⟨v1, v2, h1.below hb, h4.below hb (Nat.le_refl _), h5.1.below hb (Nat.le_refl _)⟩⟩
theorem exec_err {B g : Nat} {w w' : World} {d : TDk} {c : Int} (hb : Below B w w') (hc : c ≠ 0) {r : TRes} (hr : r = (d, [], c)) : ExecTo B g w r (.returned (.tuple #[.slice none 0 0, .int .i64 c])) w' := by
  subst hr
  exact ⟨_, rfl, Own.nil _ _ _ _ _, hb, fun h => absurd h hc⟩
theorem exec_to {B g : Nat} {w w' : World} {d : TDk} {L : List ByteArray} {c : Int} {v v1 v2 : Value} (hb : Below B w w') (ho : Own w' B 9 1 v eS L) (h1 : DeskAt w' g d.1 v1 v2 d.2.2.2) (h2 : Own w' B 92 4 v1 eCue d.2.1) (h3 : Own w' B 95 4 v2 eTitle d.2.2.1) {r : TRes} (hr : r = (d, L, c)) : ExecTo B g w r (.returned (.tuple #[v, .int .i64 c])) w' := by
  subst hr
  exact ⟨v, rfl, ho, hb, fun _ => ⟨v1, v2, h1, h2, h3⟩⟩
theorem neLt {v : Value} {g : Nat} (h : ∀ k, v.ownBlock = some k → k < g) : v.ownBlock = none ∨ v.ownBlock ≠ some g := .inr fun e => Nat.lt_irrefl _ (h g e)
theorem desk_set0 {W : World} {g : Nat} {p q : ByteArray} {v1 v2 : Value} (h : DeskAt W g p v1 v2 q) (hf : ∀ i, W.frozen? ⟨g, i, none⟩ = false) (x : ByteArray) : DeskAt (W.setCell ⟨g, 0, none⟩ (.string x)) g x v1 v2 q := by
  obtain ⟨h0, c0, c1, c2, c3⟩ := h
  have f0 := hf 0
  refine ⟨Nat.lt_of_lt_of_le h0 ((Below.refl 0 W).setCell (p := ⟨g, 0, none⟩) (Nat.zero_le _) _).size, ?_, ?_, ?_, ?_⟩
  all_goals go_simp
theorem desk_set1 {W : World} {g : Nat} {p q : ByteArray} {v1 v2 : Value} (h : DeskAt W g p v1 v2 q) (hf : ∀ i, W.frozen? ⟨g, i, none⟩ = false) (x : Value) (hx : x.oneCell' = true) : DeskAt (W.setCell ⟨g, 1, none⟩ x) g p x v2 q := by
  obtain ⟨h0, c0, c1, c2, c3⟩ := h
  have f0 := hf 1
  refine ⟨Nat.lt_of_lt_of_le h0 ((Below.refl 0 W).setCell (p := ⟨g, 1, none⟩) (Nat.zero_le _) _).size, ?_, ?_, ?_, ?_⟩
  all_goals go_simp
theorem desk_set2 {W : World} {g : Nat} {p q : ByteArray} {v1 v2 : Value} (h : DeskAt W g p v1 v2 q) (hf : ∀ i, W.frozen? ⟨g, i, none⟩ = false) (x : Value) (hx : x.oneCell' = true) : DeskAt (W.setCell ⟨g, 2, none⟩ x) g p v1 x q := by
  obtain ⟨h0, c0, c1, c2, c3⟩ := h
  have f0 := hf 2
  refine ⟨Nat.lt_of_lt_of_le h0 ((Below.refl 0 W).setCell (p := ⟨g, 2, none⟩) (Nat.zero_le _) _).size, ?_, ?_, ?_, ?_⟩
  all_goals go_simp
theorem desk_set3 {W : World} {g : Nat} {p q : ByteArray} {v1 v2 : Value} (h : DeskAt W g p v1 v2 q) (hf : ∀ i, W.frozen? ⟨g, i, none⟩ = false) (x : ByteArray) : DeskAt (W.setCell ⟨g, 3, none⟩ (.string x)) g p v1 v2 x := by
  obtain ⟨h0, c0, c1, c2, c3⟩ := h
  have f0 := hf 3
  refine ⟨Nat.lt_of_lt_of_le h0 ((Below.refl 0 W).setCell (p := ⟨g, 3, none⟩) (Nat.zero_le _) _).size, ?_, ?_, ?_, ?_⟩
  all_goals go_simp
theorem own_set {α : Type} {W : World} {B E k g : Nat} {v : Value} {enc : α → List Value} {l : List α} (h : Own W B E k v enc l) (hne : ∀ k, v.ownBlock = some k → k < g) (i : Nat) (x : Value) : Own (W.setCell ⟨g, i, none⟩ x) B E k v enc l :=
  h.grown (grownBy_set W ⟨g, i, none⟩ x) (neLt hne)
theorem Sl.strs {w : World} {v : Value} {L : List ByteArray} (h : Sl w 1 v eS L) (h0 : 0 < L.length) : ∃ b o c, v = .slice (some ⟨b, o, none⟩) L.length c ∧ b < w.heap.size ∧ L.length ≤ c ∧ ∀ i x, L[i]? = some x → w.cell? ⟨b, o + i, none⟩ = some (.string x) := by
  obtain ⟨h1, A, c, rfl, hc, -, h2⟩ := h
  obtain ⟨b, o, hA, hb, -⟩ := h2 0 _ (List.getElem?_eq_getElem h0)
  subst hA
  refine ⟨b, o, c, rfl, hb, hc, fun i x hx => ?_⟩
  obtain ⟨b', o', hA, -, h3⟩ := h2 i x hx
  injection hA with hA
  injection hA with e1 e2 _
  subst e1
  subst e2
  have h4 := h3 0 _ (show (eS x)[0]? = some (.string x) from rfl)
  rw [Nat.mul_one, Nat.add_zero] at h4
  exact h4
theorem Sl.ints {w : World} {v : Value} {L : List Int} (h : Sl w 1 v eI L) (h0 : 0 < L.length) : ∃ b o c, v = .slice (some ⟨b, o, none⟩) L.length c ∧ b < w.heap.size ∧ ∀ i x, L[i]? = some x → w.cell? ⟨b, o + i, none⟩ = some (.int .i64 x) := by
  obtain ⟨h1, A, c, rfl, -, -, h2⟩ := h
  obtain ⟨b, o, hA, hb, -⟩ := h2 0 _ (List.getElem?_eq_getElem h0)
  subst hA
  refine ⟨b, o, c, rfl, hb, fun i x hx => ?_⟩
  obtain ⟨b', o', hA, -, h3⟩ := h2 i x hx
  injection hA with hA
  injection hA with e1 e2 _
  subst e1
  subst e2
  have h4 := h3 0 _ (show (eI x)[0]? = some (.int .i64 x) from rfl)
  rw [Nat.mul_one, Nat.add_zero] at h4
  exact h4
theorem cell_below {w : World} {p : Addr} {v : Value} (h : w.cell? p = some v) : ∀ W, Below w.heap.size w W → W.cell? p = some v := fun W hb => (hb.cell (World.block_lt_of_cell? w p h)).trans h
theorem Shop.at_ {w : World} (h : Shop w) : ∀ W, Below w.heap.size w W → Shop W := fun W hb => h.below hb
/-- the tables lie below B -/
def ShopB (B : Nat) (w : World) : Prop := ∃ w0, Shop w0 ∧ w0.heap.size ≤ B ∧ Below w0.heap.size w0 w
theorem ShopB.shop {B : Nat} {w : World} (h : ShopB B w) : Shop w := by
  obtain ⟨w0, h1, -, h3⟩ := h
  exact h1.below h3
theorem ShopB.keep {B : Nat} {w W : World} (h : ShopB B w) (hb : Below B w W) : ShopB B W := by
  obtain ⟨w0, h1, h2, h3⟩ := h
  exact ⟨w0, h1, h2, h3.trans (hb.mono h2)⟩
end Go.Proofs.YtgcodjkjdfahdaaGreatDoor

/- A desk in new memory: the program's function. No condition. -/
namespace Go.Proofs.YtgcodjkjdfahdaaGreatDoor
open Go Go.RowKit Go.ChangeShapes Go.WideShapes
set_option linter.unusedSimpArgs false
set_option linter.unusedVariables false
theorem info_TitleK : (Tryz.prog.info? 95).map (fun i => (i.zero, i.size, i.bytes)) = some (some (.agg #[.int .i64 0, .string ByteArray.empty, .int .i64 0, .int .i64 0]), 4, 40) := by kernel_rfl
set_option maxRecDepth 100000 in
set_option maxHeartbeats 1000000 in
theorem clone_T (w : World) (v : Value) (l : List TTitle) (h : Sl w 4 v eTitle l) (hl : l.length ≤ 1048576) :
    Calls Tryz.prog 64 #[v] w (GivesOwn w 95 4 eTitle l) := by
  obtain ⟨-, A, c, rfl, -, -, hA⟩ := id h
  obtain ⟨i0, hi, hz0, hz1, hz2⟩ := info_parts info_TitleK
  have q : ∀ (w : World) (a : Option Addr) (n c n' c' : Nat), (binOp .eql 27 (.slice a n c) (.slice none n' c')).run Tryz.prog w = .ok (.bool a.isNone) w := fun w a n c n' c' => Go.Lib.run_eql_slice_nil w _ _ a n c n' c' Tryz.underlying27
  rcases A with _ | ad
  · have hnil : l = [] := by
      rcases l with _ | ⟨y, l⟩
      · rfl
      · obtain ⟨b, o, he, -⟩ := hA 0 y rfl
        cases he
    subst hnil
    go_enter Tryz.func64, Tryz.ntmps64
    go_wp2_with fail
    go_ret
    exact ⟨_, rfl, Own.nil _ _ _ _ _, Below.refl _ _⟩
  · clear hA
    go_enter Tryz.func64, Tryz.ntmps64
    go_wp2_with (at_builtin; refine wpList_append_sl _ rfl _ _ 27 rfl i0 (.agg #[.int .i64 0, .string ByteArray.empty, .int .i64 0, .int .i64 0]) 40 Tryz.underlying27 hi hz0 hz1 hz2 rfl (by decide) eTitle_len (by rintro ⟨a, b, c, d⟩ u hu; simp [eTitle] at hu; rcases hu with rfl | rfl | rfl | rfl <;> rfl) _ [] rfl (Own.made0 w w.heap.size 95 4 eTitle (Nat.le_refl _)) _ l rfl (h.alloc _) (by unfold maxLen; simp; omega) (by simp; omega) (by simp) ?_)
    intro v' w1 hown hgr
    have hbel := ((Below.refl w.heap.size w).alloc (Nat.le_refl _) (.cells #[] 95)).grown hgr (by simp) (by intro g hg; simp [Value.ownBlock] at hg; omega)
    go_wp2_with fail
    go_ret
    exact ⟨_, rfl, by simpa using hown, hbel⟩
theorem desk_set {W : World} {h : Nat} {z0 z1 z2 z3 : Value} (p q : ByteArray) (v1 v2 : Value) (k1 : v1.oneCell' = true) (k2 : v2.oneCell' = true) (h0 : h < W.heap.size) (c0 : W.cell? ⟨h, 0, none⟩ = some z0) (c1 : W.cell? ⟨h, 1, none⟩ = some z1) (c2 : W.cell? ⟨h, 2, none⟩ = some z2) (c3 : W.cell? ⟨h, 3, none⟩ = some z3) (f : ∀ i, W.frozen? ⟨h, i, none⟩ = false) :
    DeskAt ((((W.setCell ⟨h, 0, none⟩ (.string p)).setCell ⟨h, 1, none⟩ v1).setCell ⟨h, 2, none⟩ v2).setCell ⟨h, 3, none⟩ (.string q)) h p v1 v2 q := by
  have f0 := f 0
  have f1 := f 1
  have f2 := f 2
  have f3 := f 3
  refine ⟨Nat.lt_of_lt_of_le h0 (((((Below.refl 0 W).setCell (p := ⟨h, 0, none⟩) (Nat.zero_le _) (.string p)).setCell (p := ⟨h, 1, none⟩) (Nat.zero_le _) v1).setCell (p := ⟨h, 2, none⟩) (Nat.zero_le _) v2).setCell (p := ⟨h, 3, none⟩) (Nat.zero_le _) (.string q)).size, ?_, ?_, ?_, ?_⟩
  all_goals go_simp
theorem desk_setB {B h : Nat} {w W : World} (hb : Below B w W) (hB : B ≤ h) (a b c d : Value) : Below B w ((((W.setCell ⟨h, 0, none⟩ a).setCell ⟨h, 1, none⟩ b).setCell ⟨h, 2, none⟩ c).setCell ⟨h, 3, none⟩ d) :=
  (((hb.setCell (p := ⟨h, 0, none⟩) hB _).setCell (p := ⟨h, 1, none⟩) hB _).setCell (p := ⟨h, 2, none⟩) hB _).setCell (p := ⟨h, 3, none⟩) hB _
theorem own_set4 {α : Type} {W : World} {B E k h : Nat} {v : Value} {enc : α → List Value} {l : List α} (H : Own W B E k v enc l) (hne : v.ownBlock = none ∨ v.ownBlock ≠ some h) (a b c d : Value) : Own ((((W.setCell ⟨h, 0, none⟩ a).setCell ⟨h, 1, none⟩ b).setCell ⟨h, 2, none⟩ c).setCell ⟨h, 3, none⟩ d) B E k v enc l :=
  (((H.grown (grownBy_set W ⟨h, 0, none⟩ a) hne).grown (grownBy_set _ ⟨h, 1, none⟩ b) hne).grown (grownBy_set _ ⟨h, 2, none⟩ c) hne).grown (grownBy_set _ ⟨h, 3, none⟩ d) hne
theorem set4_other (W : World) {h b : Nat} (hne : b ≠ h) (x0 x1 x2 x3 : Value) : ((((W.setCell ⟨h, 0, none⟩ x0).setCell ⟨h, 1, none⟩ x1).setCell ⟨h, 2, none⟩ x2).setCell ⟨h, 3, none⟩ x3).heap[b]? = W.heap[b]? := by
  rw [heap_setCell_other _ _ _ _ (by first | exact fun e => hne e | exact fun e => hne e.symm), heap_setCell_other _ _ _ _ (by first | exact fun e => hne e | exact fun e => hne e.symm), heap_setCell_other _ _ _ _ (by first | exact fun e => hne e | exact fun e => hne e.symm), heap_setCell_other _ _ _ _ (by first | exact fun e => hne e | exact fun e => hne e.symm)]
/-- what a copy gives -/
def CopyD (w : World) (d : TDk) (e : Ending) (w' : World) : Prop := ∃ u1 u2, e = .returned (.agg #[.string d.1, u1, u2, .string d.2.2.2]) ∧ Own w' w.heap.size 92 4 u1 eCue d.2.1 ∧ Own w' w.heap.size 95 4 u2 eTitle d.2.2.1 ∧ (u2.ownBlock = none ∨ u2.ownBlock ≠ u1.ownBlock) ∧ Below w.heap.size w w'
set_option maxRecDepth 100000 in
set_option maxHeartbeats 8000000 in
theorem copy_impl (w : World) (d : TDk) (v1 v2 : Value) (hC : Sl w 4 v1 eCue d.2.1) (hT : Sl w 4 v2 eTitle d.2.2.1) (n1 : d.2.1.length ≤ 1048576) (n2 : d.2.2.1.length ≤ 1048576) :
    Calls Tryz.prog 31 #[.agg #[.string d.1, v1, v2, .string d.2.2.2]] w (CopyD w d) := by
  obtain ⟨A1, c1, rfl⟩ := hC.isSlice
  obtain ⟨A2, c2, rfl⟩ := hT.isSlice
  have D0 := desk_new w d.1 (.slice A1 d.2.1.length c1) (.slice A2 d.2.2.1.length c2) d.2.2.2 29
  have B0 := (Below.refl w.heap.size w).alloc (Nat.le_refl _) (.cells #[.string d.1, .slice A1 d.2.1.length c1, .slice A2 d.2.2.1.length c2, .string d.2.2.2] 29)
  have D1 := desk_new (w.alloc (.cells #[.string d.1, .slice A1 d.2.1.length c1, .slice A2 d.2.2.1.length c2, .string d.2.2.2] 29)) ⟨#[]⟩ (.slice none 0 0) (.slice none 0 0) ⟨#[]⟩ 29
  have hz1 : (w.alloc (.cells #[.string d.1, .slice A1 d.2.1.length c1, .slice A2 d.2.2.1.length c2, .string d.2.2.2] 29)).heap.size = w.heap.size + 1 := by simp
  have F1 : ∀ i, ((w.alloc (.cells #[.string d.1, .slice A1 d.2.1.length c1, .slice A2 d.2.2.1.length c2, .string d.2.2.2] 29)).alloc (.cells #[.string ⟨#[]⟩, .slice none 0 0, .slice none 0 0, .string ⟨#[]⟩] 29)).frozen? ⟨w.heap.size + 1, i, none⟩ = false := fun i => by
    have := heap_alloc_new (w.alloc (.cells #[.string d.1, .slice A1 d.2.1.length c1, .slice A2 d.2.2.1.length c2, .string d.2.2.2] 29)) (.cells #[.string ⟨#[]⟩, .slice none 0 0, .slice none 0 0, .string ⟨#[]⟩] 29)
    rw [hz1] at this
    exact free2 this i
  rw [hz1] at D1
  have D2 := D0.below ((Below.refl _ _).alloc (Nat.le_refl _) (.cells #[.string ⟨#[]⟩, .slice none 0 0, .slice none 0 0, .string ⟨#[]⟩] 29))
  have B1 := B0.alloc B0.size (.cells #[.string ⟨#[]⟩, .slice none 0 0, .slice none 0 0, .string ⟨#[]⟩] 29)
  clear D0 B0 hz1
  go_enter Tryz.func31, Tryz.ntmps31
  go_wp2_with fail
  generalize (w.alloc (.cells #[.string d.1, .slice A1 d.2.1.length c1, .slice A2 d.2.2.1.length c2, .string d.2.2.2] 29)).alloc (.cells #[.string ⟨#[]⟩, .slice none 0 0, .slice none 0 0, .string ⟨#[]⟩] 29) = W at D1 F1 D2 B1 ⊢
  have HC := hd (show ∀ ww, Below W.heap.size W ww → Sl ww 4 (.slice A1 d.2.1.length c1) eCue d.2.1 from fun ww K => (hC.below B1).below K)
  have HT := hd (show ∀ ww, Below W.heap.size W ww → Sl ww 4 (.slice A2 d.2.2.1.length c2) eTitle d.2.2.1 from fun ww K => (hT.below B1).below K)
  obtain ⟨-, e0, e1, e2, e3⟩ := D2
  have HS := hd (show ∀ ww, Below W.heap.size W ww → ww.cell? ⟨w.heap.size, 0, none⟩ = some (.string d.1) ∧ ww.cell? ⟨w.heap.size, 1, none⟩ = some (.slice A1 d.2.1.length c1) ∧ ww.cell? ⟨w.heap.size, 2, none⟩ = some (.slice A2 d.2.2.1.length c2) ∧ ww.cell? ⟨w.heap.size, 3, none⟩ = some (.string d.2.2.2) from fun ww K => ⟨cell_below e0 ww K, cell_below e1 ww K, cell_below e2 ww K, cell_below e3 ww K⟩)
  have HX := hd (show ∀ ww, Below W.heap.size W ww → DeskAt ww (w.heap.size + 1) ⟨#[]⟩ (.slice none 0 0) (.slice none 0 0) ⟨#[]⟩ ∧ ∀ i, ww.frozen? ⟨w.heap.size + 1, i, none⟩ = false from fun ww K => ⟨D1.below K, fun i => (K.frozen (p := ⟨w.heap.size + 1, i, none⟩) D1.1).trans (F1 i)⟩)
  have hW1 := D1.1
  have HPZ := hd (show ∀ ww : World, (ww.cell? ⟨w.heap.size, 0, none⟩ = some (.string d.1) ∧ ww.cell? ⟨w.heap.size, 1, none⟩ = some (.slice A1 d.2.1.length c1) ∧ ww.cell? ⟨w.heap.size, 2, none⟩ = some (.slice A2 d.2.2.1.length c2) ∧ ww.cell? ⟨w.heap.size, 3, none⟩ = some (.string d.2.2.2)) → ∀ x0 x1 x2 x3 : Value, ((((ww.setCell ⟨w.heap.size + 1, 0, none⟩ x0).setCell ⟨w.heap.size + 1, 1, none⟩ x1).setCell ⟨w.heap.size + 1, 2, none⟩ x2).setCell ⟨w.heap.size + 1, 3, none⟩ x3).cell? ⟨w.heap.size, 0, none⟩ = some (.string d.1) ∧ ((((ww.setCell ⟨w.heap.size + 1, 0, none⟩ x0).setCell ⟨w.heap.size + 1, 1, none⟩ x1).setCell ⟨w.heap.size + 1, 2, none⟩ x2).setCell ⟨w.heap.size + 1, 3, none⟩ x3).cell? ⟨w.heap.size, 1, none⟩ = some (.slice A1 d.2.1.length c1) ∧ ((((ww.setCell ⟨w.heap.size + 1, 0, none⟩ x0).setCell ⟨w.heap.size + 1, 1, none⟩ x1).setCell ⟨w.heap.size + 1, 2, none⟩ x2).setCell ⟨w.heap.size + 1, 3, none⟩ x3).cell? ⟨w.heap.size, 2, none⟩ = some (.slice A2 d.2.2.1.length c2) ∧ ((((ww.setCell ⟨w.heap.size + 1, 0, none⟩ x0).setCell ⟨w.heap.size + 1, 1, none⟩ x1).setCell ⟨w.heap.size + 1, 2, none⟩ x2).setCell ⟨w.heap.size + 1, 3, none⟩ x3).cell? ⟨w.heap.size, 3, none⟩ = some (.string d.2.2.2) from fun ww h x0 x1 x2 x3 => by
    have hb := set4_other ww (h := w.heap.size + 1) (b := w.heap.size) (by omega) x0 x1 x2 x3
    exact ⟨(World.cell?_of_block (w := ww) (a := ⟨w.heap.size, 0, none⟩) hb).trans h.1, (World.cell?_of_block (w := ww) (a := ⟨w.heap.size, 1, none⟩) hb).trans h.2.1, (World.cell?_of_block (w := ww) (a := ⟨w.heap.size, 2, none⟩) hb).trans h.2.2.1, (World.cell?_of_block (w := ww) (a := ⟨w.heap.size, 3, none⟩) hb).trans h.2.2.2⟩)
  have K := Below.refl W.heap.size W
  clear hC hT e0 e1 e2 e3 D1 F1
  go_region_held3 (fun ww => ww.cell? ⟨w.heap.size, 0, none⟩ = some (.string d.1) ∧ ww.cell? ⟨w.heap.size, 1, none⟩ = some (.slice A1 d.2.1.length c1) ∧ ww.cell? ⟨w.heap.size, 2, none⟩ = some (.slice A2 d.2.2.1.length c2) ∧ ww.cell? ⟨w.heap.size, 3, none⟩ = some (.string d.2.2.2)) (first | with_reducible exact HS.out _ K | with_reducible exact HS.out _ (Below.drew K) | with_reducible assumption)
    (first | (go_at_call 63; replace K := Below.drew K; (with_reducible refine (clone_Q _ _ _ (HC.out _ K) n1).mono ?_); rintro e w5 ⟨u1, rfl, O1, hb5⟩; obtain ⟨A5, c5, rfl⟩ := O1.isSlice; have O1b := O1.base K.size; replace K := below_step K hb5; clear hb5 O1) | (go_at_call 64; (with_reducible refine (clone_T _ _ _ (HT.out _ K) n2).mono ?_); rintro e w6 ⟨u2, rfl, O2, hb6⟩; obtain ⟨A6, c6, rfl⟩ := O2.isSlice; have O1c := O1b.below hb6 (Nat.le_refl _); have O2b := O2.base K.size; have hap : ∀ k, (.slice A6 d.2.2.1.length c6 : Value).ownBlock = some k → w5.heap.size ≤ k := fun k e => (O2.lt k e).1; have hal : ∀ k, (.slice A5 d.2.1.length c5 : Value).ownBlock = some k → k < w5.heap.size := fun k e => (O1b.lt k e).2; replace K := below_step K hb6; obtain ⟨⟨x0, x1, x2, x3, x4⟩, XF⟩ := HX.out _ K; have xf0 := XF 0; have xf1 := XF 1; have xf2 := XF 2; have xf3 := XF 3; have DSC := desk_set d.1 d.2.2.2 (.slice A5 d.2.1.length c5) (.slice A6 d.2.2.1.length c6) rfl rfl x0 x1 x2 x3 x4 XF; have SZ := HPZ.out w6 (HS.out _ K) (.string d.1) (.slice A5 d.2.1.length c5) (.slice A6 d.2.2.1.length c6) (.string d.2.2.2); clear hb6 O2))
  all_goals
    have ne1 : ∀ v : Value, (∀ k, v.ownBlock = some k → W.heap.size ≤ k) → (v.ownBlock = none ∨ v.ownBlock ≠ some (w.heap.size + 1)) := fun v hv => .inr fun e => by have := hv _ e; omega
    have P1 := own_set4 O1c (ne1 _ (fun k e => (O1c.lt k e).1)) (.string d.1) (.slice A5 d.2.1.length c5) (.slice A6 d.2.2.1.length c6) (.string d.2.2.2)
    have P2 := own_set4 O2b (ne1 _ (fun k e => (O2b.lt k e).1)) (.string d.1) (.slice A5 d.2.1.length c5) (.slice A6 d.2.2.1.length c6) (.string d.2.2.2)
    have BZ := desk_setB (below_step B1 K) (Nat.le_succ _) (.string d.1) (.slice A5 d.2.1.length c5) (.slice A6 d.2.2.1.length c6) (.string d.2.2.2)
    clear SZ HPZ HX HS HC HT x0 x1 x2 x3 x4 XF xf0 xf1 xf2 xf3 O1b O1c O2b ne1
    generalize ((((w6.setCell ⟨w.heap.size + 1, 0, none⟩ (.string d.1)).setCell ⟨w.heap.size + 1, 1, none⟩ (.slice A5 d.2.1.length c5)).setCell ⟨w.heap.size + 1, 2, none⟩ (.slice A6 d.2.2.1.length c6)).setCell ⟨w.heap.size + 1, 3, none⟩ (.string d.2.2.2)) = Z at DSC P1 P2 BZ ⊢
    obtain ⟨-, e0, e1, e2, e3⟩ := DSC
    go_wp2_with fail
    refine bodyPost_ret (v := .agg #[.string d.1, .slice A5 d.2.1.length c5, .slice A6 d.2.2.1.length c6, .string d.2.2.2]) (by simp [results, Tryz.results31, go_sem, e0, e1, e2, e3]) rfl ⟨_, _, rfl, P1.base B1.size, P2.base B1.size, ?_, BZ⟩
    rcases h : (.slice A6 d.2.2.1.length c6 : Value).ownBlock with _ | k
    · exact .inl rfl
    · refine .inr fun e => ?_
      have := hap k h
      have := hal k e.symm
      omega
end Go.Proofs.YtgcodjkjdfahdaaGreatDoor

/- The command 'disc' and the command 'image': the program's execute. No condition but that the tables lie as they are laid. -/
namespace Go.Proofs.YtgcodjkjdfahdaaGreatDoor
open Go Go.RowKit Go.ChangeShapes Go.WideShapes
set_option linter.unusedSimpArgs false
set_option linter.unusedVariables false
def discX (d : TDk) (s : ByteArray) : TRes := if okMotB s = true then ((s, d.2.1, d.2.2.1, d.2.2.2), [orS (textD s d.2.1 d.2.2.1 d.2.2.2)], 0) else (d, [], 1)
set_option maxRecDepth 100000 in
set_option maxHeartbeats 8000000 in
theorem exec_disc (w : World) (B g : Nat) (d : TDk) (hD : DeskOwn w B g d) (hq : d.2.2.2.size ≤ 1048576) (vW vN : Value) (s1 : ByteArray) (hz : s1.size ≤ 1048576) (hW : Sl w 1 vW eS [⟨#[100, 105, 115, 99]⟩, s1]) (hN : Sl w 1 vN eI []) (hsh : ShopB B w) :
    Calls Tryz.prog 34 #[.pointer (some ⟨g, 0, none⟩), vW, vN] w (ExecTo B g w (discX d s1)) := by
  obtain ⟨bw, ow, cw, rfl, -, -, hw⟩ := hW.strs (Nat.succ_pos _)
  obtain ⟨bn, cn, rfl⟩ := hN.isSlice
  have w0 := hw 0 _ rfl
  rw [Nat.add_zero] at w0
  have w1 := hw 1 _ rfl
  obtain ⟨v1, v2, DA, hfr, hBg, O1, O2, a1, a2, -⟩ := id hD
  have hB : B ≤ w.heap.size := Nat.le_trans hBg (Nat.le_of_lt DA.1)
  clear hD hW hN hw
  rcases ho : okMotB s1 with _ | _
  · have HR := hd (show discX d s1 = (d, [], 1) by unfold discX; rw [ho]; rfl)
    clear DA hfr O1 O2 a1 a2
    go_enter Tryz.func34, Tryz.ntmps34
    go_wp2_with fail
    refine (mot_impl _ _ hz).mono ?_
    rintro e w' ⟨rfl, hw⟩
    have hw := hw.symm
    subst hw
    rw [ho]
    go_wp2_with fail
    go_ret2
    exact exec_err (Below.refl _ _) (by decide) HR.out
  · have HR := hd (show discX d s1 = ((s1, d.2.1, d.2.2.1, d.2.2.2), [orS (textD s1 d.2.1 d.2.2.1 d.2.2.2)], 0) by unfold discX; rw [if_pos ho])
    have DZ := desk_set0 DA hfr s1
    have P1 := own_set O1 a1 0 (.string s1)
    have P2 := own_set O2 a2 0 (.string s1)
    have KB : Below B w (w.setCell ⟨g, 0, none⟩ (.string s1)) := (Below.refl B w).setCell (p := ⟨g, 0, none⟩) hBg _
    obtain ⟨A1, c1, rfl⟩ := O1.isSlice
    obtain ⟨A2, c2, rfl⟩ := O2.isSlice
    have HT := hd (fun W (hb : Below B w W) => (hsh.keep hb).shop)
    obtain ⟨hg, d0, d1, d2, d3⟩ := DA
    have f0 := hfr 0
    clear hfr a1 a2 O1 O2
    go_enter Tryz.func34, Tryz.ntmps34
    go_wp2_with fail
    refine (mot_impl _ _ hz).mono ?_
    rintro e w' ⟨rfl, hw⟩
    have hw := hw.symm
    subst hw
    rw [ho]
    go_wp2_with fail
    clear d0 d1 d2 d3 f0 w0 w1
    have HK := hd KB
    generalize w.setCell ⟨g, 0, none⟩ (.string s1) = Z at DZ P1 P2 KB HK ⊢
    refine (text_impl Z s1 d.2.2.2 _ _ d.2.1 d.2.2.1 (P1.sl eCue_len) (P2.sl eTitle_len) hz hq (HT.out _ KB)).mono ?_
    rintro e w2 ⟨rfl, hb2⟩
    generalize textD s1 d.2.1 d.2.2.1 d.2.2.2 = tx at HR ⊢
    have hBZ : B ≤ Z.heap.size := Nat.le_trans hB KB.size
    go_wp2_with fail
    refine (or_impl _ _).mono ?_
    rintro e w3 ⟨v3, rfl, O3, hb3⟩
    have hb4 := below_step hb2 hb3
    have O4 := O3.base (Nat.le_trans hBZ hb2.size)
    obtain ⟨A3, c3, rfl⟩ := O3.isSlice
    go_wp2_with fail
    go_ret2
    exact exec_to (d := (s1, d.2.1, d.2.2.1, d.2.2.2)) (HK.out.trans (hb4.mono hBZ)) O4 (DZ.below hb4) (P1.below hb4 (Nat.le_refl _)) (P2.below hb4 (Nat.le_refl _)) HR.out
theorem frac_mk {W : World} {g : Nat} {x y : Int} (h0 : g < W.heap.size) (h1 : W.cell? ⟨g, 0, none⟩ = some (.int .i64 x)) (h2 : W.cell? ⟨g, 1, none⟩ = some (.int .i64 y)) (h3 : W.frozen? ⟨g, 0, none⟩ = false) (h4 : W.frozen? ⟨g, 1, none⟩ = false) : FracAt W g x y := ⟨h0, h1, h2, h3, h4⟩
theorem frac_at (w : World) {w2 : World} {x y : Int} (h : FracAt w2 w.drew.heap.size x y) : FracAt w2 w.heap.size x y := h
set_option maxRecDepth 100000 in
set_option maxHeartbeats 8000000 in
theorem exec_image (w : World) (B g : Nat) (d : TDk) (hD : DeskOwn w B g d) (vW vN : Value) (s1 s2 : ByteArray) (a b : Int) (hW : Sl w 1 vW eS [⟨#[105, 109, 97, 103, 101]⟩, s1, s2]) (hN : Sl w 1 vN eI [a, b]) (hsh : Shop w) :
    Calls Tryz.prog 34 #[.pointer (some ⟨g, 0, none⟩), vW, vN] w (ExecTo B g w (d, [orS (fracT (imgC a b).1 (imgC a b).2.1)], (imgC a b).2.2)) := by
  obtain ⟨bw, ow, cw, rfl, -, -, hw⟩ := hW.strs (Nat.succ_pos _)
  obtain ⟨bn, on, cn, rfl, hbn, hn⟩ := hN.ints (Nat.succ_pos _)
  have w0 := hw 0 _ rfl
  rw [Nat.add_zero] at w0
  have k0 := hn 0 _ rfl
  rw [Nat.add_zero] at k0
  have k1 := hn 1 _ rfl
  have HD := hd hD
  have HSH := hd hsh.at_
  have HS := hd (show ∀ W, Below w.heap.size w W → W.cell? ⟨bn, on, none⟩ = some (.int .i64 a) ∧ W.cell? ⟨bn, on + 1, none⟩ = some (.int .i64 b) from fun W hb => ⟨cell_below k0 W hb, cell_below k1 W hb⟩)
  have K := Below.refl w.heap.size w
  clear hD hW hN hw hn hsh
  obtain ⟨x, y, c, hx, hx1, hy1, hg⟩ := imgC_shape a b
  have HI := hd hx
  have HG := hd hg
  have HR := hd (show (d, [orS (fracT (imgC a b).1 (imgC a b).2.1)], (imgC a b).2.2) = (d, [orS (fracT x y)], c) by rw [hx])
  have HC := hd (show fracV (imgC a b) = .tuple #[.agg #[.int .i64 (x : Int), .int .i64 (y : Int)], .int .i64 c] by rw [hx]; rfl)
  clear hx hg
  go_enter Tryz.func34, Tryz.ntmps34
  go_wp2_with fail
  clear w0
  (go_region_held3 (fun ww => ww.cell? ⟨bn, on, none⟩ = some (.int .i64 a) ∧ ww.cell? ⟨bn, on + 1, none⟩ = some (.int .i64 b)) (first | with_reducible exact HS.out _ K | with_reducible exact HS.out _ (Below.drew K) | with_reducible exact HS.out _ (frac_below K (Nat.le_refl _) _ _) | with_reducible exact HS.out _ (frac_below (Below.drew K) (Nat.le_refl _) _ _) | exact HS.out _ (K.alloc K.size _) | exact HS.out _ (K.drew.alloc K.size _)) (first | (go_at_call 74; (first | (refine (image_impl w.drew a b).mono ?_; rintro e w2 ⟨rfl, hb2⟩; replace K := below_step K.drew hb2) | (refine (image_impl (w.drew.alloc (.cells #[.int .i64 0, .int .i64 0] 112)) a b).mono ?_; rintro e w2 ⟨rfl, hb2⟩; obtain ⟨hgz, q0, q1, q2, q3⟩ := frac_at w ((frac_new w.drew 0 0 112).below hb2); replace K := below_step (K.drew.alloc K.size (.cells #[.int .i64 0, .int .i64 0] 112)) hb2)); rw [HC.out]; clear hb2)))
  · clear k0 k1
    obtain ⟨-, e0, e1, -, -⟩ := frac_new w2 x y 112
    have KZ := K.alloc K.size (.cells #[.int .i64 (x : Int), .int .i64 (y : Int)] 112)
    generalize w2.alloc (.cells #[.int .i64 (x : Int), .int .i64 (y : Int)] 112) = Z at e0 e1 KZ ⊢
    have HT := hd (HSH.out _ KZ)
    have HG2 := hd (fun (h : fracB x y = true) => HG.out h)
    go_wp2_with fail
    refine (ftext_impl Z x y hx1 hy1 HG2.out HT.out.1).mono ?_
    rintro e w3 ⟨rfl, hb3⟩
    have K3 := below_step KZ hb3
    go_wp2_with fail
    refine (or_impl _ _).mono ?_
    rintro e w4 ⟨v4, rfl, O4, hb4⟩
    have O5 := O4.base K3.size
    have K4 := below_step K3 hb4
    obtain ⟨A4, c4, rfl⟩ := O4.isSlice
    go_wp2_with fail
    go_ret2
    exact exec_same HD.out K4 O5 HR.out
  · clear k0 k1
    obtain ⟨e0, e1⟩ := frac_set (frac_mk hgz q0 q1 q2 q3) x y
    have KZ := frac_below K (Nat.le_refl _) (.int .i64 (x : Int)) (.int .i64 (y : Int))
    clear hgz q0 q1 q2 q3
    generalize ((w2.setCell ⟨w.heap.size, 0, none⟩ (.int .i64 (x : Int))).setCell ⟨w.heap.size, 1, none⟩ (.int .i64 (y : Int))) = Z at e0 e1 KZ ⊢
    have HT := hd (HSH.out _ KZ)
    have HG2 := hd (fun (h : fracB x y = true) => HG.out h)
    go_wp2_with fail
    refine (ftext_impl Z x y hx1 hy1 HG2.out HT.out.1).mono ?_
    rintro e w3 ⟨rfl, hb3⟩
    have K3 := below_step KZ hb3
    go_wp2_with fail
    refine (or_impl _ _).mono ?_
    rintro e w4 ⟨v4, rfl, O4, hb4⟩
    have O5 := O4.base K3.size
    have K4 := below_step K3 hb4
    obtain ⟨A4, c4, rfl⟩ := O4.isSlice
    go_wp2_with fail
    go_ret2
    exact exec_same HD.out K4 O5 HR.out
end Go.Proofs.YtgcodjkjdfahdaaGreatDoor
