/- Texts of the claim, joined: each says at its head what it proves. No condition. -/
import Derived.Test.YtgcodjkjdfahdaaGreatDoorJ12
import Derived.Test.YtgcodjkjdfahdaaGreatDoorJ6
import Derived.Test.YtgcodjkjdfahdaaGreatDoorJ19
import Derived.Test.YtgcodjkjdfahdaaGreatDoorJ23
import Derived.Test.YtgcodjkjdfahdaaGreatDoorJ18
import Derived.Test.YtgcodjkjdfahdaaGreatDoorJ25
import Derived.Test.YtgcodjkjdfahdaaGreatDoorJ13
import Derived.Test.YtgcodjkjdfahdaaGreatDoorJ22
import Derived.Test.YtgcodjkjdfahdaaGreatDoorJ17
import Derived.Deep.RegionHeld3
/- What a command does to a desk: words of it. No condition. -/
namespace Go.Proofs.YtgcodjkjdfahdaaGreatDoor
open Go Go.RowKit Go.ChangeShapes Go.WideShapes
set_option linter.unusedSimpArgs false
set_option linter.unusedVariables false
/-- a desk's values -/
abbrev TDk := ByteArray × List TCue × List TTitle × ByteArray
def okD (d : TDk) : Bool := okDeskB d.1 d.2.1 d.2.2.1 d.2.2.2
/-- a desk in a block of its own: nothing of it lies below B -/
def DeskOwn (W : World) (B g : Nat) (d : TDk) : Prop := ∃ v1 v2, DeskAt W g d.1 v1 v2 d.2.2.2 ∧ (∀ i, W.frozen? ⟨g, i, none⟩ = false) ∧ B ≤ g ∧ Own W B 92 4 v1 eCue d.2.1 ∧ Own W B 95 4 v2 eTitle d.2.2.1 ∧ (∀ k, v1.ownBlock = some k → k < g) ∧ (∀ k, v2.ownBlock = some k → k < g) ∧ (v2.ownBlock = none ∨ v2.ownBlock ≠ v1.ownBlock)
theorem DeskOwn.below {W W' : World} {B g : Nat} {d : TDk} (h : DeskOwn W B g d) (hb : Below W.heap.size W W') : DeskOwn W' B g d := by
  obtain ⟨v1, v2, h1, h2, h3, h4, h5⟩ := h
  exact ⟨v1, v2, h1.below hb, fun i => (hb.frozen (p := ⟨g, i, none⟩) h1.1).trans (h2 i), h3, h4.below hb (Nat.le_refl _), h5.1.below hb (Nat.le_refl _), h5.2⟩
/-- what a command leaves: a desk, lines, a code -/
abbrev TRes := TDk × List ByteArray × Int
def ExecTo (B g : Nat) (w : World) (r : TRes) (e : Ending) (w' : World) : Prop :=
  ∃ v, e = .returned (.tuple #[v, .int .i64 r.2.2]) ∧ Own w' B 9 1 v eS r.2.1 ∧ Below B w w' ∧ (r.2.2 = 0 → ∃ v1 v2, DeskAt w' g r.1.1 v1 v2 r.1.2.2.2 ∧ Own w' B 92 4 v1 eCue r.1.2.1 ∧ Own w' B 95 4 v2 eTitle r.1.2.2.1)
/-- nothing is written to the desk -/
theorem exec_same {B g : Nat} {w w' : World} {d : TDk} {s : ByteArray} {c : Int} {v : Value} (hD : DeskOwn w B g d) (hb : Below w.heap.size w w') (ho : Own w' w.heap.size 9 1 v eS [s]) {r : TRes} (hr : r = (d, [s], c)) : ExecTo B g w r (.returned (.tuple #[v, .int .i64 c])) w' := by
  subst hr
  obtain ⟨v1, v2, h1, h2, h3, h4, h5⟩ := id hD
  have hB : B ≤ w.heap.size := Nat.le_trans h3 (Nat.le_of_lt h1.1)
  exact ⟨v, rfl, ho.base hB, hb.mono hB, fun _ => ⟨v1, v2, h1.below hb, h4.below hb (Nat.le_refl _), h5.1.below hb (Nat.le_refl _)⟩⟩
theorem exec_err {B g : Nat} {w w' : World} {d : TDk} {c : Int} (hb : Below B w w') (hc : c ≠ 0) {r : TRes} (hr : r = (d, [], c)) : ExecTo B g w r (.returned (.tuple #[.slice none 0 0, .int .i64 c])) w' := by
  subst hr
  exact ⟨_, rfl, Own.nil _ _ _ _ _, hb, fun h => absurd h hc⟩
theorem exec_to {B g : Nat} {w w' : World} {d : TDk} {L : List ByteArray} {c : Int} {v v1 v2 : Value} (hb : Below B w w') (ho : Own w' B 9 1 v eS L) (h1 : DeskAt w' g d.1 v1 v2 d.2.2.2) (h2 : Own w' B 92 4 v1 eCue d.2.1) (h3 : Own w' B 95 4 v2 eTitle d.2.2.1) {r : TRes} (hr : r = (d, L, c)) : ExecTo B g w r (.returned (.tuple #[v, .int .i64 c])) w' := by
  subst hr
  exact ⟨v, rfl, ho, hb, fun _ => ⟨v1, v2, h1, h2, h3⟩⟩
theorem neLt {v : Value} {g : Nat} (h : ∀ k, v.ownBlock = some k → k < g) : v.ownBlock = none ∨ v.ownBlock ≠ some g := .inr fun e => Nat.lt_irrefl _ (h g e)
theorem desk_set0 {W : World} {g : Nat} {p q : ByteArray} {v1 v2 : Value} (h : DeskAt W g p v1 v2 q) (hf : ∀ i, W.frozen? ⟨g, i, none⟩ = false) (x : ByteArray) : DeskAt (W.setCell ⟨g, 0, none⟩ (.string x)) g x v1 v2 q := by
  obtain ⟨h0, c0, c1, c2, c3⟩ := h
  have f0 := hf 0
  refine ⟨Nat.lt_of_lt_of_le h0 ((Below.refl 0 W).setCell (p := ⟨g, 0, none⟩) (Nat.zero_le _) _).size, ?_, ?_, ?_, ?_⟩
  all_goals go_simp
theorem desk_set1 {W : World} {g : Nat} {p q : ByteArray} {v1 v2 : Value} (h : DeskAt W g p v1 v2 q) (hf : ∀ i, W.frozen? ⟨g, i, none⟩ = false) (x : Value) (hx : x.oneCell' = true) : DeskAt (W.setCell ⟨g, 1, none⟩ x) g p x v2 q := by
  obtain ⟨h0, c0, c1, c2, c3⟩ := h
  have f0 := hf 1
  refine ⟨Nat.lt_of_lt_of_le h0 ((Below.refl 0 W).setCell (p := ⟨g, 1, none⟩) (Nat.zero_le _) _).size, ?_, ?_, ?_, ?_⟩
  all_goals go_simp
theorem desk_set2 {W : World} {g : Nat} {p q : ByteArray} {v1 v2 : Value} (h : DeskAt W g p v1 v2 q) (hf : ∀ i, W.frozen? ⟨g, i, none⟩ = false) (x : Value) (hx : x.oneCell' = true) : DeskAt (W.setCell ⟨g, 2, none⟩ x) g p v1 x q := by
  obtain ⟨h0, c0, c1, c2, c3⟩ := h
  have f0 := hf 2
  refine ⟨Nat.lt_of_lt_of_le h0 ((Below.refl 0 W).setCell (p := ⟨g, 2, none⟩) (Nat.zero_le _) _).size, ?_, ?_, ?_, ?_⟩
  all_goals go_simp
theorem desk_set3 {W : World} {g : Nat} {p q : ByteArray} {v1 v2 : Value} (h : DeskAt W g p v1 v2 q) (hf : ∀ i, W.frozen? ⟨g, i, none⟩ = false) (x : ByteArray) : DeskAt (W.setCell ⟨g, 3, none⟩ (.string x)) g p v1 v2 x := by
  obtain ⟨h0, c0, c1, c2, c3⟩ := h
  have f0 := hf 3
  refine ⟨Nat.lt_of_lt_of_le h0 ((Below.refl 0 W).setCell (p := ⟨g, 3, none⟩) (Nat.zero_le _) _).size, ?_, ?_, ?_, ?_⟩
  all_goals go_simp
theorem own_set {α : Type} {W : World} {B E k g : Nat} {v : Value} {enc : α → List Value} {l : List α} (h : Own W B E k v enc l) (hne : ∀ k, v.ownBlock = some k → k < g) (i : Nat) (x : Value) : Own (W.setCell ⟨g, i, none⟩ x) B E k v enc l :=
  h.grown (grownBy_set W ⟨g, i, none⟩ x) (neLt hne)
theorem Sl.strs {w : World} {v : Value} {L : List ByteArray} (h : Sl w 1 v eS L) (h0 : 0 < L.length) : ∃ b o c, v = .slice (some ⟨b, o, none⟩) L.length c ∧ b < w.heap.size ∧ L.length ≤ c ∧ ∀ i x, L[i]? = some x → w.cell? ⟨b, o + i, none⟩ = some (.string x) := by
  obtain ⟨h1, A, c, rfl, hc, -, h2⟩ := h
  obtain ⟨b, o, hA, hb, -⟩ := h2 0 _ (List.getElem?_eq_getElem h0)
  subst hA
  refine ⟨b, o, c, rfl, hb, hc, fun i x hx => ?_⟩
  obtain ⟨b', o', hA, -, h3⟩ := h2 i x hx
  injection hA with hA
  injection hA with e1 e2 _
  subst e1
  subst e2
  have h4 := h3 0 _ (show (eS x)[0]? = some (.string x) from rfl)
  rw [Nat.mul_one, Nat.add_zero] at h4
  exact h4
theorem Sl.ints {w : World} {v : Value} {L : List Int} (h : Sl w 1 v eI L) (h0 : 0 < L.length) : ∃ b o c, v = .slice (some ⟨b, o, none⟩) L.length c ∧ b < w.heap.size ∧ ∀ i x, L[i]? = some x → w.cell? ⟨b, o + i, none⟩ = some (.int .i64 x) := by
  obtain ⟨h1, A, c, rfl, -, -, h2⟩ := h
  obtain ⟨b, o, hA, hb, -⟩ := h2 0 _ (List.getElem?_eq_getElem h0)
  subst hA
  refine ⟨b, o, c, rfl, hb, fun i x hx => ?_⟩
  obtain ⟨b', o', hA, -, h3⟩ := h2 i x hx
  injection hA with hA
  injection hA with e1 e2 _
  subst e1
  subst e2
  have h4 := h3 0 _ (show (eI x)[0]? = some (.int .i64 x) from rfl)
  rw [Nat.mul_one, Nat.add_zero] at h4
  exact h4
theorem cell_below {w : World} {p : Addr} {v : Value} (h : w.cell? p = some v) : ∀ W, Below w.heap.size w W → W.cell? p = some v := fun W hb => (hb.cell (World.block_lt_of_cell? w p h)).trans h
theorem Shop.at_ {w : World} (h : Shop w) : ∀ W, Below w.heap.size w W → Shop W := fun W hb => h.below hb
/-- the tables lie below B -/
def ShopB (B : Nat) (w : World) : Prop := ∃ w0, Shop w0 ∧ w0.heap.size ≤ B ∧ Below w0.heap.size w0 w
theorem ShopB.shop {B : Nat} {w : World} (h : ShopB B w) : Shop w := by
  obtain ⟨w0, h1, -, h3⟩ := h
  exact h1.below h3
theorem ShopB.keep {B : Nat} {w W : World} (h : ShopB B w) (hb : Below B w W) : ShopB B W := by
  obtain ⟨w0, h1, h2, h3⟩ := h
  exact ⟨w0, h1, h2, h3.trans (hb.mono h2)⟩
end Go.Proofs.YtgcodjkjdfahdaaGreatDoor

/- Commands that only ask: the program's execute. No condition but that the tables lie as they are laid. -/
namespace Go.Proofs.YtgcodjkjdfahdaaGreatDoor
open Go Go.RowKit Go.ChangeShapes Go.WideShapes
set_option linter.unusedSimpArgs false
set_option linter.unusedVariables false
set_option maxRecDepth 100000 in
set_option maxHeartbeats 8000000 in
theorem exec_seen (w : World) (B g : Nat) (d : TDk) (hD : DeskOwn w B g d) (vW vN : Value) (s1 s2 : ByteArray) (n0 n1 : Int) (hW : Sl w 1 vW eS [⟨#[115, 101, 101, 110]⟩, s1, s2]) (hN : Sl w 1 vN eI [n0, n1]) (hsh : Shop w) :
    Calls Tryz.prog 34 #[.pointer (some ⟨g, 0, none⟩), vW, vN] w (ExecTo B g w (d, [orS (numsS ⟨#[32]⟩ (seenR n0 n1).1)], (seenR n0 n1).2)) := by
  obtain ⟨bw, ow, cw, rfl, -, -, hw⟩ := hW.strs (Nat.succ_pos _)
  obtain ⟨bn, on, cn, rfl, -, hn⟩ := hN.ints (Nat.succ_pos _)
  have w0 := hw 0 _ rfl
  rw [Nat.add_zero] at w0
  have k0 := hn 0 _ rfl
  rw [Nat.add_zero] at k0
  have k1 := hn 1 _ rfl
  have HD := hd hD
  have HSH := hd hsh.at_
  have HS := hd (show ∀ W, Below w.heap.size w W → W.cell? ⟨bn, on, none⟩ = some (.int .i64 n0) ∧ W.cell? ⟨bn, on + 1, none⟩ = some (.int .i64 n1) from fun W hb => ⟨cell_below k0 W hb, cell_below k1 W hb⟩)
  have K := Below.refl w.heap.size w
  clear hD hW hN hw hn hsh
  have HSL := hd (show (seenR n0 n1).1.length ≤ 48 from seenR_len n0 n1)
  have HSM := hd (show ∀ x ∈ (seenR n0 n1).1, 0 ≤ x ∧ x ≤ 48 from seenR_mem n0 n1)
  go_enter Tryz.func34, Tryz.ntmps34
  go_wp2_with fail
  clear w0
  first | (go_region_held3 (fun ww => ww.cell? ⟨bn, on, none⟩ = some (.int .i64 n0) ∧ ww.cell? ⟨bn, on + 1, none⟩ = some (.int .i64 n1)) (first | with_reducible exact HS.out _ K | with_reducible exact HS.out _ (Below.drew K)) (first | (go_at_call 68; replace K := Below.drew K; (with_reducible refine (seen_impl _ n0 n1).mono ?_); rintro e w2 ⟨v2, rfl, O2, hb2⟩; obtain ⟨A2, c2, rfl⟩ := O2.isSlice; replace K := below_step K hb2; clear hb2))) | fail
  all_goals
    clear k0 k1
    have SL := O2.sl eI_len
    clear O2
    obtain ⟨l, hl⟩ : ∃ l, (seenR n0 n1).1 = l := ⟨_, rfl⟩
    obtain ⟨cd, hc⟩ : ∃ c, (seenR n0 n1).2 = c := ⟨_, rfl⟩
    have HR := hd (show (d, [orS (numsS ⟨#[32]⟩ (seenR n0 n1).1)], (seenR n0 n1).2) = (d, [orS (numsS ⟨#[32]⟩ l)], cd) by rw [hl, hc])
    rw [hl] at SL HSL HSM ⊢
    rw [hc]
    clear hl hc
    have HNU := hd (nums_impl w2 _ l SL (Nat.le_trans HSL.out (by decide)) (fun x hx => by have := HSM.out x hx; omega) (HSH.out _ K).1)
    clear SL
    go_wp2_with fail
    refine HNU.out.mono ?_
    rintro e w3 ⟨rfl, hb3⟩
    replace K := below_step K hb3
    clear HNU hb3
    go_wp2_with fail
    refine (or_impl _ _).mono ?_
    rintro e w4 ⟨v4, rfl, O4, hb4⟩
    have O5 := O4.base K.size
    replace K := below_step K hb4
    obtain ⟨A4, c4, rfl⟩ := O4.isSlice
    go_wp2_with fail
    go_ret2
    exact exec_same HD.out K O5 HR.out
set_option maxRecDepth 100000 in
set_option maxHeartbeats 8000000 in
theorem exec_shows (w : World) (B g : Nat) (d : TDk) (hD : DeskOwn w B g d) (hp : d.1.size ≤ 1048576) (vW vN : Value) (s1 : ByteArray) (n0 : Int) (hW : Sl w 1 vW eS [⟨#[115, 104, 111, 119, 115]⟩, s1]) (hN : Sl w 1 vN eI [n0]) (hsh : Shop w) :
    Calls Tryz.prog 34 #[.pointer (some ⟨g, 0, none⟩), vW, vN] w (ExecTo B g w (d, [orS (motR d.1 n0).1], (motR d.1 n0).2)) := by
  obtain ⟨bw, ow, cw, rfl, -, -, hw⟩ := hW.strs (Nat.succ_pos _)
  obtain ⟨bn, on, cn, rfl, -, hn⟩ := hN.ints (Nat.succ_pos _)
  have w0 := hw 0 _ rfl
  rw [Nat.add_zero] at w0
  have k0 := hn 0 _ rfl
  rw [Nat.add_zero] at k0
  obtain ⟨v1, v2, ⟨hg, d0, d1, d2, d3⟩, hfr, hBg, O1, O2⟩ := id hD
  clear hfr hBg O2 O1 hg d3 d2 d1
  have HD := hd hD
  have HSH := hd hsh.at_
  have HS := hd (show ∀ W, Below w.heap.size w W → W.cell? ⟨bn, on, none⟩ = some (.int .i64 n0) ∧ W.cell? ⟨g, 0, none⟩ = some (.string d.1) from fun W hb => ⟨cell_below k0 W hb, cell_below d0 W hb⟩)
  have K := Below.refl w.heap.size w
  clear hD hW hN hw hn hsh
  go_enter Tryz.func34, Tryz.ntmps34
  go_wp2_with fail
  clear w0
  first | (go_region_held3 (fun ww => ww.cell? ⟨bn, on, none⟩ = some (.int .i64 n0) ∧ ww.cell? ⟨g, 0, none⟩ = some (.string d.1)) (first | with_reducible exact HS.out _ K | with_reducible exact HS.out _ (Below.drew K)) (first | (go_at_call 71; replace K := Below.drew K; (with_reducible refine (mof_impl _ _ hp n0).mono ?_); rintro e w2 ⟨rfl, hb2⟩; replace K := below_step K hb2; clear hb2))) | fail
  all_goals
    clear k0 d0
    obtain ⟨l, hl⟩ : ∃ l, (motR d.1 n0).1 = l := ⟨_, rfl⟩
    obtain ⟨cd, hc⟩ : ∃ c, (motR d.1 n0).2 = c := ⟨_, rfl⟩
    have HR := hd (show (d, [orS (motR d.1 n0).1], (motR d.1 n0).2) = (d, [orS l], cd) by rw [hl, hc])
    rw [hl, hc]
    clear hl hc
    go_wp2_with fail
    refine (or_impl _ _).mono ?_
    rintro e w4 ⟨v4, rfl, O4, hb4⟩
    have O5 := O4.base K.size
    replace K := below_step K hb4
    obtain ⟨A4, c4, rfl⟩ := O4.isSlice
    go_wp2_with fail
    go_ret2
    exact exec_same HD.out K O5 HR.out
set_option maxRecDepth 100000 in
set_option maxHeartbeats 8000000 in
theorem exec_fewest (w : World) (B g : Nat) (d : TDk) (hD : DeskOwn w B g d) (vW vN : Value) (s1 : ByteArray) (hz : s1.size ≤ 1048576) (hW : Sl w 1 vW eS [⟨#[102, 101, 119, 101, 115, 116]⟩, s1]) (hN : Sl w 1 vN eI []) (hsh : Shop w) :
    Calls Tryz.prog 34 #[.pointer (some ⟨g, 0, none⟩), vW, vN] w (ExecTo B g w (d, [orS (decS (fewR s1).1)], (fewR s1).2)) := by
  obtain ⟨bw, ow, cw, rfl, -, -, hw⟩ := hW.strs (Nat.succ_pos _)
  obtain ⟨bn, cn, rfl⟩ := hN.isSlice
  have w0 := hw 0 _ rfl
  rw [Nat.add_zero] at w0
  have w1 := hw 1 _ rfl
  have HD := hd hD
  have HSH := hd hsh.at_
  have HS := hd (show ∀ W, Below w.heap.size w W → W.cell? ⟨bw, ow + 1, none⟩ = some (.string s1) from fun W hb => cell_below w1 W hb)
  have K := Below.refl w.heap.size w
  clear hD hW hN hw hsh
  have HBD := hd (fewR_bd s1)
  go_enter Tryz.func34, Tryz.ntmps34
  go_wp2_with fail
  refine (few_impl _ s1 hz).mono ?_
  rintro e w2 ⟨rfl, hb2⟩
  replace K := below_step K hb2
  clear hb2 w0 w1
  obtain ⟨l, hl⟩ : ∃ l, (fewR s1).1 = l := ⟨_, rfl⟩
  obtain ⟨cd, hc⟩ : ∃ c, (fewR s1).2 = c := ⟨_, rfl⟩
  have HR := hd (show (d, [orS (decS (fewR s1).1)], (fewR s1).2) = (d, [orS (decS l)], cd) by rw [hl, hc])
  rw [hl] at HBD
  rw [hl, hc]
  clear hl hc
  have HNU := hd (dec_impl w2 l (by have := HBD.out; omega) (HSH.out _ K).1)
  clear HBD
  go_wp2_with fail
  refine HNU.out.mono ?_
  rintro e w3 ⟨rfl, hb3⟩
  replace K := below_step K hb3
  clear HNU hb3
  go_wp2_with fail
  refine (or_impl _ _).mono ?_
  rintro e w4 ⟨v4, rfl, O4, hb4⟩
  have O5 := O4.base K.size
  replace K := below_step K hb4
  obtain ⟨A4, c4, rfl⟩ := O4.isSlice
  go_wp2_with fail
  go_ret2
  exact exec_same HD.out K O5 HR.out
set_option maxRecDepth 100000 in
set_option maxHeartbeats 8000000 in
theorem exec_for (w : World) (B g : Nat) (d : TDk) (hD : DeskOwn w B g d) (vW vN : Value) (s1 s2 : ByteArray) (hz : s1.size ≤ 1048576) (n0 : Int) (hW : Sl w 1 vW eS [⟨#[102, 111, 114]⟩, s1, s2]) (hN : Sl w 1 vN eI [n0]) (hsh : Shop w) :
    Calls Tryz.prog 34 #[.pointer (some ⟨g, 0, none⟩), vW, vN] w (ExecTo B g w (d, [orS (dforR s1 n0).1], (dforR s1 n0).2)) := by
  obtain ⟨bw, ow, cw, rfl, -, -, hw⟩ := hW.strs (Nat.succ_pos _)
  obtain ⟨bn, on, cn, rfl, -, hn⟩ := hN.ints (Nat.succ_pos _)
  have w0 := hw 0 _ rfl
  rw [Nat.add_zero] at w0
  have w1 := hw 1 _ rfl
  have k0 := hn 0 _ rfl
  rw [Nat.add_zero] at k0
  have HD := hd hD
  have HSH := hd hsh.at_
  have HS := hd (show ∀ W, Below w.heap.size w W → W.cell? ⟨bw, ow + 1, none⟩ = some (.string s1) ∧ W.cell? ⟨bn, on, none⟩ = some (.int .i64 n0) from fun W hb => ⟨cell_below w1 W hb, cell_below k0 W hb⟩)
  have K := Below.refl w.heap.size w
  clear hD hW hN hw hn hsh
  go_enter Tryz.func34, Tryz.ntmps34
  go_wp2_with fail
  clear w0
  first | (go_region_held3 (fun ww => ww.cell? ⟨bw, ow + 1, none⟩ = some (.string s1) ∧ ww.cell? ⟨bn, on, none⟩ = some (.int .i64 n0)) (first | with_reducible exact HS.out _ K | with_reducible exact HS.out _ (Below.drew K)) (first | (go_at_call 73; replace K := Below.drew K; (with_reducible refine (dfor_impl _ s1 hz n0).mono ?_); rintro e w2 ⟨rfl, hb2⟩; replace K := below_step K hb2; clear hb2))) | fail
  all_goals
    clear w1 k0
    obtain ⟨l, hl⟩ : ∃ l, (dforR s1 n0).1 = l := ⟨_, rfl⟩
    obtain ⟨cd, hc⟩ : ∃ c, (dforR s1 n0).2 = c := ⟨_, rfl⟩
    have HR := hd (show (d, [orS (dforR s1 n0).1], (dforR s1 n0).2) = (d, [orS l], cd) by rw [hl, hc])
    rw [hl, hc]
    clear hl hc
    go_wp2_with fail
    refine (or_impl _ _).mono ?_
    rintro e w4 ⟨v4, rfl, O4, hb4⟩
    have O5 := O4.base K.size
    replace K := below_step K hb4
    obtain ⟨A4, c4, rfl⟩ := O4.isSlice
    go_wp2_with fail
    go_ret2
    exact exec_same HD.out K O5 HR.out
set_option maxRecDepth 100000 in
set_option maxHeartbeats 8000000 in
theorem exec_shifts (w : World) (B g : Nat) (d : TDk) (hD : DeskOwn w B g d) (vW vN : Value) (s1 : ByteArray) (n0 : Int) (hW : Sl w 1 vW eS [⟨#[115, 104, 105, 102, 116, 115]⟩, s1]) (hN : Sl w 1 vN eI [n0]) (hsh : Shop w) :
    Calls Tryz.prog 34 #[.pointer (some ⟨g, 0, none⟩), vW, vN] w (ExecTo B g w (d, [orS (numsS ⟨#[32]⟩ (leastR d.2.1 n0).1)], (leastR d.2.1 n0).2)) := by
  obtain ⟨bw, ow, cw, rfl, -, -, hw⟩ := hW.strs (Nat.succ_pos _)
  obtain ⟨bn, on, cn, rfl, -, hn⟩ := hN.ints (Nat.succ_pos _)
  have w0 := hw 0 _ rfl
  rw [Nat.add_zero] at w0
  have k0 := hn 0 _ rfl
  rw [Nat.add_zero] at k0
  obtain ⟨v1, v2, ⟨hg, d0, d1, d2, d3⟩, hfr, hBg, O1, O2⟩ := id hD
  have SC := O1.sl eCue_len
  obtain ⟨A1, c1, rfl⟩ := O1.isSlice
  clear hfr hBg O2 hg d3 d2 d0
  clear O1
  have HD := hd hD
  have HSH := hd hsh.at_
  have HS := hd (show ∀ W, Below w.heap.size w W → W.cell? ⟨bn, on, none⟩ = some (.int .i64 n0) ∧ W.cell? ⟨g, 1, none⟩ = some (.slice A1 d.2.1.length c1) from fun W hb => ⟨cell_below k0 W hb, cell_below d1 W hb⟩)
  have K := Below.refl w.heap.size w
  clear hD hW hN hw hn hsh
  have HSL := hd (show (leastR d.2.1 n0).1.length ≤ 6 from (leastR_sh _ _).1)
  have HSM := hd (show ∀ x ∈ (leastR d.2.1 n0).1, 0 ≤ x ∧ x ≤ 6 from (leastR_sh _ _).2)
  have HSC := hd (show ∀ W, Below w.heap.size w W → Sl W 4 (.slice A1 d.2.1.length c1) eCue d.2.1 from fun W hb => SC.below hb)
  clear SC
  go_enter Tryz.func34, Tryz.ntmps34
  go_wp2_with fail
  clear w0
  first | (go_region_held3 (fun ww => ww.cell? ⟨bn, on, none⟩ = some (.int .i64 n0) ∧ ww.cell? ⟨g, 1, none⟩ = some (.slice A1 d.2.1.length c1)) (first | with_reducible exact HS.out _ K | with_reducible exact HS.out _ (Below.drew K)) (first | (go_at_call 76; replace K := Below.drew K; (with_reducible refine (least_impl _ _ _ (HSC.out _ K) n0).mono ?_); rintro e w2 ⟨v2, rfl, O2, hb2⟩; obtain ⟨A2, c2, rfl⟩ := O2.isSlice; replace K := below_step K hb2; clear hb2))) | fail
  all_goals
    clear k0 d1
    have SL := O2.sl eI_len
    clear O2
    obtain ⟨l, hl⟩ : ∃ l, (leastR d.2.1 n0).1 = l := ⟨_, rfl⟩
    obtain ⟨cd, hc⟩ : ∃ c, (leastR d.2.1 n0).2 = c := ⟨_, rfl⟩
    have HR := hd (show (d, [orS (numsS ⟨#[32]⟩ (leastR d.2.1 n0).1)], (leastR d.2.1 n0).2) = (d, [orS (numsS ⟨#[32]⟩ l)], cd) by rw [hl, hc])
    rw [hl] at SL HSL HSM ⊢
    rw [hc]
    clear hl hc
    have HNU := hd (nums_impl w2 _ l SL (Nat.le_trans HSL.out (by decide)) (fun x hx => by have := HSM.out x hx; omega) (HSH.out _ K).1)
    clear SL
    go_wp2_with fail
    refine HNU.out.mono ?_
    rintro e w3 ⟨rfl, hb3⟩
    replace K := below_step K hb3
    clear HNU hb3
    go_wp2_with fail
    refine (or_impl _ _).mono ?_
    rintro e w4 ⟨v4, rfl, O4, hb4⟩
    have O5 := O4.base K.size
    replace K := below_step K hb4
    obtain ⟨A4, c4, rfl⟩ := O4.isSlice
    go_wp2_with fail
    go_ret2
    exact exec_same HD.out K O5 HR.out
set_option maxRecDepth 100000 in
set_option maxHeartbeats 8000000 in
theorem exec_loads (w : World) (B g : Nat) (d : TDk) (hD : DeskOwn w B g d) (vW vN : Value) (s1 s2 : ByteArray) (hz : s1.size ≤ 1048576) (n0 : Int) (hW : Sl w 1 vW eS [⟨#[108, 111, 97, 100, 115]⟩, s1, s2]) (hN : Sl w 1 vN eI [n0]) (hsh : Shop w) :
    Calls Tryz.prog 34 #[.pointer (some ⟨g, 0, none⟩), vW, vN] w (ExecTo B g w (d, [orS (decS (loadR s1 n0).1)], (loadR s1 n0).2)) := by
  obtain ⟨bw, ow, cw, rfl, -, -, hw⟩ := hW.strs (Nat.succ_pos _)
  obtain ⟨bn, on, cn, rfl, -, hn⟩ := hN.ints (Nat.succ_pos _)
  have w0 := hw 0 _ rfl
  rw [Nat.add_zero] at w0
  have w1 := hw 1 _ rfl
  have k0 := hn 0 _ rfl
  rw [Nat.add_zero] at k0
  have HD := hd hD
  have HSH := hd hsh.at_
  have HS := hd (show ∀ W, Below w.heap.size w W → W.cell? ⟨bw, ow + 1, none⟩ = some (.string s1) ∧ W.cell? ⟨bn, on, none⟩ = some (.int .i64 n0) from fun W hb => ⟨cell_below w1 W hb, cell_below k0 W hb⟩)
  have K := Below.refl w.heap.size w
  clear hD hW hN hw hn hsh
  have HBD := hd (loadR_bd s1 n0)
  go_enter Tryz.func34, Tryz.ntmps34
  go_wp2_with fail
  clear w0
  first | (go_region_held3 (fun ww => ww.cell? ⟨bw, ow + 1, none⟩ = some (.string s1) ∧ ww.cell? ⟨bn, on, none⟩ = some (.int .i64 n0)) (first | with_reducible exact HS.out _ K | with_reducible exact HS.out _ (Below.drew K)) (first | (go_at_call 77; replace K := Below.drew K; (with_reducible refine (fewL_impl _ s1 hz n0).mono ?_); rintro e w2 ⟨rfl, hb2⟩; replace K := below_step K hb2; clear hb2))) | fail
  all_goals
    clear w1 k0
    obtain ⟨l, hl⟩ : ∃ l, (loadR s1 n0).1 = l := ⟨_, rfl⟩
    obtain ⟨cd, hc⟩ : ∃ c, (loadR s1 n0).2 = c := ⟨_, rfl⟩
    have HR := hd (show (d, [orS (decS (loadR s1 n0).1)], (loadR s1 n0).2) = (d, [orS (decS l)], cd) by rw [hl, hc])
    rw [hl] at HBD
    rw [hl, hc]
    clear hl hc
    have HNU := hd (dec_impl w2 l (by have := HBD.out; omega) (HSH.out _ K).1)
    clear HBD
    go_wp2_with fail
    refine HNU.out.mono ?_
    rintro e w3 ⟨rfl, hb3⟩
    replace K := below_step K hb3
    clear HNU hb3
    go_wp2_with fail
    refine (or_impl _ _).mono ?_
    rintro e w4 ⟨v4, rfl, O4, hb4⟩
    have O5 := O4.base K.size
    replace K := below_step K hb4
    obtain ⟨A4, c4, rfl⟩ := O4.isSlice
    go_wp2_with fail
    go_ret2
    exact exec_same HD.out K O5 HR.out
set_option maxRecDepth 100000 in
set_option maxHeartbeats 8000000 in
theorem exec_burn (w : World) (B g : Nat) (d : TDk) (hD : DeskOwn w B g d) (vW vN : Value) (s1 s2 s3 s4 : ByteArray) (n0 n1 n2 n3 : Int) (hW : Sl w 1 vW eS [⟨#[98, 117, 114, 110]⟩, s1, s2, s3, s4]) (hN : Sl w 1 vN eI [n0, n1, n2, n3]) (hsh : Shop w) :
    Calls Tryz.prog 34 #[.pointer (some ⟨g, 0, none⟩), vW, vN] w (ExecTo B g w (d, [orS (lampR n0 n1 n2 n3).1], (lampR n0 n1 n2 n3).2)) := by
  obtain ⟨bw, ow, cw, rfl, -, -, hw⟩ := hW.strs (Nat.succ_pos _)
  obtain ⟨bn, on, cn, rfl, -, hn⟩ := hN.ints (Nat.succ_pos _)
  have w0 := hw 0 _ rfl
  rw [Nat.add_zero] at w0
  have k0 := hn 0 _ rfl
  rw [Nat.add_zero] at k0
  have k1 := hn 1 _ rfl
  have k2 := hn 2 _ rfl
  have k3 := hn 3 _ rfl
  have HD := hd hD
  have HSH := hd hsh.at_
  have HS := hd (show ∀ W, Below w.heap.size w W → W.cell? ⟨bn, on, none⟩ = some (.int .i64 n0) ∧ W.cell? ⟨bn, on + 1, none⟩ = some (.int .i64 n1) ∧ W.cell? ⟨bn, on + 2, none⟩ = some (.int .i64 n2) ∧ W.cell? ⟨bn, on + 3, none⟩ = some (.int .i64 n3) from fun W hb => ⟨cell_below k0 W hb, cell_below k1 W hb, cell_below k2 W hb, cell_below k3 W hb⟩)
  have K := Below.refl w.heap.size w
  clear hD hW hN hw hn hsh
  go_enter Tryz.func34, Tryz.ntmps34
  go_wp2_with fail
  clear w0
  first | (go_region_held3 (fun ww => ww.cell? ⟨bn, on, none⟩ = some (.int .i64 n0) ∧ ww.cell? ⟨bn, on + 1, none⟩ = some (.int .i64 n1) ∧ ww.cell? ⟨bn, on + 2, none⟩ = some (.int .i64 n2) ∧ ww.cell? ⟨bn, on + 3, none⟩ = some (.int .i64 n3)) (first | with_reducible exact HS.out _ K | with_reducible exact HS.out _ (Below.drew K)) (first | (go_at_call 78; replace K := Below.drew K; (with_reducible refine (lamp_impl _ n0 n1 n2 n3).mono ?_); rintro e w2 ⟨rfl, hb2⟩; replace K := below_step K hb2; clear hb2))) | fail
  all_goals
    clear k0 k1 k2 k3
    obtain ⟨l, hl⟩ : ∃ l, (lampR n0 n1 n2 n3).1 = l := ⟨_, rfl⟩
    obtain ⟨cd, hc⟩ : ∃ c, (lampR n0 n1 n2 n3).2 = c := ⟨_, rfl⟩
    have HR := hd (show (d, [orS (lampR n0 n1 n2 n3).1], (lampR n0 n1 n2 n3).2) = (d, [orS l], cd) by rw [hl, hc])
    rw [hl, hc]
    clear hl hc
    go_wp2_with fail
    refine (or_impl _ _).mono ?_
    rintro e w4 ⟨v4, rfl, O4, hb4⟩
    have O5 := O4.base K.size
    replace K := below_step K hb4
    obtain ⟨A4, c4, rfl⟩ := O4.isSlice
    go_wp2_with fail
    go_ret2
    exact exec_same HD.out K O5 HR.out
end Go.Proofs.YtgcodjkjdfahdaaGreatDoor

/- The command 'disc' and the command 'image': the program's execute. No condition but that the tables lie as they are laid. -/
namespace Go.Proofs.YtgcodjkjdfahdaaGreatDoor
open Go Go.RowKit Go.ChangeShapes Go.WideShapes
set_option linter.unusedSimpArgs false
set_option linter.unusedVariables false
def discX (d : TDk) (s : ByteArray) : TRes := if okMotB s = true then ((s, d.2.1, d.2.2.1, d.2.2.2), [orS (textD s d.2.1 d.2.2.1 d.2.2.2)], 0) else (d, [], 1)
set_option maxRecDepth 100000 in
set_option maxHeartbeats 8000000 in
theorem exec_disc (w : World) (B g : Nat) (d : TDk) (hD : DeskOwn w B g d) (hq : d.2.2.2.size ≤ 1048576) (vW vN : Value) (s1 : ByteArray) (hz : s1.size ≤ 1048576) (hW : Sl w 1 vW eS [⟨#[100, 105, 115, 99]⟩, s1]) (hN : Sl w 1 vN eI []) (hsh : ShopB B w) :
    Calls Tryz.prog 34 #[.pointer (some ⟨g, 0, none⟩), vW, vN] w (ExecTo B g w (discX d s1)) := by
  obtain ⟨bw, ow, cw, rfl, -, -, hw⟩ := hW.strs (Nat.succ_pos _)
  obtain ⟨bn, cn, rfl⟩ := hN.isSlice
  have w0 := hw 0 _ rfl
  rw [Nat.add_zero] at w0
  have w1 := hw 1 _ rfl
  obtain ⟨v1, v2, DA, hfr, hBg, O1, O2, a1, a2, -⟩ := id hD
  have hB : B ≤ w.heap.size := Nat.le_trans hBg (Nat.le_of_lt DA.1)
  clear hD hW hN hw
  rcases ho : okMotB s1 with _ | _
  · have HR := hd (show discX d s1 = (d, [], 1) by unfold discX; rw [ho]; rfl)
    clear DA hfr O1 O2 a1 a2
    go_enter Tryz.func34, Tryz.ntmps34
    go_wp2_with fail
    refine (mot_impl _ _ hz).mono ?_
    rintro e w' ⟨rfl, hw⟩
    have hw := hw.symm
    subst hw
    rw [ho]
    go_wp2_with fail
    go_ret2
    exact exec_err (Below.refl _ _) (by decide) HR.out
  · have HR := hd (show discX d s1 = ((s1, d.2.1, d.2.2.1, d.2.2.2), [orS (textD s1 d.2.1 d.2.2.1 d.2.2.2)], 0) by unfold discX; rw [if_pos ho])
    have DZ := desk_set0 DA hfr s1
    have P1 := own_set O1 a1 0 (.string s1)
    have P2 := own_set O2 a2 0 (.string s1)
    have KB : Below B w (w.setCell ⟨g, 0, none⟩ (.string s1)) := (Below.refl B w).setCell (p := ⟨g, 0, none⟩) hBg _
    obtain ⟨A1, c1, rfl⟩ := O1.isSlice
    obtain ⟨A2, c2, rfl⟩ := O2.isSlice
    have HT := hd (fun W (hb : Below B w W) => (hsh.keep hb).shop)
    obtain ⟨hg, d0, d1, d2, d3⟩ := DA
    have f0 := hfr 0
    clear hfr a1 a2 O1 O2
    go_enter Tryz.func34, Tryz.ntmps34
    go_wp2_with fail
    refine (mot_impl _ _ hz).mono ?_
    rintro e w' ⟨rfl, hw⟩
    have hw := hw.symm
    subst hw
    rw [ho]
    go_wp2_with fail
    clear d0 d1 d2 d3 f0 w0 w1
    have HK := hd KB
    generalize w.setCell ⟨g, 0, none⟩ (.string s1) = Z at DZ P1 P2 KB HK ⊢
    refine (text_impl Z s1 d.2.2.2 _ _ d.2.1 d.2.2.1 (P1.sl eCue_len) (P2.sl eTitle_len) hz hq (HT.out _ KB)).mono ?_
    rintro e w2 ⟨rfl, hb2⟩
    generalize textD s1 d.2.1 d.2.2.1 d.2.2.2 = tx at HR ⊢
    have hBZ : B ≤ Z.heap.size := Nat.le_trans hB KB.size
    go_wp2_with fail
    refine (or_impl _ _).mono ?_
    rintro e w3 ⟨v3, rfl, O3, hb3⟩
    have hb4 := below_step hb2 hb3
    have O4 := O3.base (Nat.le_trans hBZ hb2.size)
    obtain ⟨A3, c3, rfl⟩ := O3.isSlice
    go_wp2_with fail
    go_ret2
    exact exec_to (d := (s1, d.2.1, d.2.2.1, d.2.2.2)) (HK.out.trans (hb4.mono hBZ)) O4 (DZ.below hb4) (P1.below hb4 (Nat.le_refl _)) (P2.below hb4 (Nat.le_refl _)) HR.out
theorem frac_mk {W : World} {g : Nat} {x y : Int} (h0 : g < W.heap.size) (h1 : W.cell? ⟨g, 0, none⟩ = some (.int .i64 x)) (h2 : W.cell? ⟨g, 1, none⟩ = some (.int .i64 y)) (h3 : W.frozen? ⟨g, 0, none⟩ = false) (h4 : W.frozen? ⟨g, 1, none⟩ = false) : FracAt W g x y := ⟨h0, h1, h2, h3, h4⟩
theorem frac_at (w : World) {w2 : World} {x y : Int} (h : FracAt w2 w.drew.heap.size x y) : FracAt w2 w.heap.size x y := h
set_option maxRecDepth 100000 in
set_option maxHeartbeats 8000000 in
theorem exec_image (w : World) (B g : Nat) (d : TDk) (hD : DeskOwn w B g d) (vW vN : Value) (s1 s2 : ByteArray) (a b : Int) (hW : Sl w 1 vW eS [⟨#[105, 109, 97, 103, 101]⟩, s1, s2]) (hN : Sl w 1 vN eI [a, b]) (hsh : Shop w) :
    Calls Tryz.prog 34 #[.pointer (some ⟨g, 0, none⟩), vW, vN] w (ExecTo B g w (d, [orS (fracT (imgC a b).1 (imgC a b).2.1)], (imgC a b).2.2)) := by
  obtain ⟨bw, ow, cw, rfl, -, -, hw⟩ := hW.strs (Nat.succ_pos _)
  obtain ⟨bn, on, cn, rfl, hbn, hn⟩ := hN.ints (Nat.succ_pos _)
  have w0 := hw 0 _ rfl
  rw [Nat.add_zero] at w0
  have k0 := hn 0 _ rfl
  rw [Nat.add_zero] at k0
  have k1 := hn 1 _ rfl
  have HD := hd hD
  have HSH := hd hsh.at_
  have HS := hd (show ∀ W, Below w.heap.size w W → W.cell? ⟨bn, on, none⟩ = some (.int .i64 a) ∧ W.cell? ⟨bn, on + 1, none⟩ = some (.int .i64 b) from fun W hb => ⟨cell_below k0 W hb, cell_below k1 W hb⟩)
  have K := Below.refl w.heap.size w
  clear hD hW hN hw hn hsh
  obtain ⟨x, y, c, hx, hx1, hy1, hg⟩ := imgC_shape a b
  have HI := hd hx
  have HG := hd hg
  have HR := hd (show (d, [orS (fracT (imgC a b).1 (imgC a b).2.1)], (imgC a b).2.2) = (d, [orS (fracT x y)], c) by rw [hx])
  have HC := hd (show fracV (imgC a b) = .tuple #[.agg #[.int .i64 (x : Int), .int .i64 (y : Int)], .int .i64 c] by rw [hx]; rfl)
  clear hx hg
  go_enter Tryz.func34, Tryz.ntmps34
  go_wp2_with fail
  clear w0
  (go_region_held3 (fun ww => ww.cell? ⟨bn, on, none⟩ = some (.int .i64 a) ∧ ww.cell? ⟨bn, on + 1, none⟩ = some (.int .i64 b)) (first | with_reducible exact HS.out _ K | with_reducible exact HS.out _ (Below.drew K) | with_reducible exact HS.out _ (frac_below K (Nat.le_refl _) _ _) | with_reducible exact HS.out _ (frac_below (Below.drew K) (Nat.le_refl _) _ _) | exact HS.out _ (K.alloc K.size _) | exact HS.out _ (K.drew.alloc K.size _)) (first | (go_at_call 74; (first | (refine (image_impl w.drew a b).mono ?_; rintro e w2 ⟨rfl, hb2⟩; replace K := below_step K.drew hb2) | (refine (image_impl (w.drew.alloc (.cells #[.int .i64 0, .int .i64 0] 112)) a b).mono ?_; rintro e w2 ⟨rfl, hb2⟩; obtain ⟨hgz, q0, q1, q2, q3⟩ := frac_at w ((frac_new w.drew 0 0 112).below hb2); replace K := below_step (K.drew.alloc K.size (.cells #[.int .i64 0, .int .i64 0] 112)) hb2)); rw [HC.out]; clear hb2)))
  · clear k0 k1
    obtain ⟨-, e0, e1, -, -⟩ := frac_new w2 x y 112
    have KZ := K.alloc K.size (.cells #[.int .i64 (x : Int), .int .i64 (y : Int)] 112)
    generalize w2.alloc (.cells #[.int .i64 (x : Int), .int .i64 (y : Int)] 112) = Z at e0 e1 KZ ⊢
    have HT := hd (HSH.out _ KZ)
    have HG2 := hd (fun (h : fracB x y = true) => HG.out h)
    go_wp2_with fail
    refine (ftext_impl Z x y hx1 hy1 HG2.out HT.out.1).mono ?_
    rintro e w3 ⟨rfl, hb3⟩
    have K3 := below_step KZ hb3
    go_wp2_with fail
    refine (or_impl _ _).mono ?_
    rintro e w4 ⟨v4, rfl, O4, hb4⟩
    have O5 := O4.base K3.size
    have K4 := below_step K3 hb4
    obtain ⟨A4, c4, rfl⟩ := O4.isSlice
    go_wp2_with fail
    go_ret2
    exact exec_same HD.out K4 O5 HR.out
  · clear k0 k1
    obtain ⟨e0, e1⟩ := frac_set (frac_mk hgz q0 q1 q2 q3) x y
    have KZ := frac_below K (Nat.le_refl _) (.int .i64 (x : Int)) (.int .i64 (y : Int))
    clear hgz q0 q1 q2 q3
    generalize ((w2.setCell ⟨w.heap.size, 0, none⟩ (.int .i64 (x : Int))).setCell ⟨w.heap.size, 1, none⟩ (.int .i64 (y : Int))) = Z at e0 e1 KZ ⊢
    have HT := hd (HSH.out _ KZ)
    have HG2 := hd (fun (h : fracB x y = true) => HG.out h)
    go_wp2_with fail
    refine (ftext_impl Z x y hx1 hy1 HG2.out HT.out.1).mono ?_
    rintro e w3 ⟨rfl, hb3⟩
    have K3 := below_step KZ hb3
    go_wp2_with fail
    refine (or_impl _ _).mono ?_
    rintro e w4 ⟨v4, rfl, O4, hb4⟩
    have O5 := O4.base K3.size
    have K4 := below_step K3 hb4
    obtain ⟨A4, c4, rfl⟩ := O4.isSlice
    go_wp2_with fail
    go_ret2
    exact exec_same HD.out K4 O5 HR.out
end Go.Proofs.YtgcodjkjdfahdaaGreatDoor

/- The command 'cue': the program's execute. No condition but that the tables lie as they are laid. -/
namespace Go.Proofs.YtgcodjkjdfahdaaGreatDoor
open Go Go.RowKit Go.ChangeShapes Go.WideShapes
set_option linter.unusedSimpArgs false
set_option linter.unusedVariables false
def cueX (d : TDk) (x : TCue) : TRes := if okCues (d.2.1 ++ [x]) = true then ((d.1, d.2.1 ++ [x], d.2.2.1, d.2.2.2), [orS (textD d.1 (d.2.1 ++ [x]) d.2.2.1 d.2.2.2)], 0) else (d, [], 1)
set_option maxRecDepth 100000 in
set_option maxHeartbeats 8000000 in
theorem exec_cue (w : World) (B g : Nat) (d : TDk) (hD : DeskOwn w B g d) (hp : d.1.size ≤ 1048576) (hq : d.2.2.2.size ≤ 1048576) (hC6 : d.2.1.length ≤ 6) (vW vN : Value) (s1 s2 s3 s4 : ByteArray) (n0 n1 n2 n3 : Int) (hW : Sl w 1 vW eS [⟨#[99, 117, 101]⟩, s1, s2, s3, s4]) (hN : Sl w 1 vN eI [n0, n1, n2, n3])
    (hNb : ∀ b, vN.ownBlock = some b → b < B ∨ g < b) (hsh : ShopB B w) :
    Calls Tryz.prog 34 #[.pointer (some ⟨g, 0, none⟩), vW, vN] w (ExecTo B g w (cueX d (n0, n1, n2, n3))) := by
  obtain ⟨i0, hi, hz0, hz1, hz2⟩ := info_parts info_CueK
  obtain ⟨bw, ow, cw, rfl, -, -, hw⟩ := hW.strs (Nat.succ_pos _)
  obtain ⟨bn, on, cn, rfl, hbn, hn⟩ := hN.ints (Nat.succ_pos _)
  have w0 := hw 0 _ rfl
  rw [Nat.add_zero] at w0
  have k0 := hn 0 _ rfl
  rw [Nat.add_zero] at k0
  have k1 := hn 1 _ rfl
  have k2 := hn 2 _ rfl
  have k3 := hn 3 _ rfl
  obtain ⟨v1, v2, DA, hfr, hBg, O1, O2, a1, a2, a3⟩ := id hD
  have hB : B ≤ w.heap.size := Nat.le_trans hBg (Nat.le_of_lt DA.1)
  have hnb := hNb bn rfl
  have hng : bn ≠ g := by omega
  have hnv : v1.ownBlock ≠ some bn := fun e => by
    have := a1 bn e
    have := (O1.lt bn e).1
    omega
  have HP := hd (show ∀ W : World, W.heap[bn]? = w.heap[bn]? → W.cell? ⟨bn, on, none⟩ = some (.int .i64 n0) ∧ W.cell? ⟨bn, on + 1, none⟩ = some (.int .i64 n1) ∧ W.cell? ⟨bn, on + 2, none⟩ = some (.int .i64 n2) ∧ W.cell? ⟨bn, on + 3, none⟩ = some (.int .i64 n3) from fun W h => ⟨(World.cell?_of_block (w := w) (a := ⟨bn, on, none⟩) h).trans k0, (World.cell?_of_block (w := w) (a := ⟨bn, on + 1, none⟩) h).trans k1, (World.cell?_of_block (w := w) (a := ⟨bn, on + 2, none⟩) h).trans k2, (World.cell?_of_block (w := w) (a := ⟨bn, on + 3, none⟩) h).trans k3⟩)
  have BA : Below B w (w.drew.alloc (.cells #[.int .i64 n0, .int .i64 n1, .int .i64 n2, .int .i64 n3] 92)) := ((Below.refl B w).drew).alloc hB _
  have HA : (w.drew.alloc (.cells #[.int .i64 n0, .int .i64 n1, .int .i64 n2, .int .i64 n3] 92)).heap[bn]? = w.heap[bn]? := (((Below.refl w.heap.size w).drew).alloc (Nat.le_refl _) (.cells #[.int .i64 n0, .int .i64 n1, .int .i64 n2, .int .i64 n3] 92)).block bn hbn
  have S1 := HP.out w.drew rfl
  have S2 := HP.out (w.drew.alloc (.cells #[.int .i64 n0, .int .i64 n1, .int .i64 n2, .int .i64 n3] 92)) HA
  have HNX := hd (show ∀ (v3 : Value) (w9 : World), Own w9 B 92 4 v3 eCue (d.2.1 ++ [(n0, n1, n2, n3)]) → (w.drew.alloc (.cells #[.int .i64 n0, .int .i64 n1, .int .i64 n2, .int .i64 n3] 92)).grownBy w9 v1.ownBlock → Below B w w9 ∧ w9.heap[g]? = w.heap[g]? ∧ w9.heap[bn]? = w.heap[bn]? ∧ Own w9 B 95 4 v2 eTitle d.2.2.1 from fun v3 w9 h1 h2 => ⟨BA.grown h2 (Nat.le_trans hB BA.size) (fun q hq => (O1.lt q hq).1), (h2.block g (Nat.lt_of_lt_of_le DA.1 (by simp)) (fun e => by have := a1 g e.symm; omega)).trans ((((Below.refl w.heap.size w).drew).alloc (Nat.le_refl _) (.cells #[.int .i64 n0, .int .i64 n1, .int .i64 n2, .int .i64 n3] 92)).block g DA.1), (h2.block bn (Nat.lt_of_lt_of_le hbn (by simp)) (fun e => hnv e.symm)).trans HA, (O2.drew.alloc (.cells #[.int .i64 n0, .int .i64 n1, .int .i64 n2, .int .i64 n3] 92)).grown h2 a3⟩)
  have HDS := hd (show ∀ w9 : World, w.heap.size ≤ w9.heap.size → w9.heap[g]? = w.heap[g]? → DeskAt w9 g d.1 v1 v2 d.2.2.2 ∧ ∀ i, w9.frozen? ⟨g, i, none⟩ = false from fun w9 hsz hblk => by
    obtain ⟨h0, q0, q1, q2, q3⟩ := DA
    exact ⟨⟨Nat.lt_of_lt_of_le h0 hsz, (World.cell?_of_block (w := w) (a := ⟨g, 0, none⟩) hblk).trans q0, (World.cell?_of_block (w := w) (a := ⟨g, 1, none⟩) hblk).trans q1, (World.cell?_of_block (w := w) (a := ⟨g, 2, none⟩) hblk).trans q2, (World.cell?_of_block (w := w) (a := ⟨g, 3, none⟩) hblk).trans q3⟩, fun i => (World.frozen?_of_block (w := w) (a := ⟨g, i, none⟩) hblk).trans (hfr i)⟩)
  have HST := hd (show ∀ (w9 : World) (v3 : Value), w9.heap[bn]? = w.heap[bn]? → (w9.setCell ⟨g, 1, none⟩ v3).heap[bn]? = w.heap[bn]? from fun w9 v3 h => (heap_setCell_other _ _ _ _ (by intro e; first | exact hng e | exact hng e.symm)).trans h)
  obtain ⟨A1, c1, rfl⟩ := O1.isSlice
  obtain ⟨hg, -, d1, -, -⟩ := id DA
  have HO1 := hd O1
  have HBB := hd hB
  have HBG := hd hBg
  have HA2 := hd a2
  have HA1 := hd a1
  have hlen := hC6
  clear hD hW hN hw hn hfr DA a1 a2 a3 hnb hnv HA BA O2 O1 k0 k1 k2 k3 hNb
  go_enter Tryz.func34, Tryz.ntmps34
  go_wp2_with fail
  clear w0
  refine wp_region_held_drew (S := (fun ww => ww.cell? ⟨bn, on, none⟩ = some (.int .i64 n0) ∧ ww.cell? ⟨bn, on + 1, none⟩ = some (.int .i64 n1) ∧ ww.cell? ⟨bn, on + 2, none⟩ = some (.int .i64 n2) ∧ ww.cell? ⟨bn, on + 3, none⟩ = some (.int .i64 n3))) (by kernel_rfl) ?_ (fun hHeld => ?_)
  · first | with_reducible assumption | assumption
  refine wpAnyH_take (i := 0) (v := ?v1) (by simp only [List.getElem?_toArray, List.getElem?_cons_zero, List.getElem?_cons_succ]; rfl) (by kernel_rfl) (by kernel_rfl) (by kernel_rfl) (by exact fun _ _ _ h => h) (Or.inl ⟨by rfl, ?hy1⟩) hHeld ?_
  case hy1 => (intro w hSw; (try dsimp only at hSw); go_simp; try with_reducible rfl)
  (try simp only [Act.put, List.setIfInBounds_toArray, List.set_cons_zero, List.set_cons_succ])
  refine wpAnyH_take (i := 1) (v := ?v2) (by simp only [List.getElem?_toArray, List.getElem?_cons_zero, List.getElem?_cons_succ]; rfl) (by kernel_rfl) (by kernel_rfl) (by kernel_rfl) (by exact fun _ _ _ h => h) (Or.inl ⟨by rfl, ?hy2⟩) hHeld ?_
  case hy2 => (intro w hSw; (try dsimp only at hSw); go_simp; try with_reducible rfl)
  (try simp only [Act.put, List.setIfInBounds_toArray, List.set_cons_zero, List.set_cons_succ])
  refine wpAnyH_take (i := 2) (v := ?v3) (by simp only [List.getElem?_toArray, List.getElem?_cons_zero, List.getElem?_cons_succ]; rfl) (by kernel_rfl) (by kernel_rfl) (by kernel_rfl) (by exact fun _ _ _ h => h) (Or.inl ⟨by rfl, ?hy3⟩) hHeld ?_
  case hy3 => (intro w hSw; (try dsimp only at hSw); go_simp; try with_reducible rfl)
  (try simp only [Act.put, List.setIfInBounds_toArray, List.set_cons_zero, List.set_cons_succ])
  refine wpAnyH_take (i := 3) (v := ?v4) (by simp only [List.getElem?_toArray, List.getElem?_cons_zero, List.getElem?_cons_succ]; rfl) (by kernel_rfl) (by kernel_rfl) (by kernel_rfl) (by exact fun _ _ _ h => h) (Or.inl ⟨by rfl, ?hy4⟩) hHeld ?_
  case hy4 => (intro w hSw; (try dsimp only at hSw); go_simp; try with_reducible rfl)
  (try simp only [Act.put, List.setIfInBounds_toArray, List.set_cons_zero, List.set_cons_succ])
  refine wpAnyH_take (i := 5) (v := ?v5) (by simp only [List.getElem?_toArray, List.getElem?_cons_zero, List.getElem?_cons_succ]; rfl) (by kernel_rfl) (by kernel_rfl) (by kernel_rfl) (by exact fun _ _ _ h => h) (Or.inl ⟨by rfl, ?hy5⟩) hHeld ?_
  case hy5 => (intro w hSw; (try dsimp only at hSw); go_simp; try with_reducible rfl)
  (try simp only [Act.put, List.setIfInBounds_toArray, List.set_cons_zero, List.set_cons_succ])
  refine wpAnyH_take (i := 6) (v := ?v6) (by simp only [List.getElem?_toArray, List.getElem?_cons_zero, List.getElem?_cons_succ]; rfl) (by kernel_rfl) (by kernel_rfl) (by kernel_rfl) (by exact fun _ _ _ h => h) (Or.inl ⟨by rfl, ?hy6⟩) hHeld ?_
  case hy6 => (intro w hSw; (try dsimp only at hSw); go_simp; try with_reducible rfl)
  (try simp only [Act.put, List.setIfInBounds_toArray, List.set_cons_zero, List.set_cons_succ])
  refine wpAnyH_take (i := 7) (v := ?v7) (by simp only [List.getElem?_toArray, List.getElem?_cons_zero, List.getElem?_cons_succ]; rfl) (by kernel_rfl) (by kernel_rfl) (by kernel_rfl) (by exact fun _ _ _ h => h) (Or.inl ⟨by rfl, ?hy7⟩) hHeld ?_
  case hy7 => (intro w hSw; (try dsimp only at hSw); go_simp; try with_reducible rfl)
  (try simp only [Act.put, List.setIfInBounds_toArray, List.set_cons_zero, List.set_cons_succ])
  refine wpAnyH_take (i := 8) (v := ?v8) (by simp only [List.getElem?_toArray, List.getElem?_cons_zero, List.getElem?_cons_succ]; rfl) (by kernel_rfl) (by kernel_rfl) (by kernel_rfl) (by exact fun _ _ _ h => h) (Or.inl ⟨by rfl, ?hy8⟩) hHeld ?_
  case hy8 => (intro w hSw; (try dsimp only at hSw); go_simp; try with_reducible rfl)
  (try simp only [Act.put, List.setIfInBounds_toArray, List.set_cons_zero, List.set_cons_succ])
  refine wpAnyH_take (i := 9) (v := ?v9) (by simp only [List.getElem?_toArray, List.getElem?_cons_zero, List.getElem?_cons_succ]; rfl) (by kernel_rfl) (by kernel_rfl) (by kernel_rfl) (by exact fun _ _ _ h => h) (Or.inl ⟨by rfl, ?hy9⟩) hHeld ?_
  case hy9 => (intro w hSw; (try dsimp only at hSw); go_simp; try with_reducible rfl)
  (try simp only [Act.put, List.setIfInBounds_toArray, List.set_cons_zero, List.set_cons_succ])
  refine wpAnyH_take (i := 10) (v := ?v10) (by simp only [List.getElem?_toArray, List.getElem?_cons_zero, List.getElem?_cons_succ]; rfl) (by kernel_rfl) (by kernel_rfl) (by kernel_rfl) (by exact fun _ _ _ h => h) (Or.inl ⟨by rfl, ?hy10⟩) hHeld ?_
  case hy10 => (intro w hSw; (try dsimp only at hSw); go_simp; try with_reducible rfl)
  (try simp only [Act.put, List.setIfInBounds_toArray, List.set_cons_zero, List.set_cons_succ])
  refine wpAnyH_take (i := 11) (v := ?v11) (by simp only [List.getElem?_toArray, List.getElem?_cons_zero, List.getElem?_cons_succ]; rfl) (by kernel_rfl) (by kernel_rfl) (by kernel_rfl) (by exact fun _ _ _ h => h) (Or.inl ⟨by rfl, ?hy11⟩) hHeld ?_
  case hy11 => (intro w hSw; (try dsimp only at hSw); go_simp; try with_reducible rfl)
  (try simp only [Act.put, List.setIfInBounds_toArray, List.set_cons_zero, List.set_cons_succ])
  refine wpAnyH_take (i := 12) (v := ?v12) (by simp only [List.getElem?_toArray, List.getElem?_cons_zero, List.getElem?_cons_succ]; rfl) (by kernel_rfl) (by kernel_rfl) (by kernel_rfl) (by exact fun _ _ _ h => h) (Or.inl ⟨by rfl, ?hy12⟩) hHeld ?_
  case hy12 => (intro w hSw; (try dsimp only at hSw); go_simp; try with_reducible rfl)
  (try simp only [Act.put, List.setIfInBounds_toArray, List.set_cons_zero, List.set_cons_succ])
  refine wpAnyH_take (i := 13) (v := ?v13) (by simp only [List.getElem?_toArray, List.getElem?_cons_zero, List.getElem?_cons_succ]; rfl) (by kernel_rfl) (by kernel_rfl) (by kernel_rfl) (by exact fun _ _ _ h => h) (Or.inl ⟨by rfl, ?hy13⟩) hHeld ?_
  case hy13 => (intro w hSw; (try dsimp only at hSw); go_simp; try with_reducible rfl)
  (try simp only [Act.put, List.setIfInBounds_toArray, List.set_cons_zero, List.set_cons_succ])
  refine wpAnyH_take (i := 14) (v := ?v14) (by simp only [List.getElem?_toArray, List.getElem?_cons_zero, List.getElem?_cons_succ]; rfl) (by kernel_rfl) (by kernel_rfl) (by kernel_rfl) (by exact fun _ _ _ h => h) (Or.inl ⟨by rfl, ?hy14⟩) hHeld ?_
  case hy14 => (intro w hSw; (try dsimp only at hSw); go_simp; try with_reducible rfl)
  (try simp only [Act.put, List.setIfInBounds_toArray, List.set_cons_zero, List.set_cons_succ])
  refine wpAnyH_take (i := 15) (v := ?v15) (by simp only [List.getElem?_toArray, List.getElem?_cons_zero, List.getElem?_cons_succ]; rfl) (by kernel_rfl) (by kernel_rfl) (by kernel_rfl) (by exact fun _ _ _ h => h) (Or.inl ⟨by rfl, ?hy15⟩) hHeld ?_
  case hy15 => (intro w hSw; (try dsimp only at hSw); go_simp; try with_reducible rfl)
  (try simp only [Act.put, List.setIfInBounds_toArray, List.set_cons_zero, List.set_cons_succ])
  refine wpAnyH_take (i := 16) (v := ?v16) (by simp only [List.getElem?_toArray, List.getElem?_cons_zero, List.getElem?_cons_succ]; rfl) (by kernel_rfl) (by kernel_rfl) (by kernel_rfl) (by exact fun _ _ _ h => h) (Or.inl ⟨by rfl, ?hy16⟩) hHeld ?_
  case hy16 => (intro w hSw; (try dsimp only at hSw); go_simp; try with_reducible rfl)
  (try simp only [Act.put, List.setIfInBounds_toArray, List.set_cons_zero, List.set_cons_succ])
  refine wpAnyH_take (i := 17) (v := ?v17) (by simp only [List.getElem?_toArray, List.getElem?_cons_zero, List.getElem?_cons_succ]; rfl) (by kernel_rfl) (by kernel_rfl) (by kernel_rfl) (by exact fun _ _ _ h => h) (Or.inl ⟨by rfl, ?hy17⟩) hHeld ?_
  case hy17 => (intro w hSw; (try dsimp only at hSw); go_simp; try with_reducible rfl)
  (try simp only [Act.put, List.setIfInBounds_toArray, List.set_cons_zero, List.set_cons_succ])
  refine wpAnyH_ready (rs := [4, 18]) (by kernel_rfl) (by simp) ?_
  refine AllReadyH.cons (by simp only [List.getElem?_toArray, List.getElem?_cons_zero, List.getElem?_cons_succ]; rfl) (fun K hK => ?_) ?_
  go_simp
  refine hK.out _ _ ?_ (fun hHeld2 => ?_)
  · first | with_reducible assumption | assumption
  clear hK K hHeld
  have hHeld := hHeld2
  clear hHeld2
  (try simp only [Act.put, List.setIfInBounds_toArray, List.set_cons_zero, List.set_cons_succ])
  refine wpAnyH_ready (rs := [18]) (by kernel_rfl) (by simp) ?_
  refine AllReadyH.cons (by simp only [List.getElem?_toArray, List.getElem?_cons_zero, List.getElem?_cons_succ]; rfl) (fun K hK => ?_) AllReadyH.nil
  go_simp
  refine hK.out _ _ ?_ (fun hHeld2 => ?_)
  · first | with_reducible assumption | assumption
  clear hK K hHeld
  have hHeld := hHeld2
  clear hHeld2
  (try simp only [Act.put, List.setIfInBounds_toArray, List.set_cons_zero, List.set_cons_succ])
  refine wpAnyH_ready (rs := [19]) (by kernel_rfl) (by simp) ?_
  refine AllReadyH.cons (by simp only [List.getElem?_toArray, List.getElem?_cons_zero, List.getElem?_cons_succ]; rfl) (fun K hK => ?_) AllReadyH.nil
  refine step_push_at (w.drew.alloc (.cells #[.int .i64 n0, .int .i64 n1, .int .i64 n2, .int .i64 n3] 92)) rfl _ _ 26 rfl i0 _ 32 Tryz.underlying26 hi hz0 hz1 hz2 rfl (by decide) _ d.2.1 (n0, n1, n2, n3) rfl (HO1.out.drew.alloc (.cells #[.int .i64 n0, .int .i64 n1, .int .i64 n2, .int .i64 n3] 92)) w.heap.size rfl #[.int .i64 n0, .int .i64 n1, .int .i64 n2, .int .i64 n3] 92 (heap_alloc_new w.drew _) rfl rfl (by intro u hu; simp [eCue] at hu; rcases hu with rfl | rfl | rfl | rfl <;> rfl) (by unfold maxLen; omega) (by omega) (Nat.le_trans HBB.out (by simp)) ?_; intro v3 w9 O9 hg9 hat9; obtain ⟨A3, c3, rfl⟩ := O9.isSlice; obtain ⟨B9, G9, N9, T9⟩ := HNX.out _ _ O9 hg9; have hz9 : w.heap.size ≤ w9.heap.size := Nat.le_trans (by simp) hg9.size; obtain ⟨D9, F9⟩ := HDS.out _ hz9 G9; have q1 := D9.2.2.1; have f1 := F9 1; have S9 := HP.out _ N9; have SZ := HP.out _ (HST.out w9 (.slice A3 (d.2.1.length + 1) c3) N9)
  refine hK.out _ _ ?_ (fun hHeld2 => ?_)
  · first | with_reducible assumption | assumption
  clear hK K hHeld
  have hHeld := hHeld2
  clear hHeld2
  (try simp only [Act.put, List.setIfInBounds_toArray, List.set_cons_zero, List.set_cons_succ])
  refine wpAnyH_take (i := 20) (v := ?v18) (by simp only [List.getElem?_toArray, List.getElem?_cons_zero, List.getElem?_cons_succ]; rfl) (by kernel_rfl) (by kernel_rfl) (by kernel_rfl) (by exact fun _ _ _ h => h) (Or.inl ⟨by rfl, ?hy18⟩) hHeld ?_
  case hy18 => (intro w hSw; (try dsimp only at hSw); go_simp; try with_reducible rfl)
  (try simp only [Act.put, List.setIfInBounds_toArray, List.set_cons_zero, List.set_cons_succ])
  refine wpAnyH_take (i := 21) (v := ?v19) (by simp only [List.getElem?_toArray, List.getElem?_cons_zero, List.getElem?_cons_succ]; rfl) (by kernel_rfl) (by kernel_rfl) (by kernel_rfl) (by exact fun _ _ _ h => h) (Or.inl ⟨by rfl, ?hy19⟩) hHeld ?_
  case hy19 => (intro w hSw; (try dsimp only at hSw); go_simp; try with_reducible rfl)
  (try simp only [Act.put, List.setIfInBounds_toArray, List.set_cons_zero, List.set_cons_succ])
  refine wpAnyH_ready (rs := [22]) (by kernel_rfl) (by simp) ?_
  refine AllReadyH.cons (by simp only [List.getElem?_toArray, List.getElem?_cons_zero, List.getElem?_cons_succ]; rfl) (fun K hK => ?_) AllReadyH.nil
  go_simp
  refine hK.out _ _ ?_ (fun hHeld2 => ?_)
  · first | with_reducible assumption | assumption
  clear hK K hHeld
  have hHeld := hHeld2
  clear hHeld2
  (try simp only [Act.put, List.setIfInBounds_toArray, List.set_cons_zero, List.set_cons_succ])
  refine wpAnyH_done (by kernel_rfl) ?_ _
  rotate_left
  refine AllReadyH.cons (by simp only [List.getElem?_toArray, List.getElem?_cons_zero, List.getElem?_cons_succ]; rfl) (fun K hK => ?_) AllReadyH.nil
  go_simp
  refine hK.out _ _ ?_ (fun hHeld2 => ?_)
  · first | with_reducible assumption | assumption
  clear hK K hHeld
  have hHeld := hHeld2
  clear hHeld2
  (try simp only [Act.put, List.setIfInBounds_toArray, List.set_cons_zero, List.set_cons_succ])
  refine wpAnyH_ready (rs := [4]) (by kernel_rfl) (by simp) ?_
  refine AllReadyH.cons (by simp only [List.getElem?_toArray, List.getElem?_cons_zero, List.getElem?_cons_succ]; rfl) (fun K hK => ?_) AllReadyH.nil
  go_simp
  refine hK.out _ _ ?_ (fun hHeld2 => ?_)
  · first | with_reducible assumption | assumption
  clear hK K hHeld
  have hHeld := hHeld2
  clear hHeld2
  (try simp only [Act.put, List.setIfInBounds_toArray, List.set_cons_zero, List.set_cons_succ])
  refine wpAnyH_ready (rs := [19]) (by kernel_rfl) (by simp) ?_
  refine AllReadyH.cons (by simp only [List.getElem?_toArray, List.getElem?_cons_zero, List.getElem?_cons_succ]; rfl) (fun K hK => ?_) AllReadyH.nil
  refine step_push_at (w.drew.alloc (.cells #[.int .i64 n0, .int .i64 n1, .int .i64 n2, .int .i64 n3] 92)) rfl _ _ 26 rfl i0 _ 32 Tryz.underlying26 hi hz0 hz1 hz2 rfl (by decide) _ d.2.1 (n0, n1, n2, n3) rfl (HO1.out.drew.alloc (.cells #[.int .i64 n0, .int .i64 n1, .int .i64 n2, .int .i64 n3] 92)) w.heap.size rfl #[.int .i64 n0, .int .i64 n1, .int .i64 n2, .int .i64 n3] 92 (heap_alloc_new w.drew _) rfl rfl (by intro u hu; simp [eCue] at hu; rcases hu with rfl | rfl | rfl | rfl <;> rfl) (by unfold maxLen; omega) (by omega) (Nat.le_trans HBB.out (by simp)) ?_; intro v3 w9 O9 hg9 hat9; obtain ⟨A3, c3, rfl⟩ := O9.isSlice; obtain ⟨B9, G9, N9, T9⟩ := HNX.out _ _ O9 hg9; have hz9 : w.heap.size ≤ w9.heap.size := Nat.le_trans (by simp) hg9.size; obtain ⟨D9, F9⟩ := HDS.out _ hz9 G9; have q1 := D9.2.2.1; have f1 := F9 1; have S9 := HP.out _ N9; have SZ := HP.out _ (HST.out w9 (.slice A3 (d.2.1.length + 1) c3) N9)
  refine hK.out _ _ ?_ (fun hHeld2 => ?_)
  · first | with_reducible assumption | assumption
  clear hK K hHeld
  have hHeld := hHeld2
  clear hHeld2
  (try simp only [Act.put, List.setIfInBounds_toArray, List.set_cons_zero, List.set_cons_succ])
  refine wpAnyH_take (i := 20) (v := ?v20) (by simp only [List.getElem?_toArray, List.getElem?_cons_zero, List.getElem?_cons_succ]; rfl) (by kernel_rfl) (by kernel_rfl) (by kernel_rfl) (by exact fun _ _ _ h => h) (Or.inl ⟨by rfl, ?hy20⟩) hHeld ?_
  case hy20 => (intro w hSw; (try dsimp only at hSw); go_simp; try with_reducible rfl)
  (try simp only [Act.put, List.setIfInBounds_toArray, List.set_cons_zero, List.set_cons_succ])
  refine wpAnyH_take (i := 21) (v := ?v21) (by simp only [List.getElem?_toArray, List.getElem?_cons_zero, List.getElem?_cons_succ]; rfl) (by kernel_rfl) (by kernel_rfl) (by kernel_rfl) (by exact fun _ _ _ h => h) (Or.inl ⟨by rfl, ?hy21⟩) hHeld ?_
  case hy21 => (intro w hSw; (try dsimp only at hSw); go_simp; try with_reducible rfl)
  (try simp only [Act.put, List.setIfInBounds_toArray, List.set_cons_zero, List.set_cons_succ])
  refine wpAnyH_ready (rs := [22]) (by kernel_rfl) (by simp) ?_
  refine AllReadyH.cons (by simp only [List.getElem?_toArray, List.getElem?_cons_zero, List.getElem?_cons_succ]; rfl) (fun K hK => ?_) AllReadyH.nil
  go_simp
  refine hK.out _ _ ?_ (fun hHeld2 => ?_)
  · first | with_reducible assumption | assumption
  clear hK K hHeld
  have hHeld := hHeld2
  clear hHeld2
  (try simp only [Act.put, List.setIfInBounds_toArray, List.set_cons_zero, List.set_cons_succ])
  refine wpAnyH_done (by kernel_rfl) ?_ _
  all_goals
    have hle : (d.2.1 ++ [(n0, n1, n2, n3)]).length = d.2.1.length + 1 := by rw [List.length_append]; rfl
    rw [hle] at O9 hat9
    have hne3 : ∀ h : Value, h = .slice A3 (d.2.1.length + 1) c3 → (h.ownBlock = none ∨ h.ownBlock ≠ some g) := by
      rintro h rfl
      rcases hat9 with e | e
      · rw [e]; exact neLt HA1.out
      · refine .inr fun e2 => ?_
        rw [e] at e2
        injection e2 with e2
        have : w.heap.size + 1 = g := by rw [← e2]; simp
        omega
    have DZ := desk_set1 D9 F9 (.slice A3 (d.2.1.length + 1) c3) rfl
    have P1 := O9.grown (grownBy_set w9 ⟨g, 1, none⟩ (.slice A3 (d.2.1.length + 1) c3)) (hne3 _ rfl)
    have P2 := own_set T9 HA2.out 1 (.slice A3 (d.2.1.length + 1) c3)
    have BZ := B9.setCell (p := ⟨g, 1, none⟩) HBG.out (.slice A3 (d.2.1.length + 1) c3)
    have HZ := hd (hsh.keep BZ)
    clear O9 hat9 hne3 D9 F9 T9 B9 G9 N9 S9 SZ q1 f1 hg9 S1 S2 HP HNX HDS HST HA1 HA2 hz9 d1 hsh
    generalize w9.setCell ⟨g, 1, none⟩ (.slice A3 (d.2.1.length + 1) c3) = Z at DZ P1 P2 BZ HZ ⊢
    have HL := hd hle
    have SQ := P1.sl eCue_len
    have HCX := hd (rfl : cueX d (n0, n1, n2, n3) = cueX d (n0, n1, n2, n3))
    have HGO : Hid (okCues (d.2.1 ++ [(n0, n1, n2, n3)]) = true → cueX d (n0, n1, n2, n3) = ((d.1, d.2.1 ++ [(n0, n1, n2, n3)], d.2.2.1, d.2.2.2), [orS (textD d.1 (d.2.1 ++ [(n0, n1, n2, n3)]) d.2.2.1 d.2.2.2)], 0)) := fun h => by unfold cueX; rw [if_pos h]
    have HNO : Hid (okCues (d.2.1 ++ [(n0, n1, n2, n3)]) = false → cueX d (n0, n1, n2, n3) = (d, [], 1)) := fun h => by unfold cueX; rw [h]; rfl
    obtain ⟨A2, c2, rfl⟩ := P2.isSlice
    generalize d.2.1 ++ [(n0, n1, n2, n3)] = C at P1 SQ HL HGO HNO
    clear hle HCX
    obtain ⟨hg2, e0, e1, e2, e3⟩ := id DZ
    go_wp2_with fail
    refine (cues_impl Z _ C SQ).mono ?_
    rintro e w2 ⟨rfl, hb2⟩
    have DZ2 := DZ.below hb2
    have P12 := P1.below hb2 (Nat.le_refl _)
    have P22 := P2.below hb2 (Nat.le_refl _)
    have hBZ : B ≤ Z.heap.size := Nat.le_trans HBB.out BZ.size
    have BZ2 := BZ.trans (hb2.mono hBZ)
    have HZ2 := hd ((HZ.out).keep (hb2.mono hBZ))
    clear hb2 DZ P1 P2 BZ HZ SQ e0 e1 e2 e3 hg2
    obtain ⟨hg2, e0, e1, e2, e3⟩ := id DZ2
    rcases ho : okCues C with _ | _
    · have HR := hd (HNO.out ho)
      clear ho HGO HNO
      go_wp2_with fail
      go_ret2
      exact exec_err BZ2 (by decide) HR.out
    · have HR := hd (HGO.out ho)
      clear ho HGO HNO
      go_wp2_with fail
      refine (text_impl w2 d.1 d.2.2.2 _ _ C d.2.2.1 (P12.sl eCue_len) (P22.sl eTitle_len) hp hq HZ2.out.shop).mono ?_
      rintro e w3 ⟨rfl, hb3⟩
      generalize textD d.1 C d.2.2.1 d.2.2.2 = tx at HR ⊢
      have hB2 : B ≤ w2.heap.size := Nat.le_trans HBB.out BZ2.size
      clear e0 e1 e2 e3
      go_wp2_with fail
      refine (or_impl _ _).mono ?_
      rintro e w4 ⟨v4, rfl, O4, hb4⟩
      have hb5 := below_step hb3 hb4
      have O5 := O4.base (Nat.le_trans hB2 hb3.size)
      obtain ⟨A4, c4, rfl⟩ := O4.isSlice
      go_wp2_with fail
      go_ret2
      exact exec_to (d := (d.1, C, d.2.2.1, d.2.2.2)) (BZ2.trans (hb5.mono hB2)) O5 (DZ2.below hb5) (P12.below hb5 (Nat.le_refl _)) (P22.below hb5 (Nat.le_refl _)) HR.out
end Go.Proofs.YtgcodjkjdfahdaaGreatDoor
