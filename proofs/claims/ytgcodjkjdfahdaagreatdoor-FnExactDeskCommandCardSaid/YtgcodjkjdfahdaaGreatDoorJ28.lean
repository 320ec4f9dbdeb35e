/- Lemmas for the claim (the walks of its functions and their plain laws), joined. No condition. -/
import Derived.Test.YtgcodjkjdfahdaaGreatDoorJ27
import Derived.Deep.RegionLaw
import Derived.Deep.RegionHeld3
namespace Go.Proofs.YtgcodjkjdfahdaaGreatDoor
open Go Go.RowKit Go.ChangeShapes Go.WideShapes
set_option linter.unusedSimpArgs false
set_option linter.unusedVariables false
structure WAt (W : World) (B g : Nat) (vL : Value) (h : Int) (st : TBest) : Prop where
  lt : g < W.heap.size
  base : B ≤ g
  c0 : W.cell? ⟨g, 0, none⟩ = some vL
  c1 : W.cell? ⟨g, 1, none⟩ = some (.int .i64 h)
  c3 : W.cell? ⟨g, 3, none⟩ = some (.int .i64 st.2)
  fr : ∀ i, W.frozen? ⟨g, i, none⟩ = false
  cb : ∃ vb, W.cell? ⟨g, 2, none⟩ = some vb ∧ Own W B 2 1 vb eI st.1 ∧ ∀ q, vb.ownBlock = some q → q ≠ g
theorem WAt.below {W W' : World} {B g : Nat} {vL : Value} {h : Int} {st : TBest} (H : WAt W B g vL h st) (hb : Below W.heap.size W W') : WAt W' B g vL h st := by
  obtain ⟨vb, c, O, n⟩ := H.cb
  exact ⟨Nat.lt_of_lt_of_le H.lt hb.size, H.base, (hb.cell (p := ⟨g, 0, none⟩) H.lt).trans H.c0, (hb.cell (p := ⟨g, 1, none⟩) H.lt).trans H.c1, (hb.cell (p := ⟨g, 3, none⟩) H.lt).trans H.c3, fun i => (hb.frozen (p := ⟨g, i, none⟩) H.lt).trans (H.fr i), vb, (hb.cell (p := ⟨g, 2, none⟩) H.lt).trans c, O.below hb (Nat.le_refl _), n⟩
theorem ne_of_all' {v : Value} {g : Nat} (h : ∀ k, v.ownBlock = some k → k ≠ g) : v.ownBlock = none ∨ v.ownBlock ≠ some g := .inr fun e => h g e rfl
theorem touch_w {W w : World} (hb : Below W.heap.size W w) (g : Nat) (a b : Value) : TouchL W ((w.setCell ⟨g, 2, none⟩ a).setCell ⟨g, 3, none⟩ b) [some g] := by
  refine ⟨hb.os, hb.tape, hb.output, by simpa using hb.size, fun k hk hn => ?_⟩
  have h1 := hn (some g) (by simp)
  rw [heap_setCell_other _ _ _ _ (fun e => h1 (by rw [e])), heap_setCell_other _ _ _ _ (fun e => h1 (by rw [e]))]
  exact hb.block k hk
theorem cell_belowW {w : World} {p : Addr} {v : Value} (h : w.cell? p = some v) : ∀ W, Below w.heap.size w W → W.cell? p = some v := fun W hb => (hb.cell (World.block_lt_of_cell? w p h)).trans h
theorem TouchL.join' {a b c : World} {bs : List (Option Nat)} (h : TouchL a b bs) (h' : TouchL b c bs) : TouchL a c bs := (h.trans h').mono fun x hx => by rcases List.mem_append.1 hx with h | h <;> exact h
theorem stops_sum {h : Int} {dn : List TCue} {s : Int} {st : TBest} (h1 : 0 ≤ st.2) (h2 : st.2 ≤ s) : stops h dn s st = true := by unfold stops; rw [decide_eq_true h1, decide_eq_true h2]; rfl
theorem stops_most {h : Int} {dn : List TCue} {s : Int} {st : TBest} (h1 : h < mostL dn) : stops h dn s st = true := by unfold stops; rw [decide_eq_true h1, Bool.or_true]
theorem stops_no {h : Int} {dn : List TCue} {s : Int} {st : TBest} (h1 : ¬ (0 ≤ st.2 ∧ st.2 ≤ s)) (h2 : ¬ h < mostL dn) : stops h dn s st = false := by
  unfold stops
  rw [decide_eq_false h2, Bool.or_false]
  simpa using h1
theorem walkP_stop {h : Int} {rest dn : List TCue} {sh : List Int} {s : Int} {st : TBest} (h1 : stops h dn s st = true) : walkP h rest dn sh s st = st := by
  cases rest with
  | nil => unfold walkP; rw [if_pos h1]
  | cons x r => unfold walkP; rw [if_pos h1]
theorem walkP_end {h : Int} {dn : List TCue} {sh : List Int} {s : Int} {st : TBest} (h1 : stops h dn s st = false) : walkP h [] dn sh s st = (sh, s) := by unfold walkP; rw [h1]; rfl
def kidsP (h : Int) (x : TCue) (rest dn : List TCue) (sh : List Int) (s : Int) (st : TBest) (k : Nat) : TBest := ((List.range k).map fun (k : Nat) => (k : Int)).foldl (fun st b => walkP h rest (dn ++ [shiftC x b]) (sh ++ [b]) (s + b) st) st
theorem kidsP_succ (h : Int) (x : TCue) (rest dn : List TCue) (sh : List Int) (s : Int) (st : TBest) (k : Nat) : kidsP h x rest dn sh s st (k + 1) = walkP h rest (dn ++ [shiftC x (k : Int)]) (sh ++ [(k : Int)]) (s + k) (kidsP h x rest dn sh s st k) := by
  unfold kidsP
  rw [List.range_succ, List.map_append, List.foldl_append]
  rfl
theorem kidsP_all (h : Int) (x : TCue) (rest dn : List TCue) (sh : List Int) (s : Int) (st : TBest) (k : Nat) (hk : (k : Int) = x.2.2.2 + 1) (h1 : stops h dn s st = false) : kidsP h x rest dn sh s st k = walkP h (x :: rest) dn sh s st := by
  conv => rhs; unfold walkP
  rw [h1]
  unfold kidsP rangeI
  rw [show (x.2.2.2 + 1).toNat = k by omega]
  rfl
set_option maxRecDepth 100000 in
set_option maxHeartbeats 8000000 in
theorem walk_stop (B g : Nat) (vL : Value) (h : Int) (W : World) (vD vS : Value) (dn : List TCue) (s : Int) (st : TBest) (hD : Sl W 4 vD eCue dn) (HW : WAt W B g vL h st) (h1 : 0 ≤ st.2 ∧ st.2 ≤ s) :
    Calls Tryz.prog 271 #[.pointer (some ⟨g, 0, none⟩), vD, vS, .int .i64 s] W fun e W' => e = .returned (.tuple #[]) ∧ WAt W' B g vL h st ∧ Below W.heap.size W W' := by
  obtain ⟨AD, cD, rfl⟩ := hD.isSlice
  obtain ⟨s2, hs2⟩ : ∃ s2, st.2 = s2 := ⟨_, rfl⟩
  have HH := hd HW
  have c1 := HW.c1
  have c3 := HW.c3
  rw [hs2] at h1 c3
  clear HW hs2
  have q1 : decide (0 ≤ s2) = true := decide_eq_true h1.1
  have q2 : decide (s2 ≤ s) = true := decide_eq_true h1.2
  obtain ⟨h2, h3⟩ := h1
  go_enter Tryz.func271, Tryz.ntmps271
  go_wp2_with fail
  go_quiet (fail)
  go_wp2_with fail
  refine bodyPost_ret (results_none rfl _ _ _) rfl ?_
  exact ⟨rfl, HH.out.below (below_drewN (Below.refl _ _) _), below_drewN (Below.refl _ _) _⟩
set_option maxRecDepth 100000 in
set_option maxHeartbeats 8000000 in
theorem walk_much (B g : Nat) (vL : Value) (h : Int) (W : World) (vD vS : Value) (dn : List TCue) (s : Int) (st : TBest) (hD : Sl W 4 vD eCue dn) (hbd : ∀ x ∈ dn, bdCue x) (hdl : dn.length ≤ 6) (HW : WAt W B g vL h st) (h1 : ¬ (0 ≤ st.2 ∧ st.2 ≤ s)) (h2 : h < mostL dn) :
    Calls Tryz.prog 271 #[.pointer (some ⟨g, 0, none⟩), vD, vS, .int .i64 s] W fun e W' => e = .returned (.tuple #[]) ∧ WAt W' B g vL h st ∧ Below W.heap.size W W' := by
  have HM := hd (fun n => most_specN (W.drewN n) vD dn (hD.below (below_drewN (Below.refl _ _) n)) hbd hdl)
  obtain ⟨AD, cD, rfl⟩ := hD.isSlice
  obtain ⟨s2, hs2⟩ : ∃ s2, st.2 = s2 := ⟨_, rfl⟩
  have HH := hd HW
  have c1 := HW.c1
  have c3 := HW.c3
  rw [hs2] at h1 c3
  clear HW hs2
  have q3 : decide (h < mostL dn) = true := decide_eq_true h2
  generalize mostL dn = mm at HM h2 q3
  rcases (show (decide (0 ≤ s2) = false ∧ s2 < 0) ∨ (decide (0 ≤ s2) = true ∧ decide (s2 ≤ s) = false ∧ 0 ≤ s2 ∧ s < s2) by
    by_cases hc : 0 ≤ s2
    · exact .inr ⟨decide_eq_true hc, decide_eq_false (by omega), hc, by omega⟩
    · exact .inl ⟨decide_eq_false hc, by omega⟩) with ⟨q1, q2⟩ | ⟨q1, q2, q4, q5⟩
  all_goals
    clear h1
    go_enter Tryz.func271, Tryz.ntmps271
    go_wp2_with fail
    go_quiet ((go_at_call 281; exact Calls.quiet_of (HM.out _)))
    go_wp2_with fail
    refine bodyPost_ret (results_none rfl _ _ _) rfl ?_
    exact ⟨rfl, HH.out.below (below_drewN (Below.refl _ _) _), below_drewN (Below.refl _ _) _⟩
theorem WAt.put {W : World} {B g : Nat} {vL : Value} {h : Int} {st : TBest} (H : WAt W B g vL h st) {v : Value} {sh : List Int} (O : Own W B 2 1 v eI sh) (n : ∀ q, v.ownBlock = some q → q ≠ g) (s : Int) (hv : v.oneCell' = true) :
    WAt ((W.setCell ⟨g, 2, none⟩ v).setCell ⟨g, 3, none⟩ (.int .i64 s)) B g vL h (sh, s) := by
  obtain ⟨vb, c2, -, -⟩ := H.cb
  have c0 := H.c0
  have c1 := H.c1
  have c3 := H.c3
  have f2 := H.fr 2
  have f3 := H.fr 3
  have hF := H.fr
  refine ⟨by simpa using H.lt, H.base, ?_, ?_, ?_, fun i => ?_, v, ?_, (O.grown (grownBy_set W ⟨g, 2, none⟩ v) (ne_of_all' n)).grown (grownBy_set _ ⟨g, 3, none⟩ _) (ne_of_all' n), n⟩
  · go_simp
  · go_simp
  · go_simp
  · have := hF i
    go_simp
  · go_simp
set_option maxRecDepth 100000 in
set_option maxHeartbeats 8000000 in
theorem walk_end (B g : Nat) (vL : Value) (l : List TCue) (h : Int) (W : World) (vD vS : Value) (dn : List TCue) (sh : List Int) (s : Int) (st : TBest) (hL : Sl W 4 vL eCue l) (hlen : dn.length = l.length) (hD : Sl W 4 vD eCue dn) (hbd : ∀ x ∈ dn, bdCue x) (hdl : dn.length ≤ 6) (hS : Own W B 2 1 vS eI sh) (hSn : ∀ q, vS.ownBlock = some q → q ≠ g) (HW : WAt W B g vL h st) (h1 : ¬ (0 ≤ st.2 ∧ st.2 ≤ s)) (h2 : ¬ h < mostL dn) :
    Calls Tryz.prog 271 #[.pointer (some ⟨g, 0, none⟩), vD, vS, .int .i64 s] W fun e W' => e = .returned (.tuple #[]) ∧ WAt W' B g vL h (sh, s) ∧ TouchL W W' [some g] := by
  have HM := hd (fun n => most_specN (W.drewN n) vD dn (hD.below (below_drewN (Below.refl _ _) n)) hbd hdl)
  obtain ⟨AD, cD, rfl⟩ := hD.isSlice
  obtain ⟨AL, cL, rfl⟩ := hL.isSlice
  obtain ⟨s2, hs2⟩ : ∃ s2, st.2 = s2 := ⟨_, rfl⟩
  have HH := hd HW
  have c0 := HW.c0
  have c1 := HW.c1
  have c3 := HW.c3
  have f2 := HW.fr 2
  have f3 := HW.fr 3
  have hbg := hd HW.base
  obtain ⟨vb, c2, -, -⟩ := HW.cb
  rw [hs2] at h1 c3
  have HO := hd hS
  have HN := hd hSn
  obtain ⟨AS, cS, rfl⟩ := hS.isSlice
  have q3 : decide (h < mostL dn) = false := decide_eq_false h2
  have h2' : mostL dn ≤ h := by omega
  generalize mostL dn = mm at HM h2 h2' q3
  clear HW hs2 hS hSn h2
  rw [hlen] at HM ⊢
  rcases (show (decide (0 ≤ s2) = false ∧ s2 < 0) ∨ (decide (0 ≤ s2) = true ∧ decide (s2 ≤ s) = false ∧ 0 ≤ s2 ∧ s < s2) by
    by_cases hc : 0 ≤ s2
    · exact .inr ⟨decide_eq_true hc, decide_eq_false (by omega), hc, by omega⟩
    · exact .inl ⟨decide_eq_false hc, by omega⟩) with ⟨q1, q2⟩ | ⟨q1, q2, q4, q5⟩
  all_goals
    clear h1 hlen hdl
    go_enter Tryz.func271, Tryz.ntmps271
    go_wp2_with fail
    go_quiet ((go_at_call 281; exact Calls.quiet_of (HM.out _)))
    clear q1 q2 q3
    go_wp2_with fail
    refine bodyPost_ret (results_none rfl _ _ _) rfl ?_
    have K := below_drewN (Below.refl W.heap.size W) nq
    exact ⟨rfl, (HH.out.below K).put (HO.out.below K (Nat.le_refl _)) HN.out s rfl, touch_w K g _ _⟩
theorem sl_grown67 {α : Type} {W W' : World} {B E k : Nat} {v v' : Value} {enc : α → List Value} {l : List α} {o : Obj} (h : Own W B E k v enc l) (hg : (W.alloc o).grownBy W' v'.ownBlock) (hne : ∀ q, v.ownBlock = some q → v'.ownBlock ≠ some q) : Own W' B E k v enc l := by
  refine (h.alloc o).grown hg ?_
  rcases hq : v.ownBlock with _ | q
  · exact .inl rfl
  · exact .inr fun e => hne q hq e.symm
theorem sl_touched {α : Type} {W W' : World} {k g : Nat} {v : Value} {enc : α → List Value} {l : List α} (h : Sl W k v enc l) (hne : ∀ q, v.ownBlock = some q → 0 < l.length → q ≠ g) (ht : TouchL W W' [some g]) : Sl W' k v enc l := by
  obtain ⟨h1, A, cp, rfl, hc, hc', h2⟩ := h
  refine ⟨h1, A, cp, rfl, hc, hc', fun i x hx => ?_⟩
  obtain ⟨b', o', hA, hb, h3⟩ := h2 i x hx
  subst hA
  have hbg : b' ≠ g := hne b' rfl (Nat.lt_of_le_of_lt (Nat.zero_le _) (List.getElem?_eq_some_iff.1 hx).1)
  have hblk := ht.block b' hb (fun b hbm e => by rw [List.mem_singleton.1 hbm] at e; injection e with e; exact hbg e.symm)
  exact ⟨b', o', rfl, Nat.lt_of_lt_of_le hb ht.size, fun j u hu => (World.cell?_of_block (w := W) (a := ⟨b', _, none⟩) hblk).trans (h3 j u hu)⟩
set_option maxRecDepth 100000 in
set_option maxHeartbeats 16000000 in
theorem walk_spec (B g : Nat) (vL : Value) (l : List TCue) (hl6 : l.length ≤ 6) (hok : ∀ x ∈ l, okC x) (h : Int) (hLn : ∀ q, vL.ownBlock = some q → 0 < l.length → q ≠ g) : ∀ (rest pre : List TCue), l = pre ++ rest → ∀ (W : World) (vD vS : Value) (dn : List TCue) (sh : List Int) (s : Int) (st : TBest), Sl W 4 vL eCue l → dn.length = pre.length → Sl W 4 vD eCue dn → (∀ q, vD.ownBlock = some q → q ≠ g) → (∀ x ∈ dn, bdCue x) → Own W B 2 1 vS eI sh → (∀ q, vS.ownBlock = some q → q ≠ g) → sh.length = pre.length → (0 ≤ s ∧ s ≤ 6 * (pre.length : Int)) → WAt W B g vL h st →
    Calls Tryz.prog 271 #[.pointer (some ⟨g, 0, none⟩), vD, vS, .int .i64 s] W fun e W' => e = .returned (.tuple #[]) ∧ WAt W' B g vL h (walkP h rest dn sh s st) ∧ TouchL W W' [some g] := by
  intro rest
  induction rest with
  | nil =>
    intro pre hpre W vD vS dn sh s st hL hdn hD hDn hbd hS hSn hsl hs HW
    have hpl : pre.length = l.length := by rw [hpre, List.append_nil]
    by_cases h1 : 0 ≤ st.2 ∧ st.2 ≤ s
    · refine (walk_stop B g vL h W vD vS dn s st hD HW h1).mono ?_
      rintro e W' ⟨he, h3, h4⟩
      exact ⟨he, by rw [walkP_stop (stops_sum h1.1 h1.2)]; exact h3, touch_none h4 _⟩
    by_cases h2 : h < mostL dn
    · refine (walk_much B g vL h W vD vS dn s st hD hbd (by omega) HW h1 h2).mono ?_
      rintro e W' ⟨he, h3, h4⟩
      exact ⟨he, by rw [walkP_stop (stops_most h2)]; exact h3, touch_none h4 _⟩
    · rw [walkP_end (stops_no h1 h2)]
      exact walk_end B g vL l h W vD vS dn sh s st hL (by omega) hD hbd (by omega) hS hSn HW h1 h2
  | cons x rest ih =>
    intro pre hpre W vD vS dn sh s st hL hdn hD hDn hbd hS hSn hsl hs HW
    have hpl : pre.length + 1 + rest.length = l.length := by rw [hpre]; simp; omega
    by_cases h1 : 0 ≤ st.2 ∧ st.2 ≤ s
    · refine (walk_stop B g vL h W vD vS dn s st hD HW h1).mono ?_
      rintro e W' ⟨he, h3, h4⟩
      exact ⟨he, by rw [walkP_stop (stops_sum h1.1 h1.2)]; exact h3, touch_none h4 _⟩
    by_cases h2 : h < mostL dn
    · refine (walk_much B g vL h W vD vS dn s st hD hbd (by omega) HW h1 h2).mono ?_
      rintro e W' ⟨he, h3, h4⟩
      exact ⟨he, by rw [walkP_stop (stops_most h2)]; exact h3, touch_none h4 _⟩
    have hns := stops_no h1 h2
    obtain ⟨xa, xb, xc, xd⟩ := x
    have hxo : okC (xa, xb, xc, xd) := hok _ (by rw [hpre]; simp)
    have hpx : pre.length < l.length := by omega
    have hxl : l[pre.length] = (xa, xb, xc, xd) := by subst hpre; simp
    have HIH := hd (ih (pre ++ [(xa, xb, xc, xd)]) (by rw [hpre]; simp))
    have HKS := hd (fun k => kidsP_succ h (xa, xb, xc, xd) rest dn sh s st k)
    have HKA := hd (fun k hk => kidsP_all h (xa, xb, xc, xd) rest dn sh s st k hk hns)
    have HK0 := hd (show kidsP h (xa, xb, xc, xd) rest dn sh s st 0 = st from rfl)
    have HXO := hd hxo
    have HBD := hd hbd
    obtain ⟨⟨a0, a1⟩, -, -, d0, d1⟩ := hxo
    dsimp only at a0 a1 d0 d1
    have HM := hd (fun n => most_specN (W.drewN n) vD dn (hD.below (below_drewN (Below.refl _ _) n)) hbd (by omega))
    have HLW := hd hL
    have HDW := hd hD
    have HDN := hd hDn
    have HLN := hd hLn
    have HSO := hd hS
    have HSN := hd hSn
    obtain ⟨AD, cD, rfl⟩ := hD.isSlice
    obtain ⟨AL, cL, rfl⟩ := hL.isSlice
    obtain ⟨AS, cS, rfl⟩ := hS.isSlice
    obtain ⟨s2, hs2⟩ : ∃ s2, st.2 = s2 := ⟨_, rfl⟩
    have HH := hd HW
    have c1 := HW.c1
    have c3 := HW.c3
    rw [hs2] at h1 c3
    have hBg := HW.base
    have q3 : decide (h < mostL dn) = false := decide_eq_false h2
    have h2' : mostL dn ≤ h := by omega
    have hsl6 : sh.length ≤ 6 := by omega
    have hdn6 : dn.length ≤ 6 := by omega
    generalize mostL dn = mm at HM h2 h2' q3
    clear HW hs2 hS hSn h2 hns ih hL hD hDn hbd hok
    generalize hplE : pre.length = pl at hpl hdn hsl hs hpx hxl
    replace hplE := hd hplE
    have HSLn := hd hsl
    clear hpre hsl
    subst hdn
    have hpe : decide ((dn.length : Int) = (l.length : Int)) = false := decide_eq_false (by omega)
    have hpe2 : ¬ ((dn.length : Int) = (l.length : Int)) := by omega
    have hpe3 : ((dn.length : Int) == (l.length : Int)) = false := beq_eq_false_iff_ne.2 hpe2
    obtain ⟨i0, hi, hz0, hz1, hz2⟩ := info_parts info_CueK
    obtain ⟨j0, ji, jz0, jz1, jz2⟩ := info_parts info_i64
    rcases (show (decide (0 ≤ s2) = false ∧ s2 < 0) ∨ (decide (0 ≤ s2) = true ∧ decide (s2 ≤ s) = false ∧ 0 ≤ s2 ∧ s < s2) by
      by_cases hc : 0 ≤ s2
      · exact .inr ⟨decide_eq_true hc, decide_eq_false (by omega), hc, by omega⟩
      · exact .inl ⟨decide_eq_false hc, by omega⟩) with ⟨q1, q2⟩ | ⟨q1, q2, q4, q5⟩
    all_goals
      clear h1
      go_enter Tryz.func271, Tryz.ntmps271
      go_wp2_with fail
      go_quiet ((go_at_call 281; exact Calls.quiet_of (HM.out _)))
      have K := below_drewN (Below.refl W.heap.size W) nq
      have HW0 := hd (HH.out.below K)
      have HT0 := hd (touch_none K [some g])
      generalize W.drewN nq = W0 at K HW0 HT0 ⊢
      have c0 := HW0.out.c0
      clear q1 q2 q3 c1 c3 HH HM K
      go_wp2_with fail
      go_loopw [9] (fun bv wr => ∃ k : Nat, (k : Int) ≤ xd + 1 ∧ bv = .int .i64 k ∧ Hid (WAt wr B g (.slice AL l.length cL) h (kidsP h (xa, xb, xc, xd) rest dn sh s st k)) ∧ Hid (TouchL W wr [some g])) (fun bv _ => (8 - intOf bv).toNat)
      case atStart => exact ⟨0, by omega, rfl, by rw [HK0.out]; exact HW0, HT0⟩
      case round =>
        obtain ⟨k, hk, rfl, HWk, HTk⟩ := hrel
        clear c0 HW0 HT0
        obtain ⟨bb, o, hA, -, p0, p1, p2, p3⟩ := (sl_touched HLW.out HLN.out HTk.out).Cue_at hpx
        subst hA
        rw [hxl] at p0 p1 p2 p3
        dsimp only at p0 p1 p2 p3
        have c0 := HWk.out.c0
        by_cases hlt : (k : Int) ≤ xd
        · have HDr := hd (sl_touched HDW.out (fun q e _ => HDN.out q e) HTk.out)
          have HSr := hd (HSO.out.touched HTk.out (by intro b hb; rw [List.mem_singleton.1 hb]; exact ne_of_all' HSN.out))
          go_wp2_with (at_builtin; refine wpList_append_sl _ rfl _ _ 26 rfl i0 (.agg #[.int .i64 0, .int .i64 0, .int .i64 0, .int .i64 0]) 32 Tryz.underlying26 hi hz0 hz1 hz2 rfl (by decide) eCue_len (by rintro ⟨a, b, c, d⟩ u hu; simp [eCue] at hu; rcases hu with rfl | rfl | rfl | rfl <;> rfl) _ [] rfl (Own.made0 wr wr.heap.size 92 4 eCue (Nat.le_refl _)) _ dn rfl (HDr.out.alloc _) (by unfold maxLen; simp; omega) (by simp; omega) (by simp) ?_)
          intro v3 w3 O3 hg3
          have B3 := ((Below.refl wr.heap.size wr).alloc (Nat.le_refl _) (.cells #[] 92)).grown hg3 (by simp) (by intro q hq; simp [Value.ownBlock] at hq; omega)
          have hgr : g < wr.heap.size := HWk.out.lt
          have c03 := (B3.cell (p := ⟨g, 0, none⟩) hgr).trans c0
          have p03 := cell_belowW p0 _ B3
          have p13 := cell_belowW p1 _ B3
          have p23 := cell_belowW p2 _ B3
          have p33 := cell_belowW p3 _ B3
          obtain ⟨A3, c3, rfl⟩ := O3.isSlice
          clear c0 p0 p1 p2 p3 hg3
          go_wp2_with fail
          refine (shiftC_spec w3 xa xb xc xd k (by omega) (by omega) (by omega)).mono ?_
          rintro e w4 ⟨rfl, B4⟩
          have O4 := O3.below B4 (Nat.le_refl _)
          have B34 := below_step B3 B4
          clear c03 p03 p13 p23 p33 O3
          go_wp2_with (at_builtin; refine wpList_push _ rfl _ _ 26 rfl i0 (.agg #[.int .i64 0, .int .i64 0, .int .i64 0, .int .i64 0]) 32 Tryz.underlying26 hi hz0 hz1 hz2 rfl (by decide) _ dn (xa + k, xb, xc, xd - k) rfl (O4.alloc _) w4.heap.size rfl #[.int .i64 (xa + k), .int .i64 xb, .int .i64 xc, .int .i64 (xd - k)] 92 (heap_alloc_new _ _) rfl rfl (by intro u hu; simp [eCue] at hu; rcases hu with rfl | rfl | rfl | rfl <;> rfl) (by unfold maxLen; omega) (by omega) (Nat.le_trans B34.size (by simp)) ?_)
          intro v5 w5 O5 hg5
          have B5 := (B34.alloc B34.size (.cells #[.int .i64 (xa + k), .int .i64 xb, .int .i64 xc, .int .i64 (xd - k)] 92)).grown hg5 (Nat.le_trans B34.size (by simp)) (fun q hq => (O4.lt q hq).1)
          have HO5 := hd O5
          obtain ⟨A5, c5, rfl⟩ := O5.isSlice
          have HSL5 := hd ((HSr.out.below B5 (Nat.le_refl _)).sl eI_len)
          have HIW5 := hd (HWk.out.below B5)
          clear O4 hg5 B34 B3 B4
          go_wp2_with fail
          refine (own_intsK w5 _ sh HSL5.out (by omega)).mono ?_
          rintro e w6 ⟨u6, rfl, O6, B6⟩
          have B56 := below_step B5 B6
          have HO6 := hd (HO5.out.below B6 (Nat.le_refl _))
          have O6b := O6
          obtain ⟨A6, c6, rfl⟩ := O6.isSlice
          go_wp2_with (at_builtin; refine wpList_push _ rfl _ _ 56 rfl j0 (.int .i64 0) 8 Tryz.underlying56 ji jz0 jz1 jz2 rfl (by decide) _ sh (k : Int) rfl (O6b.alloc _) w6.heap.size rfl #[.int .i64 k] 2 (heap_alloc_new _ _) rfl rfl (by intro u hu; simp [eI] at hu; subst hu; rfl) (by unfold maxLen; omega) (by omega) (Nat.le_trans B6.size (by simp)) ?_)
          intro v7 w7 O7 hg7
          have B7 := (B56.alloc B56.size (.cells #[.int .i64 k] 2)).grown hg7 (Nat.le_trans B56.size (by simp)) (fun q hq => Nat.le_trans B5.size (O6b.lt q hq).1)
          have B67 := ((Below.refl w6.heap.size w6).alloc (Nat.le_refl _) (.cells #[.int .i64 k] 2))
          have hgW : ∀ q, v7.ownBlock = some q → q ≠ g := fun q hq => by
            have h1 := (O7.lt q hq).1
            have h2 := HWk.out.lt
            have h3 := B5.size
            omega
          have HO7 := hd (O7.base (show B ≤ w5.heap.size from Nat.le_trans (Nat.le_of_lt (Nat.lt_of_le_of_lt hBg HWk.out.lt)) B5.size))
          have HD7 := hd (sl_grown67 HO6.out hg7 (fun q hq => by have h1 := (HO5.out.lt q hq).2; have h2 := B6.size; intro e; have h3 := (O6b.lt q e).1; omega))
          have hD5 : ∀ q, (Value.slice A5 (dn ++ [(xa + (k : Int), xb, xc, xd - (k : Int))]).length c5).ownBlock = some q → q ≠ g := fun q hq => by
            have h1 := (HO5.out.lt q hq).1
            have h2 := HWk.out.lt
            omega
          have ksm : IntKind.i64.wrap (s + (k : Int)) = s + (k : Int) := IntWalk.i64_in _ (by omega)
          have HI7 := hd (HIW5.out.below (below_step B6 ((Below.refl w6.heap.size w6).alloc (Nat.le_refl _) (.cells #[.int .i64 k] 2))))
          have hw56 := B6.size
          have B57 := (B6.alloc B6.size (.cells #[.int .i64 k] 2)).grown hg7 (Nat.le_trans B6.size (by simp)) (fun q hq => (O6b.lt q hq).1)
          have HW7 := hd (HIW5.out.below B57)
          have B07 := below_step B5 B57
          have HL7 := hd (sl_touched HLW.out HLN.out (HTk.out.join' (touch_none B07 [some g])))
          have HC := hd (HIH.out w7 _ v7 (dn ++ [(xa + (k : Int), xb, xc, xd - (k : Int))]) (sh ++ [(k : Int)]) (s + (k : Int)) _ HL7.out (by rw [List.length_append, List.length_append, hplE.out]; rfl) (HD7.out.sl eCue_len) hD5 (by
            intro y hy
            rcases List.mem_append.1 hy with hy | hy
            · exact HBD.out y hy
            · rw [List.mem_singleton.1 hy]
              exact bd_ok HXO.out ⟨by omega, by omega⟩) HO7.out hgW (by rw [List.length_append, List.length_append, hplE.out, HSLn.out]; rfl) (by rw [List.length_append, hplE.out]; simp only [List.length_singleton]; omega) HW7.out)
          have HT7 := hd (touch_none B07 [some g])
          obtain ⟨A7, c7, rfl⟩ := O7.isSlice
          rw [show (dn ++ [(xa + (k : Int), xb, xc, xd - (k : Int))]).length = dn.length + 1 from List.length_append, show (sh ++ [(k : Int)]).length = sh.length + 1 from List.length_append] at HC
          clear O6 O6b O7 hg7 B5 B6 B56 B7 B67 HI7 HL7 HW7 HD7 hD5 HO7 hgW B57 HSL5 HIW5 HO5 HO6
          go_wp2_with fail
          refine HC.out.mono ?_
          rintro e w8 ⟨rfl, HW8, HT8⟩
          have HWN := hd HW8
          have HTN := hd (HTk.out.join' (HT7.out.join' HT8))
          clear HC HT7 HW8 HT8 ksm
          go_wp2_with fail
          go_roundw
          case rel => exact ⟨k + 1, by omega, by go_num, by rw [HKS.out]; exact HWN, HTN⟩
          case measure => simp [intOf]; omega
        · have hke : (k : Int) = xd + 1 := by omega
          have HE := hd (HKA.out k hke)
          go_wp2_with fail
          go_end0
          exact ⟨rfl, by rw [← HE.out]; exact HWk.out, HTk.out⟩
end Go.Proofs.YtgcodjkjdfahdaaGreatDoor

namespace Go.Proofs.YtgcodjkjdfahdaaGreatDoor
open Go Go.RowKit Go.ChangeShapes Go.WideShapes
set_option linter.unusedSimpArgs false
set_option linter.unusedVariables false
theorem free2W {W : World} {g : Nat} {cs : Array Value} {T : TypeId} (h : W.heap[g]? = some (.cells cs T (0, 0))) (i : Nat) : W.frozen? ⟨g, i, none⟩ = false := by simp [World.frozen?, h]
theorem sl_noneC (W : World) (a : Addr) : Sl W 4 (.slice (some a) 0 0) eCue [] := ⟨Nat.zero_le _, _, _, rfl, Nat.le_refl _, Nat.zero_le _, fun i x hx => by simp at hx⟩
theorem walk_best {l : List TCue} {n : Int} (hok : ∀ x ∈ l, okC x) (h0 : 0 ≤ n) : walkP n l [] [] 0 ([], -1) = bestS l n := walkP_eq n h0 l [] [] ([], -1) hok rfl
set_option maxRecDepth 100000 in
set_option maxHeartbeats 8000000 in
theorem least0_spec (w : World) (v : Value) (l : List TCue) (h : Sl w 4 v eCue l) (hl6 : l.length ≤ 6) (hok : ∀ x ∈ l, okC x) (n : Int) (h0 : 0 ≤ n) :
    Calls Tryz.prog 237 #[v, .int .i64 n] w fun e w' => ∃ vb, e = .returned (.tuple #[vb, .int .i64 (bestS l n).2]) ∧ Own w' w.heap.size 2 1 vb eI (bestS l n).1 ∧ Below w.heap.size w w' := by
  have HB := hd (walk_best hok h0)
  obtain ⟨AL, cL, rfl⟩ := h.isSlice
  have hz : (w.alloc (.cells #[.slice AL l.length cL, .int .i64 n, .slice none 0 0, .int .i64 (-1)] 260)).heap.size = w.heap.size + 1 := by simp
  have b1 := (Below.refl w.heap.size w).alloc (Nat.le_refl _) (.cells #[.slice AL l.length cL, .int .i64 n, .slice none 0 0, .int .i64 (-1)] 260)
  have WA : WAt (w.alloc (.cells #[.slice AL l.length cL, .int .i64 n, .slice none 0 0, .int .i64 (-1)] 260)) w.heap.size w.heap.size (.slice AL l.length cL) n ([], -1) :=
    ⟨by rw [hz]; exact Nat.lt_succ_self _, Nat.le_refl _, new_cell w _ _ 0 _ rfl, new_cell w _ _ 1 _ rfl, new_cell w _ _ 3 _ rfl, fun i => free2W (heap_alloc_new w _) i, _, new_cell w _ _ 2 _ rfl, Own.nil _ _ _ _ _, by simp [Value.ownBlock]⟩
  have hLn : ∀ q, (Value.slice AL l.length cL).ownBlock = some q → 0 < l.length → q ≠ w.heap.size := fun q e h1 => by
    obtain ⟨b, o, x, -, hA, hb, -⟩ := h.at_ h1
    subst hA
    have e2 : b = q := by injection e
    omega
  have HL := hd (h.alloc (.cells #[.slice AL l.length cL, .int .i64 n, .slice none 0 0, .int .i64 (-1)] 260))
  clear hz
  go_enter Tryz.func237, Tryz.ntmps237
  go_wp2_with fail
  have hzz : ((w.alloc (.cells #[.slice AL l.length cL, .int .i64 n, .slice none 0 0, .int .i64 (-1)] 260)).alloc (.cells #[] 92)).heap.size = w.heap.size + 1 + 1 := by simp
  have K1 := (Below.refl (w.alloc (.cells #[.slice AL l.length cL, .int .i64 n, .slice none 0 0, .int .i64 (-1)] 260)).heap.size (w.alloc (.cells #[.slice AL l.length cL, .int .i64 n, .slice none 0 0, .int .i64 (-1)] 260))).alloc (Nat.le_refl _) (.cells #[] 92)
  have K2 := K1.alloc K1.size (.cells #[] 2)
  have WA2 := WA.below K2
  have HL2 := (HL.out.below K2)
  have b3 := below_step b1 K2
  have OS := Own.made0 ((w.alloc (.cells #[.slice AL l.length cL, .int .i64 n, .slice none 0 0, .int .i64 (-1)] 260)).alloc (.cells #[] 92)) w.heap.size 2 1 eI (by rw [hzz]; omega)
  rw [hzz] at OS
  generalize ((w.alloc (.cells #[.slice AL l.length cL, .int .i64 n, .slice none 0 0, .int .i64 (-1)] 260)).alloc (.cells #[] 92)).alloc (.cells #[] 2) = W at WA2 HL2 b3 OS ⊢
  have n1 : ∀ q, (Value.slice (some ⟨w.heap.size + 1, 0, none⟩) 0 0).ownBlock = some q → q ≠ w.heap.size := fun q e => by
    have e2 : w.heap.size + 1 = q := by simpa [Value.ownBlock] using e
    omega
  have n2 : ∀ q, (Value.slice (some ⟨w.heap.size + 1 + 1, 0, none⟩) 0 0).ownBlock = some q → q ≠ w.heap.size := fun q e => by
    have e2 : w.heap.size + 1 + 1 = q := by simpa [Value.ownBlock] using e
    omega
  refine (walk_spec w.heap.size w.heap.size _ l hl6 hok n hLn l [] rfl W _ _ [] [] 0 ([], -1) HL2 rfl (sl_noneC W _) n1 (by simp) OS n2 rfl ⟨Int.le_refl _, by simp⟩ WA2).mono ?_
  rintro e W' ⟨rfl, HW, HT⟩
  rw [HB.out] at HW
  have hbb : Below w.heap.size w W' := b3.trans (below_touched HT b3.size (by intro b hb q e; rw [List.mem_singleton.1 hb] at e; injection e with e; omega))
  have q3 := HW.c3
  obtain ⟨vb, q2, OB, -⟩ := HW.cb
  obtain ⟨st, hst⟩ : ∃ st, bestS l n = st := ⟨_, rfl⟩
  rw [hst] at q3 OB
  have HST := hd hst
  clear hst
  obtain ⟨AB, cB, rfl⟩ := OB.isSlice
  clear HW HT HB HL b3 hLn
  go_wp2_with fail
  go_quiet (fail)
  have KQ := below_drewN (Below.refl W'.heap.size W') nq
  go_wp2_with fail
  go_ret2
  rw [HST.out]
  exact ⟨_, rfl, OB.below KQ (Nat.le_refl _), below_step hbb KQ⟩
set_option maxRecDepth 100000 in
set_option maxHeartbeats 8000000 in
theorem least_spec (w : World) (v : Value) (l : List TCue) (h : Sl w 4 v eCue l) (n : Int) :
    Calls Tryz.prog 179 #[v, .int .i64 n] w (GivesOwnI w 2 1 eI (leastR l n)) := by
  have HS := hd h
  obtain ⟨A, c, rfl⟩ := h.isSlice
  obtain ⟨cc, hcc⟩ : ∃ cc, cueC l n = cc := ⟨_, rfl⟩
  have HCC := hd hcc
  go_enter Tryz.func179, Tryz.ntmps179
  go_wp2_with fail
  refine (cueC_spec _ _ _ h _).mono ?_
  rintro e w1 ⟨rfl, hb1⟩
  rw [hcc]
  by_cases hc : cc = 0
  case neg =>
    have kc : (cc != 0) = true := by simpa using hc
    have HR := hd (leastR_bad hcc hc)
    clear hcc hc
    go_wp2_with fail
    go_ret2
    exact kis_nil HR.out _ hb1
  subst hc
  obtain ⟨o1, o2⟩ := cueC_zero HCC.out
  obtain ⟨hl6, hok⟩ := okC_of o1
  have hn := inB_true o2
  clear hcc o1 o2
  have HL0 := hd (least0_spec w1 _ l (HS.out.below hb1) hl6 hok n hn.1)
  go_wp2_with fail
  refine HL0.out.mono ?_
  rintro e w2 ⟨vb, rfl, OB, hb2⟩
  have hb12 := below_step hb1 hb2
  have OB2 := OB.base hb1.size
  by_cases hneg : (bestS l n).2 < 0
  · have HR := hd (leastR_none HCC.out hneg)
    obtain ⟨AB, cB, rfl⟩ := OB.isSlice
    go_wp2_with fail
    go_ret2
    exact kis_nil HR.out _ hb12
  · have HR := hd (leastR_some HCC.out hneg)
    have hge : 0 ≤ (bestS l n).2 := by omega
    obtain ⟨AB, cB, rfl⟩ := OB.isSlice
    go_wp2_with fail
    go_ret2
    exact kis HR.out OB2 hb12
end Go.Proofs.YtgcodjkjdfahdaaGreatDoor
