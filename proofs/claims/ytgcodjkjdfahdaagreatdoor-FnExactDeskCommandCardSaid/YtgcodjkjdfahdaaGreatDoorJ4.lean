/- Lemmas for the claim (the walks of its functions and their plain laws), joined. No condition. -/
import Derived.Test.YtgcodjkjdfahdaaGreatDoorRows
import Derived.Test.YtgcodjkjdfahdaaGreatDoorJ2
import Derived.Test.YtgcodjkjdfahdaaGreatDoorJ3
namespace Go.Proofs.YtgcodjkjdfahdaaGreatDoor
open Go Go.RowKit Go.ChangeShapes Go.WideShapes Go.ChangeAt
set_option linter.unusedSimpArgs false
set_option linter.unusedVariables false
theorem own_knob : ownKnob Tryz.prog.godebug = none := by kernel_rfl
theorem laid_out : laidOutB Tryz.prog = true := by kernel_rfl
section
variable {H : Type} {enc : TypeId × Value → H} {P : Program} {w : World} {base : Nat} {spare : Nat → Bool} {held : Bool}
end
def inB (n lo hi : Int) : Bool := decide (lo ≤ n ∧ n ≤ hi)
theorem inB_true {n lo hi : Int} (h : inB n lo hi = true) : lo ≤ n ∧ n ≤ hi := by unfold inB at h; simpa using h
theorem inB_false {n lo hi : Int} (h : inB n lo hi = false) : n < lo ∨ hi < n := by unfold inB at h; simp at h; omega
theorem inB_not {n lo hi : Int} (h : n < lo ∨ hi < n) : inB n lo hi = false := by unfold inB; simp; omega
theorem in_spec (n lo hi : Int) (w : World) : Calls Tryz.prog 158 #[.int .i64 n, .int .i64 lo, .int .i64 hi] w fun e w' => e = .returned (.bool (inB n lo hi)) ∧ w' = w := by
  by_cases h1 : lo ≤ n
  · go_enter Tryz.func158, Tryz.ntmps158
    go_wp2
    go_ret
    refine ⟨?_, rfl⟩
    show Ending.returned (.bool (decide (n ≤ hi))) = _
    simp [inB, h1]
  · have h2 : n < lo := by omega
    go_enter Tryz.func158, Tryz.ntmps158
    go_wp2
    go_ret
    refine ⟨?_, rfl⟩
    show Ending.returned (.bool false) = _
    rw [inB_not (.inl h2)]
theorem in_impl (n lo hi : Int) (w : World) : Calls Tryz.prog 67 #[.int .i64 n, .int .i64 lo, .int .i64 hi] w fun e w' => e = .returned (.bool (inB n lo hi)) ∧ w' = w := by
  by_cases h1 : lo ≤ n
  · go_enter Tryz.func67, Tryz.ntmps67
    go_wp2
    go_ret
    refine ⟨?_, rfl⟩
    show Ending.returned (.bool (decide (n ≤ hi))) = _
    simp [inB, h1]
  · have h2 : n < lo := by omega
    go_enter Tryz.func67, Tryz.ntmps67
    go_wp2
    go_ret
    refine ⟨?_, rfl⟩
    show Ending.returned (.bool false) = _
    rw [inB_not (.inl h2)]
theorem calm_in_spec (w : World) (x : Ext w) (n lo hi : Int) : Calls Tryz.prog 158 #[.int .i64 n, .int .i64 lo, .int .i64 hi] (gro w x) fun e w'' => e = .returned (.bool (inB n lo hi)) ∧ ∃ y, w'' = gro w y := calm_of_same (in_spec _ _ _ _)
end Go.Proofs.YtgcodjkjdfahdaaGreatDoor

namespace Go.Proofs.YtgcodjkjdfahdaaGreatDoor
open Go Go.RowKit Go.ChangeShapes Go.WideShapes
set_option linter.unusedSimpArgs false
set_option linter.unusedVariables false
abbrev TRow := Value × List Int
def eV (x : TRow) : List Value := [x.1]
theorem eV_len (x : TRow) : (eV x).length = 1 := rfl
def SlR (w : World) (v : Value) (L : List TRow) : Prop := Sl w 1 v eV L ∧ ∀ x ∈ L, Sl w 1 x.1 eI x.2
theorem SlR.below {w w' : World} {v : Value} {L : List TRow} (h : SlR w v L) (hb : Below w.heap.size w w') : SlR w' v L := ⟨h.1.below hb, fun x hx => (h.2 x hx).below hb⟩
theorem SlR.row_at {w : World} {A : Option Addr} {n c : Nat} {L : List TRow} (h : SlR w (.slice A n c) L) {i : Nat} (hi : i < L.length) :
    ∃ b o, A = some ⟨b, o, none⟩ ∧ b < w.heap.size ∧ w.cell? ⟨b, o + i, none⟩ = some L[i].1 ∧ Sl w 1 L[i].1 eI L[i].2 := by
  obtain ⟨b, o, x, hx, hA, hb, hc⟩ := h.1.at_ hi
  have : x = L[i] := by rw [List.getElem?_eq_getElem hi] at hx; exact (Option.some.inj hx).symm
  subst this
  exact ⟨b, o, hA, hb, by simpa using hc 0 _ rfl, h.2 _ (List.getElem_mem hi)⟩
def apart (a b : Option Nat) : Prop := a = none ∨ a ≠ b
theorem apart_symm {a b : Option Nat} (h : apart a b) : apart b a := by
  rcases h with h | h
  · cases b with
    | none => exact .inl rfl
    | some b => exact .inr (by rw [h]; exact fun e => by cases e)
  · cases b with
    | none => exact .inl rfl
    | some b => exact .inr (fun e => h e.symm)
structure TouchL (w w' : World) (bs : List (Option Nat)) : Prop where
  os : w'.os = w.os
  tape : w'.tape = w.tape
  output : w'.output = w.output
  size : w.heap.size ≤ w'.heap.size
  block : ∀ k, k < w.heap.size → (∀ b ∈ bs, b ≠ some k) → w'.heap[k]? = w.heap[k]?
theorem TouchL.refl (w : World) (bs : List (Option Nat)) : TouchL w w bs := ⟨rfl, rfl, rfl, Nat.le_refl _, fun _ _ _ => rfl⟩
theorem TouchL.of_grown {w w' : World} {b : Option Nat} (h : w.grownBy w' b) : TouchL w w' [b] :=
  ⟨h.os, h.tape, h.output, h.size, fun k hk hn => h.block k hk (fun e => hn b (by simp) (by first | exact e.symm | exact e))⟩
theorem TouchL.trans {a b c : World} {bs cs : List (Option Nat)} (h : TouchL a b bs) (h' : TouchL b c cs) : TouchL a c (bs ++ cs) :=
  ⟨h'.os.trans h.os, h'.tape.trans h.tape, h'.output.trans h.output, Nat.le_trans h.size h'.size, fun k hk hn => (h'.block k (Nat.lt_of_lt_of_le hk h.size) (fun b hb => hn b (List.mem_append_right _ hb))).trans (h.block k hk (fun b hb => hn b (List.mem_append_left _ hb)))⟩
theorem TouchL.mono {a b : World} {bs cs : List (Option Nat)} (h : TouchL a b bs) (hs : ∀ x ∈ bs, x ∈ cs) : TouchL a b cs :=
  ⟨h.os, h.tape, h.output, h.size, fun k hk hn => h.block k hk (fun x hx => hn x (hs x hx))⟩
theorem Own.touched {α : Type} {w w' : World} {B : Nat} {E : TypeId} {k : Nat} {v : Value} {enc : α → List Value} {l : List α} {bs : List (Option Nat)} (h : Own w B E k v enc l) (ht : TouchL w w' bs) (hn : ∀ b ∈ bs, apart v.ownBlock b) : Own w' B E k v enc l := by
  refine ⟨h.1, ?_⟩
  rcases h.2 with hz | ⟨g, cap, cur, hv, hbg, hg, rest⟩
  · exact .inl hz
  · refine .inr ⟨g, cap, cur, hv, hbg, ?_, rest⟩
    rw [ht.block g (Array.getElem?_eq_some_iff.1 hg).1 (fun b hb e => ?_)]
    · exact hg
    · have := hn b hb
      rw [hv] at this
      rcases this with h0 | h0
      · cases h0
      · exact h0 e.symm
theorem below_touched {w w' : World} {B : Nat} {bs : List (Option Nat)} (h : TouchL w w' bs) (hB : B ≤ w.heap.size) (hr : ∀ b ∈ bs, ∀ g, b = some g → B ≤ g) : Below B w w' :=
  ⟨h.os, h.tape, h.output, h.size, fun k hk => h.block k (by omega) (fun b hb e => by have := hr b hb k e; omega)⟩
def OwnR (w : World) (B : Nat) (v : Value) (L : List TRow) : Prop :=
  Own w B 56 1 v eV L ∧ (∀ x ∈ L, Own w B 2 1 x.1 eI x.2) ∧ (v.ownBlock :: L.map (·.1.ownBlock)).Pairwise apart
theorem OwnR.slr {w : World} {B : Nat} {v : Value} {L : List TRow} (h : OwnR w B v L) : SlR w v L := ⟨h.1.sl eV_len, fun x hx => (h.2.1 x hx).sl eI_len⟩
theorem OwnR.base {w : World} {B B' : Nat} {v : Value} {L : List TRow} (h : OwnR w B v L) (hB : B' ≤ B) : OwnR w B' v L := ⟨h.1.base hB, fun x hx => (h.2.1 x hx).base hB, h.2.2⟩
theorem OwnR.below {w w' : World} {B C : Nat} {v : Value} {L : List TRow} (h : OwnR w B v L) (hb : Below C w w') (hC : w.heap.size ≤ C) : OwnR w' B v L := ⟨h.1.below hb hC, fun x hx => (h.2.1 x hx).below hb hC, h.2.2⟩
theorem info_row : (Tryz.prog.info? 56).map (fun i => (i.zero, i.size, i.bytes)) = some (some (.slice none 0 0), 1, 24) := by kernel_rfl
end Go.Proofs.YtgcodjkjdfahdaaGreatDoor

namespace Go.Proofs.YtgcodjkjdfahdaaGreatDoor
open Go Go.RowKit Go.ChangeShapes Go.WideShapes
set_option linter.unusedSimpArgs false
set_option linter.unusedVariables false
def eS (x : ByteArray) : List Value := [.string x]
theorem eS_len (x : ByteArray) : (eS x).length = 1 := rfl
theorem bytes_of_toList {a b : ByteArray} (h : a.toList = b.toList) : a = b := by
  rw [ByteArray.toList_eq, ByteArray.toList_eq] at h
  obtain ⟨⟨x⟩⟩ := a
  obtain ⟨⟨y⟩⟩ := b
  simpa using h
theorem info_str : (Tryz.prog.info? 9).map (fun i => (i.zero, i.size, i.bytes)) = some (some (.string ByteArray.empty), 1, 16) := by kernel_rfl
theorem Sl.str_at {w : World} {A : Option Addr} {n c : Nat} {l : List ByteArray} (h : Sl w 1 (.slice A n c) eS l) {i : Nat} (hi : i < l.length) :
    ∃ b o, A = some ⟨b, o, none⟩ ∧ b < w.heap.size ∧ w.cell? ⟨b, o + i, none⟩ = some (.string l[i]) := by
  obtain ⟨b, o, x, hx, hA, hb, hc⟩ := h.at_ hi
  have : x = l[i] := by rw [List.getElem?_eq_getElem hi] at hx; exact (Option.some.inj hx).symm
  subst this
  exact ⟨b, o, hA, hb, by simpa using hc 0 _ rfl⟩
set_option maxHeartbeats 400000 in
theorem eqStrs (w : World) (v1 v2 : Value) (l1 l2 : List ByteArray) (h1 : Sl w 1 v1 eS l1) (h2 : Sl w 1 v2 eS l2) :
    Calls Tryz.prog 18 #[v1, v2] w fun e w' => e = .returned (.bool (decide (l1 = l2))) ∧ ∃ n, w' = w.drewN n := by
  have m1 := h1.len
  have m2 := h2.len
  obtain ⟨-, A1, c1, rfl, -, -, -⟩ := id h1
  obtain ⟨-, A2, c2, rfl, -, -, -⟩ := id h2
  by_cases hlen : l1.length = l2.length
  · have hb : (((l1.length : Nat) : Int) != ((l2.length : Nat) : Int)) = false := by simp [hlen]
    have HL := hd hlen
    clear hlen
    go_enter Tryz.func18, Tryz.ntmps18
    go_wp2
    go_loopw [5] (fun i wr => ∃ k : Nat, k ≤ l1.length ∧ i = .int .i64 k ∧ (∃ d, wr = w.drewN d) ∧ Hid (l1.take k = l2.take k)) (fun i _ => l1.length - (intOf i).toNat)
    case atStart => exact ⟨0, Nat.zero_le _, rfl, ⟨0, rfl⟩, hd (by simp)⟩
    case round =>
      obtain ⟨k, hk, rfl, ⟨d, rfl⟩, HT⟩ := hrel
      by_cases hlt : k < l1.length
      · have hlt2 : k < l2.length := HL.out ▸ hlt
        obtain ⟨a1, o1, rfl, -, hc1⟩ := h1.str_at hlt
        obtain ⟨a2, o2, rfl, -, hc2⟩ := h2.str_at hlt2
        go_wp2
        go_quiet (fail)
        go_wp2
        · have hne : (!(l1[k].toList == l2[k].toList)) = true := by assumption
          go_ret
          refine ⟨?_, d + nq, by first | rfl | exact World.drewN_drewN _ _ _⟩
          have : l1 ≠ l2 := by rintro rfl; simp at hne
          simp [this]
        · have heq : (!(l1[k].toList == l2[k].toList)) = false := by assumption
          have heq := bytes_of_toList (show l1[k].toList = l2[k].toList by simpa using heq)
          go_roundw
          case rel => exact ⟨k + 1, by omega, by go_num, ⟨_, rfl⟩, hd (by rw [List.take_succ_eq_append_getElem hlt, List.take_succ_eq_append_getElem hlt2, HT.out]; rw [heq])⟩
          case measure => simp [intOf]; omega
      · go_wp2
        go_ret
        refine ⟨?_, _, rfl⟩
        have h3 := HT.out
        rw [List.take_of_length_le (by omega), List.take_of_length_le (by have := HL.out; omega)] at h3
        simp [h3]
  · have hb : (((l1.length : Nat) : Int) != ((l2.length : Nat) : Int)) = true := by simp; omega
    have HL := hd hlen
    clear hlen
    go_enter Tryz.func18, Tryz.ntmps18
    go_wp2
    go_ret
    refine ⟨?_, 0, rfl⟩
    have : l1 ≠ l2 := by rintro rfl; exact HL.out rfl
    simp [this]
def mtGo : Nat → Nat → ByteArray → ByteArray
  | 0, _, out => out
  | f + 1, n, out => if n = 0 then out else mtGo f (n / 10) (strOfNums [48 + (n : Int) % 10] ++ out)
def markB (k : Nat) : ByteArray := if k = 0 then ⟨#[109, 48]⟩ else ⟨#[109]⟩ ++ mtGo 20 k ByteArray.empty
set_option maxRecDepth 100000 in
set_option maxHeartbeats 1000000 in
theorem markText (w : World) (k : Nat) (hk : k ≤ 4611686018427387904) :
    Calls Tryz.prog 52 #[.int .i64 k] w fun e w' => e = .returned (.string (markB k)) ∧ Below w.heap.size w w' := by
  by_cases h0 : k = 0
  · subst h0
    go_enter Tryz.func52, Tryz.ntmps52
    go_wp2_with fail
    go_ret
    exact ⟨rfl, Below.refl _ _⟩
  obtain ⟨r, hr⟩ : ∃ r, r = mtGo 20 k ByteArray.empty := ⟨_, rfl⟩
  have HR := hd hr.symm
  have HM := hd (show markB k = ⟨#[109]⟩ ++ r by unfold markB; rw [if_neg h0, hr])
  have hpos : (0 : Int) < k := by omega
  clear hr h0
  go_enter Tryz.func52, Tryz.ntmps52
  go_wp2_with fail
  go_loopw [0, 3] (fun kv ov wr => ∃ (f n : Nat) (out : ByteArray), n < 10 ^ f ∧ out.size + f ≤ 20 ∧ kv = .int .i64 n ∧ ov = .string out ∧ n ≤ 4611686018427387904 ∧ Below w.heap.size w wr ∧ Hid (mtGo f n out = r)) (fun kv _ _ => (intOf kv).toNat)
  case atStart => exact ⟨20, k, ByteArray.empty, by omega, by simp, rfl, rfl, hk, Below.refl _ _, HR⟩
  case round =>
    obtain ⟨f, n, out, hf, hsz, rfl, rfl, hn, hbel, HT⟩ := hrel
    by_cases hz : n = 0
    · subst hz
      go_wp2_with fail
      go_ret
      refine ⟨?_, hbel⟩
      have e : out = r := by
        rw [← HT.out]
        cases f <;> rfl
      rw [HM.out, e]
      rfl
    · rcases f with _ | f
      · exfalso; simp at hf; omega
      have hpos : (0 : Int) < n := by omega
      have hcv := run_convert_bytes_arg (P := Tryz.prog) (wr.alloc (.cells #[.int .u8 (48 + (n : Int) % 10)] 5)) 22 5 Tryz.underlying22 Tryz.underlying5 wr.heap.size 0 1 1 [48 + (n : Int) % 10] rfl (fun i hi => by obtain rfl : i = 0 := (by omega); exact new_cell wr _ _ 0 _ rfl) 9 Tryz.underlying9
      have hbel' := hbel.alloc hbel.size (.cells #[.int .u8 (48 + (n : Int) % 10)] 5)
      have HT' := hd (show mtGo f (n / 10) (strOfNums [48 + (n : Int) % 10] ++ out) = r by have := HT.out; rw [mtGo, if_neg hz] at this; exact this)
      have hs1 : (strOfNums [48 + (n : Int) % 10]).size = 1 := rfl
      have HF := hd hf
      clear hf
      go_wp2_with fail
      go_roundw
      case rel => exact ⟨f, n / 10, strOfNums [48 + (n : Int) % 10] ++ out, by have := HF.out; rw [Nat.pow_succ] at this; omega, by rw [ByteArray.size_append, hs1]; omega, by go_num, rfl, by omega, hbel', HT'⟩
      case measure => simp [intOf]; omega
def marksB (k n : Nat) : List ByteArray := (List.range n).map fun i => markB (k + i)
theorem marksB_len (k n : Nat) : (marksB k n).length = n := by simp [marksB]
theorem marksB_get (k n i : Nat) (h : i < (marksB k n).length) : (marksB k n)[i] = markB (k + i) := by simp [marksB]
set_option maxHeartbeats 1000000 in
theorem markStrs (w : World) (B : Nat) (E : TypeId) (v : Value) (l : List ByteArray) (h : Own w B E 1 v eS l) (k : Nat) (hk : k + l.length ≤ 4611686018427387904) :
    Calls Tryz.prog 20 #[v, .int .i64 k] w fun e w' => e = .returned (.int .i64 ((k + l.length : Nat) : Int)) ∧ Own w' B E 1 v eS (marksB k l.length) ∧ w.grownBy w' v.ownBlock := by
  have hfin : ∀ wr, MarkTo w B E 1 v l.length eS (marksB k l.length) l.length wr → Own wr B E 1 v eS (marksB k l.length) ∧ w.grownBy wr v.ownBlock := by
    rintro wr ⟨ys, hown, hys, hgr⟩
    refine ⟨?_, hgr⟩
    unfold Own
    rw [marksB_len]
    have e1 : ys = (marksB k l.length).flatMap eS := by
      rw [List.take_of_length_le (by rw [hown.1]; exact Nat.le_refl _)] at hys
      rw [hys]
      have := marksB_len k l.length
      rw [List.take_of_length_le (by omega)]
    rw [← e1]
    exact hown
  have H0 : MarkTo w B E 1 v l.length eS (marksB k l.length) 0 w := ⟨_, h, by simp, World.grownBy.refl _ _⟩
  have HF := hd hfin
  clear hfin
  rcases h.form with ⟨rfl, rfl⟩ | ⟨g, cap, rfl, hBg, hgw, hlc, hcm⟩
  · go_enter Tryz.func20, Tryz.ntmps20
    go_wp2
    go_loopw [1, 5] (fun kk i wr => wr = w ∧ kk = .int .i64 k ∧ i = .int .i64 0) (fun _ _ _ => 0)
    case atStart => exact ⟨rfl, rfl, rfl⟩
    case round =>
      obtain ⟨rfl, rfl, rfl⟩ := hrel
      go_wp2
      go_ret
      exact ⟨by simp, HF.out _ H0⟩
  · have hlen := h.1
    go_enter Tryz.func20, Tryz.ntmps20
    go_wp2
    go_loopw [1, 5] (fun kk i wr => ∃ j : Nat, j ≤ l.length ∧ i = .int .i64 j ∧ kk = .int .i64 ((k + j : Nat) : Int) ∧ MarkTo w B E 1 (.slice (some ⟨g, 0, none⟩) l.length cap) l.length eS (marksB k l.length) j wr) (fun _ i _ => l.length - (intOf i).toNat)
    case atStart => exact ⟨0, Nat.zero_le _, rfl, rfl, H0⟩
    case round =>
      obtain ⟨j, hj, rfl, rfl, H⟩ := hrel
      clear H0
      by_cases hlt : j < l.length
      · obtain ⟨ys, hown0, hys, hgr0⟩ := H
        go_wp2_with fail
        refine (markText _ (k + j) (by omega)).mono ?_
        rintro e w2 ⟨rfl, hb2⟩
        have hown := World.ownsRow.kept hown0 (grownBy_of_below hb2 none) (Or.inr (by simp [Value.ownBlock]))
        have hgr := grownBy_trans hgr0 (grownBy_of_below hb2 _)
        clear hown0 hgr0
        have hky : j < ys.length := by rw [hown.1]; omega
        have hcell := hown.cellAt j (by omega)
        rw [List.getElem?_eq_getElem hky] at hcell
        have hfr := hown.frozenAt j
        go_wp2
        go_roundw
        case rel =>
          have hst := hown.stored j (.string (markB (k + j)))
          refine ⟨j + 1, by omega, by go_num, by go_num, _, hst.1, ?_, grownBy_trans hgr hst.2⟩
          have hjm : j < (marksB k l.length).length := by rw [marksB_len]; exact hlt
          rw [Nat.mul_one] at hys ⊢
          rw [take_set_snoc hys hky, flatMap_snoc _ _ _ hjm, marksB_get]
          rfl
        case measure => simp [intOf]; omega
      · go_wp2
        go_ret
        have hjl : j = l.length := by omega
        subst hjl
        exact ⟨rfl, HF.out _ H⟩
set_option maxHeartbeats 1000000 in
theorem heldStrs (w : World) (v : Value) (k : Nat) (n : Nat) (h : Sl w 1 v eS (marksB k n)) (hk : k + n ≤ 4611686018427387904) :
    Calls Tryz.prog 22 #[v, .int .i64 k] w fun e w' => e = .returned (.int .i64 ((k + n : Nat) : Int)) ∧ Below w.heap.size w w' := by
  have hlen := marksB_len k n
  obtain ⟨-, A, c, hv, -, -, -⟩ := id h
  rw [hlen] at hv
  subst hv
  have HL := hd hlen
  clear hlen
  go_enter Tryz.func22, Tryz.ntmps22
  go_wp2
  go_loopw [1, 5] (fun kk i wr => ∃ j : Nat, j ≤ n ∧ i = .int .i64 j ∧ kk = .int .i64 ((k + j : Nat) : Int) ∧ Below w.heap.size w wr) (fun _ i _ => n - (intOf i).toNat)
  case atStart => exact ⟨0, Nat.zero_le _, rfl, rfl, Below.refl _ _⟩
  case round =>
    obtain ⟨j, hj, rfl, rfl, hbel⟩ := hrel
    by_cases hlt : j < n
    · obtain ⟨b, o, rfl, hb, hc⟩ := (h.below hbel).str_at (i := j) (by rw [HL.out]; exact hlt)
      rw [marksB_get] at hc
      have g0 := gro_cell hc
      go_wp2_with fail
      refine wp_region_calm (by kernel_rfl) (by kernel_rfl) ?_
      repeat (first | go_big_quiet_step ((first | (go_at_call 52; exact calm_of (markText _ (k + j) (by omega))))) | quiet_step ((first | (go_at_call 52; exact calm_of (markText _ (k + j) (by omega))))))
      refine wpQuiet_nil ?_
      rintro w1 ⟨xw, rfl⟩
      have hb1 := below_step hbel (gro_below xw)
      go_wp2_with fail
      go_roundw
      case rel => exact ⟨j + 1, by omega, by go_num, by go_num, hb1⟩
      case measure => simp [intOf]; omega
    · go_wp2
      go_ret
      have hjl : j = n := by omega
      subst hjl
      exact ⟨rfl, hbel⟩
end Go.Proofs.YtgcodjkjdfahdaaGreatDoor

namespace Go.Proofs.YtgcodjkjdfahdaaGreatDoor
open Go Go.RowKit Go.ChangeShapes Go.WideShapes
set_option linter.unusedSimpArgs false
set_option linter.unusedVariables false
def smallN (c : Nat) : Bool := decide (97 ≤ c) && decide (c ≤ 122)
def digitN (c : Nat) : Bool := decide (48 ≤ c) && decide (c ≤ 57)
def nameN (c : Nat) : Bool := smallN c || (digitN c || c == 45)
def isNameB (s : ByteArray) : Bool := decide (1 ≤ s.size) && (decide (s.size ≤ 12) && (smallN (s.get! 0).toNat && allTo (fun i => nameN (s.get! i).toNat) s.size))
theorem get_bang (s : ByteArray) (k : Nat) (h : k < s.size) : s.get! k = s[k] := by
  obtain ⟨a⟩ := s
  show a[k]! = a[k]
  exact getElem!_pos a k h
theorem small_cases {c : Nat} (h : smallN c = false) : (c : Int) < 97 ∨ (122 : Int) < c := by simp [smallN] at h; omega
theorem small_true {c : Nat} (h : smallN c = true) : (97 : Int) ≤ c ∧ (c : Int) ≤ 122 := by simp [smallN] at h; omega
theorem name_true {c : Nat} (h : nameN c = true) : ((97 : Int) ≤ c ∧ (c : Int) ≤ 122) ∨ ((48 : Int) ≤ c ∧ (c : Int) ≤ 57) ∨ (c : Int) = 45 := by simp [nameN, smallN, digitN] at h; omega
theorem name_false {c : Nat} (h : nameN c = false) : (c : Int) < 45 ∨ ((45 : Int) < c ∧ (c : Int) < 48) ∨ ((57 : Int) < c ∧ (c : Int) < 97) ∨ (122 : Int) < c := by simp [nameN, smallN, digitN] at h; omega
theorem isName_long {s : ByteArray} (h : ¬ s.size ≤ 12) : isNameB s = false := by simp [isNameB, h]
theorem isName_short {s : ByteArray} (h : ¬ 1 ≤ s.size) : isNameB s = false := by simp [isNameB, h]
theorem isName_head {s : ByteArray} (h : smallN (s.get! 0).toNat = false) : isNameB s = false := by simp [isNameB, h]
theorem isName_bad {s : ByteArray} {k : Nat} (hk : k < s.size) (h : nameN (s.get! k).toNat = false) : isNameB s = false := by
  have := allTo_false (p := fun i => nameN (s.get! i).toNat) hk h
  simp [isNameB, this]
theorem isName_good {s : ByteArray} (h1 : 1 ≤ s.size) (h2 : s.size ≤ 12) (h3 : smallN (s.get! 0).toNat = true) (h4 : ∀ i, i < s.size → nameN (s.get! i).toNat = true) : isNameB s = true := by
  have := allTo_true (p := fun i => nameN (s.get! i).toNat) h4
  simp [isNameB, h1, h2, h3, this]
theorem name_of_small {c : Nat} (h : smallN c = true) : nameN c = true := by simp [nameN, h]
set_option maxHeartbeats 2000000 in
theorem name_impl (w : World) (s : ByteArray) : Calls Tryz.prog 153 #[.string s] w fun e w' => e = .returned (.bool (isNameB s)) ∧ w' = w := by
  by_cases h1 : 1 ≤ s.size
  case neg =>
    have HR := hd (isName_short h1)
    have z : s.size = 0 := by omega
    go_enter Tryz.func153, Tryz.ntmps153
    go_wp2_with fail
    go_ret
    exact ⟨by rw [HR.out]; rfl, rfl⟩
  by_cases h2 : s.size ≤ 12
  case neg =>
    have HR := hd (isName_long h2)
    have z : 12 < s.size := by omega
    go_enter Tryz.func153, Tryz.ntmps153
    go_wp2_with fail
    go_ret
    exact ⟨by rw [HR.out]; rfl, rfl⟩
  have h0 : 0 < s.size := by omega
  have G0 := hd (get_bang s 0 h0)
  rcases h3 : smallN (s.get! 0).toNat with _ | _
  · have HR := hd (isName_head h3)
    rw [G0.out] at h3
    rcases small_cases h3 with q | q
    all_goals
      clear h3
      go_enter Tryz.func153, Tryz.ntmps153
      go_wp2_with fail
      go_ret
      exact ⟨by rw [HR.out]; rfl, rfl⟩
  have H3 := hd h3
  rw [G0.out] at h3
  obtain ⟨q1, q2⟩ := small_true h3
  clear h3
  go_enter Tryz.func153, Tryz.ntmps153
  go_wp2_with fail
  go_loop [3] (fun i => ∃ k : Nat, 1 ≤ k ∧ k ≤ s.size ∧ i = .int .i64 k ∧ Hid (∀ j, j < k → nameN (s.get! j).toNat = true)) (fun i => s.size - (intOf i).toNat)
  case atStart => exact ⟨1, Nat.le_refl _, h1, rfl, hd (fun j hj => by obtain rfl : j = 0 := (by omega); exact name_of_small H3.out)⟩
  case round =>
    obtain ⟨k, hk1, hk, rfl, HT⟩ := hrel
    by_cases hlt : k < s.size
    · have GK := hd (get_bang s k hlt)
      rcases h4 : nameN (s.get! k).toNat with _ | _
      · have HR := hd (isName_bad hlt h4)
        rw [GK.out] at h4
        rcases name_false h4 with q | ⟨q, q'⟩ | ⟨q, q'⟩ | q
        all_goals
          have n45 : (((s[k]'hlt).toNat : Int) != 45) = true := bne_iff_ne.2 (by omega)
          clear h4
          go_wp2_with fail
          go_ret
          exact ⟨by rw [HR.out]; rfl, rfl⟩
      · have HT' := hd (allTo_step (p := fun i => nameN (s.get! i).toNat) HT.out h4)
        rw [GK.out] at h4
        rcases name_true h4 with ⟨q, q'⟩ | ⟨q, q'⟩ | q
        · clear h4
          go_wp2_with fail
          go_round
          case rel => exact ⟨k + 1, by omega, by omega, by go_num, HT'⟩
          case measure => simp [intOf]; omega
        · clear h4
          go_wp2_with fail
          go_round
          case rel => exact ⟨k + 1, by omega, by omega, by go_num, HT'⟩
          case measure => simp [intOf]; omega
        · clear h4
          go_wp2_with fail
          go_round
          case rel => exact ⟨k + 1, by omega, by omega, by go_num, HT'⟩
          case measure => simp [intOf]; omega
    · obtain rfl : k = s.size := by omega
      have HR := hd (isName_good h1 h2 H3.out HT.out)
      go_wp2_with fail
      go_ret
      exact ⟨by rw [HR.out]; rfl, rfl⟩
theorem small_spec (c : Nat) (w : World) : Calls Tryz.prog 254 #[.int .u8 c] w fun e w' => e = .returned (.bool (smallN c)) ∧ w' = w := by
  by_cases h1 : (97 : Int) ≤ c
  · have HE := hd (show smallN c = decide ((c : Int) ≤ 122) by unfold smallN; rw [decide_eq_true (show 97 ≤ c by omega), Bool.true_and]; exact decide_eq_decide.2 (by omega))
    go_enter Tryz.func254, Tryz.ntmps254
    go_wp2_with fail
    go_ret
    exact ⟨by rw [HE.out]; rfl, rfl⟩
  · have h2 : (c : Int) < 97 := by omega
    have HE := hd (show smallN c = false by unfold smallN; rw [decide_eq_false (show ¬ 97 ≤ c by omega), Bool.false_and])
    clear h1
    go_enter Tryz.func254, Tryz.ntmps254
    go_wp2_with fail
    go_ret
    exact ⟨by rw [HE.out]; rfl, rfl⟩
theorem digit_spec (c : Nat) (w : World) : Calls Tryz.prog 218 #[.int .u8 c] w fun e w' => e = .returned (.bool (digitN c)) ∧ w' = w := by
  by_cases h1 : (48 : Int) ≤ c
  · have HE := hd (show digitN c = decide ((c : Int) ≤ 57) by unfold digitN; rw [decide_eq_true (show 48 ≤ c by omega), Bool.true_and]; exact decide_eq_decide.2 (by omega))
    go_enter Tryz.func218, Tryz.ntmps218
    go_wp2_with fail
    go_ret
    exact ⟨by rw [HE.out]; rfl, rfl⟩
  · have h2 : (c : Int) < 48 := by omega
    have HE := hd (show digitN c = false by unfold digitN; rw [decide_eq_false (show ¬ 48 ≤ c by omega), Bool.false_and])
    clear h1
    go_enter Tryz.func218, Tryz.ntmps218
    go_wp2_with fail
    go_ret
    exact ⟨by rw [HE.out]; rfl, rfl⟩
theorem empty_of_size {s : ByteArray} (h : s.size = 0) : s = ByteArray.empty := by
  obtain ⟨⟨l⟩⟩ := s
  cases l with
  | nil => rfl
  | cons a l => simp [ByteArray.size] at h
theorem notEmpty_of_size {s : ByteArray} (h : 0 < s.size) : s.toList.isEmpty = false := by
  rw [ByteArray.toList_eq]
  obtain ⟨⟨l⟩⟩ := s
  cases l with
  | nil => simp [ByteArray.size] at h
  | cons a l => rfl
set_option maxHeartbeats 2000000 in
theorem name_spec (w : World) (s : ByteArray) : Calls Tryz.prog 213 #[.string s] w fun e w' => e = .returned (.bool (isNameB s)) ∧ w' = w := by
  by_cases h1 : 1 ≤ s.size
  case neg =>
    obtain rfl := empty_of_size (show s.size = 0 by omega)
    go_enter Tryz.func213, Tryz.ntmps213
    go_wp2_with fail
    go_ret
    exact ⟨rfl, rfl⟩
  have h0 : 0 < s.size := by omega
  have he := notEmpty_of_size h0
  by_cases h2 : s.size ≤ 12
  case neg =>
    have HR := hd (isName_long h2)
    have z : 12 < s.size := by omega
    go_enter Tryz.func213, Tryz.ntmps213
    go_wp2_with fail
    go_ret
    exact ⟨by rw [HR.out]; rfl, rfl⟩
  have G0 := hd (get_bang s 0 h0)
  rcases h3 : smallN (s.get! 0).toNat with _ | _
  · have HR := hd (isName_head h3)
    rw [G0.out] at h3
    go_enter Tryz.func213, Tryz.ntmps213
    go_wp2_with (first | (go_at_call 254; refine (small_spec _ _).mono ?_; rintro e w' ⟨rfl, rfl⟩) | (go_at_call 218; refine (digit_spec _ _).mono ?_; rintro e w' ⟨rfl, rfl⟩))
    go_ret
    exact ⟨by rw [HR.out]; rfl, rfl⟩
  have H3 := hd h3
  rw [G0.out] at h3
  go_enter Tryz.func213, Tryz.ntmps213
  go_wp2_with (first | (go_at_call 254; refine (small_spec _ _).mono ?_; rintro e w' ⟨rfl, rfl⟩) | (go_at_call 218; refine (digit_spec _ _).mono ?_; rintro e w' ⟨rfl, rfl⟩))
  clear h3
  go_loop [3] (fun i => ∃ k : Nat, k ≤ s.size ∧ i = .int .i64 k ∧ Hid (∀ j, j < k → nameN (s.get! j).toNat = true)) (fun i => s.size - (intOf i).toNat)
  case atStart => exact ⟨0, Nat.zero_le _, rfl, hd (fun j hj => absurd hj (Nat.not_lt_zero _))⟩
  case round =>
    obtain ⟨k, hk, rfl, HT⟩ := hrel
    by_cases hlt : k < s.size
    · have GK := hd (get_bang s k hlt)
      rcases q1 : smallN (s.get! k).toNat with _ | _
      · rcases q2 : digitN (s.get! k).toNat with _ | _
        · by_cases q3 : (s.get! k).toNat = 45
          · have HT' := hd (allTo_step (p := fun i => nameN (s.get! i).toNat) HT.out (show nameN (s.get! k).toNat = true by simp [nameN, q3]))
            rw [GK.out] at q1 q2 q3
            have n45 : (((s[k]'hlt).toNat : Int) != 45) = false := by rw [q3]; rfl
            clear q3
            go_wp2_with (first | (go_at_call 254; refine (small_spec _ _).mono ?_; rintro e w' ⟨rfl, rfl⟩) | (go_at_call 218; refine (digit_spec _ _).mono ?_; rintro e w' ⟨rfl, rfl⟩))
            go_round
            case rel => exact ⟨k + 1, by omega, by go_num, HT'⟩
            case measure => simp [intOf]; omega
          · have HR := hd (isName_bad hlt (show nameN (s.get! k).toNat = false by simp [nameN, q1, q2, q3]))
            rw [GK.out] at q1 q2 q3
            have n45 : (((s[k]'hlt).toNat : Int) != 45) = true := bne_iff_ne.2 (by omega)
            clear q3
            go_wp2_with (first | (go_at_call 254; refine (small_spec _ _).mono ?_; rintro e w' ⟨rfl, rfl⟩) | (go_at_call 218; refine (digit_spec _ _).mono ?_; rintro e w' ⟨rfl, rfl⟩))
            go_ret
            exact ⟨by rw [HR.out]; rfl, rfl⟩
        · have HT' := hd (allTo_step (p := fun i => nameN (s.get! i).toNat) HT.out (show nameN (s.get! k).toNat = true by simp [nameN, q2]))
          rw [GK.out] at q1 q2
          go_wp2_with (first | (go_at_call 254; refine (small_spec _ _).mono ?_; rintro e w' ⟨rfl, rfl⟩) | (go_at_call 218; refine (digit_spec _ _).mono ?_; rintro e w' ⟨rfl, rfl⟩))
          go_round
          case rel => exact ⟨k + 1, by omega, by go_num, HT'⟩
          case measure => simp [intOf]; omega
      · have HT' := hd (allTo_step (p := fun i => nameN (s.get! i).toNat) HT.out (name_of_small q1))
        rw [GK.out] at q1
        go_wp2_with (first | (go_at_call 254; refine (small_spec _ _).mono ?_; rintro e w' ⟨rfl, rfl⟩) | (go_at_call 218; refine (digit_spec _ _).mono ?_; rintro e w' ⟨rfl, rfl⟩))
        go_round
        case rel => exact ⟨k + 1, by omega, by go_num, HT'⟩
        case measure => simp [intOf]; omega
    · obtain rfl : k = s.size := by omega
      have HR := hd (isName_good h1 h2 H3.out HT.out)
      go_wp2_with (first | (go_at_call 254; refine (small_spec _ _).mono ?_; rintro e w' ⟨rfl, rfl⟩) | (go_at_call 218; refine (digit_spec _ _).mono ?_; rintro e w' ⟨rfl, rfl⟩))
      go_ret
      exact ⟨by rw [HR.out]; rfl, rfl⟩
end Go.Proofs.YtgcodjkjdfahdaaGreatDoor

namespace Go.Proofs.YtgcodjkjdfahdaaGreatDoor
open Go Go.RowKit Go.ChangeShapes Go.WideShapes
set_option linter.unusedSimpArgs false
set_option linter.unusedVariables false
abbrev TEntry := Int × ByteArray × Int
def eEntry (x : TEntry) : List Value := [.int .i64 x.1, .string x.2.1, .int .i64 x.2.2]
theorem eEntry_len (x : TEntry) : (eEntry x).length = 3 := rfl
theorem Sl.Entry_at {w : World} {A : Option Addr} {n c : Nat} {l : List TEntry} (h : Sl w 3 (.slice A n c) eEntry l) {i : Nat} (hi : i < l.length) :
    ∃ b o, A = some ⟨b, o, none⟩ ∧ b < w.heap.size ∧ w.cell? ⟨b, o + i * 3, none⟩ = some (.int .i64 l[i].1) ∧ w.cell? ⟨b, o + i * 3 + 1, none⟩ = some (.string l[i].2.1) ∧ w.cell? ⟨b, o + i * 3 + 2, none⟩ = some (.int .i64 l[i].2.2) := by
  obtain ⟨b, o, x, hx, hA, hb, hc⟩ := h.at_ hi
  have : x = l[i] := by rw [List.getElem?_eq_getElem hi] at hx; exact (Option.some.inj hx).symm
  subst this
  exact ⟨b, o, hA, hb, hc 0 _ rfl, hc 1 _ rfl, hc 2 _ rfl⟩
end Go.Proofs.YtgcodjkjdfahdaaGreatDoor

namespace Go.Proofs.YtgcodjkjdfahdaaGreatDoor
open Go Go.RowKit Go.ChangeShapes Go.WideShapes
set_option linter.unusedSimpArgs false
set_option linter.unusedVariables false
def okEntryB (x : TEntry) : Bool := inB x.1 0 100000 && (isNameB x.2.1 && inB x.2.2 (-1000000) 1000000)
set_option maxHeartbeats 1000000 in
theorem entry_impl (w : World) (a : Int) (b : ByteArray) (c : Int) :
    Calls Tryz.prog 210 #[.agg #[.int .i64 a, .string b, .int .i64 c]] w fun e w' => e = .returned (.bool (okEntryB (a, b, c))) ∧ Below w.heap.size w w' := by
  rcases h1 : inB a 0 100000 with _ | _
  · go_enter Tryz.func210, Tryz.ntmps210
    go_wp2_with (first | (go_at_call 67; refine (in_impl _ _ _ _).mono ?_; rintro e w1 ⟨rfl, hw⟩; have hw := hw.symm; subst hw) | (go_at_call 153; refine (name_impl _ _).mono ?_; rintro e w1 ⟨rfl, hw⟩; have hw := hw.symm; subst hw))
    go_ret
    exact ⟨by simp [okEntryB, h1], (Below.refl _ _).alloc (Nat.le_refl _) _⟩
  rcases h2 : isNameB b with _ | _
  · go_enter Tryz.func210, Tryz.ntmps210
    go_wp2_with (first | (go_at_call 67; refine (in_impl _ _ _ _).mono ?_; rintro e w1 ⟨rfl, hw⟩; have hw := hw.symm; subst hw) | (go_at_call 153; refine (name_impl _ _).mono ?_; rintro e w1 ⟨rfl, hw⟩; have hw := hw.symm; subst hw))
    go_ret
    exact ⟨by simp [okEntryB, h1, h2], (Below.refl _ _).alloc (Nat.le_refl _) _⟩
  rcases h3 : inB c (-1000000) 1000000 with _ | _
  · go_enter Tryz.func210, Tryz.ntmps210
    go_wp2_with (first | (go_at_call 67; refine (in_impl _ _ _ _).mono ?_; rintro e w1 ⟨rfl, hw⟩; have hw := hw.symm; subst hw) | (go_at_call 153; refine (name_impl _ _).mono ?_; rintro e w1 ⟨rfl, hw⟩; have hw := hw.symm; subst hw))
    go_ret
    exact ⟨by simp [okEntryB, h1, h2, h3], (Below.refl _ _).alloc (Nat.le_refl _) _⟩
  · go_enter Tryz.func210, Tryz.ntmps210
    go_wp2_with (first | (go_at_call 67; refine (in_impl _ _ _ _).mono ?_; rintro e w1 ⟨rfl, hw⟩; have hw := hw.symm; subst hw) | (go_at_call 153; refine (name_impl _ _).mono ?_; rintro e w1 ⟨rfl, hw⟩; have hw := hw.symm; subst hw))
    go_ret
    exact ⟨by simp [okEntryB, h1, h2, h3], (Below.refl _ _).alloc (Nat.le_refl _) _⟩
theorem day_spec (n : Int) (w : World) : Calls Tryz.prog 262 #[.int .i64 n] w fun e w' => e = .returned (.bool (inB n 0 100000)) ∧ w' = w := by
  go_enter Tryz.func262, Tryz.ntmps262
  go_wp2_with (go_at_call 158; refine (in_spec _ _ _ _).mono ?_; rintro e w' ⟨rfl, rfl⟩)
  go_ret
  exact ⟨rfl, rfl⟩
set_option maxHeartbeats 1000000 in
theorem okE_spec (w : World) (g off : Nat) (a : Int) (b : ByteArray) (c : Int) (p0 : w.cell? ⟨g, off, none⟩ = some (.int .i64 a)) (p1 : w.cell? ⟨g, off + 1, none⟩ = some (.string b)) (p2 : w.cell? ⟨g, off + 2, none⟩ = some (.int .i64 c)) :
    Calls Tryz.prog 223 #[.pointer (some ⟨g, off, none⟩)] w fun e w' => e = .returned (.bool (okEntryB (a, b, c))) ∧ w' = w := by
  rcases h1 : inB a 0 100000 with _ | _
  · go_enter Tryz.func223, Tryz.ntmps223
    go_wp2_with (first | (go_at_call 158; refine (in_spec _ _ _ _).mono ?_; rintro e w1 ⟨rfl, hw⟩; have hw := hw.symm; subst hw) | (go_at_call 213; refine (name_spec _ _).mono ?_; rintro e w1 ⟨rfl, hw⟩; have hw := hw.symm; subst hw) | (go_at_call 262; refine (day_spec _ _).mono ?_; rintro e w1 ⟨rfl, hw⟩; have hw := hw.symm; subst hw))
    go_ret
    exact ⟨by simp [okEntryB, h1], rfl⟩
  rcases h2 : isNameB b with _ | _
  · go_enter Tryz.func223, Tryz.ntmps223
    go_wp2_with (first | (go_at_call 158; refine (in_spec _ _ _ _).mono ?_; rintro e w1 ⟨rfl, hw⟩; have hw := hw.symm; subst hw) | (go_at_call 213; refine (name_spec _ _).mono ?_; rintro e w1 ⟨rfl, hw⟩; have hw := hw.symm; subst hw) | (go_at_call 262; refine (day_spec _ _).mono ?_; rintro e w1 ⟨rfl, hw⟩; have hw := hw.symm; subst hw))
    go_ret
    exact ⟨by simp [okEntryB, h1, h2], rfl⟩
  rcases h3 : inB c (-1000000) 1000000 with _ | _
  · go_enter Tryz.func223, Tryz.ntmps223
    go_wp2_with (first | (go_at_call 158; refine (in_spec _ _ _ _).mono ?_; rintro e w1 ⟨rfl, hw⟩; have hw := hw.symm; subst hw) | (go_at_call 213; refine (name_spec _ _).mono ?_; rintro e w1 ⟨rfl, hw⟩; have hw := hw.symm; subst hw) | (go_at_call 262; refine (day_spec _ _).mono ?_; rintro e w1 ⟨rfl, hw⟩; have hw := hw.symm; subst hw))
    go_ret
    exact ⟨by simp [okEntryB, h1, h2, h3], rfl⟩
  · go_enter Tryz.func223, Tryz.ntmps223
    go_wp2_with (first | (go_at_call 158; refine (in_spec _ _ _ _).mono ?_; rintro e w1 ⟨rfl, hw⟩; have hw := hw.symm; subst hw) | (go_at_call 213; refine (name_spec _ _).mono ?_; rintro e w1 ⟨rfl, hw⟩; have hw := hw.symm; subst hw) | (go_at_call 262; refine (day_spec _ _).mono ?_; rintro e w1 ⟨rfl, hw⟩; have hw := hw.symm; subst hw))
    go_ret
    exact ⟨by simp [okEntryB, h1, h2, h3], rfl⟩
end Go.Proofs.YtgcodjkjdfahdaaGreatDoor
