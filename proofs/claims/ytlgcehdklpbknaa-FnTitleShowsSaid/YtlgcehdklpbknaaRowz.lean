/- Slices of slices of integers: what they read as, rows that the call owns, and the laws' helpers on them: a copy, a comparison, marks. No condition but that the slices read. -/
import Derived.Test.YtlgcehdklpbknaaBase
namespace Go.Proofs.Ytlgcehdklpbknaa
open Go Go.RowKit Go.ChangeShapes Go.WideShapes
set_option linter.unusedSimpArgs false
set_option linter.unusedVariables false

abbrev TRow := Value × List Int
def eV (x : TRow) : List Value := [x.1]
theorem eV_len (x : TRow) : (eV x).length = 1 := rfl
def rowsOf (L : List TRow) : List (List Int) := L.map (·.2)
def SlR (w : World) (v : Value) (L : List TRow) : Prop := Sl w 1 v eV L ∧ ∀ x ∈ L, Sl w 1 x.1 eI x.2
theorem SlR.len {w : World} {v : Value} {L : List TRow} (h : SlR w v L) : L.length ≤ 9223372036854775807 := h.1.len
theorem SlR.below {w w' : World} {v : Value} {L : List TRow} (h : SlR w v L) (hb : Below w.heap.size w w') : SlR w' v L := ⟨h.1.below hb, fun x hx => (h.2 x hx).below hb⟩
theorem SlR.alloc {w : World} {v : Value} {L : List TRow} (h : SlR w v L) (o : Obj) : SlR (w.alloc o) v L := ⟨h.1.alloc o, fun x hx => (h.2 x hx).alloc o⟩
theorem SlR.drewN {w : World} {v : Value} {L : List TRow} (h : SlR w v L) (n : Nat) : SlR (w.drewN n) v L := ⟨h.1.drewN n, fun x hx => (h.2 x hx).drewN n⟩
theorem SlR.row_at {w : World} {A : Option Addr} {n c : Nat} {L : List TRow} (h : SlR w (.slice A n c) L) {i : Nat} (hi : i < L.length) :
    ∃ b o, A = some ⟨b, o, none⟩ ∧ b < w.heap.size ∧ w.cell? ⟨b, o + i, none⟩ = some L[i].1 ∧ Sl w 1 L[i].1 eI L[i].2 := by
  obtain ⟨b, o, x, hx, hA, hb, hc⟩ := h.1.at_ hi
  have : x = L[i] := by rw [List.getElem?_eq_getElem hi] at hx; exact (Option.some.inj hx).symm
  subst this
  exact ⟨b, o, hA, hb, by simpa using hc 0 _ rfl, h.2 _ (List.getElem_mem hi)⟩

theorem Own.slice {α : Type} {w : World} {B : Nat} {E : TypeId} {k : Nat} {v : Value} {enc : α → List Value} {l : List α} (h : Own w B E k v enc l) : ∃ A c, v = .slice A l.length c := by
  rcases h.form with ⟨hv, hl⟩ | ⟨g, cap, hv, -⟩
  · subst hl
    exact ⟨none, 0, hv⟩
  · exact ⟨_, cap, hv⟩
theorem Sl.slice {α : Type} {w : World} {k : Nat} {v : Value} {enc : α → List Value} {l : List α} (h : Sl w k v enc l) : ∃ A c, v = .slice A l.length c := by
  obtain ⟨-, A, c, hv, -⟩ := h
  exact ⟨A, c, hv⟩

/-! ### two blocks apart; a world in which some blocks have been written -/
def apart (a b : Option Nat) : Prop := a = none ∨ a ≠ b
theorem apart_symm {a b : Option Nat} (h : apart a b) : apart b a := by
  rcases h with h | h
  · cases b with
    | none => exact .inl rfl
    | some b => exact .inr (by rw [h]; exact fun e => by cases e)
  · cases b with
    | none => exact .inl rfl
    | some b => exact .inr (fun e => h e.symm)
structure TouchL (w w' : World) (bs : List (Option Nat)) : Prop where
  os : w'.os = w.os
  tape : w'.tape = w.tape
  output : w'.output = w.output
  size : w.heap.size ≤ w'.heap.size
  block : ∀ k, k < w.heap.size → (∀ b ∈ bs, b ≠ some k) → w'.heap[k]? = w.heap[k]?
theorem TouchL.refl (w : World) (bs : List (Option Nat)) : TouchL w w bs := ⟨rfl, rfl, rfl, Nat.le_refl _, fun _ _ _ => rfl⟩
theorem TouchL.of_grown {w w' : World} {b : Option Nat} (h : w.grownBy w' b) : TouchL w w' [b] :=
  ⟨h.os, h.tape, h.output, h.size, fun k hk hn => h.block k hk (fun e => hn b (by simp) (by first | exact e.symm | exact e))⟩
theorem TouchL.trans {a b c : World} {bs cs : List (Option Nat)} (h : TouchL a b bs) (h' : TouchL b c cs) : TouchL a c (bs ++ cs) :=
  ⟨h'.os.trans h.os, h'.tape.trans h.tape, h'.output.trans h.output, Nat.le_trans h.size h'.size, fun k hk hn => (h'.block k (Nat.lt_of_lt_of_le hk h.size) (fun b hb => hn b (List.mem_append_right _ hb))).trans (h.block k hk (fun b hb => hn b (List.mem_append_left _ hb)))⟩
theorem TouchL.mono {a b : World} {bs cs : List (Option Nat)} (h : TouchL a b bs) (hs : ∀ x ∈ bs, x ∈ cs) : TouchL a b cs :=
  ⟨h.os, h.tape, h.output, h.size, fun k hk hn => h.block k hk (fun x hx => hn x (hs x hx))⟩
theorem Own.touched {α : Type} {w w' : World} {B : Nat} {E : TypeId} {k : Nat} {v : Value} {enc : α → List Value} {l : List α} {bs : List (Option Nat)} (h : Own w B E k v enc l) (ht : TouchL w w' bs) (hn : ∀ b ∈ bs, apart v.ownBlock b) : Own w' B E k v enc l := by
  refine ⟨h.1, ?_⟩
  rcases h.2 with hz | ⟨g, cap, cur, hv, hbg, hg, rest⟩
  · exact .inl hz
  · refine .inr ⟨g, cap, cur, hv, hbg, ?_, rest⟩
    rw [ht.block g (Array.getElem?_eq_some_iff.1 hg).1 (fun b hb e => ?_)]
    · exact hg
    · have := hn b hb
      rw [hv] at this
      rcases this with h0 | h0
      · cases h0
      · exact h0 e.symm
theorem below_touched {w w' : World} {B : Nat} {bs : List (Option Nat)} (h : TouchL w w' bs) (hB : B ≤ w.heap.size) (hr : ∀ b ∈ bs, ∀ g, b = some g → B ≤ g) : Below B w w' :=
  ⟨h.os, h.tape, h.output, h.size, fun k hk => h.block k (by omega) (fun b hb e => by have := hr b hb k e; omega)⟩

/-! ### rows that the call owns -/
def OwnR (w : World) (B : Nat) (v : Value) (L : List TRow) : Prop :=
  Own w B 25 1 v eV L ∧ (∀ x ∈ L, Own w B 2 1 x.1 eI x.2) ∧ (v.ownBlock :: L.map (·.1.ownBlock)).Pairwise apart
def blocksR (v : Value) (L : List TRow) : List (Option Nat) := v.ownBlock :: L.map (·.1.ownBlock)
theorem OwnR.slr {w : World} {B : Nat} {v : Value} {L : List TRow} (h : OwnR w B v L) : SlR w v L := ⟨h.1.sl eV_len, fun x hx => (h.2.1 x hx).sl eI_len⟩
theorem OwnR.base {w : World} {B B' : Nat} {v : Value} {L : List TRow} (h : OwnR w B v L) (hB : B' ≤ B) : OwnR w B' v L := ⟨h.1.base hB, fun x hx => (h.2.1 x hx).base hB, h.2.2⟩
theorem OwnR.below {w w' : World} {B C : Nat} {v : Value} {L : List TRow} (h : OwnR w B v L) (hb : Below C w w') (hC : w.heap.size ≤ C) : OwnR w' B v L := ⟨h.1.below hb hC, fun x hx => (h.2.1 x hx).below hb hC, h.2.2⟩
theorem OwnR.alloc {w : World} {B : Nat} {v : Value} {L : List TRow} (h : OwnR w B v L) (o : Obj) : OwnR (w.alloc o) B v L := ⟨h.1.alloc o, fun x hx => (h.2.1 x hx).alloc o, h.2.2⟩
theorem OwnR.drewN {w : World} {B : Nat} {v : Value} {L : List TRow} (h : OwnR w B v L) (n : Nat) : OwnR (w.drewN n) B v L := ⟨h.1.drewN n, fun x hx => (h.2.1 x hx).drewN n, h.2.2⟩
theorem OwnR.drew {w : World} {B : Nat} {v : Value} {L : List TRow} (h : OwnR w B v L) : OwnR w.drew B v L := ⟨h.1.drew, fun x hx => (h.2.1 x hx).drew, h.2.2⟩
theorem OwnR.lt {w : World} {B : Nat} {v : Value} {L : List TRow} (h : OwnR w B v L) : ∀ b ∈ blocksR v L, ∀ g, b = some g → B ≤ g ∧ g < w.heap.size := by
  intro b hb g hg
  rcases List.mem_cons.1 hb with rfl | hb
  · exact h.1.lt g hg
  · obtain ⟨x, hx, rfl⟩ := List.mem_map.1 hb
    exact (h.2.1 x hx).lt g hg
theorem OwnR.touched {w w' : World} {B : Nat} {v : Value} {L : List TRow} {bs : List (Option Nat)} (h : OwnR w B v L) (ht : TouchL w w' bs) (hn : ∀ a ∈ blocksR v L, ∀ b ∈ bs, apart a b) : OwnR w' B v L :=
  ⟨h.1.touched ht (hn _ (by simp [blocksR])), fun x hx => (h.2.1 x hx).touched ht (hn _ (by simp only [blocksR, List.mem_cons, List.mem_map]; exact .inr ⟨x, hx, rfl⟩)), h.2.2⟩
theorem apart_of_lt {bs cs : List (Option Nat)} {N : Nat} (h1 : ∀ b ∈ bs, ∀ g, b = some g → g < N) (h2 : ∀ b ∈ cs, ∀ g, b = some g → N ≤ g) : ∀ a ∈ bs, ∀ b ∈ cs, apart a b := by
  intro a ha b hb
  cases a with
  | none => exact .inl rfl
  | some g =>
    refine .inr fun e => ?_
    have := h1 _ ha g rfl
    have := h2 _ hb g e.symm
    omega

/-- The call returns rows of its own that read so; what was there stands. -/
def GivesRows (w : World) (R : List (List Int)) (e : Ending) (w' : World) : Prop :=
  ∃ v L, e = .returned v ∧ rowsOf L = R ∧ OwnR w' w.heap.size v L ∧ Below w.heap.size w w'

def RowsTo (w : World) (g n : Nat) (L : List TRow) (j : Nat) (wr : World) : Prop :=
  ∃ (ys : List Value) (M : List TRow), wr.ownsRow w.heap.size 25 1 (.slice (some ⟨g, 0, none⟩) n n) n ys ∧ M.length = j ∧ rowsOf M = rowsOf (L.take j) ∧ ys.take j = M.flatMap eV ∧
    (∀ x ∈ M, Own wr w.heap.size 2 1 x.1 eI x.2) ∧ (some g :: M.map (·.1.ownBlock)).Pairwise apart ∧ Below w.heap.size w wr
theorem ownBlock_slice (g o n c : Nat) : (Value.slice (some ⟨g, o, none⟩) n c).ownBlock = some g := rfl
theorem RowsTo.step {w wr w2 : World} {g n : Nat} {L : List TRow} {j : Nat} {v' : Value} (h : RowsTo w g n L j wr) (hj : j < L.length) (hn : L.length = n) (hb : Below wr.heap.size wr w2) (ho : Own w2 wr.heap.size 2 1 v' eI L[j].2) :
    RowsTo w g n L (j + 1) (w2.setCell ⟨g, j, none⟩ v') := by
  obtain ⟨ys, M, hown, hM, hR, hys, hrows, hpw, hbel⟩ := h
  have hown2 := World.ownsRow.kept hown (grownBy_of_below hb none) (Or.inr (by simp [Value.ownBlock]))
  obtain ⟨st1, st2⟩ := World.ownsRow.stored hown2 j v'
  have hB : w.heap.size ≤ wr.heap.size := hbel.size
  have hg := World.ownsRow.lt hown g rfl
  have hne : ∀ x ∈ M, apart x.1.ownBlock (some g) := fun x hx => apart_symm ((List.pairwise_cons.1 hpw).1 _ (List.mem_map.2 ⟨x, hx, rfl⟩))
  have hv : apart v'.ownBlock (some g) := by
    cases hv' : v'.ownBlock with
    | none => exact .inl rfl
    | some q => exact .inr fun e => by have := ho.lt q hv'; simp only [Option.some.injEq] at e; omega
  refine ⟨ys.set j v', M ++ [(v', L[j].2)], st1, by simp [hM], ?_, ?_, ?_, ?_, (below_step hbel hb).setCell hg.1 _⟩
  · rw [List.take_succ_eq_append_getElem hj]
    simp only [rowsOf, List.map_append] at hR ⊢
    rw [hR]
    rfl
  · have := take_set_snoc (m := j) hys (by have := hown.1; omega) v'
    rw [List.flatMap_append]
    exact this
  · intro x hx
    rcases List.mem_append.1 hx with hx | hx
    · exact ((hrows x hx).below hb (Nat.le_refl _)).grown st2 (hne x hx)
    · simp only [List.mem_singleton] at hx
      subst hx
      exact (ho.base hB).grown st2 hv
  · rw [List.map_append, ← List.cons_append, List.pairwise_append]
    refine ⟨hpw, by simp, fun a ha b hb' => ?_⟩
    simp only [List.map_cons, List.map_nil, List.mem_singleton] at hb'
    subst hb'
    cases a with
    | none => exact .inl rfl
    | some q =>
      refine .inr fun e => ?_
      have h2 := ho.lt q e.symm
      rcases List.mem_cons.1 ha with h1 | h1
      · cases h1; omega
      · obtain ⟨x, hx, hxe⟩ := List.mem_map.1 h1
        have := (hrows x hx).lt q hxe
        omega

theorem info_row : (Try.prog.info? 25).map (fun i => (i.zero, i.size, i.bytes)) = some (some (.slice none 0 0), 1, 24) := by kernel_rfl
set_option maxHeartbeats 800000 in
theorem toRows (w : World) (v : Value) (L : List TRow) (h : SlR w v L) (hl : L.length ≤ 1048576) (hr : ∀ x ∈ L, x.2.length ≤ 1048576) :
    Calls Try.prog 76 #[v] w (GivesRows w (rowsOf L)) := by
  obtain ⟨-, A, c, rfl, -, -, -⟩ := id h.1
  obtain ⟨i0, hi, hz0, hz1, hz2⟩ := info_parts info_row
  have HR := hd hr
  clear hr
  go_enter Try.func76, Try.ntmps76
  go_wp2_with (first | (at_make; refine wpList_make_full _ rfl _ _ 26 rfl w.heap.size 25 i0 (.slice none 0 0) 1 Try.underlying26 hi hz0 hz1 .i64 .i64 _ _ L.length rfl rfl rfl rfl (by rw [hz2]; omega) (by unfold maxLen; omega) (Nat.le_refl _) ?_))
  intro w1 hown hgr
  have H0 : RowsTo w w.heap.size L.length L 0 w1 := ⟨_, [], hown, rfl, rfl, by simp, by simp, by simp, below_of_grown hgr (Nat.le_refl _) (by simp)⟩
  clear hown hgr hi hz0 hz1 hz2
  go_wp2
  go_loopw [4] (fun i wr => ∃ k : Nat, k ≤ L.length ∧ i = .int .i64 k ∧ RowsTo w w.heap.size L.length L k wr) (fun i _ => L.length - (intOf i).toNat)
  case atStart => exact ⟨0, Nat.zero_le _, rfl, H0⟩
  case round =>
    obtain ⟨k, hk, rfl, H⟩ := hrel
    clear H0
    by_cases hlt : k < L.length
    · have HH := hd H
      obtain ⟨ys, M, hown, -, -, -, -, -, hbel⟩ := H
      obtain ⟨b, o, rfl, hb, hc, hrow⟩ := (h.below hbel).row_at hlt
      have hlen : L[k].2.length ≤ 1048576 := HR.out _ (List.getElem_mem hlt)
      have hy1 := hown.1
      go_wp2_with fail
      refine (toInts _ _ _ hrow hlen).mono ?_
      rintro e w2 ⟨v', rfl, O2, hb2⟩
      obtain ⟨A2, c2, rfl⟩ := O2.slice
      have hown2 := World.ownsRow.kept hown (grownBy_of_below hb2 none) (Or.inr (by simp [Value.ownBlock]))
      have hky : k < ys.length := by omega
      have hcell := hown2.cellAt k (by omega)
      rw [List.getElem?_eq_getElem hky] at hcell
      have hfr := hown2.frozenAt k
      clear hown hown2
      go_wp2_with fail
      go_roundw
      case rel => exact ⟨k + 1, by omega, by go_num, HH.out.step hlt rfl hb2 O2⟩
      case measure => simp [intOf]; omega
    · go_wp2_with fail
      go_ret
      obtain ⟨ys, M, hown, hM, hR, hys, hrows, hpw, hbel⟩ := H
      have hkl : k = L.length := by omega
      subst hkl
      rw [List.take_length] at hR
      refine ⟨_, M, rfl, hR, ⟨?_, hrows, hpw⟩, hbel⟩
      unfold Own
      have hy1 := hown.1
      have e1 : ys = M.flatMap eV := by
        rw [List.take_of_length_le (by omega)] at hys
        exact hys
      rw [← e1, hM]
      exact hown

set_option maxHeartbeats 800000 in
theorem eqRows (w : World) (v1 v2 : Value) (L1 L2 : List TRow) (h1 : SlR w v1 L1) (h2 : SlR w v2 L2) :
    Calls Try.prog 77 #[v1, v2] w fun e w' => e = .returned (.bool (decide (rowsOf L1 = rowsOf L2))) ∧ Below w.heap.size w w' := by
  have m1 := h1.len
  have m2 := h2.len
  obtain ⟨-, A1, c1, rfl, -, -, -⟩ := id h1.1
  obtain ⟨-, A2, c2, rfl, -, -, -⟩ := id h2.1
  by_cases hlen : L1.length = L2.length
  · have hb : (((L1.length : Nat) : Int) != ((L2.length : Nat) : Int)) = false := by simp [hlen]
    have HL := hd hlen
    clear hlen
    go_enter Try.func77, Try.ntmps77
    go_wp2
    go_loopw [5] (fun i wr => ∃ k : Nat, k ≤ L1.length ∧ i = .int .i64 k ∧ Below w.heap.size w wr ∧ Hid (rowsOf (L1.take k) = rowsOf (L2.take k))) (fun i _ => L1.length - (intOf i).toNat)
    case atStart => exact ⟨0, Nat.zero_le _, rfl, Below.refl _ _, hd (by simp)⟩
    case round =>
      obtain ⟨k, hk, rfl, hbel, HT⟩ := hrel
      by_cases hlt : k < L1.length
      · have hlt2 : k < L2.length := HL.out ▸ hlt
        obtain ⟨a1, o1, rfl, -, p0, s1⟩ := (h1.below hbel).row_at hlt
        obtain ⟨a2, o2, rfl, -, q0, s2⟩ := (h2.below hbel).row_at hlt2
        have gp := gro_cell p0
        have gq := gro_cell q0
        have HS1 := hd (fun x => s1.gro x)
        have HS2 := hd (fun x => s2.gro x)
        clear s1 s2
        go_wp2_with fail
        refine wp_region_calm (by kernel_rfl) (by kernel_rfl) ?_
        repeat (first | go_big_quiet_step ((go_at_call 40; exact calm_of_drew (eqInts _ _ _ _ _ (HS1.out _) (HS2.out _)))) | quiet_step ((go_at_call 40; exact calm_of_drew (eqInts _ _ _ _ _ (HS1.out _) (HS2.out _)))))
        refine wpQuiet_nil ?_
        rintro w1 ⟨x, rfl⟩
        have hb1 := below_step hbel (gro_below x)
        go_wp2_with fail
        · have hne : (!decide (L1[k].2 = L2[k].2)) = true := by assumption
          go_ret
          refine ⟨?_, hb1⟩
          have : rowsOf L1 ≠ rowsOf L2 := by
            intro e
            have e1 : (rowsOf L1)[k]? = (rowsOf L2)[k]? := by rw [e]
            simp [rowsOf, hlt, hlt2] at e1
            simp [e1] at hne
          simp [this]
        · have heq : (!decide (L1[k].2 = L2[k].2)) = false := by assumption
          go_roundw
          case rel => exact ⟨k + 1, by omega, by go_num, hb1, hd (by have := HT.out; rw [List.take_succ_eq_append_getElem hlt, List.take_succ_eq_append_getElem hlt2]; simp only [rowsOf, List.map_append] at this ⊢; rw [this]; simp at heq; simp [heq])⟩
          case measure => simp [intOf]; omega
      · go_wp2
        go_ret
        refine ⟨?_, hbel⟩
        have h3 := HT.out
        rw [List.take_of_length_le (by omega), List.take_of_length_le (by have := HL.out; omega)] at h3
        simp [h3]
  · have hb : (((L1.length : Nat) : Int) != ((L2.length : Nat) : Int)) = true := by simp; omega
    have HL := hd hlen
    clear hlen
    go_enter Try.func77, Try.ntmps77
    go_wp2
    go_ret
    refine ⟨?_, Below.refl _ _⟩
    have : rowsOf L1 ≠ rowsOf L2 := by
      intro e
      have e1 := congrArg List.length e
      simp [rowsOf] at e1
      exact HL.out e1
    simp [this]

/-! ### marks -/
def sumLen (L : List TRow) : Nat := (L.map (·.2.length)).sum
theorem sumLen_snoc (L : List TRow) (k : Nat) (h : k < L.length) : sumLen (L.take (k + 1)) = sumLen (L.take k) + L[k].2.length := by
  unfold sumLen
  rw [List.take_succ_eq_append_getElem h, List.map_append, List.sum_append]
  simp
theorem sumLen_le (L : List TRow) (k : Nat) : sumLen (L.take k) ≤ sumLen L := by
  have h : sumLen L = sumLen (L.take k) + sumLen (L.drop k) := by
    unfold sumLen
    rw [← List.sum_append, ← List.map_append, List.take_append_drop]
  omega
def marksRows : Int → List TRow → List TRow
  | _, [] => []
  | k, x :: L => (x.1, marks k x.2.length) :: marksRows (k + (x.2.length : Int)) L
theorem marksRows_len (k : Int) (L : List TRow) : (marksRows k L).length = L.length := by
  induction L generalizing k with
  | nil => rfl
  | cons x L ih => simp [marksRows, ih]
theorem marksRows_append (k : Int) (L M : List TRow) : marksRows k (L ++ M) = marksRows k L ++ marksRows (k + (sumLen L : Int)) M := by
  induction L generalizing k with
  | nil => simp [marksRows, sumLen]
  | cons x L ih =>
    simp only [List.cons_append, marksRows, ih]
    congr 3
    simp [sumLen]
    omega
theorem marksRows_get (k : Int) (L : List TRow) (j : Nat) (hj : j < L.length) (h : j < (marksRows k L).length) : (marksRows k L)[j] = (L[j].1, marks (k + (sumLen (L.take j) : Int)) L[j].2.length) := by
  induction L generalizing k j with
  | nil => simp at hj
  | cons x L ih =>
    cases j with
    | zero => simp [marksRows, sumLen]
    | succ j =>
      have e : k + (x.2.length : Int) + (sumLen (L.take j) : Int) = k + (sumLen ((x :: L).take (j + 1)) : Int) := by simp only [sumLen, List.take_succ_cons, List.map_cons, List.sum_cons]; omega
      have hj' : j < L.length := by simpa using hj
      have := ih (k + (x.2.length : Int)) j hj' (by rw [marksRows_len]; exact hj')
      rw [e] at this
      simpa only [marksRows, List.getElem_cons_succ] using this
theorem sumLen_marks (k : Int) (L : List TRow) : sumLen (marksRows k L) = sumLen L := by
  induction L generalizing k with
  | nil => rfl
  | cons x L ih =>
    have := ih (k + (x.2.length : Int))
    simp only [sumLen, marksRows, List.map_cons, List.sum_cons, marks_len] at this ⊢
    omega
theorem blocks_marks (v : Value) (k : Int) (L : List TRow) : blocksR v (marksRows k L) = blocksR v L := by
  unfold blocksR
  congr 1
  induction L generalizing k with
  | nil => rfl
  | cons x L ih => simp [marksRows, ih]
theorem OwnR.mark {w w' : World} {B : Nat} {v : Value} {P S : List TRow} {x : TRow} {m : List Int} (h : OwnR w B v (P ++ x :: S)) (ho : Own w' B 2 1 x.1 eI m) (hg : w.grownBy w' x.1.ownBlock) : OwnR w' B v (P ++ (x.1, m) :: S) := by
  obtain ⟨h1, h2, h3⟩ := h
  have hT := TouchL.of_grown hg
  have hx := h2 x (by simp)
  rw [List.map_append, List.map_cons, ← List.cons_append, List.pairwise_append] at h3
  obtain ⟨p1, p2, p3⟩ := h3
  refine ⟨?_, ?_, ?_⟩
  · have := h1.touched hT (by intro b hb; simp only [List.mem_singleton] at hb; subst hb; exact p3 _ (by simp) _ (by simp))
    unfold Own at this ⊢
    simpa [eV] using this
  · intro y hy
    rcases List.mem_append.1 hy with hy | hy
    · exact (h2 y (by simp [hy])).touched hT (by intro b hb; simp only [List.mem_singleton] at hb; subst hb; exact p3 _ (List.mem_cons_of_mem _ (List.mem_map.2 ⟨y, hy, rfl⟩)) _ (by simp))
    · rcases List.mem_cons.1 hy with rfl | hy
      · exact ho
      · exact (h2 y (by simp [hy])).touched hT (by intro b hb; simp only [List.mem_singleton] at hb; subst hb; exact apart_symm ((List.pairwise_cons.1 p2).1 _ (List.mem_map.2 ⟨y, hy, rfl⟩)))
  · rw [List.map_append, List.map_cons, ← List.cons_append, List.pairwise_append]
    exact ⟨p1, p2, p3⟩
def MarkR (w : World) (B : Nat) (v : Value) (k : Int) (L : List TRow) (j : Nat) (wr : World) : Prop :=
  OwnR wr B v (marksRows k (L.take j) ++ L.drop j) ∧ TouchL w wr (L.map (·.1.ownBlock))
theorem MarkR.step {w wr w2 : World} {B : Nat} {v : Value} {k : Int} {L : List TRow} {j : Nat} (h : MarkR w B v k L j wr) (hj : j < L.length) (ho : Own w2 B 2 1 L[j].1 eI (marks (k + (sumLen (L.take j) : Int)) L[j].2.length)) (hg : wr.grownBy w2 L[j].1.ownBlock) : MarkR w B v k L (j + 1) w2 := by
  obtain ⟨h1, h2⟩ := h
  rw [List.drop_eq_getElem_cons hj] at h1
  refine ⟨?_, (h2.trans (TouchL.of_grown hg)).mono (fun x hx => ?_)⟩
  · have := h1.mark ho hg
    rw [List.take_succ_eq_append_getElem hj, marksRows_append]
    simpa [marksRows] using this
  · rcases List.mem_append.1 hx with hx | hx
    · exact hx
    · simp only [List.mem_singleton] at hx
      subst hx
      exact List.mem_map.2 ⟨_, List.getElem_mem hj, rfl⟩
set_option maxHeartbeats 800000 in
theorem markRows (w : World) (B : Nat) (v : Value) (L : List TRow) (h : OwnR w B v L) (k : Int) (h0 : 0 ≤ k) (hk : k + (sumLen L : Int) ≤ 4611686018427387904) :
    Calls Try.prog 78 #[v, .int .i64 k] w fun e w' => e = .returned (.int .i64 (k + (sumLen L : Int))) ∧ OwnR w' B v (marksRows k L) ∧ TouchL w w' (L.map (·.1.ownBlock)) := by
  have m1 := h.slr.len
  have H0 : MarkR w B v k L 0 w := ⟨by simpa [marksRows] using h, TouchL.refl _ _⟩
  obtain ⟨-, A, c, rfl, -, -, -⟩ := id h.slr.1
  clear h
  go_enter Try.func78, Try.ntmps78
  go_wp2_with fail
  go_loopw [1, 5] (fun kk i wr => ∃ j : Nat, j ≤ L.length ∧ i = .int .i64 j ∧ kk = .int .i64 (k + (sumLen (L.take j) : Int)) ∧ MarkR w B (.slice A L.length c) k L j wr) (fun _ i _ => L.length - (intOf i).toNat)
  case atStart => exact ⟨0, Nat.zero_le _, rfl, by simp [sumLen], H0⟩
  case round =>
    obtain ⟨j, hj, rfl, rfl, H⟩ := hrel
    clear H0
    have HH := hd H
    by_cases hlt : j < L.length
    · have HS := hd (sumLen_snoc L j hlt)
      have hle := sumLen_le L (j + 1)
      rw [HS.out] at hle
      have hln : (marksRows k (L.take j)).length = j := by rw [marksRows_len, List.length_take]; omega
      have hmem : L[j] ∈ marksRows k (L.take j) ++ L.drop j := List.mem_append_right _ (by rw [List.drop_eq_getElem_cons hlt]; exact List.mem_cons_self)
      have hO : Own wr B 2 1 L[j].1 eI L[j].2 := H.1.2.1 _ hmem
      have hrow : ∃ b o, A = some ⟨b, o, none⟩ ∧ wr.cell? ⟨b, o + j, none⟩ = some L[j].1 := by
        obtain ⟨b, o, hA, -, hc, -⟩ := H.1.slr.row_at (i := j) (by rw [List.length_append, hln, List.length_drop]; omega)
        have hat : (marksRows k (L.take j) ++ L.drop j)[j]'(by rw [List.length_append, hln, List.length_drop]; omega) = L[j] := by
          rw [List.getElem_append_right (by omega)]
          simp [hln]
        rw [hat] at hc
        exact ⟨b, o, hA, hc⟩
      obtain ⟨b, o, rfl, hc⟩ := hrow
      clear hmem hln H
      go_wp2_with fail
      refine (markInts _ _ _ _ _ hO _ (by omega) (by omega)).mono ?_
      rintro e w2 ⟨rfl, P2, hg2⟩
      have HM := HH.out.step hlt P2 hg2
      clear hO P2 hg2
      go_wp2_with fail
      go_roundw
      case rel => exact ⟨j + 1, by omega, by go_num, by rw [HS.out]; go_num, HM⟩
      case measure => simp [intOf]; omega
    · go_wp2_with fail
      go_ret
      obtain rfl : j = L.length := by omega
      obtain ⟨h1, h2⟩ := HH.out
      rw [List.take_length, List.drop_length, List.append_nil] at h1
      exact ⟨by simp [List.take_length], h1, h2⟩
set_option maxHeartbeats 800000 in
theorem heldRows (w : World) (v : Value) (L : List TRow) (k : Int) (h : SlR w v (marksRows k L)) (h0 : 0 ≤ k) (hk : k + (sumLen L : Int) ≤ 4611686018427387904) :
    Calls Try.prog 79 #[v, .int .i64 k] w fun e w' => e = .returned (.int .i64 (k + (sumLen L : Int))) ∧ w' = w := by
  have m1 := h.len
  have hlen := marksRows_len k L
  obtain ⟨-, A, c, hv, -, -, -⟩ := id h.1
  rw [hlen] at hv m1
  subst hv
  have HL := hd hlen
  clear hlen
  go_enter Try.func79, Try.ntmps79
  go_wp2_with fail
  go_loop [1, 5] (fun kk i => ∃ j : Nat, j ≤ L.length ∧ i = .int .i64 j ∧ kk = .int .i64 (k + (sumLen (L.take j) : Int))) (fun _ i => L.length - (intOf i).toNat)
  case atStart => exact ⟨0, Nat.zero_le _, rfl, by simp [sumLen]⟩
  case round =>
    obtain ⟨j, hj, rfl, rfl⟩ := hrel
    by_cases hlt : j < L.length
    · have HS := hd (sumLen_snoc L j hlt)
      have hle := sumLen_le L (j + 1)
      rw [HS.out] at hle
      obtain ⟨b, o, rfl, -, hc, hrow⟩ := h.row_at (i := j) (by rw [HL.out]; exact hlt)
      rw [marksRows_get k L j hlt] at hc hrow
      dsimp only at hc hrow
      go_wp2_with fail
      refine (heldInts _ _ _ _ hrow (by omega) (by omega)).mono ?_
      rintro e w2 ⟨rfl, hw⟩
      have hw := hw.symm
      subst hw
      have hpos : 0 ≤ k + (sumLen (L.take j) : Int) + (L[j].2.length : Int) := by omega
      go_wp2_with fail
      go_round
      case rel => exact ⟨j + 1, by omega, by go_num, by rw [HS.out]; go_num⟩
      case measure => simp [intOf]; omega
    · go_wp2_with fail
      go_ret
      obtain rfl : j = L.length := by omega
      exact ⟨by simp [List.take_length], rfl⟩

def szI (n left : Int) : Int := if n ≤ left then left - n else -1
theorem szI_yes {n left : Int} (h : n ≤ left) : szI n left = left - n := if_pos h
theorem szI_no {n left : Int} (h : ¬ n ≤ left) : szI n left = -1 := if_neg h
theorem szInts (w : World) (v : Value) (l : List Int) (h : Sl w 1 v eI l) (left : Int) (h0 : 0 ≤ left) (h1 : left ≤ 1048576) :
    Calls Try.prog 74 #[v, .int .i64 left] w fun e w' => e = .returned (.int .i64 (szI (l.length : Int) left)) ∧ w' = w := by
  have m1 := h.len
  obtain ⟨-, A, c, rfl, -, -, -⟩ := h
  by_cases hle : (l.length : Int) ≤ left
  · rw [szI_yes hle]
    go_enter Try.func74, Try.ntmps74
    go_wp2
    go_ret
    exact ⟨rfl, rfl⟩
  · rw [szI_no hle]
    have hle' : left < (l.length : Int) := by omega
    clear hle
    go_enter Try.func74, Try.ntmps74
    go_wp2
    go_ret
    exact ⟨rfl, rfl⟩
def totR (L : List TRow) : Nat := L.length + sumLen L
def szRow (L : List TRow) (left : Int) : Int := if (totR L : Int) ≤ left then left - (totR L : Int) else -1
theorem szRow_part {L : List TRow} {left : Int} {k : Nat} (h : left < (L.length : Int) + (sumLen (L.take k) : Int)) : szRow L left = -1 := by
  have := sumLen_le L k
  exact if_neg (by unfold totR; omega)
theorem szRow_all {L : List TRow} {left : Int} {k : Nat} (hk : ¬ k < L.length) (h : (L.length : Int) + (sumLen (L.take k) : Int) ≤ left) : left - (L.length : Int) - (sumLen (L.take k) : Int) = szRow L left := by
  rw [List.take_of_length_le (by omega)] at h ⊢
  unfold szRow
  rw [if_pos (by unfold totR; omega)]
  unfold totR
  omega
set_option maxHeartbeats 800000 in
theorem szRows (w : World) (v : Value) (L : List TRow) (h : SlR w v L) (left : Int) (h0 : 0 ≤ left) (h1 : left ≤ 1048576) :
    Calls Try.prog 75 #[v, .int .i64 left] w fun e w' => e = .returned (.int .i64 (szRow L left)) ∧ w' = w := by
  have m1 := h.len
  obtain ⟨-, A, c, rfl, -, -, -⟩ := id h.1
  by_cases hn : (L.length : Int) ≤ left
  case neg =>
    have HR := hd (szRow_part (L := L) (left := left) (k := 0) (by omega))
    have hn' : left < (L.length : Int) := by omega
    clear hn
    go_enter Try.func75, Try.ntmps75
    go_wp2_with fail
    go_ret
    exact ⟨by rw [HR.out]; rfl, rfl⟩
  go_enter Try.func75, Try.ntmps75
  go_wp2_with fail
  go_loop [1, 5] (fun lf i => ∃ k : Nat, k ≤ L.length ∧ i = .int .i64 k ∧ lf = .int .i64 (left - (L.length : Int) - (sumLen (L.take k) : Int)) ∧ (L.length : Int) + (sumLen (L.take k) : Int) ≤ left) (fun _ i => L.length - (intOf i).toNat)
  case atStart => exact ⟨0, Nat.zero_le _, rfl, by simp [sumLen], by simp [sumLen]; omega⟩
  case round =>
    obtain ⟨k, hk, rfl, rfl, hs⟩ := hrel
    by_cases hlt : k < L.length
    · obtain ⟨b, o, rfl, -, hc, hrow⟩ := h.row_at hlt
      have HS := hd (sumLen_snoc L k hlt)
      by_cases hfit : (L[k].2.length : Int) ≤ left - (L.length : Int) - (sumLen (L.take k) : Int)
      · have HQ := hd (szI_yes hfit)
        go_wp2_with fail
        refine (szInts _ _ _ hrow _ (by omega) (by omega)).mono ?_
        rintro e w2 ⟨rfl, hw⟩
        have hw := hw.symm
        subst hw
        rw [HQ.out]
        have hpos : 0 ≤ left - (L.length : Int) - (sumLen (L.take k) : Int) - (L[k].2.length : Int) := by omega
        go_wp2_with fail
        go_round
        case rel => exact ⟨k + 1, by omega, by go_num, by rw [HS.out]; go_num, by rw [HS.out]; omega⟩
        case measure => simp [intOf]; omega
      · have HR := hd (szRow_part (L := L) (left := left) (k := k + 1) (by rw [HS.out]; omega))
        have HQ := hd (szI_no hfit)
        go_wp2_with fail
        refine (szInts _ _ _ hrow _ (by omega) (by omega)).mono ?_
        rintro e w2 ⟨rfl, hw⟩
        have hw := hw.symm
        subst hw
        rw [HQ.out]
        go_wp2_with fail
        go_ret
        exact ⟨by rw [HR.out]; rfl, rfl⟩
    · have HR := hd (szRow_all hlt hs)
      go_wp2_with fail
      go_ret
      exact ⟨by rw [← HR.out]; rfl, rfl⟩
end Go.Proofs.Ytlgcehdklpbknaa
