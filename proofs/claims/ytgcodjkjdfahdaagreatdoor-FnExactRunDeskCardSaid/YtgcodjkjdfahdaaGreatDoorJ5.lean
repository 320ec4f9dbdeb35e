/- Texts of the claim, joined: each says at its head what it proves. No condition. -/
import Derived.Test.YtgcodjkjdfahdaaGreatDoorRows
import Derived.Test.YtgcodjkjdfahdaaGreatDoorJ3
import Derived.Test.YtgcodjkjdfahdaaGreatDoorJ4
import Derived.OneCell
/- Facts of this program that every law's last step wants, and the opening of its arguments. No condition. -/
namespace Go.Proofs.YtgcodjkjdfahdaaGreatDoor
open Go Go.RowKit Go.ChangeShapes Go.WideShapes Go.ChangeAt
set_option linter.unusedSimpArgs false
set_option linter.unusedVariables false

theorem own_knob : ownKnob Tryz.prog.godebug = none := by kernel_rfl
theorem laid_out : laidOutB Tryz.prog = true := by kernel_rfl

section
variable {H : Type} {enc : TypeId × Value → H} {P : Program} {w : World} {base : Nat} {spare : Nat → Bool} {held : Bool}
end

/-! ### a number within bounds -/
def inB (n lo hi : Int) : Bool := decide (lo ≤ n ∧ n ≤ hi)
theorem inB_true {n lo hi : Int} (h : inB n lo hi = true) : lo ≤ n ∧ n ≤ hi := by unfold inB at h; simpa using h
theorem inB_false {n lo hi : Int} (h : inB n lo hi = false) : n < lo ∨ hi < n := by unfold inB at h; simp at h; omega
theorem inB_not {n lo hi : Int} (h : n < lo ∨ hi < n) : inB n lo hi = false := by unfold inB; simp; omega

theorem in_spec (n lo hi : Int) (w : World) : Calls Tryz.prog 158 #[.int .i64 n, .int .i64 lo, .int .i64 hi] w fun e w' => e = .returned (.bool (inB n lo hi)) ∧ w' = w := by
  by_cases h1 : lo ≤ n
  · go_enter Tryz.func158, Tryz.ntmps158
    go_wp2
    go_ret
    refine ⟨?_, rfl⟩
    show Ending.returned (.bool (decide (n ≤ hi))) = _
    simp [inB, h1]
  · have h2 : n < lo := by omega
    go_enter Tryz.func158, Tryz.ntmps158
    go_wp2
    go_ret
    refine ⟨?_, rfl⟩
    show Ending.returned (.bool false) = _
    rw [inB_not (.inl h2)]
theorem in_impl (n lo hi : Int) (w : World) : Calls Tryz.prog 67 #[.int .i64 n, .int .i64 lo, .int .i64 hi] w fun e w' => e = .returned (.bool (inB n lo hi)) ∧ w' = w := by
  by_cases h1 : lo ≤ n
  · go_enter Tryz.func67, Tryz.ntmps67
    go_wp2
    go_ret
    refine ⟨?_, rfl⟩
    show Ending.returned (.bool (decide (n ≤ hi))) = _
    simp [inB, h1]
  · have h2 : n < lo := by omega
    go_enter Tryz.func67, Tryz.ntmps67
    go_wp2
    go_ret
    refine ⟨?_, rfl⟩
    show Ending.returned (.bool false) = _
    rw [inB_not (.inl h2)]
theorem calm_in_spec (w : World) (x : Ext w) (n lo hi : Int) : Calls Tryz.prog 158 #[.int .i64 n, .int .i64 lo, .int .i64 hi] (gro w x) fun e w'' => e = .returned (.bool (inB n lo hi)) ∧ ∃ y, w'' = gro w y := calm_of_same (in_spec _ _ _ _)
end Go.Proofs.YtgcodjkjdfahdaaGreatDoor

/- Slices of slices of integers: what they read as, rows that the call owns, and the laws' helpers on them: a copy, a comparison, marks. No condition but that the slices read. -/
namespace Go.Proofs.YtgcodjkjdfahdaaGreatDoor
open Go Go.RowKit Go.ChangeShapes Go.WideShapes
set_option linter.unusedSimpArgs false
set_option linter.unusedVariables false

abbrev TRow := Value × List Int
def eV (x : TRow) : List Value := [x.1]
theorem eV_len (x : TRow) : (eV x).length = 1 := rfl
def rowsOf (L : List TRow) : List (List Int) := L.map (·.2)
def SlR (w : World) (v : Value) (L : List TRow) : Prop := Sl w 1 v eV L ∧ ∀ x ∈ L, Sl w 1 x.1 eI x.2
theorem SlR.len {w : World} {v : Value} {L : List TRow} (h : SlR w v L) : L.length ≤ 9223372036854775807 := h.1.len
theorem SlR.below {w w' : World} {v : Value} {L : List TRow} (h : SlR w v L) (hb : Below w.heap.size w w') : SlR w' v L := ⟨h.1.below hb, fun x hx => (h.2 x hx).below hb⟩
theorem SlR.alloc {w : World} {v : Value} {L : List TRow} (h : SlR w v L) (o : Obj) : SlR (w.alloc o) v L := ⟨h.1.alloc o, fun x hx => (h.2 x hx).alloc o⟩
theorem SlR.drewN {w : World} {v : Value} {L : List TRow} (h : SlR w v L) (n : Nat) : SlR (w.drewN n) v L := ⟨h.1.drewN n, fun x hx => (h.2 x hx).drewN n⟩
theorem SlR.row_at {w : World} {A : Option Addr} {n c : Nat} {L : List TRow} (h : SlR w (.slice A n c) L) {i : Nat} (hi : i < L.length) :
    ∃ b o, A = some ⟨b, o, none⟩ ∧ b < w.heap.size ∧ w.cell? ⟨b, o + i, none⟩ = some L[i].1 ∧ Sl w 1 L[i].1 eI L[i].2 := by
  obtain ⟨b, o, x, hx, hA, hb, hc⟩ := h.1.at_ hi
  have : x = L[i] := by rw [List.getElem?_eq_getElem hi] at hx; exact (Option.some.inj hx).symm
  subst this
  exact ⟨b, o, hA, hb, by simpa using hc 0 _ rfl, h.2 _ (List.getElem_mem hi)⟩

theorem Own.slice {α : Type} {w : World} {B : Nat} {E : TypeId} {k : Nat} {v : Value} {enc : α → List Value} {l : List α} (h : Own w B E k v enc l) : ∃ A c, v = .slice A l.length c := by
  rcases h.form with ⟨hv, hl⟩ | ⟨g, cap, hv, -⟩
  · subst hl
    exact ⟨none, 0, hv⟩
  · exact ⟨_, cap, hv⟩
theorem Sl.slice {α : Type} {w : World} {k : Nat} {v : Value} {enc : α → List Value} {l : List α} (h : Sl w k v enc l) : ∃ A c, v = .slice A l.length c := by
  obtain ⟨-, A, c, hv, -⟩ := h
  exact ⟨A, c, hv⟩

/-! ### two blocks apart; a world in which some blocks have been written -/
def apart (a b : Option Nat) : Prop := a = none ∨ a ≠ b
theorem apart_symm {a b : Option Nat} (h : apart a b) : apart b a := by
  rcases h with h | h
  · cases b with
    | none => exact .inl rfl
    | some b => exact .inr (by rw [h]; exact fun e => by cases e)
  · cases b with
    | none => exact .inl rfl
    | some b => exact .inr (fun e => h e.symm)
structure TouchL (w w' : World) (bs : List (Option Nat)) : Prop where
  os : w'.os = w.os
  tape : w'.tape = w.tape
  output : w'.output = w.output
  size : w.heap.size ≤ w'.heap.size
  block : ∀ k, k < w.heap.size → (∀ b ∈ bs, b ≠ some k) → w'.heap[k]? = w.heap[k]?
theorem TouchL.refl (w : World) (bs : List (Option Nat)) : TouchL w w bs := ⟨rfl, rfl, rfl, Nat.le_refl _, fun _ _ _ => rfl⟩
theorem TouchL.of_grown {w w' : World} {b : Option Nat} (h : w.grownBy w' b) : TouchL w w' [b] :=
  ⟨h.os, h.tape, h.output, h.size, fun k hk hn => h.block k hk (fun e => hn b (by simp) (by first | exact e.symm | exact e))⟩
theorem TouchL.trans {a b c : World} {bs cs : List (Option Nat)} (h : TouchL a b bs) (h' : TouchL b c cs) : TouchL a c (bs ++ cs) :=
  ⟨h'.os.trans h.os, h'.tape.trans h.tape, h'.output.trans h.output, Nat.le_trans h.size h'.size, fun k hk hn => (h'.block k (Nat.lt_of_lt_of_le hk h.size) (fun b hb => hn b (List.mem_append_right _ hb))).trans (h.block k hk (fun b hb => hn b (List.mem_append_left _ hb)))⟩
theorem TouchL.mono {a b : World} {bs cs : List (Option Nat)} (h : TouchL a b bs) (hs : ∀ x ∈ bs, x ∈ cs) : TouchL a b cs :=
  ⟨h.os, h.tape, h.output, h.size, fun k hk hn => h.block k hk (fun x hx => hn x (hs x hx))⟩
theorem Own.touched {α : Type} {w w' : World} {B : Nat} {E : TypeId} {k : Nat} {v : Value} {enc : α → List Value} {l : List α} {bs : List (Option Nat)} (h : Own w B E k v enc l) (ht : TouchL w w' bs) (hn : ∀ b ∈ bs, apart v.ownBlock b) : Own w' B E k v enc l := by
  refine ⟨h.1, ?_⟩
  rcases h.2 with hz | ⟨g, cap, cur, hv, hbg, hg, rest⟩
  · exact .inl hz
  · refine .inr ⟨g, cap, cur, hv, hbg, ?_, rest⟩
    rw [ht.block g (Array.getElem?_eq_some_iff.1 hg).1 (fun b hb e => ?_)]
    · exact hg
    · have := hn b hb
      rw [hv] at this
      rcases this with h0 | h0
      · cases h0
      · exact h0 e.symm
theorem below_touched {w w' : World} {B : Nat} {bs : List (Option Nat)} (h : TouchL w w' bs) (hB : B ≤ w.heap.size) (hr : ∀ b ∈ bs, ∀ g, b = some g → B ≤ g) : Below B w w' :=
  ⟨h.os, h.tape, h.output, h.size, fun k hk => h.block k (by omega) (fun b hb e => by have := hr b hb k e; omega)⟩

/-! ### rows that the call owns -/
def OwnR (w : World) (B : Nat) (v : Value) (L : List TRow) : Prop :=
  Own w B 56 1 v eV L ∧ (∀ x ∈ L, Own w B 2 1 x.1 eI x.2) ∧ (v.ownBlock :: L.map (·.1.ownBlock)).Pairwise apart
def blocksR (v : Value) (L : List TRow) : List (Option Nat) := v.ownBlock :: L.map (·.1.ownBlock)
theorem OwnR.slr {w : World} {B : Nat} {v : Value} {L : List TRow} (h : OwnR w B v L) : SlR w v L := ⟨h.1.sl eV_len, fun x hx => (h.2.1 x hx).sl eI_len⟩
theorem OwnR.base {w : World} {B B' : Nat} {v : Value} {L : List TRow} (h : OwnR w B v L) (hB : B' ≤ B) : OwnR w B' v L := ⟨h.1.base hB, fun x hx => (h.2.1 x hx).base hB, h.2.2⟩
theorem OwnR.below {w w' : World} {B C : Nat} {v : Value} {L : List TRow} (h : OwnR w B v L) (hb : Below C w w') (hC : w.heap.size ≤ C) : OwnR w' B v L := ⟨h.1.below hb hC, fun x hx => (h.2.1 x hx).below hb hC, h.2.2⟩
theorem OwnR.alloc {w : World} {B : Nat} {v : Value} {L : List TRow} (h : OwnR w B v L) (o : Obj) : OwnR (w.alloc o) B v L := ⟨h.1.alloc o, fun x hx => (h.2.1 x hx).alloc o, h.2.2⟩
theorem OwnR.drewN {w : World} {B : Nat} {v : Value} {L : List TRow} (h : OwnR w B v L) (n : Nat) : OwnR (w.drewN n) B v L := ⟨h.1.drewN n, fun x hx => (h.2.1 x hx).drewN n, h.2.2⟩
theorem OwnR.drew {w : World} {B : Nat} {v : Value} {L : List TRow} (h : OwnR w B v L) : OwnR w.drew B v L := ⟨h.1.drew, fun x hx => (h.2.1 x hx).drew, h.2.2⟩
theorem OwnR.lt {w : World} {B : Nat} {v : Value} {L : List TRow} (h : OwnR w B v L) : ∀ b ∈ blocksR v L, ∀ g, b = some g → B ≤ g ∧ g < w.heap.size := by
  intro b hb g hg
  rcases List.mem_cons.1 hb with rfl | hb
  · exact h.1.lt g hg
  · obtain ⟨x, hx, rfl⟩ := List.mem_map.1 hb
    exact (h.2.1 x hx).lt g hg
theorem OwnR.touched {w w' : World} {B : Nat} {v : Value} {L : List TRow} {bs : List (Option Nat)} (h : OwnR w B v L) (ht : TouchL w w' bs) (hn : ∀ a ∈ blocksR v L, ∀ b ∈ bs, apart a b) : OwnR w' B v L :=
  ⟨h.1.touched ht (hn _ (by simp [blocksR])), fun x hx => (h.2.1 x hx).touched ht (hn _ (by simp only [blocksR, List.mem_cons, List.mem_map]; exact .inr ⟨x, hx, rfl⟩)), h.2.2⟩
def RowsTo (w : World) (g n : Nat) (L : List TRow) (j : Nat) (wr : World) : Prop :=
  ∃ (ys : List Value) (M : List TRow), wr.ownsRow w.heap.size 56 1 (.slice (some ⟨g, 0, none⟩) n n) n ys ∧ M.length = j ∧ rowsOf M = rowsOf (L.take j) ∧ ys.take j = M.flatMap eV ∧
    (∀ x ∈ M, Own wr w.heap.size 2 1 x.1 eI x.2) ∧ (some g :: M.map (·.1.ownBlock)).Pairwise apart ∧ Below w.heap.size w wr
theorem RowsTo.step {w wr w2 : World} {g n : Nat} {L : List TRow} {j : Nat} {v' : Value} (h : RowsTo w g n L j wr) (hj : j < L.length) (hn : L.length = n) (hb : Below wr.heap.size wr w2) (ho : Own w2 wr.heap.size 2 1 v' eI L[j].2) :
    RowsTo w g n L (j + 1) (w2.setCell ⟨g, j, none⟩ v') := by
  obtain ⟨ys, M, hown, hM, hR, hys, hrows, hpw, hbel⟩ := h
  have hown2 := World.ownsRow.kept hown (grownBy_of_below hb none) (Or.inr (by simp [Value.ownBlock]))
  obtain ⟨st1, st2⟩ := World.ownsRow.stored hown2 j v'
  have hB : w.heap.size ≤ wr.heap.size := hbel.size
  have hg := World.ownsRow.lt hown g rfl
  have hne : ∀ x ∈ M, apart x.1.ownBlock (some g) := fun x hx => apart_symm ((List.pairwise_cons.1 hpw).1 _ (List.mem_map.2 ⟨x, hx, rfl⟩))
  have hv : apart v'.ownBlock (some g) := by
    cases hv' : v'.ownBlock with
    | none => exact .inl rfl
    | some q => exact .inr fun e => by have := ho.lt q hv'; simp only [Option.some.injEq] at e; omega
  refine ⟨ys.set j v', M ++ [(v', L[j].2)], st1, by simp [hM], ?_, ?_, ?_, ?_, (below_step hbel hb).setCell hg.1 _⟩
  · rw [List.take_succ_eq_append_getElem hj]
    simp only [rowsOf, List.map_append] at hR ⊢
    rw [hR]
    rfl
  · have := take_set_snoc (m := j) hys (by have := hown.1; omega) v'
    rw [List.flatMap_append]
    exact this
  · intro x hx
    rcases List.mem_append.1 hx with hx | hx
    · exact ((hrows x hx).below hb (Nat.le_refl _)).grown st2 (hne x hx)
    · simp only [List.mem_singleton] at hx
      subst hx
      exact (ho.base hB).grown st2 hv
  · rw [List.map_append, ← List.cons_append, List.pairwise_append]
    refine ⟨hpw, by simp, fun a ha b hb' => ?_⟩
    simp only [List.map_cons, List.map_nil, List.mem_singleton] at hb'
    subst hb'
    cases a with
    | none => exact .inl rfl
    | some q =>
      refine .inr fun e => ?_
      have h2 := ho.lt q e.symm
      rcases List.mem_cons.1 ha with h1 | h1
      · cases h1; omega
      · obtain ⟨x, hx, hxe⟩ := List.mem_map.1 h1
        have := (hrows x hx).lt q hxe
        omega

theorem info_row : (Tryz.prog.info? 56).map (fun i => (i.zero, i.size, i.bytes)) = some (some (.slice none 0 0), 1, 24) := by kernel_rfl
/-! ### marks -/
def sumLen (L : List TRow) : Nat := (L.map (·.2.length)).sum
def marksRows : Int → List TRow → List TRow
  | _, [] => []
  | k, x :: L => (x.1, marks k x.2.length) :: marksRows (k + (x.2.length : Int)) L
theorem marksRows_append (k : Int) (L M : List TRow) : marksRows k (L ++ M) = marksRows k L ++ marksRows (k + (sumLen L : Int)) M := by
  induction L generalizing k with
  | nil => simp [marksRows, sumLen]
  | cons x L ih =>
    simp only [List.cons_append, marksRows, ih]
    congr 3
    simp [sumLen]
    omega
theorem OwnR.mark {w w' : World} {B : Nat} {v : Value} {P S : List TRow} {x : TRow} {m : List Int} (h : OwnR w B v (P ++ x :: S)) (ho : Own w' B 2 1 x.1 eI m) (hg : w.grownBy w' x.1.ownBlock) : OwnR w' B v (P ++ (x.1, m) :: S) := by
  obtain ⟨h1, h2, h3⟩ := h
  have hT := TouchL.of_grown hg
  have hx := h2 x (by simp)
  rw [List.map_append, List.map_cons, ← List.cons_append, List.pairwise_append] at h3
  obtain ⟨p1, p2, p3⟩ := h3
  refine ⟨?_, ?_, ?_⟩
  · have := h1.touched hT (by intro b hb; simp only [List.mem_singleton] at hb; subst hb; exact p3 _ (by simp) _ (by simp))
    unfold Own at this ⊢
    simpa [eV] using this
  · intro y hy
    rcases List.mem_append.1 hy with hy | hy
    · exact (h2 y (by simp [hy])).touched hT (by intro b hb; simp only [List.mem_singleton] at hb; subst hb; exact p3 _ (List.mem_cons_of_mem _ (List.mem_map.2 ⟨y, hy, rfl⟩)) _ (by simp))
    · rcases List.mem_cons.1 hy with rfl | hy
      · exact ho
      · exact (h2 y (by simp [hy])).touched hT (by intro b hb; simp only [List.mem_singleton] at hb; subst hb; exact apart_symm ((List.pairwise_cons.1 p2).1 _ (List.mem_map.2 ⟨y, hy, rfl⟩)))
  · rw [List.map_append, List.map_cons, ← List.cons_append, List.pairwise_append]
    exact ⟨p1, p2, p3⟩
def MarkR (w : World) (B : Nat) (v : Value) (k : Int) (L : List TRow) (j : Nat) (wr : World) : Prop :=
  OwnR wr B v (marksRows k (L.take j) ++ L.drop j) ∧ TouchL w wr (L.map (·.1.ownBlock))
theorem MarkR.step {w wr w2 : World} {B : Nat} {v : Value} {k : Int} {L : List TRow} {j : Nat} (h : MarkR w B v k L j wr) (hj : j < L.length) (ho : Own w2 B 2 1 L[j].1 eI (marks (k + (sumLen (L.take j) : Int)) L[j].2.length)) (hg : wr.grownBy w2 L[j].1.ownBlock) : MarkR w B v k L (j + 1) w2 := by
  obtain ⟨h1, h2⟩ := h
  rw [List.drop_eq_getElem_cons hj] at h1
  refine ⟨?_, (h2.trans (TouchL.of_grown hg)).mono (fun x hx => ?_)⟩
  · have := h1.mark ho hg
    rw [List.take_succ_eq_append_getElem hj, marksRows_append]
    simpa [marksRows] using this
  · rcases List.mem_append.1 hx with hx | hx
    · exact hx
    · simp only [List.mem_singleton] at hx
      subst hx
      exact List.mem_map.2 ⟨_, List.getElem_mem hj, rfl⟩
end Go.Proofs.YtgcodjkjdfahdaaGreatDoor

/- Contracts of the laws' helpers on []string: a copy, a comparison, marks. No condition but that the slice reads. -/
namespace Go.Proofs.YtgcodjkjdfahdaaGreatDoor
open Go Go.RowKit Go.ChangeShapes Go.WideShapes
set_option linter.unusedSimpArgs false
set_option linter.unusedVariables false

def eS (x : ByteArray) : List Value := [.string x]
theorem eS_len (x : ByteArray) : (eS x).length = 1 := rfl
theorem bytes_of_toList {a b : ByteArray} (h : a.toList = b.toList) : a = b := by
  rw [ByteArray.toList_eq, ByteArray.toList_eq] at h
  obtain ⟨⟨x⟩⟩ := a
  obtain ⟨⟨y⟩⟩ := b
  simpa using h
theorem info_str : (Tryz.prog.info? 9).map (fun i => (i.zero, i.size, i.bytes)) = some (some (.string ByteArray.empty), 1, 16) := by kernel_rfl
theorem Sl.str_at {w : World} {A : Option Addr} {n c : Nat} {l : List ByteArray} (h : Sl w 1 (.slice A n c) eS l) {i : Nat} (hi : i < l.length) :
    ∃ b o, A = some ⟨b, o, none⟩ ∧ b < w.heap.size ∧ w.cell? ⟨b, o + i, none⟩ = some (.string l[i]) := by
  obtain ⟨b, o, x, hx, hA, hb, hc⟩ := h.at_ hi
  have : x = l[i] := by rw [List.getElem?_eq_getElem hi] at hx; exact (Option.some.inj hx).symm
  subst this
  exact ⟨b, o, hA, hb, by simpa using hc 0 _ rfl⟩

end Go.Proofs.YtgcodjkjdfahdaaGreatDoor

/- Names: the reference and the program say of the same texts that they are names. No condition. -/
namespace Go.Proofs.YtgcodjkjdfahdaaGreatDoor
open Go Go.RowKit Go.ChangeShapes Go.WideShapes
set_option linter.unusedSimpArgs false
set_option linter.unusedVariables false

def smallN (c : Nat) : Bool := decide (97 ≤ c) && decide (c ≤ 122)
def digitN (c : Nat) : Bool := decide (48 ≤ c) && decide (c ≤ 57)
def nameN (c : Nat) : Bool := smallN c || (digitN c || c == 45)
def isNameB (s : ByteArray) : Bool := decide (1 ≤ s.size) && (decide (s.size ≤ 12) && (smallN (s.get! 0).toNat && allTo (fun i => nameN (s.get! i).toNat) s.size))
theorem get_bang (s : ByteArray) (k : Nat) (h : k < s.size) : s.get! k = s[k] := by
  obtain ⟨a⟩ := s
  show a[k]! = a[k]
  exact getElem!_pos a k h
theorem small_cases {c : Nat} (h : smallN c = false) : (c : Int) < 97 ∨ (122 : Int) < c := by simp [smallN] at h; omega
theorem small_true {c : Nat} (h : smallN c = true) : (97 : Int) ≤ c ∧ (c : Int) ≤ 122 := by simp [smallN] at h; omega
theorem name_true {c : Nat} (h : nameN c = true) : ((97 : Int) ≤ c ∧ (c : Int) ≤ 122) ∨ ((48 : Int) ≤ c ∧ (c : Int) ≤ 57) ∨ (c : Int) = 45 := by simp [nameN, smallN, digitN] at h; omega
theorem name_false {c : Nat} (h : nameN c = false) : (c : Int) < 45 ∨ ((45 : Int) < c ∧ (c : Int) < 48) ∨ ((57 : Int) < c ∧ (c : Int) < 97) ∨ (122 : Int) < c := by simp [nameN, smallN, digitN] at h; omega
theorem isName_long {s : ByteArray} (h : ¬ s.size ≤ 12) : isNameB s = false := by simp [isNameB, h]
theorem isName_short {s : ByteArray} (h : ¬ 1 ≤ s.size) : isNameB s = false := by simp [isNameB, h]
theorem isName_head {s : ByteArray} (h : smallN (s.get! 0).toNat = false) : isNameB s = false := by simp [isNameB, h]
theorem isName_bad {s : ByteArray} {k : Nat} (hk : k < s.size) (h : nameN (s.get! k).toNat = false) : isNameB s = false := by
  have := allTo_false (p := fun i => nameN (s.get! i).toNat) hk h
  simp [isNameB, this]
theorem isName_good {s : ByteArray} (h1 : 1 ≤ s.size) (h2 : s.size ≤ 12) (h3 : smallN (s.get! 0).toNat = true) (h4 : ∀ i, i < s.size → nameN (s.get! i).toNat = true) : isNameB s = true := by
  have := allTo_true (p := fun i => nameN (s.get! i).toNat) h4
  simp [isNameB, h1, h2, h3, this]
theorem name_of_small {c : Nat} (h : smallN c = true) : nameN c = true := by simp [nameN, h]

set_option maxHeartbeats 2000000 in
theorem name_impl (w : World) (s : ByteArray) : Calls Tryz.prog 153 #[.string s] w fun e w' => e = .returned (.bool (isNameB s)) ∧ w' = w := by
  by_cases h1 : 1 ≤ s.size
  case neg =>
    have HR := hd (isName_short h1)
    have z : s.size = 0 := by omega
    go_enter Tryz.func153, Tryz.ntmps153
    go_wp2_with fail
    go_ret
    exact ⟨by rw [HR.out]; rfl, rfl⟩
  by_cases h2 : s.size ≤ 12
  case neg =>
    have HR := hd (isName_long h2)
    have z : 12 < s.size := by omega
    go_enter Tryz.func153, Tryz.ntmps153
    go_wp2_with fail
    go_ret
    exact ⟨by rw [HR.out]; rfl, rfl⟩
  have h0 : 0 < s.size := by omega
  have G0 := hd (get_bang s 0 h0)
  rcases h3 : smallN (s.get! 0).toNat with _ | _
  · have HR := hd (isName_head h3)
    rw [G0.out] at h3
    rcases small_cases h3 with q | q
    all_goals
      clear h3
      go_enter Tryz.func153, Tryz.ntmps153
      go_wp2_with fail
      go_ret
      exact ⟨by rw [HR.out]; rfl, rfl⟩
  have H3 := hd h3
  rw [G0.out] at h3
  obtain ⟨q1, q2⟩ := small_true h3
  clear h3
  go_enter Tryz.func153, Tryz.ntmps153
  go_wp2_with fail
  go_loop [3] (fun i => ∃ k : Nat, 1 ≤ k ∧ k ≤ s.size ∧ i = .int .i64 k ∧ Hid (∀ j, j < k → nameN (s.get! j).toNat = true)) (fun i => s.size - (intOf i).toNat)
  case atStart => exact ⟨1, Nat.le_refl _, h1, rfl, hd (fun j hj => by obtain rfl : j = 0 := (by omega); exact name_of_small H3.out)⟩
  case round =>
    obtain ⟨k, hk1, hk, rfl, HT⟩ := hrel
    by_cases hlt : k < s.size
    · have GK := hd (get_bang s k hlt)
      rcases h4 : nameN (s.get! k).toNat with _ | _
      · have HR := hd (isName_bad hlt h4)
        rw [GK.out] at h4
        rcases name_false h4 with q | ⟨q, q'⟩ | ⟨q, q'⟩ | q
        all_goals
          have n45 : (((s[k]'hlt).toNat : Int) != 45) = true := bne_iff_ne.2 (by omega)
          clear h4
          go_wp2_with fail
          go_ret
          exact ⟨by rw [HR.out]; rfl, rfl⟩
      · have HT' := hd (allTo_step (p := fun i => nameN (s.get! i).toNat) HT.out h4)
        rw [GK.out] at h4
        rcases name_true h4 with ⟨q, q'⟩ | ⟨q, q'⟩ | q
        · clear h4
          go_wp2_with fail
          go_round
          case rel => exact ⟨k + 1, by omega, by omega, by go_num, HT'⟩
          case measure => simp [intOf]; omega
        · clear h4
          go_wp2_with fail
          go_round
          case rel => exact ⟨k + 1, by omega, by omega, by go_num, HT'⟩
          case measure => simp [intOf]; omega
        · clear h4
          go_wp2_with fail
          go_round
          case rel => exact ⟨k + 1, by omega, by omega, by go_num, HT'⟩
          case measure => simp [intOf]; omega
    · obtain rfl : k = s.size := by omega
      have HR := hd (isName_good h1 h2 H3.out HT.out)
      go_wp2_with fail
      go_ret
      exact ⟨by rw [HR.out]; rfl, rfl⟩

theorem small_spec (c : Nat) (w : World) : Calls Tryz.prog 254 #[.int .u8 c] w fun e w' => e = .returned (.bool (smallN c)) ∧ w' = w := by
  by_cases h1 : (97 : Int) ≤ c
  · have HE := hd (show smallN c = decide ((c : Int) ≤ 122) by unfold smallN; rw [decide_eq_true (show 97 ≤ c by omega), Bool.true_and]; exact decide_eq_decide.2 (by omega))
    go_enter Tryz.func254, Tryz.ntmps254
    go_wp2_with fail
    go_ret
    exact ⟨by rw [HE.out]; rfl, rfl⟩
  · have h2 : (c : Int) < 97 := by omega
    have HE := hd (show smallN c = false by unfold smallN; rw [decide_eq_false (show ¬ 97 ≤ c by omega), Bool.false_and])
    clear h1
    go_enter Tryz.func254, Tryz.ntmps254
    go_wp2_with fail
    go_ret
    exact ⟨by rw [HE.out]; rfl, rfl⟩

theorem digit_spec (c : Nat) (w : World) : Calls Tryz.prog 218 #[.int .u8 c] w fun e w' => e = .returned (.bool (digitN c)) ∧ w' = w := by
  by_cases h1 : (48 : Int) ≤ c
  · have HE := hd (show digitN c = decide ((c : Int) ≤ 57) by unfold digitN; rw [decide_eq_true (show 48 ≤ c by omega), Bool.true_and]; exact decide_eq_decide.2 (by omega))
    go_enter Tryz.func218, Tryz.ntmps218
    go_wp2_with fail
    go_ret
    exact ⟨by rw [HE.out]; rfl, rfl⟩
  · have h2 : (c : Int) < 48 := by omega
    have HE := hd (show digitN c = false by unfold digitN; rw [decide_eq_false (show ¬ 48 ≤ c by omega), Bool.false_and])
    clear h1
    go_enter Tryz.func218, Tryz.ntmps218
    go_wp2_with fail
    go_ret
    exact ⟨by rw [HE.out]; rfl, rfl⟩

theorem empty_of_size {s : ByteArray} (h : s.size = 0) : s = ByteArray.empty := by
  obtain ⟨⟨l⟩⟩ := s
  cases l with
  | nil => rfl
  | cons a l => simp [ByteArray.size] at h
theorem notEmpty_of_size {s : ByteArray} (h : 0 < s.size) : s.toList.isEmpty = false := by
  rw [ByteArray.toList_eq]
  obtain ⟨⟨l⟩⟩ := s
  cases l with
  | nil => simp [ByteArray.size] at h
  | cons a l => rfl
set_option maxHeartbeats 2000000 in
theorem name_spec (w : World) (s : ByteArray) : Calls Tryz.prog 213 #[.string s] w fun e w' => e = .returned (.bool (isNameB s)) ∧ w' = w := by
  by_cases h1 : 1 ≤ s.size
  case neg =>
    obtain rfl := empty_of_size (show s.size = 0 by omega)
    go_enter Tryz.func213, Tryz.ntmps213
    go_wp2_with fail
    go_ret
    exact ⟨rfl, rfl⟩
  have h0 : 0 < s.size := by omega
  have he := notEmpty_of_size h0
  by_cases h2 : s.size ≤ 12
  case neg =>
    have HR := hd (isName_long h2)
    have z : 12 < s.size := by omega
    go_enter Tryz.func213, Tryz.ntmps213
    go_wp2_with fail
    go_ret
    exact ⟨by rw [HR.out]; rfl, rfl⟩
  have G0 := hd (get_bang s 0 h0)
  rcases h3 : smallN (s.get! 0).toNat with _ | _
  · have HR := hd (isName_head h3)
    rw [G0.out] at h3
    go_enter Tryz.func213, Tryz.ntmps213
    go_wp2_with (first | (go_at_call 254; refine (small_spec _ _).mono ?_; rintro e w' ⟨rfl, rfl⟩) | (go_at_call 218; refine (digit_spec _ _).mono ?_; rintro e w' ⟨rfl, rfl⟩))
    go_ret
    exact ⟨by rw [HR.out]; rfl, rfl⟩
  have H3 := hd h3
  rw [G0.out] at h3
  go_enter Tryz.func213, Tryz.ntmps213
  go_wp2_with (first | (go_at_call 254; refine (small_spec _ _).mono ?_; rintro e w' ⟨rfl, rfl⟩) | (go_at_call 218; refine (digit_spec _ _).mono ?_; rintro e w' ⟨rfl, rfl⟩))
  clear h3
  go_loop [3] (fun i => ∃ k : Nat, k ≤ s.size ∧ i = .int .i64 k ∧ Hid (∀ j, j < k → nameN (s.get! j).toNat = true)) (fun i => s.size - (intOf i).toNat)
  case atStart => exact ⟨0, Nat.zero_le _, rfl, hd (fun j hj => absurd hj (Nat.not_lt_zero _))⟩
  case round =>
    obtain ⟨k, hk, rfl, HT⟩ := hrel
    by_cases hlt : k < s.size
    · have GK := hd (get_bang s k hlt)
      rcases q1 : smallN (s.get! k).toNat with _ | _
      · rcases q2 : digitN (s.get! k).toNat with _ | _
        · by_cases q3 : (s.get! k).toNat = 45
          · have HT' := hd (allTo_step (p := fun i => nameN (s.get! i).toNat) HT.out (show nameN (s.get! k).toNat = true by simp [nameN, q3]))
            rw [GK.out] at q1 q2 q3
            have n45 : (((s[k]'hlt).toNat : Int) != 45) = false := by rw [q3]; rfl
            clear q3
            go_wp2_with (first | (go_at_call 254; refine (small_spec _ _).mono ?_; rintro e w' ⟨rfl, rfl⟩) | (go_at_call 218; refine (digit_spec _ _).mono ?_; rintro e w' ⟨rfl, rfl⟩))
            go_round
            case rel => exact ⟨k + 1, by omega, by go_num, HT'⟩
            case measure => simp [intOf]; omega
          · have HR := hd (isName_bad hlt (show nameN (s.get! k).toNat = false by simp [nameN, q1, q2, q3]))
            rw [GK.out] at q1 q2 q3
            have n45 : (((s[k]'hlt).toNat : Int) != 45) = true := bne_iff_ne.2 (by omega)
            clear q3
            go_wp2_with (first | (go_at_call 254; refine (small_spec _ _).mono ?_; rintro e w' ⟨rfl, rfl⟩) | (go_at_call 218; refine (digit_spec _ _).mono ?_; rintro e w' ⟨rfl, rfl⟩))
            go_ret
            exact ⟨by rw [HR.out]; rfl, rfl⟩
        · have HT' := hd (allTo_step (p := fun i => nameN (s.get! i).toNat) HT.out (show nameN (s.get! k).toNat = true by simp [nameN, q2]))
          rw [GK.out] at q1 q2
          go_wp2_with (first | (go_at_call 254; refine (small_spec _ _).mono ?_; rintro e w' ⟨rfl, rfl⟩) | (go_at_call 218; refine (digit_spec _ _).mono ?_; rintro e w' ⟨rfl, rfl⟩))
          go_round
          case rel => exact ⟨k + 1, by omega, by go_num, HT'⟩
          case measure => simp [intOf]; omega
      · have HT' := hd (allTo_step (p := fun i => nameN (s.get! i).toNat) HT.out (name_of_small q1))
        rw [GK.out] at q1
        go_wp2_with (first | (go_at_call 254; refine (small_spec _ _).mono ?_; rintro e w' ⟨rfl, rfl⟩) | (go_at_call 218; refine (digit_spec _ _).mono ?_; rintro e w' ⟨rfl, rfl⟩))
        go_round
        case rel => exact ⟨k + 1, by omega, by go_num, HT'⟩
        case measure => simp [intOf]; omega
    · obtain rfl : k = s.size := by omega
      have HR := hd (isName_good h1 h2 H3.out HT.out)
      go_wp2_with (first | (go_at_call 254; refine (small_spec _ _).mono ?_; rintro e w' ⟨rfl, rfl⟩) | (go_at_call 218; refine (digit_spec _ _).mono ?_; rintro e w' ⟨rfl, rfl⟩))
      go_ret
      exact ⟨by rw [HR.out]; rfl, rfl⟩

end Go.Proofs.YtgcodjkjdfahdaaGreatDoor

/- Contracts of the laws' helpers on []Title: a copy, a comparison, marks. No condition but that the slice reads. -/
namespace Go.Proofs.YtgcodjkjdfahdaaGreatDoor
open Go Go.RowKit Go.ChangeShapes Go.WideShapes
set_option linter.unusedSimpArgs false
set_option linter.unusedVariables false

abbrev TTitle := Int × ByteArray × Int × Int
def eTitle (x : TTitle) : List Value := [.int .i64 x.1, .string x.2.1, .int .i64 x.2.2.1, .int .i64 x.2.2.2]
theorem eTitle_len (x : TTitle) : (eTitle x).length = 4 := rfl

theorem Sl.Title_at {w : World} {A : Option Addr} {n c : Nat} {l : List TTitle} (h : Sl w 4 (.slice A n c) eTitle l) {i : Nat} (hi : i < l.length) :
    ∃ b o, A = some ⟨b, o, none⟩ ∧ b < w.heap.size ∧ w.cell? ⟨b, o + i * 4, none⟩ = some (.int .i64 l[i].1) ∧ w.cell? ⟨b, o + i * 4 + 1, none⟩ = some (.string l[i].2.1) ∧ w.cell? ⟨b, o + i * 4 + 2, none⟩ = some (.int .i64 l[i].2.2.1) ∧ w.cell? ⟨b, o + i * 4 + 3, none⟩ = some (.int .i64 l[i].2.2.2) := by
  obtain ⟨b, o, x, hx, hA, hb, hc⟩ := h.at_ hi
  have : x = l[i] := by rw [List.getElem?_eq_getElem hi] at hx; exact (Option.some.inj hx).symm
  subst this
  exact ⟨b, o, hA, hb, hc 0 _ rfl, hc 1 _ rfl, hc 2 _ rfl, hc 3 _ rfl⟩

section
variable {H : Type} {enc : TypeId × Value → H} {w : World} {base : Nat} {spare : Nat → Bool} {held : Bool}
end
section
variable {H : Type} {enc : TypeId × Value → H} {w : World} {base : Nat} {spare : Nat → Bool} {held : Bool}
end
section
variable {H : Type} {enc : TypeId × Value → H} {w : World} {base : Nat} {spare : Nat → Bool} {held : Bool}
end

theorem info_Title : (Tryz.prog.info? 95).map (fun i => (i.zero, i.size, i.bytes)) = some (some (.agg #[.int .i64 0, .string ByteArray.empty, .int .i64 0, .int .i64 0]), 4, 40) := by kernel_rfl

end Go.Proofs.YtgcodjkjdfahdaaGreatDoor

/- Contracts of the laws' helpers on []Cue: a copy, a comparison, marks. No condition but that the slice reads. -/
namespace Go.Proofs.YtgcodjkjdfahdaaGreatDoor
open Go Go.RowKit Go.ChangeShapes Go.WideShapes
set_option linter.unusedSimpArgs false
set_option linter.unusedVariables false

abbrev TCue := Int × Int × Int × Int
def eCue (x : TCue) : List Value := [.int .i64 x.1, .int .i64 x.2.1, .int .i64 x.2.2.1, .int .i64 x.2.2.2]
theorem eCue_len (x : TCue) : (eCue x).length = 4 := rfl

theorem Sl.Cue_at {w : World} {A : Option Addr} {n c : Nat} {l : List TCue} (h : Sl w 4 (.slice A n c) eCue l) {i : Nat} (hi : i < l.length) :
    ∃ b o, A = some ⟨b, o, none⟩ ∧ b < w.heap.size ∧ w.cell? ⟨b, o + i * 4, none⟩ = some (.int .i64 l[i].1) ∧ w.cell? ⟨b, o + i * 4 + 1, none⟩ = some (.int .i64 l[i].2.1) ∧ w.cell? ⟨b, o + i * 4 + 2, none⟩ = some (.int .i64 l[i].2.2.1) ∧ w.cell? ⟨b, o + i * 4 + 3, none⟩ = some (.int .i64 l[i].2.2.2) := by
  obtain ⟨b, o, x, hx, hA, hb, hc⟩ := h.at_ hi
  have : x = l[i] := by rw [List.getElem?_eq_getElem hi] at hx; exact (Option.some.inj hx).symm
  subst this
  exact ⟨b, o, hA, hb, hc 0 _ rfl, hc 1 _ rfl, hc 2 _ rfl, hc 3 _ rfl⟩

section
variable {H : Type} {enc : TypeId × Value → H} {w : World} {base : Nat} {spare : Nat → Bool} {held : Bool}
end
section
variable {H : Type} {enc : TypeId × Value → H} {w : World} {base : Nat} {spare : Nat → Bool} {held : Bool}
end
section
variable {H : Type} {enc : TypeId × Value → H} {w : World} {base : Nat} {spare : Nat → Bool} {held : Bool}
end

end Go.Proofs.YtgcodjkjdfahdaaGreatDoor

/- Contracts of the laws' helpers on []Entry: a copy, a comparison, marks. No condition but that the slice reads. -/
namespace Go.Proofs.YtgcodjkjdfahdaaGreatDoor
open Go Go.RowKit Go.ChangeShapes Go.WideShapes
set_option linter.unusedSimpArgs false
set_option linter.unusedVariables false

abbrev TEntry := Int × ByteArray × Int
def eEntry (x : TEntry) : List Value := [.int .i64 x.1, .string x.2.1, .int .i64 x.2.2]
theorem eEntry_len (x : TEntry) : (eEntry x).length = 3 := rfl

theorem Sl.Entry_at {w : World} {A : Option Addr} {n c : Nat} {l : List TEntry} (h : Sl w 3 (.slice A n c) eEntry l) {i : Nat} (hi : i < l.length) :
    ∃ b o, A = some ⟨b, o, none⟩ ∧ b < w.heap.size ∧ w.cell? ⟨b, o + i * 3, none⟩ = some (.int .i64 l[i].1) ∧ w.cell? ⟨b, o + i * 3 + 1, none⟩ = some (.string l[i].2.1) ∧ w.cell? ⟨b, o + i * 3 + 2, none⟩ = some (.int .i64 l[i].2.2) := by
  obtain ⟨b, o, x, hx, hA, hb, hc⟩ := h.at_ hi
  have : x = l[i] := by rw [List.getElem?_eq_getElem hi] at hx; exact (Option.some.inj hx).symm
  subst this
  exact ⟨b, o, hA, hb, hc 0 _ rfl, hc 1 _ rfl, hc 2 _ rfl⟩

end Go.Proofs.YtgcodjkjdfahdaaGreatDoor

/- Desks (a disc, cues, titles, a log): how they come in, the laws' helpers on them: a copy, a comparison, sizes; and SameDesk of both packages. No condition. -/
namespace Go.Proofs.YtgcodjkjdfahdaaGreatDoor
open Go Go.RowKit Go.ChangeShapes Go.WideShapes
set_option linter.unusedSimpArgs false
set_option linter.unusedVariables false
theorem Own.sliceD {α : Type} {w : World} {B : Nat} {E : TypeId} {k : Nat} {v : Value} {enc : α → List Value} {l : List α} (h : Own w B E k v enc l) (hk : ∀ x, (enc x).length = k) : ∃ A c, v = .slice A l.length c := by
  obtain ⟨-, A, c, hv, -⟩ := h.sl hk
  exact ⟨A, c, hv⟩
theorem Sl.sliceD {α : Type} {w : World} {k : Nat} {v : Value} {enc : α → List Value} {l : List α} (h : Sl w k v enc l) : ∃ A c, v = .slice A l.length c := by
  obtain ⟨-, A, c, hv, -⟩ := h
  exact ⟨A, c, hv⟩
section
variable {H : Type} {enc : TypeId × Value → H} {w : World} {base : Nat} {spare : Nat → Bool} {held : Bool}
end
end Go.Proofs.YtgcodjkjdfahdaaGreatDoor
