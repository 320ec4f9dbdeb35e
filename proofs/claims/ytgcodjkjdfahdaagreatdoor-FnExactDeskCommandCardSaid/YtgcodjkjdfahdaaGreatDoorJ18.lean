/- Lemmas for the claim (the walks of its functions and their plain laws), joined. No condition. -/
import Derived.Test.YtgcodjkjdfahdaaGreatDoorJ12
import Derived.Test.YtgcodjkjdfahdaaGreatDoorJ17
import Derived.Test.YtgcodjkjdfahdaaGreatDoorJ5
import Derived.Test.YtgcodjkjdfahdaaGreatDoorJ6
import Derived.Test.YtgcodjkjdfahdaaGreatDoorShelfQ
import Derived.ChangeVars
import Derived.Lib.LaidTab
namespace Go.Proofs.YtgcodjkjdfahdaaGreatDoor
open Go Go.RowKit Go.ChangeShapes Go.WideShapes
set_option linter.unusedSimpArgs false
set_option linter.unusedVariables false
def wNo : ByteArray := ⟨#[110, 111]⟩
def wGl : ByteArray := ⟨#[103, 108, 97, 115, 115, 101, 115]⟩
def wBr : ByteArray := ⟨#[98, 114, 111, 107, 101, 110]⟩
def readT7 (w0 w1 w2 w3 w4 w5 w6 : ByteArray) : Option TTitle :=
  match numS w1.data.toList, numS w4.data.toList, numS w6.data.toList with
  | some a, some c, some d => if okTitleB (a, w2, c, d) = true ∧ w0 = wNo ∧ w3 = wGl ∧ w5 = wBr then some (a, w2, c, d) else none
  | _, _, _ => none
def readT (s : ByteArray) : Option TTitle :=
  match partsB 32 s with
  | [w0, w1, w2, w3, w4, w5, w6] => readT7 w0 w1 w2 w3 w4 w5 w6
  | _ => none
def rtV (s : ByteArray) : TTitle := (readT s).getD noT
def rtB (s : ByteArray) : Bool := (readT s).isSome
theorem seven {α : Type} {L : List α} (h : L.length = 7) : ∃ w0 w1 w2 w3 w4 w5 w6, L = [w0, w1, w2, w3, w4, w5, w6] := by
  rcases L with _ | ⟨w0, _ | ⟨w1, _ | ⟨w2, _ | ⟨w3, _ | ⟨w4, _ | ⟨w5, _ | ⟨w6, _ | ⟨w7, r⟩⟩⟩⟩⟩⟩⟩⟩ <;> simp at h
  exact ⟨_, _, _, _, _, _, _, rfl⟩
theorem readT_len {s : ByteArray} (h : (partsB 32 s).length ≠ 7) : readT s = none := by
  unfold readT
  split
  next h2 => rw [h2] at h; exact absurd rfl h
  next => rfl
theorem readT_some {s : ByteArray} {w0 w1 w2 w3 w4 w5 w6 : ByteArray} {a c d : Int} (h : partsB 32 s = [w0, w1, w2, w3, w4, w5, w6]) (h1 : numS w1.data.toList = some a) (h4 : numS w4.data.toList = some c) (h6 : numS w6.data.toList = some d) :
    readT s = if okTitleB (a, w2, c, d) = true ∧ w0 = wNo ∧ w3 = wGl ∧ w5 = wBr then some (a, w2, c, d) else none := by
  unfold readT
  rw [h]
  simp only [readT7, h1, h4, h6]
theorem readT_num {s : ByteArray} {w0 w1 w2 w3 w4 w5 w6 : ByteArray} (h : partsB 32 s = [w0, w1, w2, w3, w4, w5, w6]) (hn : numS w1.data.toList = none ∨ numS w4.data.toList = none ∨ numS w6.data.toList = none) : readT s = none := by
  unfold readT
  rw [h]
  simp only [readT7]
  rcases q1 : numS w1.data.toList with _ | _
  · rfl
  rcases q4 : numS w4.data.toList with _ | _
  · rfl
  rcases q6 : numS w6.data.toList with _ | _
  · rfl
  rw [q1, q4, q6] at hn
  simp at hn
theorem readT_word {s : ByteArray} {w0 w1 w2 w3 w4 w5 w6 : ByteArray} (h : partsB 32 s = [w0, w1, w2, w3, w4, w5, w6]) (hn : ¬ (w0 = wNo ∧ w3 = wGl ∧ w5 = wBr)) : readT s = none := by
  unfold readT
  rw [h]
  simp only [readT7]
  split
  · rw [if_neg (fun e => hn e.2)]
  · rfl
theorem name_no (c : UInt8) (hc : nameN c.toNat = false) {b : ByteArray} (h : isNameB b = true) : c ∉ b.data.toList := by
  intro hm
  obtain ⟨i, hi, e⟩ := List.getElem_of_mem hm
  have hi2 : i < b.size := by rw [← size_list]; exact hi
  have hn : allTo (fun i => nameN (b.get! i).toNat) b.size = true := by
    simp [isNameB] at h
    exact h.2.2.2
  have h2 := allTo_get hn i hi2
  rw [get_bang b i hi2, ← get_list b i hi2, e, hc] at h2
  cases h2
theorem digits_no (c : UInt8) (hc : c.toNat < 48) (n : Nat) : c ∉ Lib.decDigits n := fun h => by
  have := decDigits_mem n c h
  omega
theorem itoa_no (c : UInt8) (hc : c.toNat < 48) {n : Int} (h : 0 ≤ n) : c ∉ Lib.itoa n := by
  obtain ⟨m, rfl⟩ : ∃ m : Nat, n = (m : Int) := ⟨n.toNat, by omega⟩
  rw [Lib.itoa_nonneg]
  exact digits_no c hc m
theorem titleS_list (a : Int) (b : ByteArray) (c d : Int) : (titleS a b c d).data.toList = [110, 111] ++ 32 :: (Lib.itoa a ++ 32 :: (b.data.toList ++ 32 :: ([103, 108, 97, 115, 115, 101, 115] ++ 32 :: (Lib.itoa c ++ 32 :: ([98, 114, 111, 107, 101, 110] ++ 32 :: Lib.itoa d))))) := by
  unfold titleS
  simp only [toList_append]
  have e (n : Int) : (decS n).data.toList = Lib.itoa n := by simp [decS]
  simp [e]
theorem titleS_parts {a : Int} {b : ByteArray} {c d : Int} (h : okTitleB (a, b, c, d) = true) : partsB 32 (titleS a b c d) = [wNo, decS a, b, wGl, decS c, wBr, decS d] := by
  obtain ⟨⟨a1, a2⟩, bn, ⟨c1, c2⟩, d1, d2⟩ := okTitleB_bd h
  dsimp only at a1 a2 c1 c2 d1 d2 bn
  have hb := name_no 32 (by decide) bn
  have h32 : (32 : UInt8).toNat < 48 := by decide
  unfold partsB
  rw [titleS_list, parts_at 32 _ _ (by decide), parts_at 32 _ _ (itoa_no 32 h32 (by omega)), parts_at 32 _ _ hb, parts_at 32 _ _ (by decide), parts_at 32 _ _ (itoa_no 32 h32 (by omega)), parts_at 32 _ _ (by decide), parts_none 32 _ (itoa_no 32 h32 (by omega))]
  simp only [List.map_cons, List.map_nil, plist_mk]
  rfl
theorem titleS_join {s : ByteArray} {w0 w1 w2 w3 w4 w5 w6 : ByteArray} {a c d : Int} (h : partsB 32 s = [w0, w1, w2, w3, w4, w5, w6]) (h1 : numS w1.data.toList = some a) (h4 : numS w4.data.toList = some c) (h6 : numS w6.data.toList = some d) (e0 : w0 = wNo) (e3 : w3 = wGl) (e5 : w5 = wBr) : titleS a w2 c d = s := by
  have hp : parts 32 s.data.toList = [w0.data.toList, w1.data.toList, w2.data.toList, w3.data.toList, w4.data.toList, w5.data.toList, w6.data.toList] := by
    have h2 : (partsB 32 s).map (·.data.toList) = parts 32 s.data.toList := by
      unfold partsB
      rw [List.map_map]
      have : ((fun x : ByteArray => x.data.toList) ∘ fun l : List UInt8 => (⟨l.toArray⟩ : ByteArray)) = id := funext fun l => pmk_list l
      rw [this, List.map_id]
    rw [← h2, h]
    rfl
  refine pbytes_ext ?_
  rw [titleS_list, (numS_some h1).2.1, (numS_some h4).2.1, (numS_some h6).2.1, ← joinL_parts 32 s.data.toList, hp, e0, e3, e5]
  rfl
theorem textR_iff {s : ByteArray} {w0 w1 w2 w3 w4 w5 w6 : ByteArray} {a c d : Int} (h : partsB 32 s = [w0, w1, w2, w3, w4, w5, w6]) (h1 : numS w1.data.toList = some a) (h4 : numS w4.data.toList = some c) (h6 : numS w6.data.toList = some d) :
    textR a w2 c d = s ↔ (okTitleB (a, w2, c, d) = true ∧ w0 = wNo ∧ w3 = wGl ∧ w5 = wBr) := by
  constructor
  · intro e
    by_cases hq : okTitleB (a, w2, c, d) = true
    · refine ⟨hq, ?_⟩
      unfold textR at e
      rw [if_pos hq] at e
      have hp := titleS_parts hq
      rw [e, h] at hp
      injection hp with x0 hp
      injection hp with x1 hp
      injection hp with x2 hp
      injection hp with x3 hp
      injection hp with x4 hp
      injection hp with x5 hp
      exact ⟨x0, x3, x5⟩
    · exfalso
      unfold textR at e
      rw [if_neg hq] at e
      rw [← e] at h
      have : partsB 32 ByteArray.empty = [ByteArray.empty] := by decide
      rw [this] at h
      injection h with h h'
      cases h'
  · rintro ⟨hq, e0, e3, e5⟩
    unfold textR
    rw [if_pos hq]
    exact titleS_join h h1 h4 h6 e0 e3 e5
def Cells (W : World) (g : Nat) (L : List ByteArray) : Prop := g < W.heap.size ∧ ∀ i x, L[i]? = some x → W.cell? ⟨g, i, none⟩ = some (.string x)
theorem Cells.below {W W' : World} {g : Nat} {L : List ByteArray} (h : Cells W g L) (hb : Below W.heap.size W W') : Cells W' g L :=
  ⟨Nat.lt_of_lt_of_le h.1 hb.size, fun i x hx => (hb.cell (p := ⟨g, i, none⟩) h.1).trans (h.2 i x hx)⟩
theorem own_cells {w : World} {B : Nat} {E : TypeId} {v : Value} {L : List ByteArray} (h : Own w B E 1 v eS L) (h0 : 0 < L.length) : ∃ g cap, v = .slice (some ⟨g, 0, none⟩) L.length cap ∧ B ≤ g ∧ L.length ≤ cap ∧ cap ≤ 9223372036854775807 ∧ Cells w g L := by
  rcases h.form with ⟨-, hn⟩ | ⟨g, cap, hv, h1, h2, h3, h4⟩
  · rw [hn] at h0; exact absurd h0 (by decide)
  · refine ⟨g, cap, hv, h1, h3, h4, h2, fun i x hx => ?_⟩
    obtain ⟨-, A, c, hv2, -, -, h5⟩ := h.sl eS_len
    rw [hv] at hv2
    injection hv2 with hA _ _
    obtain ⟨b, o, hA2, -, h6⟩ := h5 i x hx
    rw [← hA] at hA2
    injection hA2 with hA2
    injection hA2 with hA2 ho _
    have h7 := h6 0 (.string x) rfl
    subst hA2
    subst ho
    have ec : (⟨g, 0 + i * 1 + 0, none⟩ : Addr) = ⟨g, i, none⟩ := by
      congr 1
      omega
    rw [ec] at h7
    exact h7
theorem load_title (Z : World) (b : Nat) (x0 : Int) (x1 : ByteArray) (x2 x3 : Int) (e0 : Z.cell? ⟨b, 0, none⟩ = some (.int .i64 x0)) (e1 : Z.cell? ⟨b, 1, none⟩ = some (.string x1)) (e2 : Z.cell? ⟨b, 2, none⟩ = some (.int .i64 x2)) (e3 : Z.cell? ⟨b, 3, none⟩ = some (.int .i64 x3)) :
    (loadVar 95 ⟨b, 0, none⟩).run Tryz.prog Z = .ok (.agg #[.int .i64 x0, .string x1, .int .i64 x2, .int .i64 x3]) Z := by
  simp [loadVar, go_sem, e0, e1, e2, e3]
theorem title_cells (N : World) (h : Nat) (a b c d : Value) (d0 d1 d2 d3 : Value)
    (c0 : N.cell? ⟨h, 0, none⟩ = some d0) (c1 : N.cell? ⟨h, 1, none⟩ = some d1) (c2 : N.cell? ⟨h, 2, none⟩ = some d2) (c3 : N.cell? ⟨h, 3, none⟩ = some d3) :
    ((((N.setCell ⟨h, 0, none⟩ a).setCell ⟨h, 1, none⟩ b).setCell ⟨h, 2, none⟩ c).setCell ⟨h, 3, none⟩ d).cell? ⟨h, 0, none⟩ = some a ∧
    ((((N.setCell ⟨h, 0, none⟩ a).setCell ⟨h, 1, none⟩ b).setCell ⟨h, 2, none⟩ c).setCell ⟨h, 3, none⟩ d).cell? ⟨h, 1, none⟩ = some b ∧
    ((((N.setCell ⟨h, 0, none⟩ a).setCell ⟨h, 1, none⟩ b).setCell ⟨h, 2, none⟩ c).setCell ⟨h, 3, none⟩ d).cell? ⟨h, 2, none⟩ = some c ∧
    ((((N.setCell ⟨h, 0, none⟩ a).setCell ⟨h, 1, none⟩ b).setCell ⟨h, 2, none⟩ c).setCell ⟨h, 3, none⟩ d).cell? ⟨h, 3, none⟩ = some d := by
  refine ⟨?_, ?_, ?_, ?_⟩ <;> go_simp
end Go.Proofs.YtgcodjkjdfahdaaGreatDoor

namespace Go.Proofs.YtgcodjkjdfahdaaGreatDoor
open Go Go.RowKit Go.ChangeShapes Go.WideShapes
set_option linter.unusedSimpArgs false
set_option linter.unusedVariables false
def joinS (sep : ByteArray) (L : List ByteArray) : ByteArray := ⟨(Lib.join (L.map (·.data.toList)) sep.data.toList).toArray⟩
theorem lens_le {L : List ByteArray} {m : Nat} (h : ∀ x ∈ L, x.size ≤ m) : Lib.lens (L.map (·.data.toList)) ≤ m * L.length := by
  induction L with
  | nil => simp [Lib.lens]
  | cons x r ih =>
    have h1 := ih fun y hy => h y (List.mem_cons_of_mem _ hy)
    have h2 : x.data.toList.length ≤ m := by rw [Array.length_toList]; exact h x (List.mem_cons_self ..)
    simp only [Lib.lens, List.map_cons, List.sum_cons, List.length_cons] at h1 ⊢
    rw [Nat.mul_succ]
    omega
theorem join_len {L : List ByteArray} {m : Nat} (sep : ByteArray) (h : ∀ x ∈ L, x.size ≤ m) : (Lib.join (L.map (·.data.toList)) sep.data.toList).length ≤ sep.size * L.length + m * L.length := by
  cases L with
  | nil => simp [Lib.join]
  | cons x r =>
    have h1 := lens_le h
    rw [List.map_cons, Lib.join_cons, List.length_append, Lib.joinTail_length]
    simp only [Lib.lens, List.map_cons, List.sum_cons, List.length_cons, List.length_map] at h1 ⊢
    have e : sep.data.toList.length = sep.size := Array.length_toList
    rw [e, Nat.mul_succ]
    omega
theorem joinS_size {L : List ByteArray} {m : Nat} (sep : ByteArray) (h : ∀ x ∈ L, x.size ≤ m) : (joinS sep L).size ≤ sep.size * L.length + m * L.length := by
  refine Nat.le_trans (Nat.le_of_eq ?_) (join_len sep h)
  unfold joinS
  exact List.size_toArray
theorem join_impl (w : World) (v : Value) (L : List ByteArray) (sep : ByteArray) (hL : Sl w 1 v eS L) {m : Nat} (hn : L.length ≤ 1048576) (hm : m ≤ 1048576) (h : ∀ x ∈ L, x.size ≤ m) (hs : sep.size ≤ 100) :
    Calls Tryz.prog 80 #[v, .string sep] w fun e w' => e = .returned (.string (joinS sep L)) ∧ Below w.heap.size w w' := by
  have hl := join_len sep h
  obtain ⟨h1, A, c, rfl, hc, hc', h2⟩ := hL
  by_cases h0 : L.length = 0
  · have e := List.eq_nil_of_length_eq_zero h0
    subst e
    refine (Tryz.strings_Join_none A c sep w).mono ?_
    rintro e w' ⟨rfl, rfl⟩
    exact ⟨rfl, Below.refl _ _⟩
  · obtain ⟨b, o, hA, hb, -⟩ := h2 0 _ (List.getElem?_eq_getElem (by omega))
    subst hA
    have e1 : sep.size * L.length ≤ 100 * 1048576 := Nat.mul_le_mul hs hn
    have e2 : m * L.length ≤ 1048576 * 1048576 := Nat.mul_le_mul hm hn
    refine Tryz.strings_Join b o c L sep w ?_ hb (by omega) hc (by omega)
    intro j x hx
    obtain ⟨b', o', hA, -, h3⟩ := h2 j x hx
    injection hA with hA
    injection hA with e1 e2 _
    subst e1
    subst e2
    have h4 := h3 0 _ (show (eS x)[0]? = some (.string x) from rfl)
    rw [Nat.mul_one, Nat.add_zero] at h4
    exact h4
def numsS (sep : ByteArray) (l : List Int) : ByteArray := joinS sep (l.map decS)
theorem numsS_size {l : List Int} (h : l.length ≤ 1000) (hr : ∀ x ∈ l, -9223372036854775808 ≤ x ∧ x ≤ 9223372036854775807) : (numsS ⟨#[32]⟩ l).size ≤ 22000 := by
  refine Nat.le_trans (joinS_size (m := 21) ⟨#[32]⟩ ?_) ?_
  · intro x hx
    obtain ⟨y, hy, rfl⟩ := List.mem_map.1 hx
    exact decS_size (hr y hy)
  · rw [List.length_map]
    show 1 * l.length + 21 * l.length ≤ 22000
    omega
def decTo (l : List Int) (k : Nat) : List ByteArray := (l.map decS).take k
theorem decTo_len (l : List Int) {k : Nat} (h : k ≤ l.length) : (decTo l k).length = k := by unfold decTo; rw [List.length_take, List.length_map]; omega
theorem decTo_snoc {l : List Int} {k : Nat} (h : k < l.length) : decTo l (k + 1) = decTo l k ++ [decS l[k]] := by
  unfold decTo
  rw [List.take_succ_eq_append_getElem (by rw [List.length_map]; exact h), List.getElem_map]
theorem decTo_all (l : List Int) : decTo l l.length = l.map decS := by
  unfold decTo
  exact List.take_of_length_le (by rw [List.length_map]; exact Nat.le_refl _)
def orS (s : ByteArray) : ByteArray := if s = ⟨#[]⟩ then ⟨#[45]⟩ else s
theorem orS_empty {s : ByteArray} (h : s = ⟨#[]⟩) : orS s = ⟨#[45]⟩ := by unfold orS; rw [if_pos h]
theorem orS_some {s : ByteArray} (h : ¬ s = ⟨#[]⟩) : orS s = s := by unfold orS; rw [if_neg h]
theorem toList_empty {s : ByteArray} (h : s.data.toList = []) : s = ⟨#[]⟩ := by
  obtain ⟨⟨l⟩⟩ := s
  have : l = [] := h
  subst this
  rfl
set_option maxRecDepth 100000 in
set_option maxHeartbeats 2000000 in
theorem nums_impl (w : World) (v : Value) (l : List Int) (h : Sl w 1 v eI l) (hn : l.length ≤ 1000) (hr : ∀ x ∈ l, -9223372036854775808 ≤ x ∧ x ≤ 9223372036854775807) (ht : Tab w) :
    Calls Tryz.prog 70 #[.string ⟨#[32]⟩, v] w fun e w' => e = .returned (.string (numsS ⟨#[32]⟩ l)) ∧ Below w.heap.size w w' := by
  obtain ⟨i0, hi, hz0, hz1, hz2⟩ := info_parts info_str
  obtain ⟨A, c, rfl⟩ := h.isSlice
  have own0 := Own.made0 w w.heap.size 9 1 eS (Nat.le_refl _)
  have bel0 := (Below.refl w.heap.size w).alloc (Nat.le_refl _) (.cells #[] 9)
  go_enter Tryz.func70, Tryz.ntmps70
  go_wp2_with fail
  go_loopw [5, 11] (fun ov iv wr => ∃ k : Nat, k ≤ l.length ∧ iv = .int .i64 k ∧ Own wr w.heap.size 9 1 ov eS (decTo l k) ∧ Below w.heap.size w wr) (fun _ iv _ => l.length - (intOf iv).toNat)
  case atStart => exact ⟨0, Nat.zero_le _, rfl, own0, bel0⟩
  case round =>
    obtain ⟨k, hk, rfl, hown, hbel⟩ := hrel
    clear own0 bel0
    have hlen := decTo_len l hk
    by_cases hlt : k < l.length
    · have HS := hd (decTo_snoc hlt)
      have HTR := hd (ht.below hbel)
      obtain ⟨b, o, hA, hb, hcell⟩ := (h.below hbel).int_at hlt
      subst hA
      have hbx := hr _ (List.getElem_mem hlt)
      have HL := hd hlen
      have hlk : (decTo l k).length ≤ 1000 := by omega
      clear hlen
      generalize decTo l k = L at hown hlk HS HL ⊢
      generalize l[k] = x at hcell HS hbx ⊢
      have HDC := hd (dec_impl wr x (by omega) HTR.out)
      have HDX := hd (rfl : decS x = decS x)
      go_wp2_with fail
      refine HDC.out.mono ?_
      rintro e w1 ⟨rfl, hb1⟩
      have hown1 := Own.below hown hb1 (Nat.le_refl _)
      have hbel1 := below_step hbel hb1
      clear hown hbel hb1 HDC HTR
      go_wp2_with (at_builtin; refine wpList_push _ rfl _ _ 24 rfl i0 (.string ByteArray.empty) 16 Tryz.underlying24 hi hz0 hz1 hz2 rfl (by decide) _ _ (decS x) rfl (hown1.alloc _) w1.heap.size rfl #[.string (decS x)] 9 (heap_alloc_new _ _) rfl rfl (by intro u hu; simp [eS] at hu; subst hu; rfl) (by unfold maxLen; omega) (by omega) (by have := hbel1.size; simp; omega) ?_)
      intro v' w3 hown2 hgr2
      have hbel2 := (hbel1.alloc hbel1.size (.cells #[.string (decS x)] 9)).grown hgr2 (by have := hbel1.size; simp; omega) (fun g hg => (hown1.lt g hg).1)
      clear hown1 hgr2 hbel1
      go_wp2_with fail
      go_roundw
      case rel => exact ⟨k + 1, by omega, by go_num, by rw [HS.out]; exact hown2, hbel2⟩
      case measure => simp [intOf]; omega
    · obtain rfl : k = l.length := by omega
      rw [decTo_all] at hown
      have SL := hown.sl eS_len
      have hm : ∀ x ∈ l.map decS, x.size ≤ 21 := by
        intro x hx
        obtain ⟨y, hy, rfl⟩ := List.mem_map.1 hx
        exact decS_size (hr y hy)
      have HJ := hd (fun u (hu : Sl wr 1 u eS (l.map decS)) => join_impl wr u _ ⟨#[32]⟩ hu (by rw [List.length_map]; omega) (by omega) hm (by decide))
      go_wp2_with fail
      refine (HJ.out _ SL).mono ?_
      rintro e w2 ⟨rfl, hb2⟩
      go_wp2_with fail
      go_ret
      exact ⟨rfl, below_step hbel hb2⟩
theorem own_texts1 (w : World) (s : ByteArray) (E : TypeId := 9) : Own (w.alloc (.cells #[.string s] E)) w.heap.size E 1 (.slice (some ⟨w.heap.size, 0, none⟩) 1 1) eS [s] :=
  own_words w w.heap.size (Nat.le_refl _) E [s] (by show 1 ≤ 9223372036854775807; decide)
set_option maxRecDepth 100000 in
theorem or_impl (w : World) (s : ByteArray) : Calls Tryz.prog 69 #[.string s] w (GivesOwn w 9 1 eS [orS s]) := by
  by_cases h : s = ⟨#[]⟩
  · have HR := hd (orS_empty h)
    subst h
    go_enter Tryz.func69, Tryz.ntmps69
    go_wp2_with fail
    go_ret
    exact ⟨_, rfl, by rw [HR.out]; exact own_texts1 w _, (Below.refl _ _).alloc (Nat.le_refl _) _⟩
  · have HR := hd (orS_some h)
    have k1 : s.data.toList.isEmpty = false := by
      rcases hq : s.data.toList with _ | ⟨a, b⟩
      · exact absurd (toList_empty hq) h
      · rfl
    have k2 : s.toList.isEmpty = false := by rw [ByteArray.toList_eq]; exact k1
    clear h
    go_enter Tryz.func69, Tryz.ntmps69
    go_wp2_with fail
    go_ret
    exact ⟨_, rfl, by rw [HR.out]; exact own_texts1 w _, (Below.refl _ _).alloc (Nat.le_refl _) _⟩
end Go.Proofs.YtgcodjkjdfahdaaGreatDoor

namespace Go.Proofs.YtgcodjkjdfahdaaGreatDoor
open Go Go.RowKit Go.ChangeShapes Go.WideShapes
set_option linter.unusedSimpArgs false
set_option linter.unusedVariables false
def shapeS (s : ByteArray) : ByteArray :=
  if s = ⟨#[115, 101, 101, 110]⟩ then ⟨#[110, 110]⟩
  else if s = ⟨#[100, 105, 115, 99]⟩ then ⟨#[119]⟩
  else if s = ⟨#[102, 101, 119, 101, 115, 116]⟩ then ⟨#[119]⟩
  else if s = ⟨#[115, 104, 111, 119, 115]⟩ then ⟨#[110]⟩
  else if s = ⟨#[115, 104, 105, 102, 116, 115]⟩ then ⟨#[110]⟩
  else if s = ⟨#[102, 111, 114]⟩ then ⟨#[119, 110]⟩
  else if s = ⟨#[108, 111, 97, 100, 115]⟩ then ⟨#[119, 110]⟩
  else if s = ⟨#[105, 109, 97, 103, 101]⟩ then ⟨#[110, 110]⟩
  else if s = ⟨#[99, 117, 101]⟩ then ⟨#[110, 110, 110, 110]⟩
  else if s = ⟨#[98, 117, 114, 110]⟩ then ⟨#[110, 110, 110, 110]⟩
  else if s = ⟨#[101, 110, 116, 101, 114]⟩ then ⟨#[110, 119, 110]⟩
  else ⟨#[]⟩
theorem shapeS_seen : shapeS ⟨#[115, 101, 101, 110]⟩ = ⟨#[110, 110]⟩ := by unfold shapeS; simp
theorem shapeS_disc : shapeS ⟨#[100, 105, 115, 99]⟩ = ⟨#[119]⟩ := by unfold shapeS; simp
theorem shapeS_fewest : shapeS ⟨#[102, 101, 119, 101, 115, 116]⟩ = ⟨#[119]⟩ := by unfold shapeS; simp
theorem shapeS_shows : shapeS ⟨#[115, 104, 111, 119, 115]⟩ = ⟨#[110]⟩ := by unfold shapeS; simp
theorem shapeS_shifts : shapeS ⟨#[115, 104, 105, 102, 116, 115]⟩ = ⟨#[110]⟩ := by unfold shapeS; simp
theorem shapeS_for : shapeS ⟨#[102, 111, 114]⟩ = ⟨#[119, 110]⟩ := by unfold shapeS; simp
theorem shapeS_loads : shapeS ⟨#[108, 111, 97, 100, 115]⟩ = ⟨#[119, 110]⟩ := by unfold shapeS; simp
theorem shapeS_image : shapeS ⟨#[105, 109, 97, 103, 101]⟩ = ⟨#[110, 110]⟩ := by unfold shapeS; simp
theorem shapeS_cue : shapeS ⟨#[99, 117, 101]⟩ = ⟨#[110, 110, 110, 110]⟩ := by unfold shapeS; simp
theorem shapeS_burn : shapeS ⟨#[98, 117, 114, 110]⟩ = ⟨#[110, 110, 110, 110]⟩ := by unfold shapeS; simp
theorem shapeS_enter : shapeS ⟨#[101, 110, 116, 101, 114]⟩ = ⟨#[110, 119, 110]⟩ := by unfold shapeS; simp
theorem shapeS_none {s : ByteArray} (h0 : ¬ s = ⟨#[115, 101, 101, 110]⟩) (h1 : ¬ s = ⟨#[100, 105, 115, 99]⟩) (h2 : ¬ s = ⟨#[102, 101, 119, 101, 115, 116]⟩) (h3 : ¬ s = ⟨#[115, 104, 111, 119, 115]⟩) (h4 : ¬ s = ⟨#[115, 104, 105, 102, 116, 115]⟩) (h5 : ¬ s = ⟨#[102, 111, 114]⟩) (h6 : ¬ s = ⟨#[108, 111, 97, 100, 115]⟩) (h7 : ¬ s = ⟨#[105, 109, 97, 103, 101]⟩) (h8 : ¬ s = ⟨#[99, 117, 101]⟩) (h9 : ¬ s = ⟨#[98, 117, 114, 110]⟩) (h10 : ¬ s = ⟨#[101, 110, 116, 101, 114]⟩) : shapeS s = ⟨#[]⟩ := by
  unfold shapeS
  rw [if_neg h0, if_neg h1, if_neg h2, if_neg h3, if_neg h4, if_neg h5, if_neg h6, if_neg h7, if_neg h8, if_neg h9, if_neg h10]
theorem shapeS_size (s : ByteArray) : (shapeS s).size ≤ 4 := by
  by_cases h0 : s = ⟨#[115, 101, 101, 110]⟩
  · rw [h0, shapeS_seen]; decide
  by_cases h1 : s = ⟨#[100, 105, 115, 99]⟩
  · rw [h1, shapeS_disc]; decide
  by_cases h2 : s = ⟨#[102, 101, 119, 101, 115, 116]⟩
  · rw [h2, shapeS_fewest]; decide
  by_cases h3 : s = ⟨#[115, 104, 111, 119, 115]⟩
  · rw [h3, shapeS_shows]; decide
  by_cases h4 : s = ⟨#[115, 104, 105, 102, 116, 115]⟩
  · rw [h4, shapeS_shifts]; decide
  by_cases h5 : s = ⟨#[102, 111, 114]⟩
  · rw [h5, shapeS_for]; decide
  by_cases h6 : s = ⟨#[108, 111, 97, 100, 115]⟩
  · rw [h6, shapeS_loads]; decide
  by_cases h7 : s = ⟨#[105, 109, 97, 103, 101]⟩
  · rw [h7, shapeS_image]; decide
  by_cases h8 : s = ⟨#[99, 117, 101]⟩
  · rw [h8, shapeS_cue]; decide
  by_cases h9 : s = ⟨#[98, 117, 114, 110]⟩
  · rw [h9, shapeS_burn]; decide
  by_cases h10 : s = ⟨#[101, 110, 116, 101, 114]⟩
  · rw [h10, shapeS_enter]; decide
  rw [shapeS_none h0 h1 h2 h3 h4 h5 h6 h7 h8 h9 h10]
  decide
theorem lit_ne {s : ByteArray} {l : List UInt8} (h : ¬ s = ⟨l.toArray⟩) : (s.toList == l) = false := by
  refine beq_eq_false_iff_ne.2 fun e => h ?_
  subst e
  rw [ByteArray.toList_eq]
set_option maxRecDepth 100000 in
set_option maxHeartbeats 2000000 in
theorem shape_impl (w : World) (s : ByteArray) : Calls Tryz.prog 27 #[.string s] w fun e w' => e = .returned (.string (shapeS s)) ∧ w' = w := by
  by_cases h0 : s = ⟨#[115, 101, 101, 110]⟩
  · subst h0
    rw [shapeS_seen]
    go_enter Tryz.func27, Tryz.ntmps27
    go_wp2_with fail
    go_ret
    exact ⟨rfl, rfl⟩
  by_cases h1 : s = ⟨#[100, 105, 115, 99]⟩
  · subst h1
    rw [shapeS_disc]
    clear h0
    go_enter Tryz.func27, Tryz.ntmps27
    go_wp2_with fail
    go_ret
    exact ⟨rfl, rfl⟩
  by_cases h2 : s = ⟨#[102, 101, 119, 101, 115, 116]⟩
  · subst h2
    rw [shapeS_fewest]
    clear h0 h1
    go_enter Tryz.func27, Tryz.ntmps27
    go_wp2_with fail
    go_ret
    exact ⟨rfl, rfl⟩
  by_cases h3 : s = ⟨#[115, 104, 111, 119, 115]⟩
  · subst h3
    rw [shapeS_shows]
    clear h0 h1 h2
    go_enter Tryz.func27, Tryz.ntmps27
    go_wp2_with fail
    go_ret
    exact ⟨rfl, rfl⟩
  by_cases h4 : s = ⟨#[115, 104, 105, 102, 116, 115]⟩
  · subst h4
    rw [shapeS_shifts]
    clear h0 h1 h2 h3
    go_enter Tryz.func27, Tryz.ntmps27
    go_wp2_with fail
    go_ret
    exact ⟨rfl, rfl⟩
  by_cases h5 : s = ⟨#[102, 111, 114]⟩
  · subst h5
    rw [shapeS_for]
    clear h0 h1 h2 h3 h4
    go_enter Tryz.func27, Tryz.ntmps27
    go_wp2_with fail
    go_ret
    exact ⟨rfl, rfl⟩
  by_cases h6 : s = ⟨#[108, 111, 97, 100, 115]⟩
  · subst h6
    rw [shapeS_loads]
    clear h0 h1 h2 h3 h4 h5
    go_enter Tryz.func27, Tryz.ntmps27
    go_wp2_with fail
    go_ret
    exact ⟨rfl, rfl⟩
  by_cases h7 : s = ⟨#[105, 109, 97, 103, 101]⟩
  · subst h7
    rw [shapeS_image]
    clear h0 h1 h2 h3 h4 h5 h6
    go_enter Tryz.func27, Tryz.ntmps27
    go_wp2_with fail
    go_ret
    exact ⟨rfl, rfl⟩
  by_cases h8 : s = ⟨#[99, 117, 101]⟩
  · subst h8
    rw [shapeS_cue]
    clear h0 h1 h2 h3 h4 h5 h6 h7
    go_enter Tryz.func27, Tryz.ntmps27
    go_wp2_with fail
    go_ret
    exact ⟨rfl, rfl⟩
  by_cases h9 : s = ⟨#[98, 117, 114, 110]⟩
  · subst h9
    rw [shapeS_burn]
    clear h0 h1 h2 h3 h4 h5 h6 h7 h8
    go_enter Tryz.func27, Tryz.ntmps27
    go_wp2_with fail
    go_ret
    exact ⟨rfl, rfl⟩
  by_cases h10 : s = ⟨#[101, 110, 116, 101, 114]⟩
  · subst h10
    rw [shapeS_enter]
    clear h0 h1 h2 h3 h4 h5 h6 h7 h8 h9
    go_enter Tryz.func27, Tryz.ntmps27
    go_wp2_with fail
    go_ret
    exact ⟨rfl, rfl⟩
  rw [shapeS_none h0 h1 h2 h3 h4 h5 h6 h7 h8 h9 h10]
  have k0 : (s.toList == [115, 101, 101, 110]) = false := lit_ne h0
  have k1 : (s.toList == [100, 105, 115, 99]) = false := lit_ne h1
  have k2 : (s.toList == [102, 101, 119, 101, 115, 116]) = false := lit_ne h2
  have k3 : (s.toList == [115, 104, 111, 119, 115]) = false := lit_ne h3
  have k4 : (s.toList == [115, 104, 105, 102, 116, 115]) = false := lit_ne h4
  have k5 : (s.toList == [102, 111, 114]) = false := lit_ne h5
  have k6 : (s.toList == [108, 111, 97, 100, 115]) = false := lit_ne h6
  have k7 : (s.toList == [105, 109, 97, 103, 101]) = false := lit_ne h7
  have k8 : (s.toList == [99, 117, 101]) = false := lit_ne h8
  have k9 : (s.toList == [98, 117, 114, 110]) = false := lit_ne h9
  have k10 : (s.toList == [101, 110, 116, 101, 114]) = false := lit_ne h10
  clear h0 h1 h2 h3 h4 h5 h6 h7 h8 h9 h10
  go_enter Tryz.func27, Tryz.ntmps27
  go_wp2_with fail
  go_ret
  exact ⟨rfl, rfl⟩
end Go.Proofs.YtgcodjkjdfahdaaGreatDoor

namespace Go.Proofs.YtgcodjkjdfahdaaGreatDoor
open Go Go.RowKit Go.ChangeShapes Go.WideShapes
set_option linter.unusedSimpArgs false
set_option linter.unusedVariables false
def codeL : List ByteArray := [⟨#[111, 107]⟩, ⟨#[105, 110, 118, 97, 108, 105, 100]⟩, ⟨#[114, 97, 110, 103, 101]⟩, ⟨#[110, 111, 116, 45, 102, 111, 117, 110, 100]⟩, ⟨#[101, 120, 105, 115, 116, 115]⟩, ⟨#[102, 117, 108, 108]⟩, ⟨#[115, 116, 97, 116, 101]⟩, ⟨#[115, 121, 110, 116, 97, 120]⟩, ⟨#[102, 111, 114, 109, 97, 116]⟩, ⟨#[99, 108, 97, 115, 104]⟩, ⟨#[100, 97, 114, 107]⟩]
theorem codeL_len : codeL.length = 11 := rfl
def codeN (k : Nat) : ByteArray := codeL.getD k ⟨#[]⟩
theorem codeN_size (k : Nat) : (codeN k).size ≤ 9 := by
  by_cases h : k < 11
  · revert h; revert k; decide
  · unfold codeN
    rw [List.getD_eq_getElem?_getD, List.getElem?_eq_none (by rw [codeL_len]; omega)]
    decide
def Names (w : World) : Prop := ∀ k, k < 11 → w.cell? ⟨0, k, none⟩ = some (.string (codeN k))
theorem Names.below {w w' : World} (h : Names w) (hb : Below w.heap.size w w') : Names w' := fun k hk => (hb.cell (p := ⟨0, k, none⟩) (World.block_lt_of_cell? w _ (h k hk))).trans (h k hk)
def codeS (c : Int) : ByteArray := if inB c 0 10 = true then codeN c.toNat else ⟨#[]⟩
theorem codeS_bad {c : Int} (h : inB c 0 10 = false) : codeS c = ⟨#[]⟩ := by unfold codeS; rw [h]; rfl
theorem codeS_good {c : Int} (h : inB c 0 10 = true) : codeS c = codeN c.toNat := by unfold codeS; rw [if_pos h]
theorem codeS_size (c : Int) : (codeS c).size ≤ 9 := by
  unfold codeS
  split
  · exact codeN_size _
  · decide
set_option maxRecDepth 100000 in
theorem cname_impl (w : World) (c : Int) (hN : Names w) : Calls Tryz.prog 33 #[.int .i64 c] w fun e w' => e = .returned (.string (codeS c)) ∧ w' = w := by
  rcases h : inB c 0 10 with _ | _
  · have HR := hd (codeS_bad h)
    clear hN
    go_enter Tryz.func33, Tryz.ntmps33
    go_wp2_with (go_at_call 67; refine (in_impl _ _ _ _).mono ?_; rintro e w1 ⟨rfl, hw⟩; have hw := hw.symm; subst hw)
    go_ret
    exact ⟨by rw [HR.out]; rfl, rfl⟩
  · have HR := codeS_good h
    have hb := inB_true h
    obtain ⟨k, rfl⟩ := Int.eq_ofNat_of_zero_le (show 0 ≤ c by omega)
    rw [Int.toNat_natCast] at HR
    have hk : k < 11 := by omega
    have hc := hN k hk
    have HR := hd HR
    clear hN
    generalize codeN k = s at hc HR
    go_enter Tryz.func33, Tryz.ntmps33
    go_wp2_with (go_at_call 67; refine (in_impl _ _ _ _).mono ?_; rintro e w1 ⟨rfl, hw⟩; have hw := hw.symm; subst hw)
    go_ret
    exact ⟨by rw [HR.out]; rfl, rfl⟩
def okS (n : Nat) : ByteArray := ⟨#[111, 107, 32]⟩ ++ decS (n : Int)
theorem okS_size {n : Nat} (h : n ≤ 1000000) : (okS n).size ≤ 24 := by
  have := decS_size (n := (n : Int)) (by omega)
  unfold okS
  rw [ByteArray.size_append]
  show 3 + (decS (n : Int)).size ≤ 24
  omega
set_option maxRecDepth 100000 in
set_option maxHeartbeats 2000000 in
theorem ok_impl (w : World) (B : Nat) (hB : B ≤ w.heap.size) (v : Value) (L : List ByteArray) (h : Own w B 9 1 v eS L) (hn : L.length ≤ 10000) (ht : Tab w) :
    Calls Tryz.prog 83 #[v] w fun e w' => ∃ v', e = .returned v' ∧ Own w' B 9 1 v' eS (L ++ [okS L.length]) ∧ Below B w w' := by
  obtain ⟨i0, hi, hz0, hz1, hz2⟩ := info_parts info_str
  have H := hd h
  obtain ⟨A, c, rfl⟩ := h.isSlice
  clear h
  have s1 := decS_size (n := (L.length : Int)) (by omega)
  have HDC := hd (dec_impl w (L.length : Int) (by omega) ht)
  have HK := hd (show (⟨#[111, 107, 32]⟩ ++ decS (L.length : Int)) = okS L.length from rfl)
  go_enter Tryz.func83, Tryz.ntmps83
  go_wp2_with fail
  refine HDC.out.mono ?_
  rintro e w1 ⟨rfl, hb1⟩
  have hown1 := Own.below H.out hb1 (Nat.le_refl _)
  have hsz := hb1.size
  go_wp2_with (at_builtin; refine wpList_push _ rfl _ _ 24 rfl i0 (.string ByteArray.empty) 16 Tryz.underlying24 hi hz0 hz1 hz2 rfl (by decide) _ _ (⟨#[111, 107, 32]⟩ ++ decS (L.length : Int)) rfl (hown1.alloc _) w1.heap.size rfl #[.string (⟨#[111, 107, 32]⟩ ++ decS (L.length : Int))] 9 (heap_alloc_new _ _) rfl rfl (by intro u hu; simp [eS] at hu; subst hu; rfl) (by unfold maxLen; omega) (by omega) (by simp; omega) ?_)
  intro v' w3 hown2 hgr2
  have hbel2 := ((hb1.mono hB).alloc (Nat.le_trans hB hsz) (.cells #[.string (⟨#[111, 107, 32]⟩ ++ decS (L.length : Int))] 9)).grown hgr2 (by simp; omega) (fun g hg => (hown1.lt g hg).1)
  go_wp2_with fail
  go_ret
  exact ⟨_, rfl, by rw [← HK.out]; exact hown2, hbel2⟩
end Go.Proofs.YtgcodjkjdfahdaaGreatDoor

namespace Go.Proofs.YtgcodjkjdfahdaaGreatDoor
open Go Go.RowKit Go.ChangeShapes Go.WideShapes
set_option linter.unusedSimpArgs false
set_option linter.unusedVariables false
set_option maxRecDepth 100000 in
set_option maxHeartbeats 4000000 in
theorem cname_spec (w : World) (c : Int) : Calls Tryz.prog 94 #[.int .i64 c] w fun e w' => e = .returned (.string (codeS c)) ∧ Below w.heap.size w w' := by
  have hb := (Below.refl w.heap.size w).alloc (Nat.le_refl _) (.cells (codeL.map Value.string).toArray 9)
  rcases h : inB c 0 10 with _ | _
  · have HR := hd (codeS_bad h)
    go_enter Tryz.func94, Tryz.ntmps94
    go_wp2_with fail
    refine (in_spec _ _ _ _).mono ?_
    rintro e ww ⟨rfl, hw⟩
    have hw := hw.symm
    subst hw
    rw [h]
    go_wp2_with fail
    go_ret
    exact ⟨by rw [HR.out]; rfl, hb⟩
  · have HR := codeS_good h
    have hbd := inB_true h
    obtain ⟨k, rfl⟩ := Int.eq_ofNat_of_zero_le (show 0 ≤ c by omega)
    rw [Int.toNat_natCast] at HR
    have hk : k < 11 := by omega
    have hc : (w.alloc (.cells (codeL.map Value.string).toArray 9)).cell? ⟨w.heap.size, k, none⟩ = some (.string (codeN k)) := new_cell w _ _ k _ (by
      unfold codeN
      rw [List.getElem?_toArray, List.getElem?_map, List.getElem?_eq_getElem (show k < codeL.length by rw [codeL_len]; exact hk), List.getD_eq_getElem?_getD, List.getElem?_eq_getElem (show k < codeL.length by rw [codeL_len]; exact hk)]
      rfl)
    have HC := hd hc
    have HR := hd HR
    have HBB := hd hb
    clear hc hb
    go_enter Tryz.func94, Tryz.ntmps94
    go_wp2_with fail
    refine (in_spec _ _ _ _).mono ?_
    rintro e ww ⟨rfl, hw⟩
    have hw := hw.symm
    subst hw
    rw [h]
    have hc := HC.out
    have hB := HBB.out
    obtain ⟨W, hW⟩ : ∃ W, w.alloc (.cells (codeL.map Value.string).toArray 9) = W := ⟨_, rfl⟩
    rw [hW] at hc hB
    have hW2 : w.alloc (.cells #[.string ⟨#[111, 107]⟩, .string ⟨#[105, 110, 118, 97, 108, 105, 100]⟩, .string ⟨#[114, 97, 110, 103, 101]⟩, .string ⟨#[110, 111, 116, 45, 102, 111, 117, 110, 100]⟩, .string ⟨#[101, 120, 105, 115, 116, 115]⟩, .string ⟨#[102, 117, 108, 108]⟩, .string ⟨#[115, 116, 97, 116, 101]⟩, .string ⟨#[115, 121, 110, 116, 97, 120]⟩, .string ⟨#[102, 111, 114, 109, 97, 116]⟩, .string ⟨#[99, 108, 97, 115, 104]⟩, .string ⟨#[100, 97, 114, 107]⟩] 9) = W := hW
    clear hW
    rw [hW2]
    clear hW2
    generalize codeN k = s at hc HR
    go_wp2_with fail
    go_ret
    exact ⟨by rw [HR.out]; rfl, hB⟩
end Go.Proofs.YtgcodjkjdfahdaaGreatDoor

namespace Go.Proofs.YtgcodjkjdfahdaaGreatDoor
open Go Go.RowKit Go.ChangeShapes Go.WideShapes
set_option linter.unusedSimpArgs false
set_option linter.unusedVariables false
theorem cells_of_strs {H : Type} {enc : TypeId × Value → H} {P : Program} {w : World} {base : Nat} {sp : Nat → Bool} {held : Bool} {fuel : Nat} {t e : TypeId} {n : Nat} {cs : List Value} {zs : List (List UInt8)} {p : List MemPlace}
    (ht : P.underlying t = some (.array n e)) (he : P.underlying e = some .string) (hce : P.cellsOf e = 1) (hct : P.cellsOf t = n)
    (h : DataW.trod enc P w base sp held fuel t cs = some (.agg (zs.map fun z => .lit (.string z)), p)) : cs = zs.map fun z => Value.string ⟨z.toArray⟩ := by
  cases fuel with
  | zero => simp [DataW.trod] at h
  | succ fuel =>
    simp only [DataW.trod, ht, hce, hct, Nat.mul_one] at h
    split at h
    · rename_i hl
      obtain ⟨xs, hm, hx⟩ := Option.map_eq_some_iff.1 h
      have hxs : xs.map (·.1) = zs.map fun z => (DataW.lit (.string z) : DataW H) := by
        have := congrArg Prod.fst hx
        simpa using this
      have hxl : xs.length = n := by simpa using Lib.mapM_length hm
      have hzl : zs.length = n := by
        have := congrArg List.length hxs
        simp at this
        omega
      apply List.ext_getElem?
      intro i
      by_cases hi : i < n
      · obtain ⟨b, hb, hf⟩ := Lib.mapM_at hm i i (by simp [hi])
        obtain ⟨z, hc, rfl, _⟩ := DataW.trod_string he hf
        have h1 : cs[i]? = some (.string z) := by
          have := congrArg (·[0]?) hc
          simpa [List.getElem?_take, List.getElem?_drop] using this
        have h2 : (xs.map (·.1))[i]? = some (DataW.lit (.string z.data.toList) : DataW H) := by simp [hb]
        rw [hxs] at h2
        simp only [List.getElem?_map, Option.map_eq_some_iff, DataW.lit.injEq, Lit.string.injEq] at h2
        obtain ⟨z', hz', e1⟩ := h2
        subst e1
        simp [h1, hz']
      · rw [List.getElem?_eq_none (by omega), List.getElem?_eq_none (by simp; omega)]
    · cases h
theorem trod_strs_same {H : Type} {enc : TypeId × Value → H} {P : Program} {w w' : World} {sp sp' : Nat → Bool} {t e : TypeId} {n : Nat} (ht : P.underlying t = some (.array n e)) (he : P.underlying e = some .string) (fuel : Nat) (cs : List Value) :
    DataW.trod enc P w 0 sp true fuel t cs = DataW.trod enc P w' 0 sp' true fuel t cs := by
  have key : ∀ (f : Nat) (xs : List Value), DataW.trod enc P w 0 sp true f e xs = DataW.trod enc P w' 0 sp' true f e xs := by
    intro f xs
    cases f with
    | zero => rfl
    | succ f =>
      unfold DataW.trod
      rw [he]
      rcases xs with _ | ⟨a, _ | ⟨b, r⟩⟩
      · rfl
      · cases a <;> rfl
      · cases a <;> rfl
  cases fuel with
  | zero => rfl
  | succ f =>
    simp only [DataW.trod, ht, key]
theorem codeL_lits : codeL = ([[111, 107], [105, 110, 118, 97, 108, 105, 100], [114, 97, 110, 103, 101], [110, 111, 116, 45, 102, 111, 117, 110, 100], [101, 120, 105, 115, 116, 115], [102, 117, 108, 108], [115, 116, 97, 116, 101], [115, 121, 110, 116, 97, 120], [102, 111, 114, 109, 97, 116], [99, 108, 97, 115, 104], [100, 97, 114, 107]] : List (List UInt8)).map fun z => (⟨z.toArray⟩ : ByteArray) := rfl
theorem names_of_var {W : World} (h : W.var? Tryz.prog "loop.example/g01063/impl.codeNames" = some (codeL.map Value.string).toArray) : Names W := by
  intro k hk
  have h1 := World.var?_cell (g := 0) (by kernel_rfl) h k
  rw [h1, List.getElem?_toArray, List.getElem?_map, List.getElem?_eq_getElem (show k < codeL.length by rw [codeL_len]; exact hk)]
  unfold codeN
  rw [List.getD_eq_getElem?_getD, List.getElem?_eq_getElem (show k < codeL.length by rw [codeL_len]; exact hk)]
  rfl
theorem var_of_names {H : Type} {enc : TypeId × Value → H} {W : World} {sp : Nat → Bool} {held : Bool} {t : TypeId} {cs : Array Value} {fuel : Nat} {p : List MemPlace} (hv : W.var? Tryz.prog "loop.example/g01063/impl.codeNames" = some cs) (ht : (Tryz.prog.globals[0]?).map (·.type) = some t)
    (h : DataW.trod enc Tryz.prog W 0 sp held fuel t cs.toList = some (.agg (([[111, 107], [105, 110, 118, 97, 108, 105, 100], [114, 97, 110, 103, 101], [110, 111, 116, 45, 102, 111, 117, 110, 100], [101, 120, 105, 115, 116, 115], [102, 117, 108, 108], [115, 116, 97, 116, 101], [115, 121, 110, 116, 97, 120], [102, 111, 114, 109, 97, 116], [99, 108, 97, 115, 104], [100, 97, 114, 107]] : List (List UInt8)).map fun z => .lit (.string z)), p)) :
    W.var? Tryz.prog "loop.example/g01063/impl.codeNames" = some (codeL.map Value.string).toArray := by
  obtain rfl : t = 102 := (Option.some.inj (ht.symm.trans (by kernel_rfl))).symm ▸ rfl
  have h1 := cells_of_strs (n := 11) (e := 9) (by kernel_rfl) (by kernel_rfl) (by kernel_rfl) (by kernel_rfl) h
  rw [hv]
  congr 1
  apply Array.toList_inj.1
  rw [h1, codeL_lits, List.map_map]
  rfl
theorem names_after {H : Type} {enc : TypeId × Value → H} {W W' : World} {gs : List (DataW H)} {q : List MemPlace} (h : DataW.TrodVars enc Tryz.prog W (fun _ => true) ["loop.example/g01063/impl.codeNames"] gs q) (hb : Below W.heap.size W W') :
    ∃ d, gs = [d] ∧ ∃ pv, DataW.TrodVars enc Tryz.prog W' (fun b => decide (b < W.heap.size)) ["loop.example/g01063/impl.codeNames"] [d] pv := by
  obtain ⟨g, t, cs, fuel, d, p, rfl, h1, h2, h3, h4, -⟩ := trodVars_one h
  refine ⟨d, rfl, _, trodVars_mk1 (cs := cs) (fuel := fuel) (p := p) h1 h2 ?_ ?_⟩
  · have hg : g < W.heap.size := by
      unfold World.var? at h3
      rw [h1] at h3
      simp only [Option.bind_some] at h3
      split at h3
      · rename_i c t' fr hc
        exact (Array.getElem?_eq_some_iff.1 hc).1
      · cases h3
    unfold World.var? at h3 ⊢
    rw [h1] at h3 ⊢
    simp only [Option.bind_some] at h3 ⊢
    rw [hb.block g hg]
    exact h3
  · obtain rfl : g = 0 := (Option.some.inj (h1.symm.trans (by kernel_rfl)))
    obtain rfl : t = 102 := (Option.some.inj (h2.symm.trans (by kernel_rfl)))
    rw [← h4]
    exact trod_strs_same (n := 11) (e := 9) (by kernel_rfl) (by kernel_rfl) fuel _
end Go.Proofs.YtgcodjkjdfahdaaGreatDoor
