/- A title read from a text: the plain law. No condition. -/
import Derived.Test.YtnpejedeidnjnaaDoorParts
import Derived.Test.YtnpejedeidnjnaaDoorTText
namespace Go.Proofs.YtnpejedeidnjnaaDoor
open Go Go.RowKit Go.ChangeShapes Go.WideShapes
set_option linter.unusedSimpArgs false
set_option linter.unusedVariables false
def wNo : ByteArray := ⟨#[110, 111]⟩
def wGl : ByteArray := ⟨#[103, 108, 97, 115, 115, 101, 115]⟩
def wBr : ByteArray := ⟨#[98, 114, 111, 107, 101, 110]⟩
def readT7 (w0 w1 w2 w3 w4 w5 w6 : ByteArray) : Option TTitle :=
  match numS w1.data.toList, numS w4.data.toList, numS w6.data.toList with
  | some a, some c, some d => if okTitleB (a, w2, c, d) = true ∧ w0 = wNo ∧ w3 = wGl ∧ w5 = wBr then some (a, w2, c, d) else none
  | _, _, _ => none
/-- the title whose text this is -/
def readT (s : ByteArray) : Option TTitle :=
  match partsB 32 s with
  | [w0, w1, w2, w3, w4, w5, w6] => readT7 w0 w1 w2 w3 w4 w5 w6
  | _ => none
def rtV (s : ByteArray) : TTitle := (readT s).getD noT
def rtB (s : ByteArray) : Bool := (readT s).isSome
theorem seven {α : Type} {L : List α} (h : L.length = 7) : ∃ w0 w1 w2 w3 w4 w5 w6, L = [w0, w1, w2, w3, w4, w5, w6] := by
  rcases L with _ | ⟨w0, _ | ⟨w1, _ | ⟨w2, _ | ⟨w3, _ | ⟨w4, _ | ⟨w5, _ | ⟨w6, _ | ⟨w7, r⟩⟩⟩⟩⟩⟩⟩⟩ <;> simp at h
  exact ⟨_, _, _, _, _, _, _, rfl⟩
theorem readT_len {s : ByteArray} (h : (partsB 32 s).length ≠ 7) : readT s = none := by
  unfold readT
  split
  next h2 => rw [h2] at h; exact absurd rfl h
  next => rfl
theorem readT_some {s : ByteArray} {w0 w1 w2 w3 w4 w5 w6 : ByteArray} {a c d : Int} (h : partsB 32 s = [w0, w1, w2, w3, w4, w5, w6]) (h1 : numS w1.data.toList = some a) (h4 : numS w4.data.toList = some c) (h6 : numS w6.data.toList = some d) :
    readT s = if okTitleB (a, w2, c, d) = true ∧ w0 = wNo ∧ w3 = wGl ∧ w5 = wBr then some (a, w2, c, d) else none := by
  unfold readT
  rw [h]
  simp only [readT7, h1, h4, h6]
theorem readT_num {s : ByteArray} {w0 w1 w2 w3 w4 w5 w6 : ByteArray} (h : partsB 32 s = [w0, w1, w2, w3, w4, w5, w6]) (hn : numS w1.data.toList = none ∨ numS w4.data.toList = none ∨ numS w6.data.toList = none) : readT s = none := by
  unfold readT
  rw [h]
  simp only [readT7]
  rcases q1 : numS w1.data.toList with _ | _
  · rfl
  rcases q4 : numS w4.data.toList with _ | _
  · rfl
  rcases q6 : numS w6.data.toList with _ | _
  · rfl
  rw [q1, q4, q6] at hn
  simp at hn
theorem readT_word {s : ByteArray} {w0 w1 w2 w3 w4 w5 w6 : ByteArray} (h : partsB 32 s = [w0, w1, w2, w3, w4, w5, w6]) (hn : ¬ (w0 = wNo ∧ w3 = wGl ∧ w5 = wBr)) : readT s = none := by
  unfold readT
  rw [h]
  simp only [readT7]
  split
  · rw [if_neg (fun e => hn e.2)]
  · rfl
theorem name_no (c : UInt8) (hc : nameN c.toNat = false) {b : ByteArray} (h : isNameB b = true) : c ∉ b.data.toList := by
  intro hm
  obtain ⟨i, hi, e⟩ := List.getElem_of_mem hm
  have hi2 : i < b.size := by rw [← size_list]; exact hi
  have hn : allTo (fun i => nameN (b.get! i).toNat) b.size = true := by
    simp [isNameB] at h
    exact h.2.2.2
  have h2 := allTo_get hn i hi2
  rw [get_bang b i hi2, ← get_list b i hi2, e, hc] at h2
  cases h2
theorem digits_no (c : UInt8) (hc : c.toNat < 48) (n : Nat) : c ∉ Lib.decDigits n := fun h => by
  have := decDigits_mem n c h
  omega
theorem itoa_no (c : UInt8) (hc : c.toNat < 48) {n : Int} (h : 0 ≤ n) : c ∉ Lib.itoa n := by
  obtain ⟨m, rfl⟩ : ∃ m : Nat, n = (m : Int) := ⟨n.toNat, by omega⟩
  rw [Lib.itoa_nonneg]
  exact digits_no c hc m
theorem titleS_list (a : Int) (b : ByteArray) (c d : Int) : (titleS a b c d).data.toList = [110, 111] ++ 32 :: (Lib.itoa a ++ 32 :: (b.data.toList ++ 32 :: ([103, 108, 97, 115, 115, 101, 115] ++ 32 :: (Lib.itoa c ++ 32 :: ([98, 114, 111, 107, 101, 110] ++ 32 :: Lib.itoa d))))) := by
  unfold titleS
  simp only [toList_append]
  have e (n : Int) : (decS n).data.toList = Lib.itoa n := by simp [decS]
  simp [e]
/-- the words of a title's text -/
theorem titleS_parts {a : Int} {b : ByteArray} {c d : Int} (h : okTitleB (a, b, c, d) = true) : partsB 32 (titleS a b c d) = [wNo, decS a, b, wGl, decS c, wBr, decS d] := by
  obtain ⟨⟨a1, a2⟩, bn, ⟨c1, c2⟩, d1, d2⟩ := okTitleB_bd h
  dsimp only at a1 a2 c1 c2 d1 d2 bn
  have hb := name_no 32 (by decide) bn
  have h32 : (32 : UInt8).toNat < 48 := by decide
  unfold partsB
  rw [titleS_list, parts_at 32 _ _ (by decide), parts_at 32 _ _ (itoa_no 32 h32 (by omega)), parts_at 32 _ _ hb, parts_at 32 _ _ (by decide), parts_at 32 _ _ (itoa_no 32 h32 (by omega)), parts_at 32 _ _ (by decide), parts_none 32 _ (itoa_no 32 h32 (by omega))]
  simp only [List.map_cons, List.map_nil, plist_mk]
  rfl
theorem titleS_join {s : ByteArray} {w0 w1 w2 w3 w4 w5 w6 : ByteArray} {a c d : Int} (h : partsB 32 s = [w0, w1, w2, w3, w4, w5, w6]) (h1 : numS w1.data.toList = some a) (h4 : numS w4.data.toList = some c) (h6 : numS w6.data.toList = some d) (e0 : w0 = wNo) (e3 : w3 = wGl) (e5 : w5 = wBr) : titleS a w2 c d = s := by
  have hp : parts 32 s.data.toList = [w0.data.toList, w1.data.toList, w2.data.toList, w3.data.toList, w4.data.toList, w5.data.toList, w6.data.toList] := by
    have h2 : (partsB 32 s).map (·.data.toList) = parts 32 s.data.toList := by
      unfold partsB
      rw [List.map_map]
      have : ((fun x : ByteArray => x.data.toList) ∘ fun l : List UInt8 => (⟨l.toArray⟩ : ByteArray)) = id := funext fun l => pmk_list l
      rw [this, List.map_id]
    rw [← h2, h]
    rfl
  refine pbytes_ext ?_
  rw [titleS_list, (numS_some h1).2.1, (numS_some h4).2.1, (numS_some h6).2.1, ← joinL_parts 32 s.data.toList, hp, e0, e3, e5]
  rfl
theorem textR_iff {s : ByteArray} {w0 w1 w2 w3 w4 w5 w6 : ByteArray} {a c d : Int} (h : partsB 32 s = [w0, w1, w2, w3, w4, w5, w6]) (h1 : numS w1.data.toList = some a) (h4 : numS w4.data.toList = some c) (h6 : numS w6.data.toList = some d) :
    textR a w2 c d = s ↔ (okTitleB (a, w2, c, d) = true ∧ w0 = wNo ∧ w3 = wGl ∧ w5 = wBr) := by
  constructor
  · intro e
    by_cases hq : okTitleB (a, w2, c, d) = true
    · refine ⟨hq, ?_⟩
      unfold textR at e
      rw [if_pos hq] at e
      have hp := titleS_parts hq
      rw [e, h] at hp
      injection hp with x0 hp
      injection hp with x1 hp
      injection hp with x2 hp
      injection hp with x3 hp
      injection hp with x4 hp
      injection hp with x5 hp
      exact ⟨x0, x3, x5⟩
    · exfalso
      unfold textR at e
      rw [if_neg hq] at e
      rw [← e] at h
      have : partsB 32 ByteArray.empty = [ByteArray.empty] := by decide
      rw [this] at h
      injection h with h h'
      cases h'
  · rintro ⟨hq, e0, e3, e5⟩
    unfold textR
    rw [if_pos hq]
    exact titleS_join h h1 h4 h6 e0 e3 e5
/-- the cells of a row of texts -/
def Cells (W : World) (g : Nat) (L : List ByteArray) : Prop := g < W.heap.size ∧ ∀ i x, L[i]? = some x → W.cell? ⟨g, i, none⟩ = some (.string x)
theorem Cells.below {W W' : World} {g : Nat} {L : List ByteArray} (h : Cells W g L) (hb : Below W.heap.size W W') : Cells W' g L :=
  ⟨Nat.lt_of_lt_of_le h.1 hb.size, fun i x hx => (hb.cell (p := ⟨g, i, none⟩) h.1).trans (h.2 i x hx)⟩
theorem own_cells {w : World} {B : Nat} {E : TypeId} {v : Value} {L : List ByteArray} (h : Own w B E 1 v eS L) (h0 : 0 < L.length) : ∃ g cap, v = .slice (some ⟨g, 0, none⟩) L.length cap ∧ B ≤ g ∧ L.length ≤ cap ∧ cap ≤ 9223372036854775807 ∧ Cells w g L := by
  rcases h.form with ⟨-, hn⟩ | ⟨g, cap, hv, h1, h2, h3, h4⟩
  · rw [hn] at h0; exact absurd h0 (by decide)
  · refine ⟨g, cap, hv, h1, h3, h4, h2, fun i x hx => ?_⟩
    obtain ⟨-, A, c, hv2, -, -, h5⟩ := h.sl eS_len
    rw [hv] at hv2
    injection hv2 with hA _ _
    obtain ⟨b, o, hA2, -, h6⟩ := h5 i x hx
    rw [← hA] at hA2
    injection hA2 with hA2
    injection hA2 with hA2 ho _
    have h7 := h6 0 (.string x) rfl
    subst hA2
    subst ho
    have ec : (⟨g, 0 + i * 1 + 0, none⟩ : Addr) = ⟨g, i, none⟩ := by
      congr 1
      omega
    rw [ec] at h7
    exact h7
theorem load_title (Z : World) (b : Nat) (x0 : Int) (x1 : ByteArray) (x2 x3 : Int) (e0 : Z.cell? ⟨b, 0, none⟩ = some (.int .i64 x0)) (e1 : Z.cell? ⟨b, 1, none⟩ = some (.string x1)) (e2 : Z.cell? ⟨b, 2, none⟩ = some (.int .i64 x2)) (e3 : Z.cell? ⟨b, 3, none⟩ = some (.int .i64 x3)) :
    (loadVar 29 ⟨b, 0, none⟩).run Tryd.prog Z = .ok (.agg #[.int .i64 x0, .string x1, .int .i64 x2, .int .i64 x3]) Z := by
  simp [loadVar, go_sem, e0, e1, e2, e3]
theorem title_cells (N : World) (h : Nat) (a b c d : Value) (d0 d1 d2 d3 : Value)
    (c0 : N.cell? ⟨h, 0, none⟩ = some d0) (c1 : N.cell? ⟨h, 1, none⟩ = some d1) (c2 : N.cell? ⟨h, 2, none⟩ = some d2) (c3 : N.cell? ⟨h, 3, none⟩ = some d3) :
    ((((N.setCell ⟨h, 0, none⟩ a).setCell ⟨h, 1, none⟩ b).setCell ⟨h, 2, none⟩ c).setCell ⟨h, 3, none⟩ d).cell? ⟨h, 0, none⟩ = some a ∧
    ((((N.setCell ⟨h, 0, none⟩ a).setCell ⟨h, 1, none⟩ b).setCell ⟨h, 2, none⟩ c).setCell ⟨h, 3, none⟩ d).cell? ⟨h, 1, none⟩ = some b ∧
    ((((N.setCell ⟨h, 0, none⟩ a).setCell ⟨h, 1, none⟩ b).setCell ⟨h, 2, none⟩ c).setCell ⟨h, 3, none⟩ d).cell? ⟨h, 2, none⟩ = some c ∧
    ((((N.setCell ⟨h, 0, none⟩ a).setCell ⟨h, 1, none⟩ b).setCell ⟨h, 2, none⟩ c).setCell ⟨h, 3, none⟩ d).cell? ⟨h, 3, none⟩ = some d := by
  refine ⟨?_, ?_, ?_, ?_⟩ <;> go_simp
end Go.Proofs.YtnpejedeidnjnaaDoor
