/- Lemmas for the claim (the walks of its functions and their plain laws), joined. No condition. -/
import Derived.Test.YtgcodjkjdfahdaaGreatDoorJ40
import Derived.Test.YtgcodjkjdfahdaaGreatDoorJ18
import Derived.Test.YtgcodjkjdfahdaaGreatDoorJ9
import Derived.Test.YtgcodjkjdfahdaaGreatDoorJ38
namespace Go.Proofs.YtgcodjkjdfahdaaGreatDoor
open Go Go.RowKit Go.ChangeShapes Go.WideShapes
set_option linter.unusedSimpArgs false
set_option linter.unusedVariables false
def formS (s : ByteArray) : ByteArray :=
  if s = ⟨#[116, 105, 116, 108, 101]⟩ then ⟨#[114]⟩
  else if s = ⟨#[100, 105, 115, 99]⟩ then ⟨#[120]⟩
  else if s = ⟨#[102, 101, 119, 101, 115, 116]⟩ then ⟨#[120]⟩
  else if s = ⟨#[115, 104, 111, 119, 115]⟩ then ⟨#[110]⟩
  else if s = ⟨#[115, 104, 105, 102, 116, 115]⟩ then ⟨#[110]⟩
  else if s = ⟨#[115, 101, 101, 110]⟩ then ⟨#[110, 110]⟩
  else if s = ⟨#[105, 109, 97, 103, 101]⟩ then ⟨#[110, 110]⟩
  else if s = ⟨#[99, 117, 101]⟩ then ⟨#[110, 110, 110, 110]⟩
  else if s = ⟨#[98, 117, 114, 110]⟩ then ⟨#[110, 110, 110, 110]⟩
  else if s = ⟨#[102, 111, 114]⟩ then ⟨#[120, 110]⟩
  else if s = ⟨#[108, 111, 97, 100, 115]⟩ then ⟨#[120, 110]⟩
  else if s = ⟨#[101, 110, 116, 101, 114]⟩ then ⟨#[110, 120, 110]⟩
  else if s = ⟨#[116, 105, 116, 108, 101, 115]⟩ then ⟨#[]⟩
  else if s = ⟨#[108, 111, 103]⟩ then ⟨#[]⟩
  else ⟨#[45]⟩
theorem formS_title : formS ⟨#[116, 105, 116, 108, 101]⟩ = ⟨#[114]⟩ := by unfold formS; simp
theorem formS_disc : formS ⟨#[100, 105, 115, 99]⟩ = ⟨#[120]⟩ := by unfold formS; simp
theorem formS_fewest : formS ⟨#[102, 101, 119, 101, 115, 116]⟩ = ⟨#[120]⟩ := by unfold formS; simp
theorem formS_shows : formS ⟨#[115, 104, 111, 119, 115]⟩ = ⟨#[110]⟩ := by unfold formS; simp
theorem formS_shifts : formS ⟨#[115, 104, 105, 102, 116, 115]⟩ = ⟨#[110]⟩ := by unfold formS; simp
theorem formS_seen : formS ⟨#[115, 101, 101, 110]⟩ = ⟨#[110, 110]⟩ := by unfold formS; simp
theorem formS_image : formS ⟨#[105, 109, 97, 103, 101]⟩ = ⟨#[110, 110]⟩ := by unfold formS; simp
theorem formS_cue : formS ⟨#[99, 117, 101]⟩ = ⟨#[110, 110, 110, 110]⟩ := by unfold formS; simp
theorem formS_burn : formS ⟨#[98, 117, 114, 110]⟩ = ⟨#[110, 110, 110, 110]⟩ := by unfold formS; simp
theorem formS_for : formS ⟨#[102, 111, 114]⟩ = ⟨#[120, 110]⟩ := by unfold formS; simp
theorem formS_loads : formS ⟨#[108, 111, 97, 100, 115]⟩ = ⟨#[120, 110]⟩ := by unfold formS; simp
theorem formS_enter : formS ⟨#[101, 110, 116, 101, 114]⟩ = ⟨#[110, 120, 110]⟩ := by unfold formS; simp
theorem formS_titles : formS ⟨#[116, 105, 116, 108, 101, 115]⟩ = ⟨#[]⟩ := by unfold formS; simp
theorem formS_log : formS ⟨#[108, 111, 103]⟩ = ⟨#[]⟩ := by unfold formS; simp
theorem formS_none {s : ByteArray} (h0 : ¬ s = ⟨#[116, 105, 116, 108, 101]⟩) (h1 : ¬ s = ⟨#[100, 105, 115, 99]⟩) (h2 : ¬ s = ⟨#[102, 101, 119, 101, 115, 116]⟩) (h3 : ¬ s = ⟨#[115, 104, 111, 119, 115]⟩) (h4 : ¬ s = ⟨#[115, 104, 105, 102, 116, 115]⟩) (h5 : ¬ s = ⟨#[115, 101, 101, 110]⟩) (h6 : ¬ s = ⟨#[105, 109, 97, 103, 101]⟩) (h7 : ¬ s = ⟨#[99, 117, 101]⟩) (h8 : ¬ s = ⟨#[98, 117, 114, 110]⟩) (h9 : ¬ s = ⟨#[102, 111, 114]⟩) (h10 : ¬ s = ⟨#[108, 111, 97, 100, 115]⟩) (h11 : ¬ s = ⟨#[101, 110, 116, 101, 114]⟩) (h12 : ¬ s = ⟨#[116, 105, 116, 108, 101, 115]⟩) (h13 : ¬ s = ⟨#[108, 111, 103]⟩) : formS s = ⟨#[45]⟩ := by
  unfold formS
  rw [if_neg h0, if_neg h1, if_neg h2, if_neg h3, if_neg h4, if_neg h5, if_neg h6, if_neg h7, if_neg h8, if_neg h9, if_neg h10, if_neg h11, if_neg h12, if_neg h13]
theorem ba_ext {s t : ByteArray} (h : s.data.toList = t.data.toList) : s = t := by
  rcases s with ⟨⟨a⟩⟩
  rcases t with ⟨⟨b⟩⟩
  have h2 : a = b := h
  rw [h2]
def restTo (L : List ByteArray) (k : Nat) : ByteArray := joinS ⟨#[32]⟩ (L.take k)
theorem joinS_list (sep : ByteArray) (L : List ByteArray) : (joinS sep L).data.toList = Lib.join (L.map (·.data.toList)) sep.data.toList := by simp [joinS]
theorem restTo_one (x : ByteArray) (r : List ByteArray) : restTo (x :: r) 1 = x := by
  refine ba_ext ?_
  unfold restTo
  rw [joinS_list]
  show Lib.join [x.data.toList] _ = _
  rw [Lib.join_cons]
  simp [Lib.joinTail]
theorem restTo_succ {L : List ByteArray} {k : Nat} (h0 : 1 ≤ k) (h : k < L.length) : restTo L (k + 1) = restTo L k ++ (⟨#[32]⟩ ++ L[k]) := by
  obtain ⟨j, rfl⟩ : ∃ j, k = j + 1 := ⟨k - 1, by omega⟩
  cases L with
  | nil => simp at h
  | cons x r =>
    have hj : j < r.length := by simpa using h
    refine ba_ext ?_
    unfold restTo
    rw [toList_append, toList_append, joinS_list, joinS_list]
    rw [List.take_succ_cons, List.take_succ_cons, List.map_cons, List.map_cons, Lib.join_cons, Lib.join_cons, List.map_take, List.map_take, Lib.joinTail_take_succ _ _ j (r[j].data.toList) (by rw [List.getElem?_map, List.getElem?_eq_getElem hj]; rfl)]
    simp
theorem restTo_all {L : List ByteArray} {k : Nat} (h : L.length ≤ k) : restTo L k = joinS ⟨#[32]⟩ L := by unfold restTo; rw [List.take_of_length_le h]
theorem restTo_le (L : List ByteArray) (k : Nat) : (restTo L k).size ≤ (joinS ⟨#[32]⟩ L).size := by
  rw [← size_list, ← size_list, joinS_list]
  unfold restTo
  rw [joinS_list]
  cases L with
  | nil => simp
  | cons x r =>
    cases k with
    | zero => simp [Lib.join]
    | succ k =>
      rw [List.take_succ_cons, List.map_cons, List.map_cons, Lib.join_cons, Lib.join_cons, List.length_append, List.length_append, List.map_take]
      have := Lib.joinTail_take_le (⟨#[32]⟩ : ByteArray).data.toList (r.map (·.data.toList)) k
      omega
def textsTo (fm : List UInt8) (ws : List ByteArray) : Nat → List ByteArray
  | 0 => []
  | k + 1 => if fm.getD k 0 = 110 then textsTo fm ws k else textsTo fm ws k ++ [if fm.getD k 0 = 114 then joinS ⟨#[32]⟩ (ws.drop (k + 1)) else ws.getD (k + 1) ⟨#[]⟩]
theorem textsTo_num {fm : List UInt8} {ws : List ByteArray} {k : Nat} (h : fm.getD k 0 = 110) : textsTo fm ws (k + 1) = textsTo fm ws k := by
  show (if _ then _ else _) = _
  rw [if_pos h]
theorem textsTo_rest {fm : List UInt8} {ws : List ByteArray} {k : Nat} (h : fm.getD k 0 = 114) : textsTo fm ws (k + 1) = textsTo fm ws k ++ [joinS ⟨#[32]⟩ (ws.drop (k + 1))] := by
  show (if _ then _ else _) = _
  rw [if_neg (by rw [h]; decide), if_pos h]
theorem textsTo_word {fm : List UInt8} {ws : List ByteArray} {k : Nat} (h : ¬ fm.getD k 0 = 110) (h2 : ¬ fm.getD k 0 = 114) : textsTo fm ws (k + 1) = textsTo fm ws k ++ [ws.getD (k + 1) ⟨#[]⟩] := by
  show (if _ then _ else _) = _
  rw [if_neg h, if_neg h2]
theorem textsTo_len (fm : List UInt8) (ws : List ByteArray) : ∀ k, (textsTo fm ws k).length ≤ k
  | 0 => Nat.le_refl _
  | k + 1 => by
    have ih := textsTo_len fm ws k
    show (if _ then _ else _ : List ByteArray).length ≤ _
    split
    · omega
    · rw [List.length_append]; simp; omega
theorem numsTo_like {a b : List UInt8} (ws : List ByteArray) (h : ∀ k, a.getD k 0 = 110 ↔ b.getD k 0 = 110) : ∀ k, numsTo a ws k = numsTo b ws k
  | 0 => rfl
  | k + 1 => by
    have ih := numsTo_like ws h k
    unfold numsTo
    rw [ih]
    rcases numsTo b ws k with _ | l
    · rfl
    · dsimp only
      by_cases hk : a.getD k 0 = 110
      · rw [if_pos hk, if_pos ((h k).1 hk)]
      · rw [if_neg hk, if_neg (fun e => hk ((h k).2 e))]
def formL : List ByteArray := [⟨#[114]⟩, ⟨#[120]⟩, ⟨#[110]⟩, ⟨#[110, 110]⟩, ⟨#[110, 110, 110, 110]⟩, ⟨#[120, 110]⟩, ⟨#[110, 120, 110]⟩, ⟨#[]⟩]
def fitF (fm : ByteArray) (n : Nat) : Bool := if fm = ⟨#[114]⟩ then decide (1 ≤ n) else decide (n = fm.size)
theorem words_cases {w0 : ByteArray} (hm : w0 ∈ dWords) : w0 = ⟨#[98, 117, 114, 110]⟩ ∨ w0 = ⟨#[99, 117, 101]⟩ ∨ w0 = ⟨#[100, 105, 115, 99]⟩ ∨ w0 = ⟨#[101, 110, 116, 101, 114]⟩ ∨ w0 = ⟨#[102, 101, 119, 101, 115, 116]⟩ ∨ w0 = ⟨#[102, 111, 114]⟩ ∨ w0 = ⟨#[105, 109, 97, 103, 101]⟩ ∨ w0 = ⟨#[108, 111, 97, 100, 115]⟩ ∨ w0 = ⟨#[108, 111, 103]⟩ ∨ w0 = ⟨#[115, 101, 101, 110]⟩ ∨ w0 = ⟨#[115, 104, 105, 102, 116, 115]⟩ ∨ w0 = ⟨#[115, 104, 111, 119, 115]⟩ ∨ w0 = ⟨#[116, 105, 116, 108, 101]⟩ ∨ w0 = ⟨#[116, 105, 116, 108, 101, 115]⟩ := by
  unfold dWords at hm
  simp only [List.mem_cons, List.not_mem_nil, or_false] at hm
  exact hm
theorem form_mem {w0 : ByteArray} (hm : w0 ∈ dWords) : formS w0 ∈ formL := by
  rcases words_cases hm with rfl | rfl | rfl | rfl | rfl | rfl | rfl | rfl | rfl | rfl | rfl | rfl | rfl | rfl
  · rw [formS_burn]; unfold formL; simp
  · rw [formS_cue]; unfold formL; simp
  · rw [formS_disc]; unfold formL; simp
  · rw [formS_enter]; unfold formL; simp
  · rw [formS_fewest]; unfold formL; simp
  · rw [formS_for]; unfold formL; simp
  · rw [formS_image]; unfold formL; simp
  · rw [formS_loads]; unfold formL; simp
  · rw [formS_log]; unfold formL; simp
  · rw [formS_seen]; unfold formL; simp
  · rw [formS_shifts]; unfold formL; simp
  · rw [formS_shows]; unfold formL; simp
  · rw [formS_title]; unfold formL; simp
  · rw [formS_titles]; unfold formL; simp
theorem form_none {w0 : ByteArray} (hm : ¬ w0 ∈ dWords) : formS w0 = ⟨#[45]⟩ := by
  refine formS_none (fun e => hm (by rw [e]; unfold dWords; simp)) (fun e => hm (by rw [e]; unfold dWords; simp)) (fun e => hm (by rw [e]; unfold dWords; simp)) (fun e => hm (by rw [e]; unfold dWords; simp)) (fun e => hm (by rw [e]; unfold dWords; simp)) (fun e => hm (by rw [e]; unfold dWords; simp)) (fun e => hm (by rw [e]; unfold dWords; simp)) (fun e => hm (by rw [e]; unfold dWords; simp)) (fun e => hm (by rw [e]; unfold dWords; simp)) (fun e => hm (by rw [e]; unfold dWords; simp)) (fun e => hm (by rw [e]; unfold dWords; simp)) (fun e => hm (by rw [e]; unfold dWords; simp)) (fun e => hm (by rw [e]; unfold dWords; simp)) (fun e => hm (by rw [e]; unfold dWords; simp))
theorem fit_form {w0 : ByteArray} (hm : w0 ∈ dWords) (n : Nat) : fitF (formS w0) n = fitN w0 (n + 1) := by
  rcases words_cases hm with rfl | rfl | rfl | rfl | rfl | rfl | rfl | rfl | rfl | rfl | rfl | rfl | rfl | rfl
  · rw [formS_burn]
    unfold fitF fitN
    rw [if_neg (by simp), if_neg (by unfold titleW; simp), shapeS_burn]
    exact decide_eq_decide.2 (by show n = 4 ↔ n + 1 = 4 + 1; omega)
  · rw [formS_cue]
    unfold fitF fitN
    rw [if_neg (by simp), if_neg (by unfold titleW; simp), shapeS_cue]
    exact decide_eq_decide.2 (by show n = 4 ↔ n + 1 = 4 + 1; omega)
  · rw [formS_disc]
    unfold fitF fitN
    rw [if_neg (by simp), if_neg (by unfold titleW; simp), shapeS_disc]
    exact decide_eq_decide.2 (by show n = 1 ↔ n + 1 = 1 + 1; omega)
  · rw [formS_enter]
    unfold fitF fitN
    rw [if_neg (by simp), if_neg (by unfold titleW; simp), shapeS_enter]
    exact decide_eq_decide.2 (by show n = 3 ↔ n + 1 = 3 + 1; omega)
  · rw [formS_fewest]
    unfold fitF fitN
    rw [if_neg (by simp), if_neg (by unfold titleW; simp), shapeS_fewest]
    exact decide_eq_decide.2 (by show n = 1 ↔ n + 1 = 1 + 1; omega)
  · rw [formS_for]
    unfold fitF fitN
    rw [if_neg (by simp), if_neg (by unfold titleW; simp), shapeS_for]
    exact decide_eq_decide.2 (by show n = 2 ↔ n + 1 = 2 + 1; omega)
  · rw [formS_image]
    unfold fitF fitN
    rw [if_neg (by simp), if_neg (by unfold titleW; simp), shapeS_image]
    exact decide_eq_decide.2 (by show n = 2 ↔ n + 1 = 2 + 1; omega)
  · rw [formS_loads]
    unfold fitF fitN
    rw [if_neg (by simp), if_neg (by unfold titleW; simp), shapeS_loads]
    exact decide_eq_decide.2 (by show n = 2 ↔ n + 1 = 2 + 1; omega)
  · rw [formS_log]
    unfold fitF fitN
    rw [if_neg (by simp), if_neg (by unfold titleW; simp), shape_log]
    exact decide_eq_decide.2 (by show n = 0 ↔ n + 1 = 0 + 1; omega)
  · rw [formS_seen]
    unfold fitF fitN
    rw [if_neg (by simp), if_neg (by unfold titleW; simp), shapeS_seen]
    exact decide_eq_decide.2 (by show n = 2 ↔ n + 1 = 2 + 1; omega)
  · rw [formS_shifts]
    unfold fitF fitN
    rw [if_neg (by simp), if_neg (by unfold titleW; simp), shapeS_shifts]
    exact decide_eq_decide.2 (by show n = 1 ↔ n + 1 = 1 + 1; omega)
  · rw [formS_shows]
    unfold fitF fitN
    rw [if_neg (by simp), if_neg (by unfold titleW; simp), shapeS_shows]
    exact decide_eq_decide.2 (by show n = 1 ↔ n + 1 = 1 + 1; omega)
  · show _ = fitN titleW (n + 1)
    rw [formS_title]
    unfold fitF fitN
    rw [if_pos rfl, if_pos rfl]
    exact decide_eq_decide.2 (by omega)
  · rw [formS_titles]
    unfold fitF fitN
    rw [if_neg (by simp), if_neg (by unfold titleW; simp), shape_titles]
    exact decide_eq_decide.2 (by show n = 0 ↔ n + 1 = 0 + 1; omega)
theorem nums_form {w0 : ByteArray} (hm : w0 ∈ dWords) (ws : List ByteArray) : numsTo (formS w0).data.toList ws (formS w0).size = numsTo (shapeS w0).data.toList ws (shapeS w0).size := by
  rcases words_cases hm with rfl | rfl | rfl | rfl | rfl | rfl | rfl | rfl | rfl | rfl | rfl | rfl | rfl | rfl
  · rw [formS_burn, shapeS_burn]
  · rw [formS_cue, shapeS_cue]
  · rw [formS_disc, shapeS_disc]
    exact numsTo_like (a := [(120 : UInt8)]) (b := [(119 : UInt8)]) ws (fun k => by rcases k with _ | _ | _ | k <;> simp) 1
  · rw [formS_enter, shapeS_enter]
    exact numsTo_like (a := [(110 : UInt8), (120 : UInt8), (110 : UInt8)]) (b := [(110 : UInt8), (119 : UInt8), (110 : UInt8)]) ws (fun k => by rcases k with _ | _ | _ | k <;> simp) 3
  · rw [formS_fewest, shapeS_fewest]
    exact numsTo_like (a := [(120 : UInt8)]) (b := [(119 : UInt8)]) ws (fun k => by rcases k with _ | _ | _ | k <;> simp) 1
  · rw [formS_for, shapeS_for]
    exact numsTo_like (a := [(120 : UInt8), (110 : UInt8)]) (b := [(119 : UInt8), (110 : UInt8)]) ws (fun k => by rcases k with _ | _ | _ | k <;> simp) 2
  · rw [formS_image, shapeS_image]
  · rw [formS_loads, shapeS_loads]
    exact numsTo_like (a := [(120 : UInt8), (110 : UInt8)]) (b := [(119 : UInt8), (110 : UInt8)]) ws (fun k => by rcases k with _ | _ | _ | k <;> simp) 2
  · rw [formS_log, shape_log]
  · rw [formS_seen, shapeS_seen]
  · rw [formS_shifts, shapeS_shifts]
  · rw [formS_shows, shapeS_shows]
  · show _ = numsTo (shapeS titleW).data.toList ws (shapeS titleW).size
    rw [formS_title, shape_title]
    rfl
  · rw [formS_titles, shape_titles]
end Go.Proofs.YtgcodjkjdfahdaaGreatDoor

namespace Go.Proofs.YtgcodjkjdfahdaaGreatDoor
open Go Go.RowKit Go.ChangeShapes Go.WideShapes
set_option linter.unusedSimpArgs false
set_option linter.unusedVariables false
theorem decS_ne (n : Int) : ¬ decS n = ⟨#[]⟩ := fun e => by
  have h : (decS n).data.toList = [] := by rw [e]
  rw [decS_list] at h
  unfold Lib.itoa at h
  split at h
  · cases h
  · unfold Lib.decDigits at h
    split at h <;> simp at h
theorem orS_dec (n : Int) : orS (decS n) = decS n := orS_some (decS_ne n)
def lineC (c : Int) (s : ByteArray) : ByteArray := if c = 0 then s else errS c
theorem lineC_ok (s : ByteArray) : lineC 0 s = s := if_pos rfl
theorem lineC_err {c : Int} (h : ¬ c = 0) (s : ByteArray) : lineC c s = errS c := if_neg h
theorem sres_eq {B g : Nat} {vo : Value} {W W' : World} {d : TDk} {L L' : List ByteArray} (h : SRes B g vo W d L W') (e : L = L') : SRes B g vo W d L' W' := e ▸ h
def rowTo (l : List Int) (k : Nat) : ByteArray := if k = 0 then ⟨#[45]⟩ else restTo (l.map decS) k
theorem rowTo_zero (l : List Int) : rowTo l 0 = ⟨#[45]⟩ := rfl
theorem rowTo_one {l : List Int} (h : 0 < l.length) : rowTo l 1 = decS l[0] := by
  cases l with
  | nil => simp at h
  | cons x r => exact restTo_one _ _
theorem rowTo_succ {l : List Int} {k : Nat} (h0 : 1 ≤ k) (h : k < l.length) : rowTo l (k + 1) = rowTo l k ++ (⟨#[32]⟩ ++ decS l[k]) := by
  unfold rowTo
  rw [if_neg (by omega), if_neg (by omega), restTo_succ h0 (by rw [List.length_map]; exact h), List.getElem_map]
theorem rowTo_all (l : List Int) : rowTo l l.length = orS (numsS ⟨#[32]⟩ l) := by
  cases l with
  | nil => rfl
  | cons x r =>
    unfold rowTo
    rw [if_neg (by simp), restTo_all (by rw [List.length_map]; exact Nat.le_refl _)]
    refine (orS_some (s := numsS ⟨#[32]⟩ (x :: r)) fun e => ?_).symm
    have h : (numsS ⟨#[32]⟩ (x :: r)).data.toList = [] := by rw [e]
    have h1 : Lib.join (((x :: r).map decS).map (·.data.toList)) (⟨#[32]⟩ : ByteArray).data.toList = [] := (joinS_list _ _).symm.trans h
    rw [List.map_cons, List.map_cons, Lib.join_cons] at h1
    have h2 := (List.append_eq_nil_iff.1 h1).1
    exact decS_ne x (ba_ext h2)
theorem rowTo_size {l : List Int} (hl : l.length ≤ 1000) (hr : ∀ x ∈ l, -9223372036854775808 ≤ x ∧ x ≤ 9223372036854775807) (k : Nat) : (rowTo l k).size ≤ 22000 := by
  unfold rowTo
  split
  · decide
  · exact Nat.le_trans (restTo_le _ _) (numsS_size hl hr)
set_option maxRecDepth 100000 in
set_option maxHeartbeats 4000000 in
theorem say_spec (W : World) (B g : Nat) (d : TDk) (vo : Value) (L : List ByteArray) (t : ByteArray) (hS : SAt W B g d vo L) (hL : L.length ≤ 1000000) :
    Calls Tryz.prog 41 #[.pointer (some ⟨g, 0, none⟩), .string t] W fun e W' => e = .returned (.tuple #[]) ∧ SRes B g vo W d (L ++ [t]) W' := by
  obtain ⟨i0, hi, hz0, hz1, hz2⟩ := info_parts info_str
  have H := hd hS
  obtain ⟨A, c, rfl⟩ := hS.out.isSlice
  have c4 := hS.c4
  have f4 := hS.fr 4
  have hlt := hS.lt
  have hbs := hS.base
  have own1 := hS.out.alloc (.cells #[.string t] 9)
  have K1 := (Below.refl W.heap.size W).alloc (Nat.le_refl _) (.cells #[.string t] 9)
  have hBW : B ≤ W.heap.size := by omega
  have HNO := hd hS.no
  clear hS
  go_enter Tryz.func41, Tryz.ntmps41
  go_wp2_with (at_builtin; refine wpList_push_at _ rfl _ _ 24 rfl i0 (.string ByteArray.empty) 16 Tryz.underlying24 hi hz0 hz1 hz2 rfl (by decide) _ L t rfl own1 W.heap.size rfl #[.string t] 9 (heap_alloc_new _ _) rfl rfl (by intro u hu; simp [eS] at hu; subst hu; rfl) (by unfold maxLen; omega) (by omega) (by simp; omega) ?_)
  intro v' w3 hown2 hgr2 hat
  have hblk : w3.heap[g]? = W.heap[g]? := (hgr2.block g (Nat.lt_of_lt_of_le hlt K1.size) (fun e => HNO.out g e.symm rfl)).trans (K1.block g hlt)
  have e4 := cell_blk hblk c4
  have h4 : w3.frozen? ⟨g, 4, none⟩ = false := (World.frozen?_of_block (w := W) (a := ⟨g, 4, none⟩) hblk).trans f4
  obtain ⟨A', c', hv'⟩ := hown2.isSlice
  rw [List.length_append, List.length_singleton] at hv'
  subst hv'
  have HR := hd (H.out.put4 K1 hgr2 hown2 (hat.imp id fun e k hk => by rw [e] at hk; injection hk with hk; have := K1.size; omega) rfl)
  clear hgr2 hat own1 K1 c4 f4 hown2
  go_wp2_with fail
  go_end0
  exact ⟨rfl, HR.out⟩
set_option maxRecDepth 100000 in
theorem report_ok (W : World) (g : Nat) : Calls Tryz.prog 39 #[.pointer (some ⟨g, 0, none⟩), .int .i64 0] W fun e W' => e = .returned (.bool false) ∧ W' = W := by
  go_enter Tryz.func39, Tryz.ntmps39
  go_wp2_with fail
  go_ret
  exact ⟨rfl, rfl⟩
set_option maxRecDepth 100000 in
set_option maxHeartbeats 4000000 in
theorem report_err (W : World) (B g : Nat) (d : TDk) (vo : Value) (L : List ByteArray) (hS : SAt W B g d vo L) (hL : L.length ≤ 1000000) (c : Int) (hc : ¬ c = 0) :
    Calls Tryz.prog 39 #[.pointer (some ⟨g, 0, none⟩), .int .i64 c] W fun e W' => e = .returned (.bool true) ∧ SRes B g vo W d (L ++ [errS c]) W' := by
  have hcz := codeS_size c
  have HR := hd (show errS c = ⟨#[101, 114, 114, 111, 114, 32]⟩ ++ codeS c from rfl)
  have HCN := hd (cname_spec W c)
  have kc : (c == 0) = false := by simpa using hc
  obtain ⟨cs, hcs⟩ : ∃ cs, codeS c = cs := ⟨_, rfl⟩
  rw [hcs] at hcz HR HCN
  clear hc hcs
  go_enter Tryz.func39, Tryz.ntmps39
  go_wp2_with fail
  refine HCN.out.mono ?_
  rintro e w1 ⟨rfl, hb1⟩
  have HS := hd (fun t => say_spec w1 B g d vo L t (hS.below hb1) hL)
  clear HCN
  go_wp2_with fail
  refine (HS.out _).mono ?_
  rintro e w2 ⟨rfl, hr⟩
  go_wp2_with fail
  go_ret
  exact ⟨rfl, sres_eq (hr.pre hb1) (by rw [HR.out])⟩
set_option maxRecDepth 100000 in
set_option maxHeartbeats 4000000 in
theorem list_spec (W : World) (B g : Nat) (d : TDk) (vo : Value) (L : List ByteArray) (hS : SAt W B g d vo L) (hL : L.length ≤ 900000) (v : Value) (l : List ByteArray) (h : Sl W 1 v eS l) (hl : l.length ≤ 10000) :
    Calls Tryz.prog 176 #[.pointer (some ⟨g, 0, none⟩), v] W fun e W' => e = .returned (.tuple #[]) ∧ SRes B g vo W d (L ++ (l ++ [okS l.length])) W' := by
  obtain ⟨i0, hi, hz0, hz1, hz2⟩ := info_parts info_str
  have H := hd hS
  obtain ⟨A, c, rfl⟩ := hS.out.isSlice
  have c4 := hS.c4
  have f4 := hS.fr 4
  have hlt := hS.lt
  have hbs := hS.base
  have own1 := hS.out
  have hBW : B ≤ W.heap.size := by omega
  have HNO := hd hS.no
  have HV := hd h
  obtain ⟨A2, c2, rfl⟩ := h.isSlice
  have s1 := decS_size (n := (l.length : Int)) (by omega)
  have HOK := hd (show okS l.length = ⟨#[111, 107, 32]⟩ ++ decS (l.length : Int) from rfl)
  clear hS h
  go_enter Tryz.func176, Tryz.ntmps176
  go_wp2_with (at_builtin; refine wpList_append_sl_at _ rfl _ _ 24 rfl i0 (.string ByteArray.empty) 16 Tryz.underlying24 hi hz0 hz1 hz2 rfl (by decide) eS_len (by intro y u hu; simp [eS] at hu; subst hu; rfl) _ L rfl own1 _ l rfl HV.out (by unfold maxLen; omega) (by omega) hBW ?_)
  intro v' w3 hown2 hgr2 hat
  have hblk : w3.heap[g]? = W.heap[g]? := hgr2.block g hlt (fun e => HNO.out g e.symm rfl)
  have e4 := cell_blk hblk c4
  have h4 : w3.frozen? ⟨g, 4, none⟩ = false := (World.frozen?_of_block (w := W) (a := ⟨g, 4, none⟩) hblk).trans f4
  obtain ⟨A', c', hv'⟩ := hown2.isSlice
  rw [List.length_append] at hv'
  subst hv'
  have HR := hd (H.out.put4 (Below.refl _ _) hgr2 hown2 (hat.imp id fun e k hk => by rw [e] at hk; injection hk with hk; omega) rfl)
  clear hgr2 hat own1 c4 f4 hown2 HV
  go_wp2_with fail
  generalize (w3.setCell ⟨g, 4, none⟩ (.slice A' (L.length + l.length) c')) = W4 at HR ⊢
  obtain ⟨vo', hS4, hf4⟩ := HR.out
  have HDC := hd (dec_spec W4 (l.length : Int) (by omega))
  obtain ⟨ds, hds⟩ : ∃ ds, decS (l.length : Int) = ds := ⟨_, rfl⟩
  rw [hds] at s1 HOK HDC
  clear hds
  refine HDC.out.mono ?_
  rintro e w5 ⟨rfl, hb5⟩
  have HS := hd (fun t => say_spec w5 B g d vo' (L ++ l) t (hS4.below hb5) (by rw [List.length_append]; omega))
  clear HDC
  go_wp2_with fail
  refine (HS.out _).mono ?_
  rintro e w6 ⟨rfl, hr⟩
  go_wp2_with fail
  go_end0
  exact ⟨rfl, sres_eq ((hr.pre hb5).after hf4) (by rw [HOK.out, List.append_assoc])⟩
set_option maxRecDepth 100000 in
set_option maxHeartbeats 4000000 in
theorem row_spec (W : World) (B g : Nat) (d : TDk) (vo : Value) (L : List ByteArray) (hS : SAt W B g d vo L) (hL : L.length ≤ 1000000) (v : Value) (l : List Int) (h : Sl W 1 v eI l) (hl : l.length ≤ 1000) (hr : ∀ x ∈ l, -9223372036854775808 ≤ x ∧ x ≤ 9223372036854775807) :
    Calls Tryz.prog 178 #[.pointer (some ⟨g, 0, none⟩), v] W fun e W' => e = .returned (.tuple #[]) ∧ SRes B g vo W d (L ++ [orS (numsS ⟨#[32]⟩ l)]) W' := by
  have HSZ := hd (rowTo_size hl hr)
  have HRB := hd hr
  have HV := hd h
  obtain ⟨A, c, rfl⟩ := h.isSlice
  clear h hr
  go_enter Tryz.func178, Tryz.ntmps178
  go_wp2_with fail
  go_loopw [4, 5] (fun sv iv wr => ∃ k : Nat, k ≤ l.length ∧ iv = .int .i64 k ∧ sv = .string (rowTo l k) ∧ Below W.heap.size W wr) (fun _ iv _ => l.length - (intOf iv).toNat)
  case atStart => exact ⟨0, Nat.zero_le _, rfl, by rw [rowTo_zero], Below.refl _ _⟩
  case round =>
    obtain ⟨k, hk, rfl, rfl, hbel⟩ := hrel
    by_cases hlt : k < l.length
    · obtain ⟨b, o, hA, hb, hcell⟩ := (HV.out.below hbel).int_at hlt
      subst hA
      have hbx := HRB.out _ (List.getElem_mem hlt)
      have hrs := HSZ.out k
      have HDC := hd (dec_spec wr l[k] hbx)
      have s1 := decS_size hbx
      by_cases h0 : k = 0
      · subst h0
        have HE := hd (rowTo_one hlt)
        rw [Nat.add_zero] at hcell
        generalize l[0] = x at hcell HE HDC s1
        generalize decS x = t at HE HDC s1
        clear hrs hbx
        go_wp2_with fail
        refine HDC.out.mono ?_
        rintro e w1 ⟨rfl, hb1⟩
        go_wp2_with fail
        go_roundw
        case rel => exact ⟨1, by omega, by go_num, by rw [HE.out], below_step hbel hb1⟩
        case measure => simp [intOf]; omega
      · have HE := hd (rowTo_succ (by omega) hlt)
        have k0 : (((k : Nat) : Int) == 0) = false := by simpa using h0
        generalize l[k] = x at hcell HE HDC s1 hbx
        generalize decS x = t at HE HDC s1
        generalize rowTo l k = s at hrs HE ⊢
        clear hbx
        go_wp2_with fail
        refine HDC.out.mono ?_
        rintro e w1 ⟨rfl, hb1⟩
        go_wp2_with fail
        go_roundw
        case rel => exact ⟨k + 1, by omega, by go_num, by rw [HE.out], below_step hbel hb1⟩
        case measure => simp [intOf]; omega
    · obtain rfl : k = l.length := by omega
      rw [rowTo_all]
      have HS := hd (fun t => say_spec wr B g d vo L t (hS.below hbel) hL)
      go_wp2_with fail
      refine (HS.out _).mono ?_
      rintro e w6 ⟨rfl, hr⟩
      go_wp2_with fail
      go_end0
      exact ⟨rfl, hr.pre hbel⟩
set_option maxRecDepth 100000 in
set_option maxHeartbeats 4000000 in
theorem number_spec28 (W : World) (B g : Nat) (d : TDk) (vo : Value) (L : List ByteArray) (hS : SAt W B g d vo L) (hL : L.length ≤ 1000000) (n c : Int) (hn : -9223372036854775808 ≤ n ∧ n ≤ 9223372036854775807) :
    Calls Tryz.prog 170 #[.pointer (some ⟨g, 0, none⟩), .int .i64 n, .int .i64 c] W fun e W' => e = .returned (.tuple #[]) ∧ SRes B g vo W d (L ++ [lineC c (decS n)]) W' := by
  by_cases hc : c = 0
  · subst hc
    rw [lineC_ok]
    go_enter Tryz.func170, Tryz.ntmps170
    go_wp2_with fail
    refine (report_ok W g).mono ?_
    rintro e ww ⟨rfl, hw⟩
    have hw := hw.symm
    subst hw
    go_wp2_with fail
    refine (dec_spec W n hn).mono ?_
    rintro e w1 ⟨rfl, hb1⟩
    go_wp2_with fail
    refine (say_spec w1 B g d vo L _ (hS.below hb1) hL).mono ?_
    rintro e w2 ⟨rfl, hr⟩
    go_wp2_with fail
    go_end0
    exact ⟨rfl, hr.pre hb1⟩
  · rw [lineC_err hc]
    have HE := hd (report_err W B g d vo L hS hL c hc)
    clear hc
    go_enter Tryz.func170, Tryz.ntmps170
    go_wp2_with fail
    refine HE.out.mono ?_
    rintro e w1 ⟨rfl, hr⟩
    go_wp2_with fail
    go_end0
    exact ⟨rfl, hr⟩
set_option maxRecDepth 100000 in
set_option maxHeartbeats 4000000 in
theorem text_spec28 (W : World) (B g : Nat) (d : TDk) (vo : Value) (L : List ByteArray) (hS : SAt W B g d vo L) (hL : L.length ≤ 1000000) (t : ByteArray) (c : Int) :
    Calls Tryz.prog 163 #[.pointer (some ⟨g, 0, none⟩), .string t, .int .i64 c] W fun e W' => e = .returned (.tuple #[]) ∧ SRes B g vo W d (L ++ [lineC c (orS t)]) W' := by
  by_cases hc : c = 0
  · subst hc
    rw [lineC_ok]
    by_cases h : t = ⟨#[]⟩
    · rw [orS_empty h]
      subst h
      go_enter Tryz.func163, Tryz.ntmps163
      go_wp2_with fail
      refine (report_ok W g).mono ?_
      rintro e ww ⟨rfl, hw⟩
      have hw := hw.symm
      subst hw
      go_wp2_with fail
      refine (say_spec W B g d vo L _ hS hL).mono ?_
      rintro e w2 ⟨rfl, hr⟩
      go_wp2_with fail
      go_end0
      exact ⟨rfl, hr⟩
    · rw [orS_some h]
      have k1 : t.data.toList.isEmpty = false := by
        rcases hq : t.data.toList with _ | ⟨a, b⟩
        · exact absurd (toList_empty hq) h
        · rfl
      have k2 : t.toList.isEmpty = false := by rw [ByteArray.toList_eq]; exact k1
      clear h k1
      go_enter Tryz.func163, Tryz.ntmps163
      go_wp2_with fail
      refine (report_ok W g).mono ?_
      rintro e ww ⟨rfl, hw⟩
      have hw := hw.symm
      subst hw
      go_wp2_with fail
      refine (say_spec W B g d vo L _ hS hL).mono ?_
      rintro e w2 ⟨rfl, hr⟩
      go_wp2_with fail
      go_end0
      exact ⟨rfl, hr⟩
  · rw [lineC_err hc]
    have HE := hd (report_err W B g d vo L hS hL c hc)
    clear hc
    go_enter Tryz.func163, Tryz.ntmps163
    go_wp2_with fail
    refine HE.out.mono ?_
    rintro e w1 ⟨rfl, hr⟩
    go_wp2_with fail
    refine bodyPost_ret (results_none rfl _ _ _) rfl ?_
    exact ⟨rfl, hr⟩
set_option maxRecDepth 100000 in
set_option maxHeartbeats 4000000 in
theorem state_spec (W : World) (B g : Nat) (d : TDk) (vo : Value) (L : List ByteArray) (hS : SAt W B g d vo L) (hL : L.length ≤ 1000000) (c : Int) (hb : c = 0 → d.1.size ≤ 24 ∧ d.2.1.length ≤ 6 ∧ d.2.2.1.length ≤ 20) :
    Calls Tryz.prog 164 #[.pointer (some ⟨g, 0, none⟩), .int .i64 c] W fun e W' => e = .returned (.tuple #[]) ∧ SRes B g vo W d (L ++ [lineC c (deskS d.1 d.2.1 d.2.2.1)]) W' := by
  by_cases hc : c = 0
  · subst hc
    rw [lineC_ok]
    obtain ⟨v1, v2, D, O1, O2, -⟩ := hS.desk
    have HT := hd (l28Text_spec W g d.1 d.2.2.2 v1 v2 d.2.1 d.2.2.1 D (O1.sl eCue_len) (O2.sl eTitle_len) (hb rfl))
    clear hb D O1 O2
    go_enter Tryz.func164, Tryz.ntmps164
    go_wp2_with fail
    refine (report_ok W g).mono ?_
    rintro e ww ⟨rfl, hw⟩
    have hw := hw.symm
    subst hw
    go_wp2_with fail
    refine HT.out.mono ?_
    rintro e w1 ⟨rfl, hb1⟩
    go_wp2_with fail
    refine (say_spec w1 B g d vo L _ (hS.below hb1) hL).mono ?_
    rintro e w2 ⟨rfl, hr⟩
    go_wp2_with fail
    go_end0
    exact ⟨rfl, hr.pre hb1⟩
  · rw [lineC_err hc]
    have HE := hd (report_err W B g d vo L hS hL c hc)
    clear hc hb
    go_enter Tryz.func164, Tryz.ntmps164
    go_wp2_with fail
    refine HE.out.mono ?_
    rintro e w1 ⟨rfl, hr⟩
    go_wp2_with fail
    go_end0
    exact ⟨rfl, hr⟩
end Go.Proofs.YtgcodjkjdfahdaaGreatDoor

namespace Go.Proofs.YtgcodjkjdfahdaaGreatDoor
open Go Go.RowKit Go.ChangeShapes Go.WideShapes
set_option linter.unusedSimpArgs false
set_option linter.unusedVariables false
set_option maxRecDepth 100000 in
set_option maxHeartbeats 4000000 in
theorem ftextS_spec (w : World) (n d : Int) (hn : -9223372036854775808 ≤ n ∧ n ≤ 9223372036854775807) (hd1 : -9223372036854775808 ≤ d ∧ d ≤ 9223372036854775807) :
    Calls Tryz.prog 173 #[.agg #[.int .i64 n, .int .i64 d]] w fun e w' => e = .returned (.string (fracS n d)) ∧ Below w.heap.size w w' := by
  have hF := frac_new w n d 112
  have hb : Below w.heap.size w (w.alloc (.cells #[.int .i64 n, .int .i64 d] 112)) := (Below.refl w.heap.size w).alloc (Nat.le_refl _) _
  obtain ⟨-, c0, c1, -, -⟩ := id hF
  have s1 := decS_size hn
  have s2 := decS_size hd1
  have HN := hd hn
  have HD1 := hd hd1
  by_cases h1 : d = 1
  · have HR2 := hd (show fracS n d = decS n by rw [h1]; exact fracS_one _)
    subst h1
    go_enter Tryz.func173, Tryz.ntmps173
    go_wp2_with fail
    generalize w.alloc (.cells #[.int .i64 n, .int .i64 1] 112) = W at hb c0 c1 ⊢
    refine (dec_spec W n HN.out).mono ?_
    rintro e w2 ⟨rfl, hb2⟩
    clear c0 c1
    go_wp2_with fail
    go_ret
    exact ⟨by rw [HR2.out]; rfl, below_step hb hb2⟩
  have HR2 := hd (show fracS n d = decS n ++ ⟨#[47]⟩ ++ decS d from fracS_two h1)
  have kd : (d == 1) = false := by simpa using h1
  clear hn hd1 h1
  go_enter Tryz.func173, Tryz.ntmps173
  go_wp2_with fail
  generalize w.alloc (.cells #[.int .i64 n, .int .i64 d] 112) = W at hb c0 c1 ⊢
  have g0 := gro_cell c0
  have g1 := gro_cell c1
  clear c0 c1 hF
  refine wp_region_calm (by kernel_rfl) (by kernel_rfl) ?_
  repeat (first | go_big_quiet_step ((go_at_call 167; exact calm_of (dec_spec _ _ (by first | exact HN.out | exact HD1.out)))) | quiet_step ((go_at_call 167; exact calm_of (dec_spec _ _ (by first | exact HN.out | exact HD1.out)))))
  refine wpQuiet_nil ?_
  rintro w2 ⟨x, rfl⟩
  have hb3 := gro_below x
  clear g0 g1
  go_wp2_with fail
  go_ret
  exact ⟨by rw [HR2.out]; rfl, below_step hb hb3⟩
theorem chkR_frac {n d : Nat} (h : (chkR n d).2.2 = 0) : fracB (chkR n d).1 (chkR n d).2.1 = true := by
  unfold chkR at h ⊢
  rcases hf : fracB (n : Int) (d : Int) with _ | _
  · rw [hf] at h; cases h
  · exact hf
theorem img_frac {a b : Int} (h : (imgC a b).2.2 = 0) : fracB (imgC a b).1 (imgC a b).2.1 = true := by
  unfold imgC at h ⊢
  split at h
  · rename_i h1
    rw [if_pos h1]
    split at h
    · cases h
    · rename_i h2
      rw [if_neg h2]
      exact chkR_frac h
  · cases h
theorem img_line (a b : Int) : lineC (imgC a b).2.2 (orS (fracT (imgC a b).1 (imgC a b).2.1)) = lineC (imgC a b).2.2 (orS (fracS (imgC a b).1 (imgC a b).2.1)) := by
  by_cases h : (imgC a b).2.2 = 0
  · unfold fracT
    rw [if_pos (img_frac h)]
  · rw [lineC_err h, lineC_err h]
set_option maxRecDepth 100000 in
set_option maxHeartbeats 8000000 in
theorem q_image (W : World) (B g : Nat) (d : TDk) (vo : Value) (L : List ByteArray) (a b : Int) (ts : List ByteArray) (hS : SAt W B g d vo L) (hN : NT W B g [a, b] ts) (hL : L.length ≤ 1000000) :
    Calls Tryz.prog 104 #[.pointer (some ⟨g, 0, none⟩)] W fun e W' => e = .returned (.tuple #[]) ∧ SRes B g vo W d (L ++ [lineC (imgC a b).2.2 (orS (fracT (imgC a b).1 (imgC a b).2.1))]) W' := by
  have HD := hd hS
  obtain ⟨vn, vt, c5, c6, O5, O6, -, -⟩ := id hN
  obtain ⟨bn, on, cn, rfl, -, hn⟩ := (O5.sl eI_len).ints (Nat.succ_pos _)
  replace c5 : W.cell? ⟨g, 5, none⟩ = some (.slice (some ⟨bn, on, none⟩) 2 cn) := c5
  have k0 := hn 0 _ rfl
  rw [Nat.add_zero] at k0
  have k1 := hn 1 _ rfl
  have HS := hd (show ∀ ww, Below W.heap.size W ww → ww.cell? ⟨g, 5, none⟩ = some (.slice (some ⟨bn, on, none⟩) 2 cn) ∧ ww.cell? ⟨bn, on, none⟩ = some (.int .i64 a) ∧ ww.cell? ⟨bn, on + 1, none⟩ = some (.int .i64 b) from fun V hb => ⟨cell_below c5 V hb, cell_below k0 V hb, cell_below k1 V hb⟩)
  have K := Below.refl W.heap.size W
  clear hN O5 O6 hS hn c6
  obtain ⟨x, y, c, hx, hx1, hy1, -⟩ := imgC_shape a b
  have HR := hd (show L ++ [lineC (imgC a b).2.2 (orS (fracT (imgC a b).1 (imgC a b).2.1))] = L ++ [lineC c (orS (fracS x y))] by rw [img_line, hx])
  have HC := hd (show fracV (imgC a b) = .tuple #[.agg #[.int .i64 (x : Int), .int .i64 (y : Int)], .int .i64 c] by rw [hx]; rfl)
  have HFT := hd (fun Z => ftextS_spec Z (x : Int) (y : Int) (by omega) (by omega))
  clear hx
  go_enter Tryz.func104, Tryz.ntmps104
  go_wp2_with fail
  (go_region_held3 (fun ww => ww.cell? ⟨g, 5, none⟩ = some (.slice (some ⟨bn, on, none⟩) 2 cn) ∧ ww.cell? ⟨bn, on, none⟩ = some (.int .i64 a) ∧ ww.cell? ⟨bn, on + 1, none⟩ = some (.int .i64 b)) (first | with_reducible exact HS.out _ K | with_reducible exact HS.out _ (Below.drew K) | with_reducible exact HS.out _ (frac_below K (Nat.le_refl _) _ _) | with_reducible exact HS.out _ (frac_below (Below.drew K) (Nat.le_refl _) _ _) | exact HS.out _ (K.alloc K.size _) | exact HS.out _ (K.drew.alloc K.size _)) (first | (go_at_call 172; (first | (refine (image_spec W.drew a b).mono ?_; rintro e w2 ⟨rfl, hb2⟩; replace K := below_step K.drew hb2) | (refine (image_spec (W.drew.alloc (.cells #[.int .i64 0, .int .i64 0] 112)) a b).mono ?_; rintro e w2 ⟨rfl, hb2⟩; obtain ⟨hgz, q0, q1, q2, q3⟩ := frac_at W ((frac_new W.drew 0 0 112).below hb2); replace K := below_step (K.drew.alloc K.size (.cells #[.int .i64 0, .int .i64 0] 112)) hb2)); rw [HC.out]; clear hb2)))
  · clear c5 k0 k1
    obtain ⟨-, e0, e1, -, -⟩ := frac_new w2 x y 112
    have KZ := K.alloc K.size (.cells #[.int .i64 (x : Int), .int .i64 (y : Int)] 112)
    generalize w2.alloc (.cells #[.int .i64 (x : Int), .int .i64 (y : Int)] 112) = Z at e0 e1 KZ ⊢
    have HD2 := hd (HD.out.below KZ)
    go_wp2_with fail
    refine (HFT.out Z).mono ?_
    rintro e w3 ⟨rfl, hb3⟩
    clear e0 e1
    go_wp2_with fail
    refine (text_spec28 w3 B g d vo L (HD2.out.below hb3) hL _ c).mono ?_
    rintro e w4 ⟨rfl, hr⟩
    go_wp2_with fail
    go_end0
    exact ⟨rfl, sres_eq ((hr.pre hb3).pre KZ) HR.out.symm⟩
  · clear c5 k0 k1
    obtain ⟨e0, e1⟩ := frac_set (frac_mk hgz q0 q1 q2 q3) x y
    have KZ := frac_below K (Nat.le_refl _) (.int .i64 (x : Int)) (.int .i64 (y : Int))
    clear hgz q0 q1 q2 q3
    generalize ((w2.setCell ⟨W.heap.size, 0, none⟩ (.int .i64 (x : Int))).setCell ⟨W.heap.size, 1, none⟩ (.int .i64 (y : Int))) = Z at e0 e1 KZ ⊢
    have HD2 := hd (HD.out.below KZ)
    go_wp2_with fail
    refine (HFT.out Z).mono ?_
    rintro e w3 ⟨rfl, hb3⟩
    clear e0 e1
    go_wp2_with fail
    refine (text_spec28 w3 B g d vo L (HD2.out.below hb3) hL _ c).mono ?_
    rintro e w4 ⟨rfl, hr⟩
    go_wp2_with fail
    go_end0
    exact ⟨rfl, sres_eq ((hr.pre hb3).pre KZ) HR.out.symm⟩
end Go.Proofs.YtgcodjkjdfahdaaGreatDoor

namespace Go.Proofs.YtgcodjkjdfahdaaGreatDoor
open Go Go.RowKit
set_option linter.unusedSimpArgs false
set_option linter.unusedVariables false
def SmallL (L : List ByteArray) : Prop := L.length ≤ 4001 ∧ ∀ x ∈ L, x.size ≤ 30000
theorem small_nil : SmallL [] := ⟨Nat.zero_le _, fun x hx => absurd hx (by simp)⟩
theorem small_one {s : ByteArray} (h : s.size ≤ 30000) : SmallL [s] := ⟨by simp, fun x hx => by rw [List.mem_singleton.1 hx]; exact h⟩
theorem or_small {s : ByteArray} (h : s.size ≤ 30000) : SmallL [orS s] := small_one (by
  unfold orS
  split
  · decide
  · exact h)
theorem nums_small {l : List Int} (h : l.length ≤ 48) (hm : ∀ x ∈ l, 0 ≤ x ∧ x ≤ 48) : (numsS ⟨#[32]⟩ l).size ≤ 30000 :=
  Nat.le_trans (numsS_size (by omega) fun x hx => by have := hm x hx; omega) (by decide)
theorem dec_small {n : Int} (h : -9223372036854775808 ≤ n ∧ n ≤ 9223372036854775807) : (decS n).size ≤ 30000 := Nat.le_trans (decS_size h) (by decide)
theorem textD_size (p : ByteArray) (C : List TCue) (T : List TTitle) (q : ByteArray) : (textD p C T q).size ≤ 30000 := by
  unfold textD
  split
  · rename_i h
    have hb := okDesk_bd h
    have s1 := decS_size (n := (C.length : Int)) (by omega)
    have s2 := decS_size (n := (T.length : Int)) (by omega)
    unfold deskS
    simp only [ByteArray.size_append]
    have e1 : (⟨#[100, 105, 115, 99, 32]⟩ : ByteArray).size = 5 := rfl
    have e2 : (⟨#[44, 32]⟩ : ByteArray).size = 2 := rfl
    have e3 : (⟨#[32, 99, 117, 101, 115, 44, 32]⟩ : ByteArray).size = 7 := rfl
    have e4 : (⟨#[32, 116, 105, 116, 108, 101, 115]⟩ : ByteArray).size = 7 := rfl
    omega
  · decide
theorem ttS_size (x : TTitle) : (ttS x).size ≤ 30000 := by
  obtain ⟨a, b, c, d⟩ := x
  show (textR a b c d).size ≤ 30000
  unfold textR
  split
  · rename_i h
    have hb := okTitleB_bd h
    have h0 := isName_len hb.2.1
    have h1 := decS_size (n := a) (by have := hb.1; dsimp only at this; omega)
    have h2 := decS_size (n := c) (by have := hb.2.2.1; dsimp only at this; omega)
    have h3 := decS_size (n := d) (by have := hb.2.2.1; have := hb.2.2.2; dsimp only at *; omega)
    dsimp only at h0
    unfold titleS
    simp only [ByteArray.size_append]
    have e1 : (⟨#[110, 111, 32]⟩ : ByteArray).size = 3 := rfl
    have e2 : (⟨#[32]⟩ : ByteArray).size = 1 := rfl
    have e3 : (⟨#[32, 103, 108, 97, 115, 115, 101, 115, 32]⟩ : ByteArray).size = 9 := rfl
    have e4 : (⟨#[32, 98, 114, 111, 107, 101, 110, 32]⟩ : ByteArray).size = 8 := rfl
    omega
  · decide
theorem wwS_size {x : TEntry} (h : okEntryB x = true) : (wwS x).size ≤ 30000 := by
  obtain ⟨a, b, c⟩ := x
  obtain ⟨⟨a1, a2⟩, bn, c1, c2⟩ := okEntryB_bd h
  have h0 := name_size bn
  have h1 := decS_size (n := a) (by omega)
  have h2 := decS_size (n := c) (by omega)
  show (wordsS a b c).size ≤ 30000
  unfold wordsS
  simp only [ByteArray.size_append]
  have e2 : (⟨#[32]⟩ : ByteArray).size = 1 := rfl
  omega
theorem list_small {L : List ByteArray} (h1 : L.length ≤ 4000) (h : ∀ x ∈ L, x.size ≤ 30000) : SmallL (L ++ [okS L.length]) := by
  refine ⟨by rw [List.length_append, List.length_singleton]; omega, fun x hx => ?_⟩
  rcases List.mem_append.1 hx with hx | hx
  · exact h x hx
  · rw [List.mem_singleton.1 hx]
    exact Nat.le_trans (okS_size (by omega)) (by decide)
theorem exec_small {d : TDk} (h : okD d = true) (ws : List ByteArray) (ns : List Int) : SmallL (execR d ws ns).2.1 := by
  unfold execR execK
  split
  · exact or_small (nums_small (seenR_len _ _) (seenR_mem _ _))
  · unfold discX
    split
    · exact or_small (textD_size _ _ _ _)
    · exact small_nil
  · exact or_small (Nat.le_trans (motR_size _ _) (by decide))
  · exact or_small (dec_small (by dsimp only; have := fewR_bd (ws.getD 1 ⟨#[]⟩); omega))
  · exact or_small (Nat.le_trans (dforR_size _ _) (by decide))
  · exact or_small (Nat.le_trans (fracT_size _ _) (by decide))
  · unfold cueX
    split
    · exact or_small (textD_size _ _ _ _)
    · exact small_nil
  · exact or_small (nums_small (Nat.le_trans (leastR_sh _ _).1 (by decide)) fun x hx => by have := (leastR_sh _ _).2 x hx; omega)
  · exact or_small (dec_small (by dsimp only; have := loadR_bd (ws.getD 1 ⟨#[]⟩) (ns.getD 0 0); omega))
  · exact or_small (Nat.le_trans (lampR_size _ _ _ _) (by decide))
  · unfold titleX
    split
    · unfold titleG
      split
      · exact or_small (textD_size _ _ _ _)
      · exact small_nil
    · exact small_nil
  · refine list_small ?_ ?_
    · rw [List.length_map]
      have := (okD_bd h).2.2.1
      omega
    · intro x hx
      obtain ⟨y, -, rfl⟩ := List.mem_map.1 hx
      exact ttS_size y
  · unfold enterX enterG
    split
    · exact or_small (dec_small (sumI_bd _))
    · exact small_nil
  · refine list_small ?_ ?_
    · rw [List.length_map]
      have := (okD_bd h).2.2.2
      have := readL_len d.2.2.2
      omega
    · intro x hx
      obtain ⟨y, hy, rfl⟩ := List.mem_map.1 hx
      exact wwS_size (readL_ok _ y hy)
  · exact small_nil
theorem errS_small (c : Int) : SmallL [errS c] := small_one (by
  have := codeS_size c
  unfold errS
  rw [ByteArray.size_append]
  have e : (⟨#[101, 114, 114, 111, 114, 32]⟩ : ByteArray).size = 6 := rfl
  omega)
theorem cmd_small (d : TDk) (line : ByteArray) : SmallL (cmdR d line).2.1 := by
  unfold cmdR cmdW
  split
  · rename_i h
    split
    · split
      · unfold numG
        split
        · exact errS_small _
        · unfold doneG
          split
          · exact exec_small h _ _
          · exact errS_small _
      · exact small_nil
    · exact small_nil
  · exact small_nil
end Go.Proofs.YtgcodjkjdfahdaaGreatDoor
