/- Lemmas for the claim (the walks of its functions and their plain laws), joined. No condition. -/
import Derived.Test.YtgcodjkjdfahdaaGreatDoorJ39
import Derived.Test.YtgcodjkjdfahdaaGreatDoorJ30
import Derived.Test.YtgcodjkjdfahdaaGreatDoorJ36
import Derived.Test.YtgcodjkjdfahdaaGreatDoorJ37
import Derived.Test.YtgcodjkjdfahdaaGreatDoorJ1
import Derived.Test.YtgcodjkjdfahdaaGreatDoorJ4
namespace Go.Proofs.YtgcodjkjdfahdaaGreatDoor
open Go Go.RowKit
set_option linter.unusedSimpArgs false
set_option linter.unusedVariables false
def dWords : List ByteArray := [⟨#[98, 117, 114, 110]⟩, ⟨#[99, 117, 101]⟩, ⟨#[100, 105, 115, 99]⟩, ⟨#[101, 110, 116, 101, 114]⟩, ⟨#[102, 101, 119, 101, 115, 116]⟩, ⟨#[102, 111, 114]⟩, ⟨#[105, 109, 97, 103, 101]⟩, ⟨#[108, 111, 97, 100, 115]⟩, ⟨#[108, 111, 103]⟩, ⟨#[115, 101, 101, 110]⟩, ⟨#[115, 104, 105, 102, 116, 115]⟩, ⟨#[115, 104, 111, 119, 115]⟩, ⟨#[116, 105, 116, 108, 101]⟩, ⟨#[116, 105, 116, 108, 101, 115]⟩]
def rdN (s : ByteArray) : Option Int := numS s.data.toList
def numsTo (sh : List UInt8) (ws : List ByteArray) : Nat → Option (List Int)
  | 0 => some []
  | k + 1 => match numsTo sh ws k with
    | none => none
    | some l => if sh.getD k 0 = 110 then (match rdN (ws.getD (k + 1) ⟨#[]⟩) with | none => none | some n => some (l ++ [n])) else some l
theorem numsTo_bad {sh : List UInt8} {ws : List ByteArray} {k : Nat} (h : numsTo sh ws k = none) : ∀ m, numsTo sh ws (k + m) = none
  | 0 => h
  | m + 1 => by
    show (match numsTo sh ws (k + m) with | none => none | some l => _) = none
    rw [numsTo_bad h m]
theorem numsTo_word {sh : List UInt8} {ws : List ByteArray} {k : Nat} {l : List Int} (h : numsTo sh ws k = some l) (hs : ¬ sh.getD k 0 = 110) : numsTo sh ws (k + 1) = some l := by
  show (match numsTo sh ws k with | none => none | some l => _) = _
  rw [h]
  exact if_neg hs
theorem numsTo_no {sh : List UInt8} {ws : List ByteArray} {k : Nat} {l : List Int} (h : numsTo sh ws k = some l) (hs : sh.getD k 0 = 110) (hr : rdN (ws.getD (k + 1) ⟨#[]⟩) = none) : numsTo sh ws (k + 1) = none := by
  show (match numsTo sh ws k with | none => none | some l => _) = _
  rw [h]
  show (if sh.getD k 0 = 110 then _ else _) = _
  rw [if_pos hs, hr]
theorem numsTo_yes {sh : List UInt8} {ws : List ByteArray} {k : Nat} {l : List Int} {n : Int} (h : numsTo sh ws k = some l) (hs : sh.getD k 0 = 110) (hr : rdN (ws.getD (k + 1) ⟨#[]⟩) = some n) : numsTo sh ws (k + 1) = some (l ++ [n]) := by
  show (match numsTo sh ws k with | none => none | some l => _) = _
  rw [h]
  show (if sh.getD k 0 = 110 then _ else _) = _
  rw [if_pos hs, hr]
theorem numsTo_len {sh : List UInt8} {ws : List ByteArray} : ∀ {k : Nat} {l : List Int}, numsTo sh ws k = some l → l.length ≤ k
  | 0, l, h => by
    have : l = [] := (Option.some.inj h).symm
    subst this
    exact Nat.le_refl _
  | k + 1, l, h => by
    rcases h1 : numsTo sh ws k with _ | l1
    · have := numsTo_bad h1 1
      rw [this] at h
      cases h
    · have ih := numsTo_len h1
      by_cases hs : sh.getD k 0 = 110
      · rcases hr : rdN (ws.getD (k + 1) ⟨#[]⟩) with _ | n
        · rw [numsTo_no h1 hs hr] at h; cases h
        · rw [numsTo_yes h1 hs hr] at h
          have := (Option.some.inj h).symm
          subst this
          rw [List.length_append]
          exact Nat.succ_le_succ ih
      · rw [numsTo_word h1 hs] at h
        have := (Option.some.inj h).symm
        subst this
        exact Nat.le_succ_of_le ih
def titleW : ByteArray := ⟨#[116, 105, 116, 108, 101]⟩
def fitN (w0 : ByteArray) (n : Nat) : Bool := if w0 = titleW then decide (2 ≤ n) else decide (n = (shapeS w0).size + 1)
def errS (c : Int) : ByteArray := ⟨#[101, 114, 114, 111, 114, 32]⟩ ++ codeS c
def zD : TDk := (⟨#[]⟩, [], [], ⟨#[]⟩)
def doneG (d : TDk) (r : TRes) : TRes := if r.2.2 = 0 then (r.1, r.2.1, 0) else (d, [errS r.2.2], 0)
def numG (d : TDk) (ws : List ByteArray) (r : Option (List Int)) : TRes := match r with
  | none => (d, [errS 7], 0)
  | some ns => doneG d (execR d ws ns)
def cmdW (d : TDk) (ws : List ByteArray) (w0 : ByteArray) : TRes :=
  if okD d = true then
    if Lib.containsS dWords w0 = true then
      if fitN w0 ws.length = true then numG d ws (numsTo (shapeS w0).data.toList ws (shapeS w0).size) else (zD, [], 7)
    else (zD, [], 7)
  else (zD, [], 1)
def cmdR (d : TDk) (line : ByteArray) : TRes := cmdW d (partsB 32 line) ((partsB 32 line).getD 0 ⟨#[]⟩)
theorem shape_title : shapeS titleW = ⟨#[]⟩ := by unfold shapeS titleW; simp
theorem shape_titles : shapeS ⟨#[116, 105, 116, 108, 101, 115]⟩ = ⟨#[]⟩ := by unfold shapeS; simp
theorem shape_log : shapeS ⟨#[108, 111, 103]⟩ = ⟨#[]⟩ := by unfold shapeS; simp
theorem list_cons {α : Type} {r : List α} {n : Nat} (h : r.length = n + 1) : ∃ a t, r = a :: t ∧ t.length = n := by
  rcases r with _ | ⟨a, t⟩
  · cases h
  · exact ⟨a, t, rfl, Nat.succ.inj h⟩
theorem list_nil {α : Type} {r : List α} (h : r.length = 0) : r = [] := List.eq_nil_of_length_eq_zero h
set_option maxRecDepth 100000 in
theorem fits_of {w0 : ByteArray} {r : List ByteArray} {ns : List Int} (hm : w0 ∈ dWords) (hf : fitN w0 (r.length + 1) = true) (hn : numsTo (shapeS w0).data.toList (w0 :: r) (shapeS w0).size = some ns) : fitsB (w0 :: r) ns := by
  unfold dWords at hm
  simp only [List.mem_cons, List.not_mem_nil, or_false] at hm
  unfold fitsB
  rcases hm with rfl | rfl | rfl | rfl | rfl | rfl | rfl | rfl | rfl | rfl | rfl | rfl | rfl | rfl
  · unfold fitN at hf
    rw [if_neg (by unfold titleW; simp), shapeS_burn] at hf
    rw [shapeS_burn] at hn
    have h4 : r.length + 1 = 4 + 1 := of_decide_eq_true hf
    obtain ⟨s1, t1, rfl, l1⟩ := list_cons (Nat.succ.inj h4)
    obtain ⟨s2, t2, rfl, l2⟩ := list_cons l1
    obtain ⟨s3, t3, rfl, l3⟩ := list_cons l2
    obtain ⟨s4, t4, rfl, l4⟩ := list_cons l3
    obtain rfl := list_nil l4
    have e0 : numsTo [(110 : UInt8), (110 : UInt8), (110 : UInt8), (110 : UInt8)] [(⟨#[98, 117, 114, 110]⟩ : ByteArray), s1, s2, s3, s4] 0 = some [] := rfl
    have hn2 : numsTo [(110 : UInt8), (110 : UInt8), (110 : UInt8), (110 : UInt8)] [(⟨#[98, 117, 114, 110]⟩ : ByteArray), s1, s2, s3, s4] 4 = some ns := hn
    rcases q1 : rdN s1 with _ | n1
    · have := numsTo_bad (numsTo_no e0 rfl q1) 3
      cases hn2.symm.trans this
    have e1 := numsTo_yes e0 rfl q1
    rcases q2 : rdN s2 with _ | n2
    · have := numsTo_bad (numsTo_no e1 rfl q2) 2
      cases hn2.symm.trans this
    have e2 := numsTo_yes e1 rfl q2
    rcases q3 : rdN s3 with _ | n3
    · have := numsTo_bad (numsTo_no e2 rfl q3) 1
      cases hn2.symm.trans this
    have e3 := numsTo_yes e2 rfl q3
    rcases q4 : rdN s4 with _ | n4
    · have := numsTo_bad (numsTo_no e3 rfl q4) 0
      cases hn2.symm.trans this
    have e4 := numsTo_yes e3 rfl q4
    have h3 := Option.some.inj (e4.symm.trans hn2)
    refine .inr ?_; refine .inr ?_; refine .inr ?_; refine .inr ?_; refine .inr ?_; refine .inr ?_; refine .inr ?_; refine .inr ?_; refine .inr ?_; refine .inl ?_; exact ⟨s1, s2, s3, s4, n1, n2, n3, n4, rfl, h3.symm⟩
  · unfold fitN at hf
    rw [if_neg (by unfold titleW; simp), shapeS_cue] at hf
    rw [shapeS_cue] at hn
    have h4 : r.length + 1 = 4 + 1 := of_decide_eq_true hf
    obtain ⟨s1, t1, rfl, l1⟩ := list_cons (Nat.succ.inj h4)
    obtain ⟨s2, t2, rfl, l2⟩ := list_cons l1
    obtain ⟨s3, t3, rfl, l3⟩ := list_cons l2
    obtain ⟨s4, t4, rfl, l4⟩ := list_cons l3
    obtain rfl := list_nil l4
    have e0 : numsTo [(110 : UInt8), (110 : UInt8), (110 : UInt8), (110 : UInt8)] [(⟨#[99, 117, 101]⟩ : ByteArray), s1, s2, s3, s4] 0 = some [] := rfl
    have hn2 : numsTo [(110 : UInt8), (110 : UInt8), (110 : UInt8), (110 : UInt8)] [(⟨#[99, 117, 101]⟩ : ByteArray), s1, s2, s3, s4] 4 = some ns := hn
    rcases q1 : rdN s1 with _ | n1
    · have := numsTo_bad (numsTo_no e0 rfl q1) 3
      cases hn2.symm.trans this
    have e1 := numsTo_yes e0 rfl q1
    rcases q2 : rdN s2 with _ | n2
    · have := numsTo_bad (numsTo_no e1 rfl q2) 2
      cases hn2.symm.trans this
    have e2 := numsTo_yes e1 rfl q2
    rcases q3 : rdN s3 with _ | n3
    · have := numsTo_bad (numsTo_no e2 rfl q3) 1
      cases hn2.symm.trans this
    have e3 := numsTo_yes e2 rfl q3
    rcases q4 : rdN s4 with _ | n4
    · have := numsTo_bad (numsTo_no e3 rfl q4) 0
      cases hn2.symm.trans this
    have e4 := numsTo_yes e3 rfl q4
    have h3 := Option.some.inj (e4.symm.trans hn2)
    refine .inr ?_; refine .inr ?_; refine .inr ?_; refine .inr ?_; refine .inr ?_; refine .inr ?_; refine .inl ?_; exact ⟨s1, s2, s3, s4, n1, n2, n3, n4, rfl, h3.symm⟩
  · unfold fitN at hf
    rw [if_neg (by unfold titleW; simp), shapeS_disc] at hf
    rw [shapeS_disc] at hn
    have h4 : r.length + 1 = 1 + 1 := of_decide_eq_true hf
    obtain ⟨s1, t1, rfl, l1⟩ := list_cons (Nat.succ.inj h4)
    obtain rfl := list_nil l1
    have e0 : numsTo [(119 : UInt8)] [(⟨#[100, 105, 115, 99]⟩ : ByteArray), s1] 0 = some [] := rfl
    have hn2 : numsTo [(119 : UInt8)] [(⟨#[100, 105, 115, 99]⟩ : ByteArray), s1] 1 = some ns := hn
    have e1 := numsTo_word e0 (by decide)
    have h3 := Option.some.inj (e1.symm.trans hn2)
    refine .inr ?_; refine .inl ?_; exact ⟨s1, rfl, h3.symm⟩
  · unfold fitN at hf
    rw [if_neg (by unfold titleW; simp), shapeS_enter] at hf
    rw [shapeS_enter] at hn
    have h4 : r.length + 1 = 3 + 1 := of_decide_eq_true hf
    obtain ⟨s1, t1, rfl, l1⟩ := list_cons (Nat.succ.inj h4)
    obtain ⟨s2, t2, rfl, l2⟩ := list_cons l1
    obtain ⟨s3, t3, rfl, l3⟩ := list_cons l2
    obtain rfl := list_nil l3
    have e0 : numsTo [(110 : UInt8), (119 : UInt8), (110 : UInt8)] [(⟨#[101, 110, 116, 101, 114]⟩ : ByteArray), s1, s2, s3] 0 = some [] := rfl
    have hn2 : numsTo [(110 : UInt8), (119 : UInt8), (110 : UInt8)] [(⟨#[101, 110, 116, 101, 114]⟩ : ByteArray), s1, s2, s3] 3 = some ns := hn
    rcases q1 : rdN s1 with _ | n1
    · have := numsTo_bad (numsTo_no e0 rfl q1) 2
      cases hn2.symm.trans this
    have e1 := numsTo_yes e0 rfl q1
    have e2 := numsTo_word e1 (by decide)
    rcases q3 : rdN s3 with _ | n3
    · have := numsTo_bad (numsTo_no e2 rfl q3) 0
      cases hn2.symm.trans this
    have e3 := numsTo_yes e2 rfl q3
    have h3 := Option.some.inj (e3.symm.trans hn2)
    refine .inr ?_; refine .inr ?_; refine .inr ?_; refine .inr ?_; refine .inr ?_; refine .inr ?_; refine .inr ?_; refine .inr ?_; refine .inr ?_; refine .inr ?_; refine .inr ?_; refine .inr ?_; refine .inl ?_; exact ⟨s1, s2, s3, n1, n3, rfl, h3.symm⟩
  · unfold fitN at hf
    rw [if_neg (by unfold titleW; simp), shapeS_fewest] at hf
    rw [shapeS_fewest] at hn
    have h4 : r.length + 1 = 1 + 1 := of_decide_eq_true hf
    obtain ⟨s1, t1, rfl, l1⟩ := list_cons (Nat.succ.inj h4)
    obtain rfl := list_nil l1
    have e0 : numsTo [(119 : UInt8)] [(⟨#[102, 101, 119, 101, 115, 116]⟩ : ByteArray), s1] 0 = some [] := rfl
    have hn2 : numsTo [(119 : UInt8)] [(⟨#[102, 101, 119, 101, 115, 116]⟩ : ByteArray), s1] 1 = some ns := hn
    have e1 := numsTo_word e0 (by decide)
    have h3 := Option.some.inj (e1.symm.trans hn2)
    refine .inr ?_; refine .inr ?_; refine .inr ?_; refine .inl ?_; exact ⟨s1, rfl, h3.symm⟩
  · unfold fitN at hf
    rw [if_neg (by unfold titleW; simp), shapeS_for] at hf
    rw [shapeS_for] at hn
    have h4 : r.length + 1 = 2 + 1 := of_decide_eq_true hf
    obtain ⟨s1, t1, rfl, l1⟩ := list_cons (Nat.succ.inj h4)
    obtain ⟨s2, t2, rfl, l2⟩ := list_cons l1
    obtain rfl := list_nil l2
    have e0 : numsTo [(119 : UInt8), (110 : UInt8)] [(⟨#[102, 111, 114]⟩ : ByteArray), s1, s2] 0 = some [] := rfl
    have hn2 : numsTo [(119 : UInt8), (110 : UInt8)] [(⟨#[102, 111, 114]⟩ : ByteArray), s1, s2] 2 = some ns := hn
    have e1 := numsTo_word e0 (by decide)
    rcases q2 : rdN s2 with _ | n2
    · have := numsTo_bad (numsTo_no e1 rfl q2) 0
      cases hn2.symm.trans this
    have e2 := numsTo_yes e1 rfl q2
    have h3 := Option.some.inj (e2.symm.trans hn2)
    refine .inr ?_; refine .inr ?_; refine .inr ?_; refine .inr ?_; refine .inl ?_; exact ⟨s1, s2, n2, rfl, h3.symm⟩
  · unfold fitN at hf
    rw [if_neg (by unfold titleW; simp), shapeS_image] at hf
    rw [shapeS_image] at hn
    have h4 : r.length + 1 = 2 + 1 := of_decide_eq_true hf
    obtain ⟨s1, t1, rfl, l1⟩ := list_cons (Nat.succ.inj h4)
    obtain ⟨s2, t2, rfl, l2⟩ := list_cons l1
    obtain rfl := list_nil l2
    have e0 : numsTo [(110 : UInt8), (110 : UInt8)] [(⟨#[105, 109, 97, 103, 101]⟩ : ByteArray), s1, s2] 0 = some [] := rfl
    have hn2 : numsTo [(110 : UInt8), (110 : UInt8)] [(⟨#[105, 109, 97, 103, 101]⟩ : ByteArray), s1, s2] 2 = some ns := hn
    rcases q1 : rdN s1 with _ | n1
    · have := numsTo_bad (numsTo_no e0 rfl q1) 1
      cases hn2.symm.trans this
    have e1 := numsTo_yes e0 rfl q1
    rcases q2 : rdN s2 with _ | n2
    · have := numsTo_bad (numsTo_no e1 rfl q2) 0
      cases hn2.symm.trans this
    have e2 := numsTo_yes e1 rfl q2
    have h3 := Option.some.inj (e2.symm.trans hn2)
    refine .inr ?_; refine .inr ?_; refine .inr ?_; refine .inr ?_; refine .inr ?_; refine .inl ?_; exact ⟨s1, s2, n1, n2, rfl, h3.symm⟩
  · unfold fitN at hf
    rw [if_neg (by unfold titleW; simp), shapeS_loads] at hf
    rw [shapeS_loads] at hn
    have h4 : r.length + 1 = 2 + 1 := of_decide_eq_true hf
    obtain ⟨s1, t1, rfl, l1⟩ := list_cons (Nat.succ.inj h4)
    obtain ⟨s2, t2, rfl, l2⟩ := list_cons l1
    obtain rfl := list_nil l2
    have e0 : numsTo [(119 : UInt8), (110 : UInt8)] [(⟨#[108, 111, 97, 100, 115]⟩ : ByteArray), s1, s2] 0 = some [] := rfl
    have hn2 : numsTo [(119 : UInt8), (110 : UInt8)] [(⟨#[108, 111, 97, 100, 115]⟩ : ByteArray), s1, s2] 2 = some ns := hn
    have e1 := numsTo_word e0 (by decide)
    rcases q2 : rdN s2 with _ | n2
    · have := numsTo_bad (numsTo_no e1 rfl q2) 0
      cases hn2.symm.trans this
    have e2 := numsTo_yes e1 rfl q2
    have h3 := Option.some.inj (e2.symm.trans hn2)
    refine .inr ?_; refine .inr ?_; refine .inr ?_; refine .inr ?_; refine .inr ?_; refine .inr ?_; refine .inr ?_; refine .inr ?_; refine .inl ?_; exact ⟨s1, s2, n2, rfl, h3.symm⟩
  · unfold fitN at hf
    rw [if_neg (by unfold titleW; simp), shape_log] at hf
    rw [shape_log] at hn
    have h4 : r.length + 1 = 0 + 1 := of_decide_eq_true hf
    obtain rfl := list_nil (Nat.succ.inj h4)
    have e0 : numsTo [] [(⟨#[108, 111, 103]⟩ : ByteArray)] 0 = some [] := rfl
    have hn2 : numsTo [] [(⟨#[108, 111, 103]⟩ : ByteArray)] 0 = some ns := hn
    have h3 := Option.some.inj (e0.symm.trans hn2)
    refine .inr ?_; refine .inr ?_; refine .inr ?_; refine .inr ?_; refine .inr ?_; refine .inr ?_; refine .inr ?_; refine .inr ?_; refine .inr ?_; refine .inr ?_; refine .inr ?_; refine .inr ?_; refine .inr ?_; exact ⟨rfl, h3.symm⟩
  · unfold fitN at hf
    rw [if_neg (by unfold titleW; simp), shapeS_seen] at hf
    rw [shapeS_seen] at hn
    have h4 : r.length + 1 = 2 + 1 := of_decide_eq_true hf
    obtain ⟨s1, t1, rfl, l1⟩ := list_cons (Nat.succ.inj h4)
    obtain ⟨s2, t2, rfl, l2⟩ := list_cons l1
    obtain rfl := list_nil l2
    have e0 : numsTo [(110 : UInt8), (110 : UInt8)] [(⟨#[115, 101, 101, 110]⟩ : ByteArray), s1, s2] 0 = some [] := rfl
    have hn2 : numsTo [(110 : UInt8), (110 : UInt8)] [(⟨#[115, 101, 101, 110]⟩ : ByteArray), s1, s2] 2 = some ns := hn
    rcases q1 : rdN s1 with _ | n1
    · have := numsTo_bad (numsTo_no e0 rfl q1) 1
      cases hn2.symm.trans this
    have e1 := numsTo_yes e0 rfl q1
    rcases q2 : rdN s2 with _ | n2
    · have := numsTo_bad (numsTo_no e1 rfl q2) 0
      cases hn2.symm.trans this
    have e2 := numsTo_yes e1 rfl q2
    have h3 := Option.some.inj (e2.symm.trans hn2)
    refine .inl ?_; exact ⟨s1, s2, n1, n2, rfl, h3.symm⟩
  · unfold fitN at hf
    rw [if_neg (by unfold titleW; simp), shapeS_shifts] at hf
    rw [shapeS_shifts] at hn
    have h4 : r.length + 1 = 1 + 1 := of_decide_eq_true hf
    obtain ⟨s1, t1, rfl, l1⟩ := list_cons (Nat.succ.inj h4)
    obtain rfl := list_nil l1
    have e0 : numsTo [(110 : UInt8)] [(⟨#[115, 104, 105, 102, 116, 115]⟩ : ByteArray), s1] 0 = some [] := rfl
    have hn2 : numsTo [(110 : UInt8)] [(⟨#[115, 104, 105, 102, 116, 115]⟩ : ByteArray), s1] 1 = some ns := hn
    rcases q1 : rdN s1 with _ | n1
    · have := numsTo_bad (numsTo_no e0 rfl q1) 0
      cases hn2.symm.trans this
    have e1 := numsTo_yes e0 rfl q1
    have h3 := Option.some.inj (e1.symm.trans hn2)
    refine .inr ?_; refine .inr ?_; refine .inr ?_; refine .inr ?_; refine .inr ?_; refine .inr ?_; refine .inr ?_; refine .inl ?_; exact ⟨s1, n1, rfl, h3.symm⟩
  · unfold fitN at hf
    rw [if_neg (by unfold titleW; simp), shapeS_shows] at hf
    rw [shapeS_shows] at hn
    have h4 : r.length + 1 = 1 + 1 := of_decide_eq_true hf
    obtain ⟨s1, t1, rfl, l1⟩ := list_cons (Nat.succ.inj h4)
    obtain rfl := list_nil l1
    have e0 : numsTo [(110 : UInt8)] [(⟨#[115, 104, 111, 119, 115]⟩ : ByteArray), s1] 0 = some [] := rfl
    have hn2 : numsTo [(110 : UInt8)] [(⟨#[115, 104, 111, 119, 115]⟩ : ByteArray), s1] 1 = some ns := hn
    rcases q1 : rdN s1 with _ | n1
    · have := numsTo_bad (numsTo_no e0 rfl q1) 0
      cases hn2.symm.trans this
    have e1 := numsTo_yes e0 rfl q1
    have h3 := Option.some.inj (e1.symm.trans hn2)
    refine .inr ?_; refine .inr ?_; refine .inl ?_; exact ⟨s1, n1, rfl, h3.symm⟩
  · have h1 : fitN titleW (r.length + 1) = true := hf
    unfold fitN at h1
    rw [if_pos rfl] at h1
    have h2 : numsTo (shapeS titleW).data.toList _ (shapeS titleW).size = some ns := hn
    rw [shape_title] at h2
    have h3 : [] = ns := Option.some.inj h2
    have h4 := of_decide_eq_true h1
    refine .inr ?_; refine .inr ?_; refine .inr ?_; refine .inr ?_; refine .inr ?_; refine .inr ?_; refine .inr ?_; refine .inr ?_; refine .inr ?_; refine .inr ?_; refine .inl ?_; exact ⟨r, rfl, by omega, h3.symm⟩
  · unfold fitN at hf
    rw [if_neg (by unfold titleW; simp), shape_titles] at hf
    rw [shape_titles] at hn
    have h4 : r.length + 1 = 0 + 1 := of_decide_eq_true hf
    obtain rfl := list_nil (Nat.succ.inj h4)
    have e0 : numsTo [] [(⟨#[116, 105, 116, 108, 101, 115]⟩ : ByteArray)] 0 = some [] := rfl
    have hn2 : numsTo [] [(⟨#[116, 105, 116, 108, 101, 115]⟩ : ByteArray)] 0 = some ns := hn
    have h3 := Option.some.inj (e0.symm.trans hn2)
    refine .inr ?_; refine .inr ?_; refine .inr ?_; refine .inr ?_; refine .inr ?_; refine .inr ?_; refine .inr ?_; refine .inr ?_; refine .inr ?_; refine .inr ?_; refine .inr ?_; refine .inl ?_; exact ⟨rfl, h3.symm⟩
end Go.Proofs.YtgcodjkjdfahdaaGreatDoor

namespace Go.Proofs.YtgcodjkjdfahdaaGreatDoor
open Go Go.RowKit
set_option linter.unusedSimpArgs false
set_option linter.unusedVariables false
theorem okD_parts {d : TDk} : okD d = true ↔ okMotB d.1 = true ∧ okCues d.2.1 = true ∧ okTitles d.2.2.1 = true ∧ lc d.2.2.2 = 0 := by
  unfold okD okDeskB
  simp only [Bool.and_eq_true, decide_eq_true_eq]
theorem lineAt_has {s : ByteArray} {at_ : Nat} {line : ByteArray} (h : lineAt s at_ = some line) : ∃ r, s.data.toList.drop at_ = line.data.toList ++ 10 :: r ∧ (10 : UInt8) ∉ line.data.toList := by
  unfold lineAt at h
  rcases cut_cases (s.data.toList.drop at_) 10 with ⟨-, e⟩ | ⟨a, r, hl, ha, e⟩
  · rw [e] at h; cases h
  · rw [e] at h
    rw [if_pos rfl] at h
    injection h with h
    subst h
    exact ⟨r, by rw [pmk_list]; exact hl, by rw [pmk_list]; exact ha⟩
theorem lineAt_more {s t : ByteArray} {at_ : Nat} {line : ByteArray} (h : lineAt s at_ = some line) : lineAt (s ++ t) at_ = some line := by
  obtain ⟨r, h1, h2⟩ := lineAt_has h
  have hle : at_ ≤ s.data.toList.length := by
    by_cases hh : at_ ≤ s.data.toList.length
    · exact hh
    · rw [List.drop_of_length_le (by omega)] at h1
      exact absurd (congrArg List.length h1) (by simp)
  have h3 : (s ++ t).data.toList.drop at_ = line.data.toList ++ 10 :: (r ++ t.data.toList) := by
    rw [toList_append, List.drop_append_of_le_length hle, h1, List.append_assoc]
    rfl
  exact lineAt_bare h3 h2
theorem nextL_more {s t : ByteArray} {T T' : LS} (h : nextL s T = some T') : nextL (s ++ t) T = some T' := by
  unfold nextL at h ⊢
  rcases hl : lineAt s T.at_ with _ | line
  · rw [hl] at h; cases h
  · rw [lineAt_more hl]
    rw [hl] at h
    exact h
theorem way_more {s t : ByteArray} : ∀ n T, OnWay (s ++ t) T → OnWay (s ++ t) (runL s n T)
  | 0, T, h => h
  | n + 1, T, h => by
    rcases hx : nextL s T with _ | T'
    · rw [runL_none hx]; exact h
    · rw [runL_some hx]
      exact way_more n T' (onWay_next h (nextL_more hx))
theorem read_more {s : ByteArray} (h : lc s = 0) {x : TEntry} (hx : okEntryB x = true) (hd : dayOf (readL s).l ≤ x.1) :
    readL (s ++ lineS (stampN (readL s).st (wordsE x)) x) = ⟨(s ++ lineS (stampN (readL s).st (wordsE x)) x).size, stampN (readL s).st (wordsE x), (readL s).l ++ [x]⟩ := by
  have hat : (readL s).at_ = s.size := by
    unfold lc at h
    split at h
    · split at h
      · assumption
      · cases h
    · cases h
  have hst := stampN_bd (readL s).st (wordsE x)
  obtain ⟨st, est⟩ : ∃ st, stampN (readL s).st (wordsE x) = st := ⟨_, rfl⟩
  rw [est] at hst ⊢
  obtain ⟨t, et⟩ : ∃ t, lineS st x = t := ⟨_, rfl⟩
  have hb : t.data.toList = bareL st x ++ [10] := by rw [← et]; exact lineS_bare st x
  rw [et]
  have hw : OnWay (s ++ t) (readL s) := way_more (s.size + 1) startL (onWay_start _)
  have hdr : (s ++ t).data.toList.drop (readL s).at_ = bareL st x ++ 10 :: [] := by
    rw [hat, toList_append, ← size_list, List.drop_left, hb]
  have hl := lineAt_bare hdr (bare_no10 hst hx)
  have hr := rdLine_bare hst hx
  have hg : goodE (readL s) (rdLine ⟨(bareL st x).toArray⟩) = true := by
    rw [hr]
    unfold goodE
    show (true && (decide (dayOf (readL s).l ≤ x.1) && decide (stampN (readL s).st (wordsE x) = st))) = true
    rw [est, decide_eq_true hd, decide_eq_true rfl]
    rfl
  have hn := nextL_good hl hg
  rw [hr] at hn
  have hsz : (readL s).at_ + (⟨(bareL st x).toArray⟩ : ByteArray).size + 1 = (s ++ t).size := by
    rw [hat, ByteArray.size_append, ← size_list t, hb, List.length_append]
    show s.size + (bareL st x).toArray.size + 1 = _
    simp
    omega
  rw [hsz] at hn
  refine onWay_end (onWay_next hw hn) (nextL_none (lineAt_no ?_))
  show (10 : UInt8) ∉ (s ++ t).data.toList.drop (s ++ t).size
  rw [List.drop_of_length_le (by rw [size_list]; exact Nat.le_refl _)]
  simp
theorem addR_lc {s : ByteArray} {x : TEntry} (h0 : (addR s x).2 = 0) : lc (addR s x).1 = 0 ∧ lc s = 0 ∧ okEntryB x = true ∧ (readL (addR s x).1).l = (readL s).l ++ [x] := by
  have hz := addR_size h0
  unfold addR at h0 hz ⊢
  by_cases h : lc s = 0
  · rw [if_pos h] at h0 hz ⊢
    unfold addG at h0 hz ⊢
    by_cases h1 : okEntryB x = true
    · rw [if_pos h1] at h0 hz ⊢
      by_cases h2 : dayOf (readL s).l ≤ x.1
      · rw [if_pos h2] at h0 hz ⊢
        by_cases h3 : (s ++ lineS (stampN (readL s).st (wordsE x)) x).size ≤ 4000
        · rw [if_pos h3] at h0 hz ⊢
          have hr := read_more h h1 h2
          refine ⟨?_, h, h1, by rw [hr]⟩
          unfold lc
          rw [if_pos h3, hr]
          exact if_pos rfl
        · rw [if_neg h3] at h0; cases h0
      · rw [if_neg h2] at h0; cases h0
    · rw [if_neg h1] at h0; cases h0
  · rw [if_neg h] at h0
    exact absurd h0 h
theorem insAt_get {α : Type} (l : List α) (i : Nat) (hi : i ≤ l.length) (x : α) (j : Nat) (hj : j < (insAt l i x).length) : (insAt l i x)[j] = if h : j < i then l[j]'(by omega) else if h2 : j = i then x else l[j - 1]'(by rw [insAt_len x hi] at hj; omega) := by
  have hl := insAt_len x hi
  have e : (l.take i).length = i := by rw [List.length_take]; omega
  apply Option.some.inj
  rw [← List.getElem?_eq_getElem hj]
  unfold insAt
  by_cases h : j < i
  · rw [dif_pos h, List.getElem?_append_left (by rw [e]; exact h), List.getElem?_take, if_pos h, List.getElem?_eq_getElem]
  · rw [dif_neg h, List.getElem?_append_right (by rw [e]; omega), e]
    by_cases h2 : j = i
    · rw [dif_pos h2, h2, Nat.sub_self, List.getElem?_cons_zero]
    · rw [dif_neg h2]
      obtain ⟨m, rfl⟩ : ∃ m, j = i + m + 1 := ⟨j - i - 1, by omega⟩
      rw [show i + m + 1 - i = m + 1 by omega, List.getElem?_cons_succ, List.getElem?_drop, ← List.getElem?_eq_getElem]
      rfl
theorem okTitles_ins {l : List TTitle} {x : TTitle} (h : okTitles l = true) (hx : okTitleB x = true) (hf : foundB l x.1 = false) (hn : ¬ l.length = 20) : okTitles (insAt l (atK l x.1) x) = true := by
  have hk := atK_le l x.1
  have hlen := okTitles_len h
  have hlo : ∀ j (hj : j < l.length), j < atK l x.1 → l[j].1 < x.1 := fun j hj hjk => by
    have := List.not_of_lt_findIdx (p := fun y : TTitle => decide (x.1 ≤ y.1)) (xs := l) (i := j) hjk
    simp at this
    exact this
  have hhi : ∀ hh : atK l x.1 < l.length, x.1 < (l[atK l x.1]'hh).1 := fun hh => by
    have h1 := List.findIdx_getElem (p := fun y : TTitle => decide (x.1 ≤ y.1)) (xs := l) (w := hh)
    have h2 : x.1 ≤ (l[atK l x.1]'hh).1 := of_decide_eq_true h1
    rw [foundB_at rfl hh] at hf
    have h3 : (l[atK l x.1]'hh).1 ≠ x.1 := by simpa using hf
    omega
  generalize atK l x.1 = i at hk hlo hhi
  have hl := insAt_len x hk
  refine okTitles_mk (fun k hkk => ?_) (fun k hkk => ?_) (by omega)
  · rw [insAt_get l i hk x k hkk]
    split
    · exact okTitles_at h k (by omega)
    · split
      · exact hx
      · exact okTitles_at h (k - 1) (by omega)
  · rw [insAt_get l i hk x k (by omega), insAt_get l i hk x (k + 1) hkk]
    by_cases h1 : k + 1 < i
    · rw [dif_pos (by omega), dif_pos h1]
      exact okTitles_lt h k (by omega)
    · rw [dif_neg h1]
      by_cases h2 : k + 1 = i
      · rw [dif_pos (by omega), dif_pos h2]
        exact hlo k (by omega) (by omega)
      · rw [dif_neg h2, dif_neg (show ¬ k < i by omega)]
        by_cases h3 : k = i
        · rw [dif_pos h3]
          subst h3
          exact hhi (by omega)
        · rw [dif_neg h3]
          obtain ⟨m, rfl⟩ : ∃ m, k = m + 1 := ⟨k - 1, by omega⟩
          exact okTitles_lt h m (by omega)
theorem addTR_ok {l : List TTitle} {x : TTitle} (h0 : (addTR l x).2 = 0) : okTitles (addTR l x).1 = true := by
  unfold addTR at h0 ⊢
  by_cases h : okTitles l = true
  · rw [if_pos h] at h0 ⊢
    by_cases h1 : okTitleB x = true
    · rw [if_pos h1] at h0 ⊢
      by_cases h2 : foundB l x.1 = true
      · rw [if_pos h2] at h0; cases h0
      · rw [if_neg h2] at h0 ⊢
        by_cases h3 : l.length = 20
        · rw [if_pos h3] at h0; cases h0
        · rw [if_neg h3]
          exact okTitles_ins h h1 (by simpa using h2) h3
    · rw [if_neg h1] at h0; cases h0
  · rw [if_neg h] at h0; cases h0
def FineR (r : TRes) : Prop := r.2.2 = 0 → okD r.1 = true ∧ 1 ≤ r.2.1.length
theorem fine_one {d : TDk} (h : okD d = true) (s : ByteArray) (c : Int) : FineR (d, [s], c) := fun _ => ⟨h, Nat.le_refl _⟩
theorem fine_bad {d : TDk} {c : Int} (h : c ≠ 0) : FineR (d, [], c) := fun h0 => absurd h0 h
theorem disc_fine {d : TDk} (h : okD d = true) (s : ByteArray) : FineR (discX d s) := by
  unfold discX
  split
  · rename_i h1
    refine fun _ => ⟨okD_parts.2 ⟨h1, (okD_parts.1 h).2⟩, Nat.le_refl _⟩
  · exact fine_bad (by decide)
theorem cue_fine {d : TDk} (h : okD d = true) (x : TCue) : FineR (cueX d x) := by
  unfold cueX
  split
  · rename_i h1
    refine fun _ => ⟨okD_parts.2 ⟨(okD_parts.1 h).1, h1, (okD_parts.1 h).2.2⟩, Nat.le_refl _⟩
  · exact fine_bad (by decide)
theorem title_fine {d : TDk} (h : okD d = true) (s : ByteArray) : FineR (titleX d s) := by
  unfold titleX
  split
  · unfold titleG
    split
    · rename_i h1
      refine fun _ => ⟨okD_parts.2 ⟨(okD_parts.1 h).1, (okD_parts.1 h).2.1, addTR_ok h1, (okD_parts.1 h).2.2.2⟩, Nat.le_refl _⟩
    · rename_i h1
      exact fine_bad h1
  · exact fine_bad (by decide)
theorem enter_fine {d : TDk} (h : okD d = true) (a : Int) (t : ByteArray) (b : Int) : FineR (enterX d a t b) := by
  unfold enterX enterG
  split
  · rename_i h1
    refine fun _ => ⟨okD_parts.2 ⟨(okD_parts.1 h).1, (okD_parts.1 h).2.1, (okD_parts.1 h).2.2.1, (addR_lc h1).1⟩, Nat.le_refl _⟩
  · rename_i h1
    exact fine_bad h1
theorem exec_fine {d : TDk} (h : okD d = true) (ws : List ByteArray) (ns : List Int) : FineR (execR d ws ns) := by
  unfold execR execK
  split
  · exact fine_one h _ _
  · exact disc_fine h _
  · exact fine_one h _ _
  · exact fine_one h _ _
  · exact fine_one h _ _
  · exact fine_one h _ _
  · exact cue_fine h _
  · exact fine_one h _ _
  · exact fine_one h _ _
  · exact fine_one h _ _
  · exact title_fine h _
  · exact fun _ => ⟨h, by simp⟩
  · exact enter_fine h _ _ _
  · exact fun _ => ⟨h, by simp⟩
  · exact fine_bad (by decide)
theorem cmd_fine {d : TDk} (h : okD d = true) (line : ByteArray) : FineR (cmdR d line) := by
  unfold cmdR cmdW
  rw [if_pos h]
  split
  · split
    · unfold numG
      split
      · exact fine_one h _ _
      · rename_i ns _
        have := exec_fine h (partsB 32 line) ns
        unfold doneG
        split
        · rename_i h1
          exact fun _ => this h1
        · exact fine_one h _ _
    · exact fine_bad (by decide)
  · exact fine_bad (by decide)
end Go.Proofs.YtgcodjkjdfahdaaGreatDoor

namespace Go.Proofs.YtgcodjkjdfahdaaGreatDoor
open Go Go.RowKit
set_option linter.unusedSimpArgs false
set_option linter.unusedVariables false
end Go.Proofs.YtgcodjkjdfahdaaGreatDoor

namespace Go.Proofs.YtgcodjkjdfahdaaGreatDoor
open Go Go.RowKit Go.ChangeShapes Go.WideShapes
set_option linter.unusedSimpArgs false
set_option linter.unusedVariables false
theorem DeskAt.of_block {W W' : World} {g : Nat} {p : ByteArray} {v1 v2 : Value} {q : ByteArray} (h : DeskAt W g p v1 v2 q) (hb : W'.heap[g]? = W.heap[g]?) (hs : W.heap.size ≤ W'.heap.size) : DeskAt W' g p v1 v2 q :=
  ⟨Nat.lt_of_lt_of_le h.1 hs, (World.cell?_of_block (w := W) (a := ⟨g, 0, none⟩) hb).trans h.2.1, (World.cell?_of_block (w := W) (a := ⟨g, 1, none⟩) hb).trans h.2.2.1, (World.cell?_of_block (w := W) (a := ⟨g, 2, none⟩) hb).trans h.2.2.2.1, (World.cell?_of_block (w := W) (a := ⟨g, 3, none⟩) hb).trans h.2.2.2.2⟩
theorem ne_of_all {v : Value} {g : Nat} (h : ∀ k, v.ownBlock = some k → k ≠ g) : v.ownBlock = none ∨ v.ownBlock ≠ some g := .inr fun e => h g e rfl
theorem frozen_set4 {W : World} {g : Nat} (F : ∀ i, W.frozen? ⟨g, i, none⟩ = false) (i : Nat) (a b c d : Value) : ((((W.setCell ⟨g, 0, none⟩ a).setCell ⟨g, 1, none⟩ b).setCell ⟨g, 2, none⟩ c).setCell ⟨g, 3, none⟩ d).frozen? ⟨g, i, none⟩ = false := by
  have f := F i
  go_simp
end Go.Proofs.YtgcodjkjdfahdaaGreatDoor

namespace Go.Proofs.YtgcodjkjdfahdaaGreatDoor
open Go Go.RowKit Go.ChangeShapes Go.WideShapes
set_option linter.unusedSimpArgs false
set_option linter.unusedVariables false
structure SAt (W : World) (B g : Nat) (d : TDk) (vo : Value) (L : List ByteArray) : Prop where
  desk : ∃ v1 v2, DeskAt W g d.1 v1 v2 d.2.2.2 ∧ Own W B 92 4 v1 eCue d.2.1 ∧ Own W B 95 4 v2 eTitle d.2.2.1 ∧ (∀ k, v1.ownBlock = some k → k ≠ g) ∧ (∀ k, v2.ownBlock = some k → k ≠ g) ∧ apart v1.ownBlock vo.ownBlock ∧ apart v2.ownBlock vo.ownBlock
  lt : g < W.heap.size
  base : B ≤ g
  fr : ∀ i, W.frozen? ⟨g, i, none⟩ = false
  c4 : W.cell? ⟨g, 4, none⟩ = some vo
  out : Own W B 9 1 vo eS L
  no : ∀ k, vo.ownBlock = some k → k ≠ g
  c5 : ∃ x, W.cell? ⟨g, 5, none⟩ = some x
  c6 : ∃ x, W.cell? ⟨g, 6, none⟩ = some x
theorem cell_blk {W W' : World} {g i : Nat} {v : Value} (hb : W'.heap[g]? = W.heap[g]?) (h : W.cell? ⟨g, i, none⟩ = some v) : W'.cell? ⟨g, i, none⟩ = some v := (World.cell?_of_block (w := W) (a := ⟨g, i, none⟩) hb).trans h
theorem SAt.below {W W' : World} {B g : Nat} {d : TDk} {vo : Value} {L : List ByteArray} (H : SAt W B g d vo L) (hb : Below W.heap.size W W') : SAt W' B g d vo L := by
  obtain ⟨v1, v2, D, O1, O2, r⟩ := H.desk
  obtain ⟨x, hx⟩ := H.c5
  obtain ⟨y, hy⟩ := H.c6
  have hblk := hb.block g H.lt
  exact ⟨⟨v1, v2, D.below hb, O1.below hb (Nat.le_refl _), O2.below hb (Nat.le_refl _), r⟩, Nat.lt_of_lt_of_le H.lt hb.size, H.base, fun i => (hb.frozen (p := ⟨g, i, none⟩) H.lt).trans (H.fr i), cell_blk hblk H.c4, H.out.below hb (Nat.le_refl _), H.no, ⟨x, cell_blk hblk hx⟩, ⟨y, cell_blk hblk hy⟩⟩
def Fr (g : Nat) (vo : Value) (W : World) (vo' : Value) (W' : World) : Prop := TouchL W W' [some g, vo.ownBlock] ∧ (vo'.ownBlock = vo.ownBlock ∨ ∀ k, vo'.ownBlock = some k → W.heap.size ≤ k)
theorem touch_below {W W' : World} (hb : Below W.heap.size W W') (bs : List (Option Nat)) : TouchL W W' bs := ⟨hb.os, hb.tape, hb.output, hb.size, fun k hk _ => hb.block k hk⟩
theorem Fr.refl (g : Nat) (vo : Value) (W : World) : Fr g vo W vo W := ⟨TouchL.refl _ _, .inl rfl⟩
theorem Fr.trans {g : Nat} {vo vo1 vo2 : Value} {W W1 W2 : World} (h : Fr g vo W vo1 W1) (h' : Fr g vo1 W1 vo2 W2) : Fr g vo W vo2 W2 := by
  refine ⟨⟨h'.1.os.trans h.1.os, h'.1.tape.trans h.1.tape, h'.1.output.trans h.1.output, Nat.le_trans h.1.size h'.1.size, fun k hk hn => ?_⟩, ?_⟩
  · refine (h'.1.block k (Nat.lt_of_lt_of_le hk h.1.size) (fun b hb e => ?_)).trans (h.1.block k hk hn)
    simp only [List.mem_cons, List.not_mem_nil, or_false] at hb
    rcases hb with rfl | rfl
    · exact hn (some g) (by simp) e
    · rcases h.2 with q | q
      · exact hn vo.ownBlock (by simp) (q.symm.trans e)
      · have := q k e
        omega
  · rcases h'.2 with q | q
    · rcases h.2 with q2 | q2
      · exact .inl (q.trans q2)
      · exact .inr fun k e => q2 k (q.symm.trans e)
    · exact .inr fun k e => Nat.le_trans h.1.size (q k e)
theorem Fr.of_below {g : Nat} {vo : Value} {W W1 : World} (hb : Below W.heap.size W W1) : Fr g vo W vo W1 := ⟨touch_below hb _, .inl rfl⟩
theorem Fr.pre {g : Nat} {vo vo' : Value} {W W1 W2 : World} (hb : Below W.heap.size W W1) (h : Fr g vo W1 vo' W2) : Fr g vo W vo' W2 := (Fr.of_below hb).trans h
theorem Fr.below {W W' : World} {B g : Nat} {d : TDk} {vo vo' : Value} {L : List ByteArray} (H : SAt W B g d vo L) (h : Fr g vo W vo' W') : Below B W W' :=
  below_touched h.1 (Nat.le_trans H.base (Nat.le_of_lt H.lt)) (fun b hb k e => by
    simp only [List.mem_cons, List.not_mem_nil, or_false] at hb
    rcases hb with rfl | rfl
    · injection e with e; rw [← e]; exact H.base
    · exact (H.out.lt k e).1)
def SRes (B g : Nat) (vo : Value) (W : World) (d : TDk) (L : List ByteArray) (W' : World) : Prop := ∃ vo', SAt W' B g d vo' L ∧ Fr g vo W vo' W'
theorem SRes.pre {B g : Nat} {vo : Value} {W W1 W2 : World} {d : TDk} {L : List ByteArray} (hb : Below W.heap.size W W1) (h : SRes B g vo W1 d L W2) : SRes B g vo W d L W2 := by
  obtain ⟨vo', h1, h2⟩ := h
  exact ⟨vo', h1, h2.pre hb⟩
theorem SRes.after {B g : Nat} {vo vo1 : Value} {W W1 W2 : World} {d : TDk} {L : List ByteArray} (hf : Fr g vo W vo1 W1) (h : SRes B g vo1 W1 d L W2) : SRes B g vo W d L W2 := by
  obtain ⟨vo', h1, h2⟩ := h
  exact ⟨vo', h1, hf.trans h2⟩
theorem SAt.same {W : World} {B g : Nat} {d : TDk} {vo : Value} {L : List ByteArray} (H : SAt W B g d vo L) : SRes B g vo W d L W := ⟨vo, H, Fr.refl _ _ _⟩
theorem SAt.put4 {W W1 W2 : World} {B g : Nat} {d : TDk} {vo vo' : Value} {L L' : List ByteArray} (H : SAt W B g d vo L) (hb : Below W.heap.size W W1) (hg : W1.grownBy W2 vo.ownBlock) (ho : Own W2 B 9 1 vo' eS L') (hat : vo'.ownBlock = vo.ownBlock ∨ ∀ k, vo'.ownBlock = some k → W.heap.size ≤ k) (h1 : vo'.oneCell' = true) :
    SRes B g vo W d L' (W2.setCell ⟨g, 4, none⟩ vo') := by
  obtain ⟨v1, v2, D, O1, O2, n1, n2, a1, a2⟩ := H.desk
  obtain ⟨x, hx⟩ := H.c5
  obtain ⟨y, hy⟩ := H.c6
  have hgW : g < W1.heap.size := Nat.lt_of_lt_of_le H.lt hb.size
  have hblk : W2.heap[g]? = W.heap[g]? := (hg.block g hgW (fun e => H.no g e.symm rfl)).trans (hb.block g H.lt)
  obtain ⟨hl, c0, c1, c2, c3⟩ := D.of_block hblk (Nat.le_trans hb.size hg.size)
  have c4 := cell_blk hblk H.c4
  have c5 := cell_blk hblk hx
  have c6 := cell_blk hblk hy
  have F : ∀ i, W2.frozen? ⟨g, i, none⟩ = false := fun i => (World.frozen?_of_block (w := W) (a := ⟨g, i, none⟩) hblk).trans (H.fr i)
  have f4 := F 4
  have hgs := grownBy_set W2 ⟨g, 4, none⟩ vo'
  have no' : ∀ k, vo'.ownBlock = some k → k ≠ g := fun k e => by
    rcases hat with h | h
    · exact H.no k (h.symm.trans e)
    · have := h k e; have := H.lt; omega
  have ap : ∀ v : Value, apart v.ownBlock vo.ownBlock → (∀ k, v.ownBlock = some k → k < W.heap.size) → apart v.ownBlock vo'.ownBlock := fun v a hv => by
    rcases hat with h | h
    · rw [h]; exact a
    · rcases hk : v.ownBlock with _ | k
      · exact .inl rfl
      · refine .inr fun e => ?_
        have h2 := hv k hk
        have h3 := h k e.symm
        omega
  have O1' := ((O1.below hb (Nat.le_refl _)).grown hg a1).grown hgs (ne_of_all n1)
  have O2' := ((O2.below hb (Nat.le_refl _)).grown hg a2).grown hgs (ne_of_all n2)
  have O3' := ho.grown hgs (ne_of_all no')
  have e0 : (W2.setCell ⟨g, 4, none⟩ vo').cell? ⟨g, 0, none⟩ = some (.string d.1) := by go_simp
  have e1 : (W2.setCell ⟨g, 4, none⟩ vo').cell? ⟨g, 1, none⟩ = some v1 := by go_simp
  have e2 : (W2.setCell ⟨g, 4, none⟩ vo').cell? ⟨g, 2, none⟩ = some v2 := by go_simp
  have e3 : (W2.setCell ⟨g, 4, none⟩ vo').cell? ⟨g, 3, none⟩ = some (.string d.2.2.2) := by go_simp
  have e4 : (W2.setCell ⟨g, 4, none⟩ vo').cell? ⟨g, 4, none⟩ = some vo' := by go_simp
  have e5 : (W2.setCell ⟨g, 4, none⟩ vo').cell? ⟨g, 5, none⟩ = some x := by go_simp
  have e6 : (W2.setCell ⟨g, 4, none⟩ vo').cell? ⟨g, 6, none⟩ = some y := by go_simp
  have ef : ∀ i, (W2.setCell ⟨g, 4, none⟩ vo').frozen? ⟨g, i, none⟩ = false := fun i => by
    have := F i
    go_simp
  have hls : g < (W2.setCell ⟨g, 4, none⟩ vo').heap.size := Nat.lt_of_lt_of_le hl hgs.size
  refine ⟨vo', ⟨⟨v1, v2, ⟨hls, e0, e1, e2, e3⟩, O1', O2', n1, n2, ap v1 a1 (fun k e => (O1.lt k e).2), ap v2 a2 (fun k e => (O2.lt k e).2)⟩, hls, H.base, ef, e4, O3', no', ⟨x, e5⟩, ⟨y, e6⟩⟩, ?_, hat⟩
  exact ((touch_below hb [some g, vo.ownBlock]).trans ((TouchL.of_grown hg).trans (TouchL.of_grown hgs))).mono fun b hb => by
    simp only [List.mem_append, List.mem_cons, List.not_mem_nil, or_false] at hb ⊢
    rcases hb with (h | h) | h | h
    · exact .inl h
    · exact .inr h
    · exact .inr h
    · exact .inl h
theorem SAt.set_ {W : World} {B g : Nat} {d : TDk} {vo : Value} {L : List ByteArray} (H : SAt W B g d vo L) (i : Nat) (hi : i ≠ 4 ∧ i ≠ 5 ∧ i ≠ 6) (u : Value) (d' : TDk) (v1 v2 : Value) (D : DeskAt (W.setCell ⟨g, i, none⟩ u) g d'.1 v1 v2 d'.2.2.2) (O1 : Own W B 92 4 v1 eCue d'.2.1) (O2 : Own W B 95 4 v2 eTitle d'.2.2.1) (n1 : ∀ k, v1.ownBlock = some k → k ≠ g) (n2 : ∀ k, v2.ownBlock = some k → k ≠ g) (a1 : apart v1.ownBlock vo.ownBlock) (a2 : apart v2.ownBlock vo.ownBlock) :
    SRes B g vo W d' L (W.setCell ⟨g, i, none⟩ u) := by
  obtain ⟨x, hx⟩ := H.c5
  obtain ⟨y, hy⟩ := H.c6
  have c4 := H.c4
  have fi := H.fr i
  obtain ⟨i4, i5, i6⟩ := hi
  have j4 : ¬ 4 = i := fun e => i4 e.symm
  have j5 : ¬ 5 = i := fun e => i5 e.symm
  have j6 : ¬ 6 = i := fun e => i6 e.symm
  have hgs := grownBy_set W ⟨g, i, none⟩ u
  have e4 : (W.setCell ⟨g, i, none⟩ u).cell? ⟨g, 4, none⟩ = some vo := by go_simp
  have e5 : (W.setCell ⟨g, i, none⟩ u).cell? ⟨g, 5, none⟩ = some x := by go_simp
  have e6 : (W.setCell ⟨g, i, none⟩ u).cell? ⟨g, 6, none⟩ = some y := by go_simp
  have ef : ∀ j, (W.setCell ⟨g, i, none⟩ u).frozen? ⟨g, j, none⟩ = false := fun j => by
    have := H.fr j
    go_simp
  refine ⟨vo, ⟨⟨v1, v2, D, O1.grown hgs (ne_of_all n1), O2.grown hgs (ne_of_all n2), n1, n2, a1, a2⟩, D.1, H.base, ef, e4, H.out.grown hgs (ne_of_all H.no), H.no, ⟨x, e5⟩, ⟨y, e6⟩⟩, (TouchL.of_grown hgs).mono fun b hb => ?_, .inl rfl⟩
  simp only [List.mem_cons, List.not_mem_nil, or_false] at hb ⊢
  exact .inl hb
theorem SAt.set0 {W : World} {B g : Nat} {d : TDk} {vo : Value} {L : List ByteArray} (H : SAt W B g d vo L) (s : ByteArray) : SRes B g vo W (s, d.2) L (W.setCell ⟨g, 0, none⟩ (.string s)) := by
  obtain ⟨v1, v2, D, O1, O2, n1, n2, a1, a2⟩ := H.desk
  exact H.set_ 0 (by decide) _ (s, d.2) v1 v2 (desk_set0 D H.fr s) O1 O2 n1 n2 a1 a2
theorem SAt.set3 {W : World} {B g : Nat} {d : TDk} {vo : Value} {L : List ByteArray} (H : SAt W B g d vo L) (s : ByteArray) : SRes B g vo W (d.1, d.2.1, d.2.2.1, s) L (W.setCell ⟨g, 3, none⟩ (.string s)) := by
  obtain ⟨v1, v2, D, O1, O2, n1, n2, a1, a2⟩ := H.desk
  exact H.set_ 3 (by decide) _ (d.1, d.2.1, d.2.2.1, s) v1 v2 (desk_set3 D H.fr s) O1 O2 n1 n2 a1 a2
theorem SAt.set1 {W : World} {B g : Nat} {d : TDk} {vo : Value} {L : List ByteArray} (H : SAt W B g d vo L) {v : Value} {l : List TCue} (O : Own W B 92 4 v eCue l) (n : ∀ k, v.ownBlock = some k → k ≠ g) (a : apart v.ownBlock vo.ownBlock) (h1 : v.oneCell' = true) : SRes B g vo W (d.1, l, d.2.2.1, d.2.2.2) L (W.setCell ⟨g, 1, none⟩ v) := by
  obtain ⟨v1, v2, D, O1, O2, n1, n2, a1, a2⟩ := H.desk
  exact H.set_ 1 (by decide) _ (d.1, l, d.2.2.1, d.2.2.2) v v2 (desk_set1 D H.fr v h1) O O2 n n2 a a2
theorem SAt.set2 {W : World} {B g : Nat} {d : TDk} {vo : Value} {L : List ByteArray} (H : SAt W B g d vo L) {v : Value} {l : List TTitle} (O : Own W B 95 4 v eTitle l) (n : ∀ k, v.ownBlock = some k → k ≠ g) (a : apart v.ownBlock vo.ownBlock) (h1 : v.oneCell' = true) : SRes B g vo W (d.1, d.2.1, l, d.2.2.2) L (W.setCell ⟨g, 2, none⟩ v) := by
  obtain ⟨v1, v2, D, O1, O2, n1, n2, a1, a2⟩ := H.desk
  exact H.set_ 2 (by decide) _ (d.1, d.2.1, l, d.2.2.2) v1 v (desk_set2 D H.fr v h1) O1 O n1 n a1 a
theorem SAt.fresh {W : World} {B g : Nat} {d : TDk} {vo : Value} {L : List ByteArray} (H : SAt W B g d vo L) {v : Value} (hv : ∀ k, v.ownBlock = some k → W.heap.size ≤ k) : (∀ k, v.ownBlock = some k → k ≠ g) ∧ apart v.ownBlock vo.ownBlock := by
  refine ⟨fun k e => by have := hv k e; have := H.lt; omega, ?_⟩
  rcases hk : v.ownBlock with _ | k
  · exact .inl rfl
  · refine .inr fun e => ?_
    have h1 := hv k hk
    have h2 := (H.out.lt k e.symm).2
    omega
def NT (W : World) (B g : Nat) (ns : List Int) (ts : List ByteArray) : Prop := ∃ vn vt, W.cell? ⟨g, 5, none⟩ = some vn ∧ W.cell? ⟨g, 6, none⟩ = some vt ∧ Own W B 2 1 vn eI ns ∧ Own W B 9 1 vt eS ts ∧ (∀ k, vn.ownBlock = some k → k ≠ g) ∧ (∀ k, vt.ownBlock = some k → k ≠ g)
end Go.Proofs.YtgcodjkjdfahdaaGreatDoor
