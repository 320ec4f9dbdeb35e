/- Contracts of the sorts of integers, for a slice that the caller owns. No condition. -/
import Derived.Test.YtlgcehdklpbknaaSrtL
import Derived.Test.YtlgcehdklpbknaaSrtI
import Derived.Test.YtlgcehdklpbknaaInts
import Derived.Test.YtlgcehdklpbknaaBase
namespace Go.Proofs.Ytlgcehdklpbknaa
open Go Go.RowKit Go.ChangeShapes Go.WideShapes
set_option linter.unusedSimpArgs false
set_option linter.unusedVariables false
section
variable {α : Type} [Inhabited α]
def encI (f : α → Int) (x : α) : Value := .int .i64 (f x)
theorem holds_own {w : World} {B E g n cap : Nat} (f : α → Int) {M : List α} (h : Own w B E 1 (.slice (some ⟨g, 0, none⟩) n cap) eI (M.map f)) : Sort.Holds (encI f) w g 0 M.toArray := by
  intro j hj
  have hj' : j < (M.map f).length := by simpa using hj
  obtain ⟨h1, h2⟩ := h.cell1 j hj'
  rw [Nat.zero_add]
  refine ⟨?_, h2⟩
  rw [h1, getElem!_pos _ j hj]
  simp [encI]
theorem eI_map (l : List Int) : l.flatMap eI = l.map (Value.int .i64) := by
  induction l with
  | nil => rfl
  | cons x l ih => rw [List.flatMap_cons, ih]; rfl
theorem grown_put (enc : α → Value) (w : World) (g o : Nat) (X : Array α) : w.grownBy (Sort.putRow enc w g o X) (some g) := by
  refine ⟨rfl, rfl, rfl, by simp [Sort.putRow, Sort.mapBlock], fun k hk hne => ?_⟩
  show (w.heap.modify g _)[k]? = _
  rw [Array.getElem?_modify, if_neg (fun e => hne (by rw [e]))]
theorem own_put {w : World} {B E g n cap : Nat} (f : α → Int) {M X : List α} (h : Own w B E 1 (.slice (some ⟨g, 0, none⟩) n cap) eI (M.map f)) (hX : X.length = M.length) :
    Own (Sort.putRow (encI f) w g 0 X.toArray) B E 1 (.slice (some ⟨g, 0, none⟩) n cap) eI (X.map f) ∧ w.grownBy (Sort.putRow (encI f) w g 0 X.toArray) (some g) := by
  have hG := grown_put (encI f) w g 0 X.toArray
  refine ⟨?_, hG⟩
  rcases h.2 with ⟨hv, -⟩ | ⟨g', cap', cur, hv, hb, hg, hnc, hcm, hcs, htake⟩
  · cases hv
  · injection hv with e1 e2 e3
    injection e1 with e1
    injection e1 with e1 _ _
    subst e1 e2 e3
    refine ⟨flatMap_len eI 1 eI_len _, .inr ⟨g, cap, Sort.putCells (encI f) 0 X.toArray cur, by simp [hX], hb, ?_, by simpa [hX] using hnc, hcm, by simpa [Sort.putCells] using hcs, ?_⟩⟩
    · show (w.heap.modify g _)[g]? = _
      rw [Array.getElem?_modify, if_pos rfl, hg]
      rfl
    · rw [List.length_map] at hnc
      apply List.ext_getElem?
      intro k
      rw [eI_map, List.getElem?_take]
      by_cases hk : k < X.length
      · have hkc : k < cur.size := by omega
        rw [if_pos (by simpa using hk), Array.getElem?_toList]
        simp only [Sort.putCells, Array.getElem?_mapIdx, Array.getElem?_eq_getElem hkc, Option.map_some, Nat.zero_le, Nat.zero_add, true_and, List.size_toArray, hk, if_true, Nat.sub_zero, List.getElem?_map, List.getElem?_eq_getElem hk]
        rw [getElem!_pos _ k (by simpa using hk)]
        simp [encI]
      · rw [if_neg (by simpa using hk), List.getElem?_eq_none (by simp; omega)]
theorem own_ahead {w : World} {B E k : Nat} {v : Value} {l : List Int} (h : Own w B E k v eI l) (n : Nat) : Own (Sort.ahead w n) B E k v eI l := h
theorem grown_ahead (w : World) (n : Nat) (row : Option Nat) : w.grownBy (Sort.ahead w n) row := ⟨rfl, rfl, rfl, Nat.le_refl _, fun _ _ _ => rfl⟩
theorem grown_grow (w : World) (os : Array Obj) (row : Option Nat) : w.grownBy (Sort.grow w os) row :=
  ⟨rfl, rfl, rfl, by simp [Sort.grow], fun k hk _ => by show (w.heap ++ os)[k]? = _; rw [Array.getElem?_append_left hk]⟩
end
/-- a comparison that reads, wherever the sort may have come to -/
def CmpOk {α : Type} (P : Program) (F : Nat) (cb : Array Value) (f : α → Int) (cf : α → α → Int) (g : Nat) (w : World) : Prop :=
  ∀ w', w.grownBy w' (some g) → ∀ x y : α, Calls P F (#[encI f x, encI f y] ++ cb) w' fun e w'' => e = .returned (.int .i64 (cf x y)) ∧ ∃ q, w'' = w'.drewN q
theorem CmpOk.grown {α : Type} {P : Program} {F : Nat} {cb : Array Value} {f : α → Int} {cf : α → α → Int} {g : Nat} {w w' : World} (h : CmpOk P F cb f cf g w) (hg : w.grownBy w' (some g)) : CmpOk P F cb f cf g w' :=
  fun _ h' => h _ (grownBy_trans hg h')
theorem CmpOk.reads {α : Type} [Inhabited α] {P : Program} {F : Nat} {cb : Array Value} {f : α → Int} {cf : α → α → Int} {g : Nat} {w : World} (h : CmpOk P F cb f cf g w) (size : Nat) : CmpReads P F cb (encI f) cf g 0 size w := by
  intro m os dk _ x y
  refine h _ ?_ x y
  exact grownBy_trans (grownBy_trans (grown_ahead w m _) (grown_put _ _ _ _ _)) (grown_grow _ os _)
/-- what slices.Sort leaves -/
def sortI (l : List Int) : List Int := l.mergeSort fun x y => decide (x ≤ y)
theorem sortI_len (l : List Int) : (sortI l).length = l.length := List.length_mergeSort _
def GivesSorted (w : World) (B E : Nat) (v : Value) (l : List Int) (e : Ending) (w' : World) : Prop := e = .returned (.tuple #[]) ∧ Own w' B E 1 v eI l ∧ w.grownBy w' v.ownBlock
theorem sort_ints (w : World) (B E : Nat) (v : Value) (l : List Int) (h : Own w B E 1 v eI l) (hl : l.length < 4611686018427387904) :
    Calls Try.prog 115 #[v] w (GivesSorted w B E v (sortI l)) := by
  rcases h.form with ⟨rfl, rfl⟩ | ⟨g, cap, rfl, hB, hg, hc, hm⟩
  · refine (AnyM.slices_Sort_int_none Try.laysSort none 0 w).mono ?_
    rintro e w' ⟨rfl, rfl⟩
    exact ⟨rfl, by rw [show sortI [] = [] by simp [sortI]]; exact h, ⟨rfl, rfl, rfl, Nat.le_refl _, fun _ _ _ => rfl⟩⟩
  · have hI : Own w B E 1 (.slice (some ⟨g, 0, none⟩) l.length cap) eI (l.map id) := by rw [List.map_id]; exact h
    have hH := holds_own id hI
    refine (AnyM.slices_Sort_int Try.laysSort g 0 cap l w hH hg hl).mono ?_
    rintro e w' ⟨rfl, n, os, rfl⟩
    have h1 := own_put (X := sortI l) id (own_ahead hI n) (sortI_len l)
    have h2 := grown_grow (Sort.putRow (encI id) (Sort.ahead w n) g 0 (sortI l).toArray) os (none : Option Nat)
    refine ⟨rfl, ?_, ?_⟩
    · have := h1.1.grown h2 (.inr (by simp [Value.ownBlock]))
      rw [List.map_id] at this
      exact this
    · exact grownBy_trans (grownBy_trans (grown_ahead w n _) h1.2) (grown_grow _ os _)
theorem ins_ints {α : Type} [Inhabited α] (f key : α → Int) (F : Nat) (cb : Array Value) (eg : ∀ args w, (callFunc F args).run Try.prog w = .ok (.enter F args) w)
    (cf : α → α → Int) (hcf : ∀ x y, ltOf cf x y = decide (key x < key y))
    (w : World) (B E g cap : Nat) (A M D : List α) (h : Own w B E 1 (.slice (some ⟨g, 0, none⟩) (A ++ M ++ D).length cap) eI ((A ++ M ++ D).map f)) (hl : (A ++ M ++ D).length < 4611686018427387904)
    (hc : CmpOk Try.prog F cb f cf g w) :
    Calls Try.prog 158 #[.slice (some ⟨g, 0, none⟩) (A ++ M ++ D).length cap, .int .i64 (A.length : Nat), .int .i64 ((A.length + M.length : Nat) : Int), .func (.func F) #[] cb] w
      (GivesSorted w B E (.slice (some ⟨g, 0, none⟩) (A ++ M ++ D).length cap) ((A ++ srt key M ++ D).map f)) := by
  have hH := holds_own f h
  refine (Any.insertionSortCmpFunc_one Try.laysInsI (encI f) (fun _ => rfl) cf F cb g 0 cap A.length (A.length + M.length) (A ++ M ++ D).toArray w eg (hc.reads _) hH (by omega) (by simp) (by simpa using hl)).mono ?_
  rintro e w' ⟨rfl, n, rfl⟩
  rw [ins_srt key _ hcf A M D]
  have h1 := own_put (X := A ++ srt key M ++ D) f h (by simp [srt_len])
  exact ⟨rfl, h1.1.drewN n, grownBy_drewN h1.2 n⟩
set_option maxHeartbeats 1000000 in
theorem stable_ints {α : Type} [Inhabited α] (f key : α → Int) (F : Nat) (cb : Array Value) (eg : ∀ args w, (callFunc F args).run Try.prog w = .ok (.enter F args) w)
    (cf : α → α → Int) (hcf : ∀ x y, ltOf cf x y = decide (key x < key y))
    (w : World) (B E g cap : Nat) (L : List α) (h : Own w B E 1 (.slice (some ⟨g, 0, none⟩) L.length cap) eI (L.map f)) (hl : L.length ≤ 20) (hc : CmpOk Try.prog F cb f cf g w) :
    Calls Try.prog 145 #[.slice (some ⟨g, 0, none⟩) L.length cap, .int .i64 (L.length : Nat), .func (.func F) #[] cb] w
      (GivesSorted w B E (.slice (some ⟨g, 0, none⟩) L.length cap) ((srt key L).map f)) := by
  have c1 := ins_ints f key F cb eg cf hcf w B E g cap [] L [] (by simpa using h) (by simp; omega) hc
  simp only [List.nil_append, List.append_nil, List.length_nil, Nat.zero_add, Int.natCast_zero, Int.ofNat_zero] at c1
  rcases Nat.lt_or_eq_of_le hl with q | q
  · have C1 := hd c1
    clear c1 hc h eg hcf
    go_enter Try.func145, Try.ntmps145
    go_wp2_with fail
    go_loopw [7, 8] (fun a b wr => a = .int .i64 0 ∧ b = .int .i64 20 ∧ wr = w) (fun _ _ _ => 0)
    case atStart => exact ⟨rfl, rfl, rfl⟩
    case round =>
      obtain ⟨rfl, rfl, rfl⟩ := hrel
      go_wp2_with fail
      refine C1.out.mono ?_
      rintro e w1 ⟨rfl, ho, hg⟩
      go_wp2_with fail
      go_loopw [6, 7, 8, 9] (fun a b c d wr => a = .int .i64 20 ∧ wr = w1) (fun _ _ _ _ _ => 0)
      case atStart => exact ⟨rfl, rfl⟩
      case round =>
        obtain ⟨rfl, rfl⟩ := hrel
        go_wp2_with fail
        go_end0
        exact ⟨rfl, ho, hg⟩
  · have HC := hd hc
    have HE := hd eg
    have HF := hd hcf
    rw [q] at c1 h ⊢
    rw [show ((20 : Nat) : Int) = 20 from rfl] at c1 ⊢
    have C1 := hd c1
    have HQ := hd q
    clear c1 hc eg hcf q hl
    go_enter Try.func145, Try.ntmps145
    go_wp2_with fail
    go_loopw [7, 8] (fun a b wr => (a = .int .i64 0 ∧ b = .int .i64 20 ∧ wr = w) ∨ (a = .int .i64 20 ∧ b = .int .i64 40 ∧ Own wr B E 1 (.slice (some ⟨g, 0, none⟩) 20 cap) eI ((srt key L).map f) ∧ w.grownBy wr (some g))) (fun _ b _ => 40 - (intOf b).toNat)
    case atStart => exact .inl ⟨rfl, rfl, rfl⟩
    case round =>
      rcases hrel with ⟨rfl, rfl, rfl⟩ | ⟨rfl, rfl, ho, hg⟩
      · go_wp2_with fail
        refine C1.out.mono ?_
        rintro e w1 ⟨rfl, ho, hg⟩
        go_wp2_with fail
        go_roundw
        case rel => exact .inr ⟨rfl, rfl, ho, hg⟩
        case measure => simp [intOf]
      · go_wp2_with fail
        have c2 := ins_ints f key F cb HE.out cf HF.out wr B E g cap (srt key L) [] [] (by simpa [srt_len, HQ.out] using ho) (by simp [srt_len, HQ.out]) (HC.out.grown hg)
        simp only [List.append_nil, srt_len, List.length_nil, Nat.add_zero, srt_nil, HQ.out, show ((20 : Nat) : Int) = 20 from rfl] at c2
        refine c2.mono ?_
        rintro e w1 ⟨rfl, ho1, hg1⟩
        have hg2 := grownBy_trans hg hg1
        go_wp2_with fail
        go_loopw [6, 7, 8, 9] (fun a b c d wr => a = .int .i64 20 ∧ wr = w1) (fun _ _ _ _ _ => 0)
        case atStart => exact ⟨rfl, rfl⟩
        case round =>
          obtain ⟨rfl, rfl⟩ := hrel
          go_wp2_with fail
          go_end0
          exact ⟨rfl, ho1, hg2⟩
theorem stable_fn {α : Type} [Inhabited α] (f key : α → Int) (F : Nat) (cb : Array Value) (eg : ∀ args w, (callFunc F args).run Try.prog w = .ok (.enter F args) w)
    (cf : α → α → Int) (hcf : ∀ x y, ltOf cf x y = decide (key x < key y))
    (w : World) (B E : Nat) (v : Value) (L : List α) (h : Own w B E 1 v eI (L.map f)) (hn : L ≠ []) (hl : L.length ≤ 20) (hc : ∀ g, v.ownBlock = some g → CmpOk Try.prog F cb f cf g w) :
    Calls Try.prog 113 #[v, .func (.func F) #[] cb] w (GivesSorted w B E v ((srt key L).map f)) := by
  rcases h.form with ⟨rfl, e⟩ | ⟨g, cap, rfl, hB, hg, hcp, hm⟩
  · exact absurd (List.map_eq_nil_iff.1 e) hn
  · rw [List.length_map] at h hcp ⊢
    have C1 := hd (stable_ints f key F cb eg cf hcf w B E g cap L h hl (hc g rfl))
    clear hc eg hcf
    go_enter Try.func113, Try.ntmps113
    go_wp2_with fail
    refine C1.out.mono ?_
    rintro e w1 ⟨rfl, ho, hg⟩
    go_wp2_with fail
    go_end0
    exact ⟨rfl, ho, hg⟩
theorem ins_nil (w : World) (p : Option Addr) (cap : Nat) (F : Value) :
    Calls Try.prog 158 #[.slice p 0 cap, .int .i64 0, .int .i64 0, F] w fun e w' => e = .returned (.tuple #[]) ∧ w' = w := by
  go_enter Try.func158, Try.ntmps158
  go_wp2_with fail
  go_loopw [8, 9] (fun a b wr => a = .int .i64 1 ∧ wr = w) (fun _ _ _ => 0)
  case atStart => exact ⟨rfl, rfl⟩
  case round =>
    obtain ⟨rfl, rfl⟩ := hrel
    go_wp2_with fail
    go_end0
    exact ⟨rfl, rfl⟩
theorem stable_nil0 (w : World) (p : Option Addr) (cap : Nat) (F : Value) :
    Calls Try.prog 145 #[.slice p 0 cap, .int .i64 0, F] w fun e w' => e = .returned (.tuple #[]) ∧ w' = w := by
  go_enter Try.func145, Try.ntmps145
  go_wp2_with fail
  go_loopw [7, 8] (fun a b wr => a = .int .i64 0 ∧ b = .int .i64 20 ∧ wr = w) (fun _ _ _ => 0)
  case atStart => exact ⟨rfl, rfl, rfl⟩
  case round =>
    obtain ⟨rfl, rfl, rfl⟩ := hrel
    go_wp2_with fail
    refine (ins_nil _ _ _ _).mono ?_
    rintro e w' ⟨rfl, rfl⟩
    go_wp2_with fail
    go_loopw [6, 7, 8, 9] (fun a b c d wr => a = .int .i64 20 ∧ wr = w') (fun _ _ _ _ _ => 0)
    case atStart => exact ⟨rfl, rfl⟩
    case round =>
      obtain ⟨rfl, rfl⟩ := hrel
      go_wp2_with fail
      go_end0
      exact ⟨rfl, rfl⟩
theorem stable_nil (w : World) (p : Option Addr) (cap : Nat) (F : Value) :
    Calls Try.prog 113 #[.slice p 0 cap, F] w fun e w' => e = .returned (.tuple #[]) ∧ w' = w := by
  go_enter Try.func113, Try.ntmps113
  go_wp2_with fail
  refine (stable_nil0 _ _ _ _).mono ?_
  rintro e w' ⟨rfl, rfl⟩
  go_wp2_with fail
  go_end0
  exact ⟨rfl, rfl⟩
end Go.Proofs.Ytlgcehdklpbknaa
