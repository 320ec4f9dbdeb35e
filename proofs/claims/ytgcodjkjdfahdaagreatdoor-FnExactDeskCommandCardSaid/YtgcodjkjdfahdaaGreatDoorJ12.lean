/- Lemmas for the claim (the walks of its functions and their plain laws), joined. No condition. -/
import Derived.Test.YtgcodjkjdfahdaaGreatDoorJ11
import Derived.Handed
import Derived.Stop.LaidErr
import Derived.Test.YtgcodjkjdfahdaaGreatDoorJ1
import Derived.Lib.Split
import Derived.Lib.CountLaws
namespace Go.Proofs.YtgcodjkjdfahdaaGreatDoor
open Go Go.RowKit Go.ChangeShapes Go.WideShapes
set_option linter.unusedSimpArgs false
set_option linter.unusedVariables false
def MaxL (w : World) : Prop := ∃ m, w.cell? ⟨1, 0, none⟩ = some (.int .i64 m)
theorem MaxL.below {w w' : World} (h : MaxL w) (hb : Below w.heap.size w w') : MaxL w' := by
  obtain ⟨m, h1⟩ := h
  exact ⟨m, (hb.cell (Lib.lt_of_cell h1)).trans h1⟩
theorem maxL_of_shape {w : World} (h : w.ShapedOpen Tryz.prog) : MaxL w := by first | exact Tryz.laysM145.s1_3 w h | exact Tryz.laysM146.s1_3 w h | exact Tryz.laysM143.s1_3 w h
theorem star : "*" ++ "errors.errorString" = "*errors.errorString" := by decide
theorem err_row (u : TypeId) (h : Tryz.prog.typeName? 3 u = some "*errors.errorString") : u = 268 :=
  typeName_ptr_named (nm := "errors.errorString") (by rw [star]; kernel_rfl) (by kernel_rfl) (by decide) u (by rw [star]; exact h)
set_option maxRecDepth 100000 in
theorem syntax_of_laid {W : World} {text : List UInt8} {r : List (String × DataW Unit)} (h : laidMet Tryz.prog (("strconv.ErrSyntax", .iface "*errors.errorString" (.ptr (.agg [.lit (.string text)]))) :: r) W) : ∃ te pe, W.cell? ⟨2, 0, none⟩ = some (.iface te pe) := by
  obtain ⟨a, s, hv, -⟩ := laid_sentinel h (g := 2) (ti := 98) (te := 270) (ts := 9) (by kernel_rfl) (by kernel_rfl) Tryz.underlying98 err_row Tryz.underlying268 Tryz.underlying270 rfl rfl Tryz.underlying9 (by kernel_rfl) (by kernel_rfl)
  exact ⟨_, _, by simpa using World.var?_cell (g := 2) (by kernel_rfl) hv 0⟩
set_option maxRecDepth 100000 in
theorem range_of_laid {W : World} {text : List UInt8} {r : List (String × DataW Unit)} (h : laidMet Tryz.prog (("strconv.ErrRange", .iface "*errors.errorString" (.ptr (.agg [.lit (.string text)]))) :: r) W) : ∃ te pe, W.cell? ⟨3, 0, none⟩ = some (.iface te pe) := by
  obtain ⟨a, s, hv, -⟩ := laid_sentinel h (g := 3) (ti := 98) (te := 270) (ts := 9) (by kernel_rfl) (by kernel_rfl) Tryz.underlying98 err_row Tryz.underlying268 Tryz.underlying270 rfl rfl Tryz.underlying9 (by kernel_rfl) (by kernel_rfl)
  exact ⟨_, _, by simpa using World.var?_cell (g := 3) (by kernel_rfl) hv 0⟩
def Shop (w : World) : Prop := Tab w ∧ Errs w ∧ MaxL w
theorem Shop.below {w w' : World} (h : Shop w) (hb : Below w.heap.size w w') : Shop w' := ⟨h.1.below hb, h.2.1.below hb, h.2.2.below hb⟩
theorem handed_shop {H : Type} {enc : TypeId × Value → H} {a : Assume} {C : Checked} {os : Os} {f : FuncId} {fn : Func} {s : ChangeSpec} {conds : List PathCond} {apart fresh handsOn again : Bool} {X : World → Array Value → Prop}
    (hX : ∀ (w w' : World) (args : Array Value), w.heap = w'.heap → X w args → X w' args)
    (own : ownKnob C.prog.godebug = none) (started : os.Started) (noInit : C.prog.inits.idxOf? f = none) (hfn : C.prog.funcs[f]? = some fn)
    (witness : ∃ (w : World) (tape : Tape) (i : Input), w.os = os ∧ (w.forCall tape i).Shaped C.prog ∧ i.vars = [] ∧ Input.okWide C.prog (w.forCall tape i) .any w.heap.size f i ∧
      ((s.pre enc C.prog fn conds apart (w.forCall tape i).memory i.args ∧ X (w.forCall tape i).memory i.args) ∧ sizedMet enc C.prog fn (OpenSpec.ofChange s) apart (w.forCall tape i).memory i.args) ∧ a.holds C.prog (lone (Frame.enter C.prog f i.args .normal) [] (w.forCall tape i)))
    (law : ∀ (W : World) (base : Nat) (args : Array Value) (ds gs : List (DataW H)) (before : List MemPlace),
      (∀ (j : Nat) t v, fn.params[j]? = some t → args[j]? = some v → Value.okWide C.prog W .any base t v) →
      DataW.Whole enc C.prog fn.params.toList s.vars apart W args.toList ds gs before → X W args → W.ShapedOpen C.prog →
      Calls C.prog f args W fun e W' => ∃ v, e = .returned v ∧ s.post enc C.prog fn apart fresh handsOn again W args v W') :
    ReturnsInHanded a C os f .any (fun w args => (s.pre enc C.prog fn conds apart w args ∧ X w args) ∧ sizedMet enc C.prog fn (OpenSpec.ofChange s) apart w args) (s.post enc C.prog fn apart fresh handsOn again) := by
  refine returnsInHanded_of_calls own started noInit witness ?_
  intro w tape i _ hsh _ hok hpre _
  obtain ⟨-, -, -, fn', hfn', -, -, -, -, hval⟩ := hok
  obtain rfl : fn' = fn := Option.some.inj (hfn'.symm.trans hfn)
  obtain ⟨⟨⟨ds, gs, before, hw, -⟩, hx⟩, -⟩ := hpre
  refine (law (w.forCall tape i) w.heap.size i.args ds gs before hval (DataW.Whole.of_heap (w' := w.forCall tape i) (by rfl) hw) (hX _ _ _ (by rfl) hx) hsh).mono fun e W' he => ?_
  obtain ⟨v, rfl, hp⟩ := he
  exact ChangeSpec.post_blind hp
end Go.Proofs.YtgcodjkjdfahdaaGreatDoor

namespace Go.Proofs.YtgcodjkjdfahdaaGreatDoor
open Go Go.RowKit Go.ChangeShapes Go.WideShapes
set_option linter.unusedSimpArgs false
set_option linter.unusedVariables false
theorem plist_mk (s : ByteArray) : (⟨s.data.toList.toArray⟩ : ByteArray) = s := by simp
theorem pbytes_ext {a b : ByteArray} (h : a.data.toList = b.data.toList) : a = b := by
  rw [← plist_mk a, h, plist_mk b]
theorem pmk_list (l : List UInt8) : (⟨l.toArray⟩ : ByteArray).data.toList = l := by simp
theorem psize_of_list {s : ByteArray} {l : List UInt8} (h : s.data.toList = l) : s.size = l.length := by rw [← h, size_list]
def consW (p : List UInt8) : List (List UInt8) → List (List UInt8)
  | [] => [p]
  | w :: ws => (p ++ w) :: ws
def parts (c : UInt8) : List UInt8 → List (List UInt8)
  | [] => [[]]
  | x :: r => if x = c then [] :: parts c r else consW [x] (parts c r)
theorem parts_hit (c : UInt8) (r : List UInt8) : parts c (c :: r) = [] :: parts c r := by
  conv => lhs; unfold parts
  rw [if_pos rfl]
theorem parts_miss {c x : UInt8} (h : ¬ x = c) (r : List UInt8) : parts c (x :: r) = consW [x] (parts c r) := by
  conv => lhs; unfold parts
  rw [if_neg h]
theorem parts_ne (c : UInt8) : ∀ l, parts c l ≠ []
  | [] => by simp [parts]
  | x :: r => by
    unfold parts
    split
    · simp
    · cases parts c r <;> simp [consW]
theorem consW_nil {L : List (List UInt8)} (h : L ≠ []) : consW [] L = L := by
  cases L with
  | nil => exact absurd rfl h
  | cons w ws => rfl
theorem consW_consW (p q : List UInt8) {L : List (List UInt8)} (h : L ≠ []) : consW p (consW q L) = consW (p ++ q) L := by
  cases L with
  | nil => exact absurd rfl h
  | cons w ws => simp [consW]
theorem parts_none (c : UInt8) : ∀ l : List UInt8, c ∉ l → parts c l = [l]
  | [], _ => rfl
  | x :: r, h => by
    have hx : ¬ x = c := fun e => h (by rw [e]; exact List.mem_cons_self ..)
    unfold parts
    rw [if_neg hx, parts_none c r (fun e => h (List.mem_cons_of_mem _ e))]
    rfl
theorem parts_at (c : UInt8) : ∀ (l r : List UInt8), c ∉ l → parts c (l ++ c :: r) = l :: parts c r
  | [], r, _ => by
    show parts c (c :: r) = [] :: parts c r
    conv => lhs; unfold parts
    rw [if_pos rfl]
  | x :: l, r, h => by
    have hx : ¬ x = c := fun e => h (by rw [e]; exact List.mem_cons_self ..)
    rw [List.cons_append]
    conv => lhs; unfold parts
    rw [if_neg hx, parts_at c l r (fun e => h (List.mem_cons_of_mem _ e))]
    rfl
def joinL (c : UInt8) : List (List UInt8) → List UInt8
  | [] => []
  | [w] => w
  | w :: ws => w ++ c :: joinL c ws
theorem joinL_consW (c : UInt8) (p : List UInt8) : ∀ L : List (List UInt8), L ≠ [] → joinL c (consW p L) = p ++ joinL c L
  | [], h => absurd rfl h
  | [w], _ => rfl
  | w :: v :: ws, _ => by simp [consW, joinL]
theorem joinL_cons (c : UInt8) (w : List UInt8) : ∀ L : List (List UInt8), L ≠ [] → joinL c (w :: L) = w ++ c :: joinL c L
  | [], h => absurd rfl h
  | _ :: _, _ => rfl
theorem joinL_parts (c : UInt8) : ∀ l : List UInt8, joinL c (parts c l) = l
  | [] => rfl
  | x :: r => by
    unfold parts
    split
    next h => rw [joinL_cons c _ _ (parts_ne c r), joinL_parts c r, h]; rfl
    next h => rw [joinL_consW c _ _ (parts_ne c r), joinL_parts c r]; rfl
theorem parts_len (c : UInt8) : ∀ l : List UInt8, (parts c l).length = l.count c + 1
  | [] => rfl
  | x :: r => by
    unfold parts
    split
    next h => subst h; simp [parts_len x r]
    next h =>
      have h1 : ∀ L : List (List UInt8), L ≠ [] → (consW [x] L).length = L.length := by
        intro L hL
        cases L with
        | nil => exact absurd rfl hL
        | cons w ws => rfl
      rw [h1 _ (parts_ne c r), parts_len c r, List.count_cons_of_ne (by exact h)]
theorem parts_len_le (c : UInt8) (l : List UInt8) : (parts c l).length ≤ l.length + 1 := by
  rw [parts_len]
  have := List.count_le_length (a := c) (l := l)
  omega
theorem parts_mem_len (c : UInt8) : ∀ (l : List UInt8), ∀ x ∈ parts c l, x.length ≤ l.length
  | [], x, h => by simp [parts] at h; simp [h]
  | y :: r, x, h => by
    unfold parts at h
    split at h
    · rcases List.mem_cons.1 h with rfl | h
      · simp
      · have := parts_mem_len c r x h
        simp
        omega
    · have ih := parts_mem_len c r
      rcases hp : parts c r with _ | ⟨w, ws⟩
      · exact absurd hp (parts_ne c r)
      · rw [hp] at h ih
        rcases List.mem_cons.1 h with rfl | h
        · have := ih w (List.mem_cons_self ..)
          simp
          omega
        · have := ih x (List.mem_cons_of_mem _ h)
          simp
          omega
def partsB (c : UInt8) (s : ByteArray) : List ByteArray := (parts c s.data.toList).map fun l => ⟨l.toArray⟩
theorem partsB_len (c : UInt8) (s : ByteArray) : (partsB c s).length = (parts c s.data.toList).length := by simp [partsB]
theorem partsB_len_le (c : UInt8) (s : ByteArray) : (partsB c s).length ≤ s.size + 1 := by
  rw [partsB_len]
  have := parts_len_le c s.data.toList
  rw [size_list] at this
  exact this
theorem partsB_size (c : UInt8) (s x : ByteArray) (h : x ∈ partsB c s) : x.size ≤ s.size := by
  obtain ⟨l, hl, rfl⟩ := List.mem_map.1 h
  have := parts_mem_len c _ l hl
  rw [size_list] at this
  rw [psize_of_list (pmk_list _)]
  exact this
def upTo (c : UInt8) (s : ByteArray) (O : List ByteArray) (f i : Nat) : Prop := f ≤ i ∧ i ≤ s.size ∧ parts c s.data.toList = O.map (·.data.toList) ++ consW (s.extract f i).data.toList (parts c (s.data.toList.drop i))
theorem upTo_start (c : UInt8) (s : ByteArray) : upTo c s [] 0 0 := by
  refine ⟨Nat.le_refl _, Nat.zero_le _, ?_⟩
  have e : (s.extract 0 0).data.toList = [] := by rw [Lib.extract_data]; rfl
  rw [e, List.drop_zero, consW_nil (parts_ne c _)]
  rfl
theorem extract_snoc (s : ByteArray) (f i : Nat) (hf : f ≤ i) (hi : i < s.size) : (s.extract f (i + 1)).data.toList = (s.extract f i).data.toList ++ [s[i]'hi] := by
  rw [Lib.extract_data, Lib.extract_data, show i + 1 - f = (i - f) + 1 by omega, List.take_add_one]
  congr 1
  rw [List.getElem?_drop, show f + (i - f) = i by omega, List.getElem?_eq_getElem (by rw [size_list]; exact hi), get_list s i hi]
  rfl
theorem upTo_hit {c : UInt8} {s : ByteArray} {O : List ByteArray} {f i : Nat} (h : upTo c s O f i) (hi : i < s.size) (hc : s[i]'hi = c) : upTo c s (O ++ [s.extract f i]) (i + 1) (i + 1) := by
  obtain ⟨h1, h2, h3⟩ := h
  refine ⟨Nat.le_refl _, hi, ?_⟩
  have e : (s.extract (i + 1) (i + 1)).data.toList = [] := by rw [Lib.extract_data]; simp
  have hd : s.data.toList.drop i = c :: s.data.toList.drop (i + 1) := by
    rw [List.drop_eq_getElem_cons (by rw [size_list]; exact hi), get_list s i hi, hc]
  rw [h3, hd, e, consW_nil (parts_ne c _)]
  rw [parts_hit]
  simp [consW]
theorem upTo_miss {c : UInt8} {s : ByteArray} {O : List ByteArray} {f i : Nat} (h : upTo c s O f i) (hi : i < s.size) (hc : ¬ s[i]'hi = c) : upTo c s O f (i + 1) := by
  obtain ⟨h1, h2, h3⟩ := h
  refine ⟨by omega, hi, ?_⟩
  have hd : s.data.toList.drop i = s[i]'hi :: s.data.toList.drop (i + 1) := by
    rw [List.drop_eq_getElem_cons (by rw [size_list]; exact hi), get_list s i hi]
  rw [h3, hd, extract_snoc s f i h1 hi]
  congr 1
  have e : parts c (s[i]'hi :: s.data.toList.drop (i + 1)) = consW [s[i]'hi] (parts c (s.data.toList.drop (i + 1))) := by
    conv => lhs; unfold parts
    rw [if_neg hc]
  rw [e, consW_consW _ _ (parts_ne c _)]
theorem mk_data (a : ByteArray) : (⟨a.data.toList.toArray⟩ : ByteArray) = a := plist_mk a
theorem upTo_end {c : UInt8} {s : ByteArray} {O : List ByteArray} {f : Nat} (h : upTo c s O f s.size) : partsB c s = O ++ [s.extract f s.size] := by
  obtain ⟨h1, h2, h3⟩ := h
  have e : s.data.toList.drop s.size = [] := by rw [← size_list, List.drop_length]
  unfold partsB
  rw [h3, e, List.map_append]
  have e2 : (consW (s.extract f s.size).data.toList (parts c [])) = [(s.extract f s.size).data.toList] := by simp [parts, consW]
  rw [e2, List.map_map]
  simp only [List.map_cons, List.map_nil, mk_data]
  congr 1
  rw [show ((fun l : List UInt8 => (⟨l.toArray⟩ : ByteArray)) ∘ fun x : ByteArray => x.data.toList) = id from funext fun a => mk_data a, List.map_id]
theorem split_parts (c : UInt8) : ∀ (n : Nat) (s : ByteArray), s.size ≤ n → Lib.splitB ⟨#[c]⟩ 0 (Lib.countB s ⟨#[c]⟩) s = partsB c s ∧ Lib.countB s ⟨#[c]⟩ + 1 = (partsB c s).length := by
  intro n
  induction n with
  | zero =>
    intro s hs
    have hl : s.data.toList = [] := List.eq_nil_of_length_eq_zero (by rw [size_list]; omega)
    have hx : Lib.indexB s ⟨#[c]⟩ = -1 := by
      show Lib.index s.data.toList [c] = -1
      exact index_none c _ (by rw [hl]; simp)
    rw [Lib.splitB_miss _ _ _ _ hx, Lib.countB_miss _ _ hx]
    have hp : partsB c s = [s] := by unfold partsB; rw [parts_none c _ (by rw [hl]; simp)]; simp [plist_mk]
    rw [hp]
    exact ⟨rfl, rfl⟩
  | succ n ih =>
    intro s hs
    by_cases hm : c ∈ s.data.toList
    case neg =>
      have hx : Lib.indexB s ⟨#[c]⟩ = -1 := index_none c _ hm
      rw [Lib.splitB_miss _ _ _ _ hx, Lib.countB_miss _ _ hx]
      have hp : partsB c s = [s] := by unfold partsB; rw [parts_none c _ hm]; simp [plist_mk]
      rw [hp]
      exact ⟨rfl, rfl⟩
    case pos =>
      obtain ⟨l, r, hlr, hl⟩ : ∃ l r, s.data.toList = l ++ c :: r ∧ c ∉ l := List.eq_append_cons_of_mem hm
      have hx : Lib.indexB s ⟨#[c]⟩ = (l.length : Int) := by
        show Lib.index s.data.toList [c] = _
        rw [hlr]
        exact index_at c l r hl
      have hz : (⟨#[c]⟩ : ByteArray).size = 1 := rfl
      have hss : s.size = l.length + (r.length + 1) := by rw [psize_of_list hlr]; simp
      have hR : (s.extract (l.length + 1) s.size).data.toList = r := by
        rw [Lib.extract_data, hlr]
        rw [show l ++ c :: r = (l ++ [c]) ++ r by simp, List.drop_left' (by simp)]
        exact List.take_of_length_le (by omega)
      obtain ⟨h1, h2⟩ := ih (s.extract (l.length + 1) s.size) (by rw [psize_of_list hR]; omega)
      have hcount := Lib.countB_hit s ⟨#[c]⟩ l.length (Nat.le_refl 1) hx
      rw [hz] at hcount
      have hp : partsB c s = s.extract 0 l.length :: partsB c (s.extract (l.length + 1) s.size) := by
        unfold partsB
        rw [hlr, parts_at c l r hl, hR, List.map_cons]
        congr 1
        refine pbytes_ext ?_
        rw [pmk_list, Lib.extract_data, hlr, List.drop_zero, Nat.sub_zero, List.take_left' rfl]
      rw [hcount, Nat.add_comm 1, Lib.splitB_hit _ _ _ _ _ hx, hz, h1, hp, List.length_cons, ← h2, Nat.add_zero]
      exact ⟨rfl, by omega⟩
theorem own_words (w : World) (B : Nat) (hB : B ≤ w.heap.size) (E : TypeId) (L : List ByteArray) (h0 : L.length ≤ 9223372036854775807) : Own (w.alloc (.cells (L.map Value.string).toArray E)) B E 1 (.slice (some ⟨w.heap.size, 0, none⟩) L.length L.length) eS L := by
  have hf : L.flatMap eS = L.map Value.string := by
    clear h0
    induction L with
    | nil => rfl
    | cons x r ih => rw [List.flatMap_cons, ih]; rfl
  refine ⟨by rw [flatMap_len eS 1 eS_len], .inr ⟨w.heap.size, L.length, (L.map Value.string).toArray, rfl, hB, heap_alloc_new w _, Nat.le_refl _, h0, ?_, ?_⟩⟩
  · simp
  · rw [hf]
    simp
    exact List.take_of_length_le (by simp)
theorem split_impl (w : World) (s : ByteArray) (c : UInt8) (hs : s.size ≤ 1048576) (hm : MaxL w) :
    Calls Tryz.prog 26 #[.string s, .string ⟨#[c]⟩] w fun e w' => ∃ v, e = .returned v ∧ Own w' w.heap.size 9 1 v eS (partsB c s) ∧ Below w.heap.size w w' := by
  obtain ⟨m, hm⟩ := hm
  refine (Tryz.strings_Split s ⟨#[c]⟩ m w (by omega) hm (Nat.le_refl 1)).mono ?_
  rintro e w' ⟨rfl, rfl⟩
  obtain ⟨h1, h2⟩ := split_parts c s.size s (Nat.le_refl _)
  refine ⟨_, rfl, ?_, (Below.refl _ _).alloc (Nat.le_refl _) _⟩
  rw [h1, h2]
  have := partsB_len_le c s
  exact own_words w _ (Nat.le_refl _) _ _ (by omega)
set_option maxRecDepth 100000 in
set_option maxHeartbeats 4000000 in
theorem split_spec (w : World) (s : ByteArray) (c : UInt8) (hs : s.size ≤ 1048576) :
    Calls Tryz.prog 38 #[.string s, .int .u8 (c.toNat : Int)] w fun e w' => ∃ v, e = .returned v ∧ Own w' w.heap.size 9 1 v eS (partsB c s) ∧ Below w.heap.size w w' := by
  obtain ⟨i0, hi, hz0, hz1, hz2⟩ : ∃ i, Tryz.prog.info? 9 = some i ∧ i.zero = some (.string ByteArray.empty) ∧ i.size = 1 ∧ i.bytes = 16 := by
    have hh := info_str
    rcases q : Tryz.prog.info? 9 with _ | i
    · simp [q] at hh
    · simp [q] at hh
      exact ⟨i, rfl, hh.1, hh.2.1, hh.2.2⟩
  have HC := hd (fun (i : Nat) (hi : i < s.size) => (show (((s[i]'hi).toNat : Int) == (c.toNat : Int)) = decide (s[i]'hi = c) by
    rw [Bool.eq_iff_iff]
    simp only [beq_iff_eq, decide_eq_true_eq]
    constructor
    · intro e; exact UInt8.toNat_inj.1 (by omega)
    · intro e; rw [e]))
  go_enter Tryz.func38, Tryz.ntmps38
  go_wp2_with fail
  have hown00 := Own.made0 w w.heap.size 9 1 eS (Nat.le_refl _)
  have hbel00 := (Below.refl w.heap.size w).alloc (Nat.le_refl _) (.cells #[] 9)
  go_loopw [5, 6, 7] (fun ov fv iv wr => ∃ (O : List ByteArray) (f k : Nat), iv = .int .i64 k ∧ fv = .int .i64 f ∧ Hid (upTo c s O f k) ∧ f ≤ k ∧ k ≤ s.size ∧ O.length ≤ k ∧ Own wr w.heap.size 9 1 ov eS O ∧ Below w.heap.size w wr) (fun _ _ iv _ => s.size - (intOf iv).toNat)
  case atStart => exact ⟨[], 0, 0, rfl, rfl, hd (upTo_start c s), Nat.le_refl _, Nat.zero_le _, Nat.le_refl _, hown00, hbel00⟩
  case round =>
    obtain ⟨O, f, k, rfl, rfl, HU, hfk, hk, hO, hown, hbel⟩ := hrel
    clear hown00 hbel00
    by_cases hlt : k < s.size
    · rcases q : decide (s[k]'hlt = c) with _ | _
      · have q2 : (((s[k]'hlt).toNat : Int) == (c.toNat : Int)) = false := by rw [HC.out, q]
        have HN := hd (upTo_miss HU.out hlt (of_decide_eq_false q))
        clear q HC
        go_wp2_with fail
        go_roundw
        case rel => exact ⟨O, f, k + 1, by go_num, rfl, HN, by omega, by omega, by omega, hown, hbel⟩
        case measure => simp [intOf]; omega
      · have q2 : (((s[k]'hlt).toNat : Int) == (c.toNat : Int)) = true := by rw [HC.out, q]
        have HN := hd (upTo_hit HU.out hlt (of_decide_eq_true q))
        have hfs : f ≤ s.size := by omega
        clear q HC
        go_wp2_with (at_builtin; refine wpList_push _ rfl _ _ 24 rfl i0 (.string ByteArray.empty) 16 Tryz.underlying24 hi hz0 hz1 hz2 rfl (by decide) _ _ (s.extract f k) rfl (hown.alloc _) wr.heap.size rfl #[.string (s.extract f k)] 9 (heap_alloc_new _ _) rfl rfl (by intro u hu; simp [eS] at hu; subst hu; rfl) (by unfold maxLen; omega) (by omega) (by have := hbel.size; simp; omega) ?_)
        intro v' w3 hown2 hgr2
        have hbel2 := (hbel.alloc hbel.size (.cells #[.string (s.extract f k)] 9)).grown hgr2 (by have := hbel.size; simp; omega) (fun g hg => (hown.lt g hg).1)
        clear hown hgr2
        go_wp2_with fail
        go_roundw
        case rel => exact ⟨O ++ [s.extract f k], k + 1, k + 1, by go_num, by go_num, HN, by omega, by omega, by simp; omega, hown2, hbel2⟩
        case measure => simp [intOf]; omega
    · obtain rfl : k = s.size := by omega
      have HE := hd (upTo_end HU.out)
      clear HC
      go_wp2_with (at_builtin; refine wpList_push _ rfl _ _ 24 rfl i0 (.string ByteArray.empty) 16 Tryz.underlying24 hi hz0 hz1 hz2 rfl (by decide) _ _ (s.extract f s.size) rfl (hown.alloc _) wr.heap.size rfl #[.string (s.extract f s.size)] 9 (heap_alloc_new _ _) rfl rfl (by intro u hu; simp [eS] at hu; subst hu; rfl) (by unfold maxLen; omega) (by omega) (by have := hbel.size; simp; omega) ?_)
      intro v' w3 hown2 hgr2
      have hbel2 := (hbel.alloc hbel.size (.cells #[.string (s.extract f s.size)] 9)).grown hgr2 (by have := hbel.size; simp; omega) (fun g hg => (hown.lt g hg).1)
      clear hown hgr2
      go_wp2_with fail
      go_ret
      exact ⟨_, rfl, by rw [HE.out]; exact hown2, hbel2⟩
end Go.Proofs.YtgcodjkjdfahdaaGreatDoor
