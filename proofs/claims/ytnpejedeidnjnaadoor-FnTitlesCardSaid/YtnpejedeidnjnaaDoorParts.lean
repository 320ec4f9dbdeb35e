/- A text cut at a sign into parts: the plain law, the reference's l01Split and the library's strings.Split. No condition but that the library's search variable lies as it is laid. -/
import Derived.Test.YtnpejedeidnjnaaDoorMoney
import Derived.Test.YtnpejedeidnjnaaDoorDoor
import Derived.Test.YtnpejedeidnjnaaDoorApp
import Derived.Lib.Split
import Derived.Lib.CountLaws
namespace Go.Proofs.YtnpejedeidnjnaaDoor
open Go Go.RowKit Go.ChangeShapes Go.WideShapes
set_option linter.unusedSimpArgs false
set_option linter.unusedVariables false
theorem plist_mk (s : ByteArray) : (⟨s.data.toList.toArray⟩ : ByteArray) = s := by simp
theorem pbytes_ext {a b : ByteArray} (h : a.data.toList = b.data.toList) : a = b := by
  rw [← plist_mk a, h, plist_mk b]
theorem pmk_list (l : List UInt8) : (⟨l.toArray⟩ : ByteArray).data.toList = l := by simp
theorem psize_of_list {s : ByteArray} {l : List UInt8} (h : s.data.toList = l) : s.size = l.length := by rw [← h, size_list]
/-- a beginning put ahead of the first part -/
def consW (p : List UInt8) : List (List UInt8) → List (List UInt8)
  | [] => [p]
  | w :: ws => (p ++ w) :: ws
/-- the parts between the signs c -/
def parts (c : UInt8) : List UInt8 → List (List UInt8)
  | [] => [[]]
  | x :: r => if x = c then [] :: parts c r else consW [x] (parts c r)
theorem parts_hit (c : UInt8) (r : List UInt8) : parts c (c :: r) = [] :: parts c r := by
  conv => lhs; unfold parts
  rw [if_pos rfl]
theorem parts_miss {c x : UInt8} (h : ¬ x = c) (r : List UInt8) : parts c (x :: r) = consW [x] (parts c r) := by
  conv => lhs; unfold parts
  rw [if_neg h]
theorem parts_ne (c : UInt8) : ∀ l, parts c l ≠ []
  | [] => by simp [parts]
  | x :: r => by
    unfold parts
    split
    · simp
    · cases parts c r <;> simp [consW]
theorem consW_nil {L : List (List UInt8)} (h : L ≠ []) : consW [] L = L := by
  cases L with
  | nil => exact absurd rfl h
  | cons w ws => rfl
theorem consW_consW (p q : List UInt8) {L : List (List UInt8)} (h : L ≠ []) : consW p (consW q L) = consW (p ++ q) L := by
  cases L with
  | nil => exact absurd rfl h
  | cons w ws => simp [consW]
theorem parts_none (c : UInt8) : ∀ l : List UInt8, c ∉ l → parts c l = [l]
  | [], _ => rfl
  | x :: r, h => by
    have hx : ¬ x = c := fun e => h (by rw [e]; exact List.mem_cons_self ..)
    unfold parts
    rw [if_neg hx, parts_none c r (fun e => h (List.mem_cons_of_mem _ e))]
    rfl
theorem parts_at (c : UInt8) : ∀ (l r : List UInt8), c ∉ l → parts c (l ++ c :: r) = l :: parts c r
  | [], r, _ => by
    show parts c (c :: r) = [] :: parts c r
    conv => lhs; unfold parts
    rw [if_pos rfl]
  | x :: l, r, h => by
    have hx : ¬ x = c := fun e => h (by rw [e]; exact List.mem_cons_self ..)
    rw [List.cons_append]
    conv => lhs; unfold parts
    rw [if_neg hx, parts_at c l r (fun e => h (List.mem_cons_of_mem _ e))]
    rfl
/-- parts put together again -/
def joinL (c : UInt8) : List (List UInt8) → List UInt8
  | [] => []
  | [w] => w
  | w :: ws => w ++ c :: joinL c ws
theorem joinL_consW (c : UInt8) (p : List UInt8) : ∀ L : List (List UInt8), L ≠ [] → joinL c (consW p L) = p ++ joinL c L
  | [], h => absurd rfl h
  | [w], _ => rfl
  | w :: v :: ws, _ => by simp [consW, joinL]
theorem joinL_cons (c : UInt8) (w : List UInt8) : ∀ L : List (List UInt8), L ≠ [] → joinL c (w :: L) = w ++ c :: joinL c L
  | [], h => absurd rfl h
  | _ :: _, _ => rfl
theorem joinL_parts (c : UInt8) : ∀ l : List UInt8, joinL c (parts c l) = l
  | [] => rfl
  | x :: r => by
    unfold parts
    split
    next h => rw [joinL_cons c _ _ (parts_ne c r), joinL_parts c r, h]; rfl
    next h => rw [joinL_consW c _ _ (parts_ne c r), joinL_parts c r]; rfl
theorem parts_len (c : UInt8) : ∀ l : List UInt8, (parts c l).length = l.count c + 1
  | [] => rfl
  | x :: r => by
    unfold parts
    split
    next h => subst h; simp [parts_len x r]
    next h =>
      have h1 : ∀ L : List (List UInt8), L ≠ [] → (consW [x] L).length = L.length := by
        intro L hL
        cases L with
        | nil => exact absurd rfl hL
        | cons w ws => rfl
      rw [h1 _ (parts_ne c r), parts_len c r, List.count_cons_of_ne (by exact h)]
theorem parts_len_le (c : UInt8) (l : List UInt8) : (parts c l).length ≤ l.length + 1 := by
  rw [parts_len]
  have := List.count_le_length (a := c) (l := l)
  omega
theorem parts_mem_len (c : UInt8) : ∀ (l : List UInt8), ∀ x ∈ parts c l, x.length ≤ l.length
  | [], x, h => by simp [parts] at h; simp [h]
  | y :: r, x, h => by
    unfold parts at h
    split at h
    · rcases List.mem_cons.1 h with rfl | h
      · simp
      · have := parts_mem_len c r x h
        simp
        omega
    · have ih := parts_mem_len c r
      rcases hp : parts c r with _ | ⟨w, ws⟩
      · exact absurd hp (parts_ne c r)
      · rw [hp] at h ih
        rcases List.mem_cons.1 h with rfl | h
        · have := ih w (List.mem_cons_self ..)
          simp
          omega
        · have := ih x (List.mem_cons_of_mem _ h)
          simp
          omega
/-- the parts as texts -/
def partsB (c : UInt8) (s : ByteArray) : List ByteArray := (parts c s.data.toList).map fun l => ⟨l.toArray⟩
theorem partsB_len (c : UInt8) (s : ByteArray) : (partsB c s).length = (parts c s.data.toList).length := by simp [partsB]
theorem partsB_len_le (c : UInt8) (s : ByteArray) : (partsB c s).length ≤ s.size + 1 := by
  rw [partsB_len]
  have := parts_len_le c s.data.toList
  rw [size_list] at this
  exact this
theorem partsB_size (c : UInt8) (s x : ByteArray) (h : x ∈ partsB c s) : x.size ≤ s.size := by
  obtain ⟨l, hl, rfl⟩ := List.mem_map.1 h
  have := parts_mem_len c _ l hl
  rw [size_list] at this
  rw [psize_of_list (pmk_list _)]
  exact this
/-- the state of the reference's loop -/
def upTo (c : UInt8) (s : ByteArray) (O : List ByteArray) (f i : Nat) : Prop := f ≤ i ∧ i ≤ s.size ∧ parts c s.data.toList = O.map (·.data.toList) ++ consW (s.extract f i).data.toList (parts c (s.data.toList.drop i))
theorem upTo_start (c : UInt8) (s : ByteArray) : upTo c s [] 0 0 := by
  refine ⟨Nat.le_refl _, Nat.zero_le _, ?_⟩
  have e : (s.extract 0 0).data.toList = [] := by rw [Lib.extract_data]; rfl
  rw [e, List.drop_zero, consW_nil (parts_ne c _)]
  rfl
theorem extract_snoc (s : ByteArray) (f i : Nat) (hf : f ≤ i) (hi : i < s.size) : (s.extract f (i + 1)).data.toList = (s.extract f i).data.toList ++ [s[i]'hi] := by
  rw [Lib.extract_data, Lib.extract_data, show i + 1 - f = (i - f) + 1 by omega, List.take_add_one]
  congr 1
  rw [List.getElem?_drop, show f + (i - f) = i by omega, List.getElem?_eq_getElem (by rw [size_list]; exact hi), get_list s i hi]
  rfl
theorem upTo_hit {c : UInt8} {s : ByteArray} {O : List ByteArray} {f i : Nat} (h : upTo c s O f i) (hi : i < s.size) (hc : s[i]'hi = c) : upTo c s (O ++ [s.extract f i]) (i + 1) (i + 1) := by
  obtain ⟨h1, h2, h3⟩ := h
  refine ⟨Nat.le_refl _, hi, ?_⟩
  have e : (s.extract (i + 1) (i + 1)).data.toList = [] := by rw [Lib.extract_data]; simp
  have hd : s.data.toList.drop i = c :: s.data.toList.drop (i + 1) := by
    rw [List.drop_eq_getElem_cons (by rw [size_list]; exact hi), get_list s i hi, hc]
  rw [h3, hd, e, consW_nil (parts_ne c _)]
  rw [parts_hit]
  simp [consW]
theorem upTo_miss {c : UInt8} {s : ByteArray} {O : List ByteArray} {f i : Nat} (h : upTo c s O f i) (hi : i < s.size) (hc : ¬ s[i]'hi = c) : upTo c s O f (i + 1) := by
  obtain ⟨h1, h2, h3⟩ := h
  refine ⟨by omega, hi, ?_⟩
  have hd : s.data.toList.drop i = s[i]'hi :: s.data.toList.drop (i + 1) := by
    rw [List.drop_eq_getElem_cons (by rw [size_list]; exact hi), get_list s i hi]
  rw [h3, hd, extract_snoc s f i h1 hi]
  congr 1
  have e : parts c (s[i]'hi :: s.data.toList.drop (i + 1)) = consW [s[i]'hi] (parts c (s.data.toList.drop (i + 1))) := by
    conv => lhs; unfold parts
    rw [if_neg hc]
  rw [e, consW_consW _ _ (parts_ne c _)]
theorem mk_data (a : ByteArray) : (⟨a.data.toList.toArray⟩ : ByteArray) = a := plist_mk a
theorem upTo_end {c : UInt8} {s : ByteArray} {O : List ByteArray} {f : Nat} (h : upTo c s O f s.size) : partsB c s = O ++ [s.extract f s.size] := by
  obtain ⟨h1, h2, h3⟩ := h
  have e : s.data.toList.drop s.size = [] := by rw [← size_list, List.drop_length]
  unfold partsB
  rw [h3, e, List.map_append]
  have e2 : (consW (s.extract f s.size).data.toList (parts c [])) = [(s.extract f s.size).data.toList] := by simp [parts, consW]
  rw [e2, List.map_map]
  simp only [List.map_cons, List.map_nil, mk_data]
  congr 1
  rw [show ((fun l : List UInt8 => (⟨l.toArray⟩ : ByteArray)) ∘ fun x : ByteArray => x.data.toList) = id from funext fun a => mk_data a, List.map_id]
/-- the library's Split -/
theorem split_parts (c : UInt8) : ∀ (n : Nat) (s : ByteArray), s.size ≤ n → Lib.splitB ⟨#[c]⟩ 0 (Lib.countB s ⟨#[c]⟩) s = partsB c s ∧ Lib.countB s ⟨#[c]⟩ + 1 = (partsB c s).length := by
  intro n
  induction n with
  | zero =>
    intro s hs
    have hl : s.data.toList = [] := List.eq_nil_of_length_eq_zero (by rw [size_list]; omega)
    have hx : Lib.indexB s ⟨#[c]⟩ = -1 := by
      show Lib.index s.data.toList [c] = -1
      exact index_none c _ (by rw [hl]; simp)
    rw [Lib.splitB_miss _ _ _ _ hx, Lib.countB_miss _ _ hx]
    have hp : partsB c s = [s] := by unfold partsB; rw [parts_none c _ (by rw [hl]; simp)]; simp [plist_mk]
    rw [hp]
    exact ⟨rfl, rfl⟩
  | succ n ih =>
    intro s hs
    by_cases hm : c ∈ s.data.toList
    case neg =>
      have hx : Lib.indexB s ⟨#[c]⟩ = -1 := index_none c _ hm
      rw [Lib.splitB_miss _ _ _ _ hx, Lib.countB_miss _ _ hx]
      have hp : partsB c s = [s] := by unfold partsB; rw [parts_none c _ hm]; simp [plist_mk]
      rw [hp]
      exact ⟨rfl, rfl⟩
    case pos =>
      obtain ⟨l, r, hlr, hl⟩ : ∃ l r, s.data.toList = l ++ c :: r ∧ c ∉ l := List.eq_append_cons_of_mem hm
      have hx : Lib.indexB s ⟨#[c]⟩ = (l.length : Int) := by
        show Lib.index s.data.toList [c] = _
        rw [hlr]
        exact index_at c l r hl
      have hz : (⟨#[c]⟩ : ByteArray).size = 1 := rfl
      have hss : s.size = l.length + (r.length + 1) := by rw [psize_of_list hlr]; simp
      have hR : (s.extract (l.length + 1) s.size).data.toList = r := by
        rw [Lib.extract_data, hlr]
        rw [show l ++ c :: r = (l ++ [c]) ++ r by simp, List.drop_left' (by simp)]
        exact List.take_of_length_le (by omega)
      obtain ⟨h1, h2⟩ := ih (s.extract (l.length + 1) s.size) (by rw [psize_of_list hR]; omega)
      have hcount := Lib.countB_hit s ⟨#[c]⟩ l.length (Nat.le_refl 1) hx
      rw [hz] at hcount
      have hp : partsB c s = s.extract 0 l.length :: partsB c (s.extract (l.length + 1) s.size) := by
        unfold partsB
        rw [hlr, parts_at c l r hl, hR, List.map_cons]
        congr 1
        refine pbytes_ext ?_
        rw [pmk_list, Lib.extract_data, hlr, List.drop_zero, Nat.sub_zero, List.take_left' rfl]
      rw [hcount, Nat.add_comm 1, Lib.splitB_hit _ _ _ _ _ hx, hz, h1, hp, List.length_cons, ← h2, Nat.add_zero]
      exact ⟨rfl, by omega⟩
theorem own_words (w : World) (B : Nat) (hB : B ≤ w.heap.size) (E : TypeId) (L : List ByteArray) (h0 : L.length ≤ 9223372036854775807) : Own (w.alloc (.cells (L.map Value.string).toArray E)) B E 1 (.slice (some ⟨w.heap.size, 0, none⟩) L.length L.length) eS L := by
  have hf : L.flatMap eS = L.map Value.string := by
    clear h0
    induction L with
    | nil => rfl
    | cons x r ih => rw [List.flatMap_cons, ih]; rfl
  refine ⟨by rw [flatMap_len eS 1 eS_len], .inr ⟨w.heap.size, L.length, (L.map Value.string).toArray, rfl, hB, heap_alloc_new w _, Nat.le_refl _, h0, ?_, ?_⟩⟩
  · simp
  · rw [hf]
    simp
    exact List.take_of_length_le (by simp)
theorem split_impl (w : World) (s : ByteArray) (c : UInt8) (hs : s.size ≤ 1048576) (hm : MaxL w) :
    Calls Tryd.prog 27 #[.string s, .string ⟨#[c]⟩] w fun e w' => ∃ v, e = .returned v ∧ Own w' w.heap.size 9 1 v eS (partsB c s) ∧ Below w.heap.size w w' := by
  obtain ⟨m, hm⟩ := hm
  refine (Tryd.strings_Split s ⟨#[c]⟩ m w (by omega) hm (Nat.le_refl 1)).mono ?_
  rintro e w' ⟨rfl, rfl⟩
  obtain ⟨h1, h2⟩ := split_parts c s.size s (Nat.le_refl _)
  refine ⟨_, rfl, ?_, (Below.refl _ _).alloc (Nat.le_refl _) _⟩
  rw [h1, h2]
  have := partsB_len_le c s
  exact own_words w _ (Nat.le_refl _) _ _ (by omega)
end Go.Proofs.YtnpejedeidnjnaaDoor
