/- Numbers in decimal: the reference's function. No condition but that the library's table of powers of ten reads as it is laid. -/
import Derived.Test.YtlgcehdklpbknaaBase
import Derived.Test.YtlgcehdklpbknaaApp
import Derived.Lib.ItoaLen
import Derived.Lib.AppendIntMem
import Derived.Laws.IdiomStrings
import Derived.Laws.BytesArg
namespace Go.Proofs.Ytlgcehdklpbknaa
open Go Go.RowKit Go.ChangeShapes Go.WideShapes
set_option linter.unusedSimpArgs false
set_option linter.unusedVariables false

/-- the library's table of powers of ten reads as it is laid -/
def Tab (w : World) : Prop := Lib.TabIs Try.prog w "internal/strconv.uint64pow10" .u64 Lib.pow10Tab
theorem Tab.below {w w' : World} (h : Tab w) (hb : Below w.heap.size w w') : Tab w' := Lib.tabBelow_of_tabIs h w' hb
theorem below_grow (w : World) (q : Nat) (os : Array Obj) : Below w.heap.size w (Sort.grow (w.drewN q) os) :=
  ⟨rfl, rfl, rfl, by simp [Sort.grow], fun i hi => by
    show ((w.drewN q).heap ++ os)[i]? = _
    rw [Array.getElem?_append_left (by show i < w.heap.size; omega)]
    rfl⟩
def decS (n : Int) : ByteArray := ⟨(Lib.itoa n).toArray⟩
theorem decS_size {n : Int} (h : -9223372036854775808 ≤ n ∧ n ≤ 9223372036854775807) : (decS n).size ≤ 21 := by
  have := Lib.itoa_length_le n h.1 h.2
  simpa [decS, ByteArray.size] using this

/-! ### bytes -/
theorem Own.isSlice {α : Type} {w : World} {B : Nat} {E : TypeId} {k : Nat} {v : Value} {enc : α → List Value} {l : List α} (h : Own w B E k v enc l) : ∃ A c, v = .slice A l.length c := by
  rcases h.form with ⟨hv, hl⟩ | ⟨g, cap, hv, -⟩
  · subst hl
    exact ⟨none, 0, hv⟩
  · exact ⟨_, cap, hv⟩
theorem Sl.isSlice {α : Type} {w : World} {k : Nat} {v : Value} {enc : α → List Value} {l : List α} (h : Sl w k v enc l) : ∃ A c, v = .slice A l.length c := by
  obtain ⟨-, A, c, hv, -⟩ := h
  exact ⟨A, c, hv⟩
def eU (x : UInt8) : List Value := [.int .u8 (x.toNat : Int)]
theorem eU_len (x : UInt8) : (eU x).length = 1 := rfl
theorem own_byte (w : World) (X : Int) (y : UInt8) (h : (y.toNat : Int) = X) (B : Nat) (hB : B ≤ w.heap.size) (E : TypeId) : Own (w.alloc (.cells #[.int .u8 X] E)) B E 1 (.slice (some ⟨w.heap.size, 0, none⟩) 1 1) eU [y] := by
  subst h
  exact ⟨rfl, .inr ⟨w.heap.size, 1, #[.int .u8 (y.toNat : Int)], rfl, hB, heap_alloc_new w _, Nat.le_refl _, by decide, rfl, rfl⟩⟩
theorem conv_bytes {P : Program} (w : World) (src dst e : TypeId) (hs : P.underlying src = some (.slice e)) (he : P.underlying e = some (.int .u8)) (hd' : P.underlying dst = some .string) {v : Value} {l : List UInt8} (h : Sl w 1 v eU l) :
    (convert src dst v).run P w = .ok (.string ⟨l.toArray⟩) w := by
  obtain ⟨h1, A, c, rfl, hc, hc', h2⟩ := h
  rcases A with _ | a
  · have hnil : l = [] := by
      rcases l with _ | ⟨y, l⟩
      · rfl
      · obtain ⟨b, o, e', -⟩ := h2 0 y rfl
        cases e'
    subst hnil
    exact run_convert_bytes_nil w src e hs he _ _ dst hd'
  · refine run_convert_bytes_back w src dst e a c l hs he hd' (fun j hj => ?_)
    obtain ⟨b, o, e', -, h3⟩ := h2 j l[j] (List.getElem?_eq_getElem hj)
    cases e'
    have hadd : (⟨b, o, none⟩ : Addr).add j = ⟨b, o + j, none⟩ := by unfold Addr.add; split <;> simp_all
    rw [hadd]
    simpa [eU] using h3 0 _ rfl
/-- the digits of a number, none of 0 -/
def digs (q : Nat) : List UInt8 := if q = 0 then [] else Lib.decDigits q
theorem digs_step {q : Nat} (h : q ≠ 0) : digs q = digs (q / 10) ++ [UInt8.ofNat (48 + q % 10)] := by
  unfold digs
  rw [if_neg h]
  by_cases h2 : q < 10
  · rw [if_pos (by omega), Lib.decDigits_one h2, show q % 10 = q by omega]
    rfl
  · rw [if_neg (by omega)]
    conv => lhs; rw [Lib.decDigits, dif_neg h2]
theorem digit_val (q : Nat) : ((UInt8.ofNat (48 + q % 10)).toNat : Int) = 48 + ((q % 10 : Nat) : Int) := by
  rw [UInt8.toNat_ofNat']
  omega
theorem info_u8 : (Try.prog.info? 5).map (fun i => (i.zero, i.size, i.bytes)) = some (some (.int .u8 0), 1, 1) := by kernel_rfl
end Go.Proofs.Ytlgcehdklpbknaa
