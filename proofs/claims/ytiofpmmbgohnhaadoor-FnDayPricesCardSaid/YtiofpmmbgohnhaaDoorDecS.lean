/- Numbers in decimal: the reference's function. No condition but that the library's table of powers of ten reads as it is laid. -/
import Derived.Test.YtiofpmmbgohnhaaDoorBase
import Derived.Test.YtiofpmmbgohnhaaDoorApp
import Derived.Lib.ItoaLen
import Derived.Lib.AppendIntMem
import Derived.Laws.IdiomStrings
import Derived.Laws.BytesArg
namespace Go.Proofs.YtiofpmmbgohnhaaDoor
open Go Go.RowKit Go.ChangeShapes Go.WideShapes
set_option linter.unusedSimpArgs false
set_option linter.unusedVariables false

/-- the library's table of powers of ten reads as it is laid -/
def Tab (w : World) : Prop := Lib.TabIs Tryd.prog w "internal/strconv.uint64pow10" .u64 Lib.pow10Tab
theorem Tab.below {w w' : World} (h : Tab w) (hb : Below w.heap.size w w') : Tab w' := Lib.tabBelow_of_tabIs h w' hb
theorem below_grow (w : World) (q : Nat) (os : Array Obj) : Below w.heap.size w (Sort.grow (w.drewN q) os) :=
  ⟨rfl, rfl, rfl, by simp [Sort.grow], fun i hi => by
    show ((w.drewN q).heap ++ os)[i]? = _
    rw [Array.getElem?_append_left (by show i < w.heap.size; omega)]
    rfl⟩
def decS (n : Int) : ByteArray := ⟨(Lib.itoa n).toArray⟩
theorem decS_size {n : Int} (h : -9223372036854775808 ≤ n ∧ n ≤ 9223372036854775807) : (decS n).size ≤ 21 := by
  have := Lib.itoa_length_le n h.1 h.2
  simpa [decS, ByteArray.size] using this

/-! ### bytes -/
theorem Own.isSlice {α : Type} {w : World} {B : Nat} {E : TypeId} {k : Nat} {v : Value} {enc : α → List Value} {l : List α} (h : Own w B E k v enc l) : ∃ A c, v = .slice A l.length c := by
  rcases h.form with ⟨hv, hl⟩ | ⟨g, cap, hv, -⟩
  · subst hl
    exact ⟨none, 0, hv⟩
  · exact ⟨_, cap, hv⟩
theorem Sl.isSlice {α : Type} {w : World} {k : Nat} {v : Value} {enc : α → List Value} {l : List α} (h : Sl w k v enc l) : ∃ A c, v = .slice A l.length c := by
  obtain ⟨-, A, c, hv, -⟩ := h
  exact ⟨A, c, hv⟩
def eU (x : UInt8) : List Value := [.int .u8 (x.toNat : Int)]
theorem eU_len (x : UInt8) : (eU x).length = 1 := rfl
theorem own_byte (w : World) (X : Int) (y : UInt8) (h : (y.toNat : Int) = X) (B : Nat) (hB : B ≤ w.heap.size) (E : TypeId) : Own (w.alloc (.cells #[.int .u8 X] E)) B E 1 (.slice (some ⟨w.heap.size, 0, none⟩) 1 1) eU [y] := by
  subst h
  exact ⟨rfl, .inr ⟨w.heap.size, 1, #[.int .u8 (y.toNat : Int)], rfl, hB, heap_alloc_new w _, Nat.le_refl _, by decide, rfl, rfl⟩⟩
theorem conv_bytes {P : Program} (w : World) (src dst e : TypeId) (hs : P.underlying src = some (.slice e)) (he : P.underlying e = some (.int .u8)) (hd' : P.underlying dst = some .string) {v : Value} {l : List UInt8} (h : Sl w 1 v eU l) :
    (convert src dst v).run P w = .ok (.string ⟨l.toArray⟩) w := by
  obtain ⟨h1, A, c, rfl, hc, hc', h2⟩ := h
  rcases A with _ | a
  · have hnil : l = [] := by
      rcases l with _ | ⟨y, l⟩
      · rfl
      · obtain ⟨b, o, e', -⟩ := h2 0 y rfl
        cases e'
    subst hnil
    exact run_convert_bytes_nil w src e hs he _ _ dst hd'
  · refine run_convert_bytes_back w src dst e a c l hs he hd' (fun j hj => ?_)
    obtain ⟨b, o, e', -, h3⟩ := h2 j l[j] (List.getElem?_eq_getElem hj)
    cases e'
    have hadd : (⟨b, o, none⟩ : Addr).add j = ⟨b, o + j, none⟩ := by unfold Addr.add; split <;> simp_all
    rw [hadd]
    simpa [eU] using h3 0 _ rfl
/-- the digits of a number, none of 0 -/
def digs (q : Nat) : List UInt8 := if q = 0 then [] else Lib.decDigits q
theorem digs_step {q : Nat} (h : q ≠ 0) : digs q = digs (q / 10) ++ [UInt8.ofNat (48 + q % 10)] := by
  unfold digs
  rw [if_neg h]
  by_cases h2 : q < 10
  · rw [if_pos (by omega), Lib.decDigits_one h2, show q % 10 = q by omega]
    rfl
  · rw [if_neg (by omega)]
    conv => lhs; rw [Lib.decDigits, dif_neg h2]
theorem digit_val (q : Nat) : ((UInt8.ofNat (48 + q % 10)).toNat : Int) = 48 + ((q % 10 : Nat) : Int) := by
  rw [UInt8.toNat_ofNat']
  omega
theorem info_u8 : (Tryd.prog.info? 5).map (fun i => (i.zero, i.size, i.bytes)) = some (some (.int .u8 0), 1, 1) := by kernel_rfl
set_option maxRecDepth 100000 in
set_option maxHeartbeats 1000000 in
theorem dec_spec_pos (w : World) (m : Nat) (h : m ≤ 9223372036854775807) :
    Calls Tryd.prog 123 #[.int .i64 (m : Int)] w fun e w' => e = .returned (.string (decS (m : Int))) ∧ Below w.heap.size w w' := by
  have HLEN := hd (show (digs m).length ≤ 21 by
    unfold digs
    split
    · simp
    · have := Lib.itoa_length_le (m : Int) (by omega) (by omega)
      rwa [Lib.itoa_nonneg] at this)
  have HCV := hd (fun (w : World) (v : Value) (l : List UInt8) (hv : Sl w 1 v eU l) => conv_bytes (P := Tryd.prog) w 22 9 5 Tryd.underlying22 Tryd.underlying5 Tryd.underlying9 hv)
  obtain ⟨i0, hi, hz0, hz1, hz2⟩ := info_parts info_u8
  have O0 := Own.made0 w w.heap.size 5 1 eU (Nat.le_refl _)
  have b0 := (Below.refl w.heap.size w).alloc (Nat.le_refl _) (.cells #[] 5)
  go_enter Tryd.func123, Tryd.ntmps123
  go_wp2_with fail
  go_loopw [3, 4] (fun ov kv wr => ∃ (q : Nat) (l : List UInt8), kv = .int .i64 (q : Int) ∧ q ≤ 9223372036854775808 ∧ Own wr w.heap.size 5 1 ov eU l ∧ Hid (digs m = digs q ++ l) ∧ Below w.heap.size w wr) (fun _ kv _ => (intOf kv).natAbs)
  case atStart => exact ⟨m, [], rfl, by omega, O0, hd (by simp), b0⟩
  case round =>
    obtain ⟨q, l, rfl, hq, hO, HD, hbel⟩ := hrel
    clear O0 b0
    by_cases hq0 : q = 0
    · subst hq0
      have HL := hd (show digs m = l by rw [HD.out]; rfl)
      have hc := HCV.out wr _ l (hO.sl eU_len)
      obtain ⟨A, c, rfl⟩ := hO.isSlice
      by_cases hm : m = 0
      · have hlb : ((l.length : Int) == 0) = true := by rw [← HL.out, hm]; rfl
        have HE := hd (show decS (m : Int) = ⟨#[48]⟩ by unfold decS; rw [Lib.itoa_nonneg, hm, Lib.decDigits_one (by omega)]; rfl)
        clear hm
        go_wp2_with fail
        go_ret
        exact ⟨by rw [HE.out]; rfl, hbel⟩
      · have HE := hd (show decS (m : Int) = ⟨l.toArray⟩ by
          unfold decS
          rw [Lib.itoa_nonneg, ← HL.out]
          unfold digs
          rw [if_neg hm])
        have hlp : 0 < l.length := by
          have e := HL.out
          unfold digs at e
          rw [if_neg hm] at e
          rw [← e, Lib.decDigits_length]
          unfold Lib.nDigits
          split <;> omega
        have hlb : ((l.length : Int) == 0) = false := by simp; intro e; rw [e] at hlp; simp at hlp
        have hm0 : (0 : Int) ≤ (m : Int) := by omega
        go_wp2_with fail
        go_ret
        exact ⟨by rw [HE.out]; rfl, hbel⟩
    · skip
      obtain ⟨y, hy⟩ : ∃ y, y = UInt8.ofNat (48 + q % 10) := ⟨_, rfl⟩
      have HV := hd (show (y.toNat : Int) = (48 + (q : Int) % 10) by rw [hy, digit_val]; omega)
      have HN := hd (show digs m = digs (q / 10) ++ (y :: l) by rw [HD.out, digs_step hq0, List.append_assoc, hy]; rfl)
      clear hy
      have hl21 : l.length ≤ 21 := by have := HLEN.out; rw [HD.out, List.length_append] at this; omega
      have hqp : (0 : Int) < (q : Int) := by omega
      obtain ⟨A, c, rfl⟩ := hO.isSlice
      go_wp2_with (at_builtin; refine wpList_append_sl _ rfl _ _ 22 rfl i0 (.int .u8 0) 1 Tryd.underlying22 hi hz0 hz1 hz2 rfl (by decide) eU_len (by intro y u hu; simp [eU] at hu; subst hu; rfl) _ [y] rfl (own_byte wr _ _ HV.out w.heap.size hbel.size 5) _ l rfl ((hO.sl eU_len).alloc _) (by unfold maxLen; simp; omega) (by simp; omega) (by have := hbel.size; simp; omega) ?_)
      intro v' w1 hown hgr
      have hb1 := (hbel.alloc hbel.size (.cells #[.int .u8 (48 + (q : Int) % 10)] 5)).grown hgr (by have := hbel.size; simp; omega) (fun g hg => (Option.some.inj (show some wr.heap.size = some g from hg)) ▸ hbel.size)
      clear hgr
      go_wp2_with fail
      go_roundw
      case rel => exact ⟨q / 10, y :: l, by go_num, by omega, by simpa using hown, HN, hb1⟩
      case measure => simp [intOf]; omega
set_option maxRecDepth 100000 in
set_option maxHeartbeats 1000000 in
theorem dec_spec_neg (w : World) (m : Nat) (h1 : 1 ≤ m) (h : m ≤ 9223372036854775808) :
    Calls Tryd.prog 123 #[.int .i64 (-(m : Int))] w fun e w' => e = .returned (.string (decS (-(m : Int)))) ∧ Below w.heap.size w w' := by
  have HLEN := hd (show (digs m).length ≤ 21 by
    unfold digs
    split
    · simp
    · have := Lib.itoa_length_le (-(m : Int)) (by omega) (by omega)
      rw [Lib.itoa_neg m h1, List.length_cons] at this
      omega)
  have HCV := hd (fun (w : World) (v : Value) (l : List UInt8) (hv : Sl w 1 v eU l) => conv_bytes (P := Tryd.prog) w 22 9 5 Tryd.underlying22 Tryd.underlying5 Tryd.underlying9 hv)
  obtain ⟨i0, hi, hz0, hz1, hz2⟩ := info_parts info_u8
  have O0 := Own.made0 w w.heap.size 5 1 eU (Nat.le_refl _)
  have b0 := (Below.refl w.heap.size w).alloc (Nat.le_refl _) (.cells #[] 5)
  go_enter Tryd.func123, Tryd.ntmps123
  go_wp2_with fail
  go_loopw [3, 4] (fun ov kv wr => ∃ (q : Nat) (l : List UInt8), kv = .int .i64 (-(q : Int)) ∧ q ≤ 9223372036854775808 ∧ Own wr w.heap.size 5 1 ov eU l ∧ Hid (digs m = digs q ++ l) ∧ Below w.heap.size w wr) (fun _ kv _ => (intOf kv).natAbs)
  case atStart => exact ⟨m, [], rfl, by omega, O0, hd (by simp), b0⟩
  case round =>
    obtain ⟨q, l, rfl, hq, hO, HD, hbel⟩ := hrel
    clear O0 b0
    by_cases hq0 : q = 0
    · subst hq0
      have HL := hd (show digs m = l by rw [HD.out]; rfl)
      have hc := HCV.out wr _ l (hO.sl eU_len)
      obtain ⟨A, c, rfl⟩ := hO.isSlice
      have hlb : ((l.length : Int) == 0) = false := by
        rw [← HL.out]
        unfold digs
        rw [if_neg (by omega)]
        have := Lib.decDigits_length m
        have h3 : 1 ≤ Lib.nDigits m := by unfold Lib.nDigits; split <;> omega
        simp
        intro e
        rw [e] at this
        simp at this
        omega
      have HE := hd (show decS (-(m : Int)) = ⟨#[45]⟩ ++ ⟨l.toArray⟩ by
        unfold decS
        rw [Lib.itoa_neg m h1, ← HL.out]
        unfold digs
        rw [if_neg (by omega)]
        apply ByteArray.ext
        rw [ByteArray.data_append]
        simp)
      have hm0 : (-(m : Int)) < 0 := by omega
      have hlp : 0 < l.length := by
        rcases l with _ | ⟨y, l⟩
        · simp at hlb
        · simp
      have hl22 : l.length ≤ 21 := by have := HLEN.out; rw [HL.out] at this; exact this
      go_wp2_with fail
      go_ret
      exact ⟨by rw [HE.out]; rfl, hbel⟩
    · skip
      obtain ⟨y, hy⟩ : ∃ y, y = UInt8.ofNat (48 + q % 10) := ⟨_, rfl⟩
      have HV := hd (show (y.toNat : Int) = (48 + (q : Int) % 10) by rw [hy, digit_val]; omega)
      have HN := hd (show digs m = digs (q / 10) ++ (y :: l) by rw [HD.out, digs_step hq0, List.append_assoc, hy]; rfl)
      clear hy
      have hl21 : l.length ≤ 21 := by have := HLEN.out; rw [HD.out, List.length_append] at this; omega
      have hqp : (0 : Int) < (q : Int) := by omega
      have hqq : (-(q : Int)).tdiv 10 = -((q : Int) / 10) := by rw [Int.neg_tdiv]; rw [Int.tdiv_eq_ediv_of_nonneg (by omega)]
      have hr9 : (q : Int) % 10 ≤ 9 := by omega
      by_cases hz : (q : Int) % 10 = 0
      · have ht : (-(q : Int)).tmod 10 = 0 := by rw [Int.neg_tmod]; rw [Int.tmod_eq_emod_of_nonneg (by omega)]; omega
        have HV2 := hd (show (y.toNat : Int) = 48 by rw [HV.out]; omega)
        clear hz
        obtain ⟨A, c, rfl⟩ := hO.isSlice
        go_wp2_with (at_builtin; refine wpList_append_sl _ rfl _ _ 22 rfl i0 (.int .u8 0) 1 Tryd.underlying22 hi hz0 hz1 hz2 rfl (by decide) eU_len (by intro y u hu; simp [eU] at hu; subst hu; rfl) _ [y] rfl (own_byte wr _ _ HV2.out w.heap.size hbel.size 5) _ l rfl ((hO.sl eU_len).alloc _) (by unfold maxLen; simp; omega) (by simp; omega) (by have := hbel.size; simp; omega) ?_)
        intro v' w1 hown hgr
        have hb1 := (hbel.alloc hbel.size (.cells #[.int .u8 48] 5)).grown hgr (by have := hbel.size; simp; omega) (fun g hg => (Option.some.inj (show some wr.heap.size = some g from hg)) ▸ hbel.size)
        clear hgr
        go_wp2_with fail
        go_roundw
        case rel => exact ⟨q / 10, y :: l, by go_num, by omega, by simpa using hown, HN, hb1⟩
        case measure => simp [intOf]; omega
      · have ht : (-(q : Int)).tmod 10 = -((q : Int) % 10) := by rw [Int.neg_tmod]; rw [Int.tmod_eq_emod_of_nonneg (by omega)]
        have hr0 : 0 < (q : Int) % 10 := by omega
        clear hz
        obtain ⟨A, c, rfl⟩ := hO.isSlice
        go_wp2_with (at_builtin; refine wpList_append_sl _ rfl _ _ 22 rfl i0 (.int .u8 0) 1 Tryd.underlying22 hi hz0 hz1 hz2 rfl (by decide) eU_len (by intro y u hu; simp [eU] at hu; subst hu; rfl) _ [y] rfl (own_byte wr _ _ HV.out w.heap.size hbel.size 5) _ l rfl ((hO.sl eU_len).alloc _) (by unfold maxLen; simp; omega) (by simp; omega) (by have := hbel.size; simp; omega) ?_)
        intro v' w1 hown hgr
        have hb1 := (hbel.alloc hbel.size (.cells #[.int .u8 (48 + (q : Int) % 10)] 5)).grown hgr (by have := hbel.size; simp; omega) (fun g hg => (Option.some.inj (show some wr.heap.size = some g from hg)) ▸ hbel.size)
        clear hgr
        go_wp2_with fail
        go_roundw
        case rel => exact ⟨q / 10, y :: l, by go_num, by omega, by simpa using hown, HN, hb1⟩
        case measure => simp [intOf]; omega
theorem dec_spec (w : World) (n : Int) (h : -9223372036854775808 ≤ n ∧ n ≤ 9223372036854775807) :
    Calls Tryd.prog 123 #[.int .i64 n] w fun e w' => e = .returned (.string (decS n)) ∧ Below w.heap.size w w' := by
  by_cases q : 0 ≤ n
  · obtain ⟨m, rfl⟩ : ∃ m : Nat, n = (m : Int) := ⟨n.toNat, by omega⟩
    exact dec_spec_pos w m (by omega)
  · obtain ⟨m, rfl⟩ : ∃ m : Nat, n = -(m : Int) := ⟨n.natAbs, by omega⟩
    exact dec_spec_neg w m (by omega) (by omega)
end Go.Proofs.YtiofpmmbgohnhaaDoor
