/- Texts of the claim, joined: each says at its head what it proves. No condition. -/
import Derived.Test.YtgcodjkjdfahdaaGreatDoorJ4
import Derived.Test.YtgcodjkjdfahdaaGreatDoorJ1
import Derived.Lib.ItoaLen
import Derived.Lib.AppendIntMem
import Derived.Laws.IdiomStrings
import Derived.Laws.BytesArg
import Derived.Laws.ResultCell
import Derived.IntWalk
import Derived.BigQuiet
/- Numbers in decimal: the reference's function. No condition but that the library's table of powers of ten reads as it is laid. -/
namespace Go.Proofs.YtgcodjkjdfahdaaGreatDoor
open Go Go.RowKit Go.ChangeShapes Go.WideShapes
set_option linter.unusedSimpArgs false
set_option linter.unusedVariables false

/-- the library's table of powers of ten reads as it is laid -/
def Tab (w : World) : Prop := Lib.TabIs Tryz.prog w "internal/strconv.uint64pow10" .u64 Lib.pow10Tab
theorem Tab.below {w w' : World} (h : Tab w) (hb : Below w.heap.size w w') : Tab w' := Lib.tabBelow_of_tabIs h w' hb
theorem below_grow (w : World) (q : Nat) (os : Array Obj) : Below w.heap.size w (Sort.grow (w.drewN q) os) :=
  ⟨rfl, rfl, rfl, by simp [Sort.grow], fun i hi => by
    show ((w.drewN q).heap ++ os)[i]? = _
    rw [Array.getElem?_append_left (by show i < w.heap.size; omega)]
    rfl⟩
def decS (n : Int) : ByteArray := ⟨(Lib.itoa n).toArray⟩
theorem decS_size {n : Int} (h : -9223372036854775808 ≤ n ∧ n ≤ 9223372036854775807) : (decS n).size ≤ 21 := by
  have := Lib.itoa_length_le n h.1 h.2
  simpa [decS, ByteArray.size] using this

/-! ### bytes -/
theorem Own.isSlice {α : Type} {w : World} {B : Nat} {E : TypeId} {k : Nat} {v : Value} {enc : α → List Value} {l : List α} (h : Own w B E k v enc l) : ∃ A c, v = .slice A l.length c := by
  rcases h.form with ⟨hv, hl⟩ | ⟨g, cap, hv, -⟩
  · subst hl
    exact ⟨none, 0, hv⟩
  · exact ⟨_, cap, hv⟩
theorem Sl.isSlice {α : Type} {w : World} {k : Nat} {v : Value} {enc : α → List Value} {l : List α} (h : Sl w k v enc l) : ∃ A c, v = .slice A l.length c := by
  obtain ⟨-, A, c, hv, -⟩ := h
  exact ⟨A, c, hv⟩
def eU (x : UInt8) : List Value := [.int .u8 (x.toNat : Int)]
theorem eU_len (x : UInt8) : (eU x).length = 1 := rfl
theorem own_byte (w : World) (X : Int) (y : UInt8) (h : (y.toNat : Int) = X) (B : Nat) (hB : B ≤ w.heap.size) (E : TypeId) : Own (w.alloc (.cells #[.int .u8 X] E)) B E 1 (.slice (some ⟨w.heap.size, 0, none⟩) 1 1) eU [y] := by
  subst h
  exact ⟨rfl, .inr ⟨w.heap.size, 1, #[.int .u8 (y.toNat : Int)], rfl, hB, heap_alloc_new w _, Nat.le_refl _, by decide, rfl, rfl⟩⟩
theorem conv_bytes {P : Program} (w : World) (src dst e : TypeId) (hs : P.underlying src = some (.slice e)) (he : P.underlying e = some (.int .u8)) (hd' : P.underlying dst = some .string) {v : Value} {l : List UInt8} (h : Sl w 1 v eU l) :
    (convert src dst v).run P w = .ok (.string ⟨l.toArray⟩) w := by
  obtain ⟨h1, A, c, rfl, hc, hc', h2⟩ := h
  rcases A with _ | a
  · have hnil : l = [] := by
      rcases l with _ | ⟨y, l⟩
      · rfl
      · obtain ⟨b, o, e', -⟩ := h2 0 y rfl
        cases e'
    subst hnil
    exact run_convert_bytes_nil w src e hs he _ _ dst hd'
  · refine run_convert_bytes_back w src dst e a c l hs he hd' (fun j hj => ?_)
    obtain ⟨b, o, e', -, h3⟩ := h2 j l[j] (List.getElem?_eq_getElem hj)
    cases e'
    have hadd : (⟨b, o, none⟩ : Addr).add j = ⟨b, o + j, none⟩ := by unfold Addr.add; split <;> simp_all
    rw [hadd]
    simpa [eU] using h3 0 _ rfl
/-- the digits of a number, none of 0 -/
def digs (q : Nat) : List UInt8 := if q = 0 then [] else Lib.decDigits q
theorem digs_step {q : Nat} (h : q ≠ 0) : digs q = digs (q / 10) ++ [UInt8.ofNat (48 + q % 10)] := by
  unfold digs
  rw [if_neg h]
  by_cases h2 : q < 10
  · rw [if_pos (by omega), Lib.decDigits_one h2, show q % 10 = q by omega]
    rfl
  · rw [if_neg (by omega)]
    conv => lhs; rw [Lib.decDigits, dif_neg h2]
theorem digit_val (q : Nat) : ((UInt8.ofNat (48 + q % 10)).toNat : Int) = 48 + ((q % 10 : Nat) : Int) := by
  rw [UInt8.toNat_ofNat']
  omega
theorem info_u8 : (Tryz.prog.info? 5).map (fun i => (i.zero, i.size, i.bytes)) = some (some (.int .u8 0), 1, 1) := by kernel_rfl
set_option maxRecDepth 100000 in
set_option maxHeartbeats 1000000 in
theorem dec_spec_pos (w : World) (m : Nat) (h : m ≤ 9223372036854775807) :
    Calls Tryz.prog 167 #[.int .i64 (m : Int)] w fun e w' => e = .returned (.string (decS (m : Int))) ∧ Below w.heap.size w w' := by
  have HLEN := hd (show (digs m).length ≤ 21 by
    unfold digs
    split
    · simp
    · have := Lib.itoa_length_le (m : Int) (by omega) (by omega)
      rwa [Lib.itoa_nonneg] at this)
  have HCV := hd (fun (w : World) (v : Value) (l : List UInt8) (hv : Sl w 1 v eU l) => conv_bytes (P := Tryz.prog) w 22 9 5 Tryz.underlying22 Tryz.underlying5 Tryz.underlying9 hv)
  obtain ⟨i0, hi, hz0, hz1, hz2⟩ := info_parts info_u8
  have O0 := Own.made0 w w.heap.size 5 1 eU (Nat.le_refl _)
  have b0 := (Below.refl w.heap.size w).alloc (Nat.le_refl _) (.cells #[] 5)
  go_enter Tryz.func167, Tryz.ntmps167
  go_wp2_with fail
  go_loopw [3, 4] (fun ov kv wr => ∃ (q : Nat) (l : List UInt8), kv = .int .i64 (q : Int) ∧ q ≤ 9223372036854775808 ∧ Own wr w.heap.size 5 1 ov eU l ∧ Hid (digs m = digs q ++ l) ∧ Below w.heap.size w wr) (fun _ kv _ => (intOf kv).natAbs)
  case atStart => exact ⟨m, [], rfl, by omega, O0, hd (by simp), b0⟩
  case round =>
    obtain ⟨q, l, rfl, hq, hO, HD, hbel⟩ := hrel
    clear O0 b0
    by_cases hq0 : q = 0
    · subst hq0
      have HL := hd (show digs m = l by rw [HD.out]; rfl)
      have hc := HCV.out wr _ l (hO.sl eU_len)
      obtain ⟨A, c, rfl⟩ := hO.isSlice
      by_cases hm : m = 0
      · have hlb : ((l.length : Int) == 0) = true := by rw [← HL.out, hm]; rfl
        have HE := hd (show decS (m : Int) = ⟨#[48]⟩ by unfold decS; rw [Lib.itoa_nonneg, hm, Lib.decDigits_one (by omega)]; rfl)
        clear hm
        go_wp2_with fail
        go_ret
        exact ⟨by rw [HE.out]; rfl, hbel⟩
      · have HE := hd (show decS (m : Int) = ⟨l.toArray⟩ by
          unfold decS
          rw [Lib.itoa_nonneg, ← HL.out]
          unfold digs
          rw [if_neg hm])
        have hlp : 0 < l.length := by
          have e := HL.out
          unfold digs at e
          rw [if_neg hm] at e
          rw [← e, Lib.decDigits_length]
          unfold Lib.nDigits
          split <;> omega
        have hlb : ((l.length : Int) == 0) = false := by simp; intro e; rw [e] at hlp; simp at hlp
        have hm0 : (0 : Int) ≤ (m : Int) := by omega
        go_wp2_with fail
        go_ret
        exact ⟨by rw [HE.out]; rfl, hbel⟩
    · skip
      obtain ⟨y, hy⟩ : ∃ y, y = UInt8.ofNat (48 + q % 10) := ⟨_, rfl⟩
      have HV := hd (show (y.toNat : Int) = (48 + (q : Int) % 10) by rw [hy, digit_val]; omega)
      have HN := hd (show digs m = digs (q / 10) ++ (y :: l) by rw [HD.out, digs_step hq0, List.append_assoc, hy]; rfl)
      clear hy
      have hl21 : l.length ≤ 21 := by have := HLEN.out; rw [HD.out, List.length_append] at this; omega
      have hqp : (0 : Int) < (q : Int) := by omega
      obtain ⟨A, c, rfl⟩ := hO.isSlice
      go_wp2_with (at_builtin; refine wpList_append_sl _ rfl _ _ 22 rfl i0 (.int .u8 0) 1 Tryz.underlying22 hi hz0 hz1 hz2 rfl (by decide) eU_len (by intro y u hu; simp [eU] at hu; subst hu; rfl) _ [y] rfl (own_byte wr _ _ HV.out w.heap.size hbel.size 5) _ l rfl ((hO.sl eU_len).alloc _) (by unfold maxLen; simp; omega) (by simp; omega) (by have := hbel.size; simp; omega) ?_)
      intro v' w1 hown hgr
      have hb1 := (hbel.alloc hbel.size (.cells #[.int .u8 (48 + (q : Int) % 10)] 5)).grown hgr (by have := hbel.size; simp; omega) (fun g hg => (Option.some.inj (show some wr.heap.size = some g from hg)) ▸ hbel.size)
      clear hgr
      go_wp2_with fail
      go_roundw
      case rel => exact ⟨q / 10, y :: l, by go_num, by omega, by simpa using hown, HN, hb1⟩
      case measure => simp [intOf]; omega
set_option maxRecDepth 100000 in
set_option maxHeartbeats 1000000 in
theorem dec_spec_neg (w : World) (m : Nat) (h1 : 1 ≤ m) (h : m ≤ 9223372036854775808) :
    Calls Tryz.prog 167 #[.int .i64 (-(m : Int))] w fun e w' => e = .returned (.string (decS (-(m : Int)))) ∧ Below w.heap.size w w' := by
  have HLEN := hd (show (digs m).length ≤ 21 by
    unfold digs
    split
    · simp
    · have := Lib.itoa_length_le (-(m : Int)) (by omega) (by omega)
      rw [Lib.itoa_neg m h1, List.length_cons] at this
      omega)
  have HCV := hd (fun (w : World) (v : Value) (l : List UInt8) (hv : Sl w 1 v eU l) => conv_bytes (P := Tryz.prog) w 22 9 5 Tryz.underlying22 Tryz.underlying5 Tryz.underlying9 hv)
  obtain ⟨i0, hi, hz0, hz1, hz2⟩ := info_parts info_u8
  have O0 := Own.made0 w w.heap.size 5 1 eU (Nat.le_refl _)
  have b0 := (Below.refl w.heap.size w).alloc (Nat.le_refl _) (.cells #[] 5)
  go_enter Tryz.func167, Tryz.ntmps167
  go_wp2_with fail
  go_loopw [3, 4] (fun ov kv wr => ∃ (q : Nat) (l : List UInt8), kv = .int .i64 (-(q : Int)) ∧ q ≤ 9223372036854775808 ∧ Own wr w.heap.size 5 1 ov eU l ∧ Hid (digs m = digs q ++ l) ∧ Below w.heap.size w wr) (fun _ kv _ => (intOf kv).natAbs)
  case atStart => exact ⟨m, [], rfl, by omega, O0, hd (by simp), b0⟩
  case round =>
    obtain ⟨q, l, rfl, hq, hO, HD, hbel⟩ := hrel
    clear O0 b0
    by_cases hq0 : q = 0
    · subst hq0
      have HL := hd (show digs m = l by rw [HD.out]; rfl)
      have hc := HCV.out wr _ l (hO.sl eU_len)
      obtain ⟨A, c, rfl⟩ := hO.isSlice
      have hlb : ((l.length : Int) == 0) = false := by
        rw [← HL.out]
        unfold digs
        rw [if_neg (by omega)]
        have := Lib.decDigits_length m
        have h3 : 1 ≤ Lib.nDigits m := by unfold Lib.nDigits; split <;> omega
        simp
        intro e
        rw [e] at this
        simp at this
        omega
      have HE := hd (show decS (-(m : Int)) = ⟨#[45]⟩ ++ ⟨l.toArray⟩ by
        unfold decS
        rw [Lib.itoa_neg m h1, ← HL.out]
        unfold digs
        rw [if_neg (by omega)]
        apply ByteArray.ext
        rw [ByteArray.data_append]
        simp)
      have hm0 : (-(m : Int)) < 0 := by omega
      have hlp : 0 < l.length := by
        rcases l with _ | ⟨y, l⟩
        · simp at hlb
        · simp
      have hl22 : l.length ≤ 21 := by have := HLEN.out; rw [HL.out] at this; exact this
      go_wp2_with fail
      go_ret
      exact ⟨by rw [HE.out]; rfl, hbel⟩
    · skip
      obtain ⟨y, hy⟩ : ∃ y, y = UInt8.ofNat (48 + q % 10) := ⟨_, rfl⟩
      have HV := hd (show (y.toNat : Int) = (48 + (q : Int) % 10) by rw [hy, digit_val]; omega)
      have HN := hd (show digs m = digs (q / 10) ++ (y :: l) by rw [HD.out, digs_step hq0, List.append_assoc, hy]; rfl)
      clear hy
      have hl21 : l.length ≤ 21 := by have := HLEN.out; rw [HD.out, List.length_append] at this; omega
      have hqp : (0 : Int) < (q : Int) := by omega
      have hqq : (-(q : Int)).tdiv 10 = -((q : Int) / 10) := by rw [Int.neg_tdiv]; rw [Int.tdiv_eq_ediv_of_nonneg (by omega)]
      have hr9 : (q : Int) % 10 ≤ 9 := by omega
      by_cases hz : (q : Int) % 10 = 0
      · have ht : (-(q : Int)).tmod 10 = 0 := by rw [Int.neg_tmod]; rw [Int.tmod_eq_emod_of_nonneg (by omega)]; omega
        have HV2 := hd (show (y.toNat : Int) = 48 by rw [HV.out]; omega)
        clear hz
        obtain ⟨A, c, rfl⟩ := hO.isSlice
        go_wp2_with (at_builtin; refine wpList_append_sl _ rfl _ _ 22 rfl i0 (.int .u8 0) 1 Tryz.underlying22 hi hz0 hz1 hz2 rfl (by decide) eU_len (by intro y u hu; simp [eU] at hu; subst hu; rfl) _ [y] rfl (own_byte wr _ _ HV2.out w.heap.size hbel.size 5) _ l rfl ((hO.sl eU_len).alloc _) (by unfold maxLen; simp; omega) (by simp; omega) (by have := hbel.size; simp; omega) ?_)
        intro v' w1 hown hgr
        have hb1 := (hbel.alloc hbel.size (.cells #[.int .u8 48] 5)).grown hgr (by have := hbel.size; simp; omega) (fun g hg => (Option.some.inj (show some wr.heap.size = some g from hg)) ▸ hbel.size)
        clear hgr
        go_wp2_with fail
        go_roundw
        case rel => exact ⟨q / 10, y :: l, by go_num, by omega, by simpa using hown, HN, hb1⟩
        case measure => simp [intOf]; omega
      · have ht : (-(q : Int)).tmod 10 = -((q : Int) % 10) := by rw [Int.neg_tmod]; rw [Int.tmod_eq_emod_of_nonneg (by omega)]
        have hr0 : 0 < (q : Int) % 10 := by omega
        clear hz
        obtain ⟨A, c, rfl⟩ := hO.isSlice
        go_wp2_with (at_builtin; refine wpList_append_sl _ rfl _ _ 22 rfl i0 (.int .u8 0) 1 Tryz.underlying22 hi hz0 hz1 hz2 rfl (by decide) eU_len (by intro y u hu; simp [eU] at hu; subst hu; rfl) _ [y] rfl (own_byte wr _ _ HV.out w.heap.size hbel.size 5) _ l rfl ((hO.sl eU_len).alloc _) (by unfold maxLen; simp; omega) (by simp; omega) (by have := hbel.size; simp; omega) ?_)
        intro v' w1 hown hgr
        have hb1 := (hbel.alloc hbel.size (.cells #[.int .u8 (48 + (q : Int) % 10)] 5)).grown hgr (by have := hbel.size; simp; omega) (fun g hg => (Option.some.inj (show some wr.heap.size = some g from hg)) ▸ hbel.size)
        clear hgr
        go_wp2_with fail
        go_roundw
        case rel => exact ⟨q / 10, y :: l, by go_num, by omega, by simpa using hown, HN, hb1⟩
        case measure => simp [intOf]; omega
theorem dec_spec (w : World) (n : Int) (h : -9223372036854775808 ≤ n ∧ n ≤ 9223372036854775807) :
    Calls Tryz.prog 167 #[.int .i64 n] w fun e w' => e = .returned (.string (decS n)) ∧ Below w.heap.size w w' := by
  by_cases q : 0 ≤ n
  · obtain ⟨m, rfl⟩ : ∃ m : Nat, n = (m : Int) := ⟨n.toNat, by omega⟩
    exact dec_spec_pos w m (by omega)
  · obtain ⟨m, rfl⟩ : ∃ m : Nat, n = -(m : Int) := ⟨n.natAbs, by omega⟩
    exact dec_spec_neg w m (by omega) (by omega)
end Go.Proofs.YtgcodjkjdfahdaaGreatDoor

/- Discs: the pictures that are seen in a turn; the program's functions and the reference's. No condition. -/
namespace Go.Proofs.YtgcodjkjdfahdaaGreatDoor
open Go Go.RowKit Go.ChangeShapes Go.WideShapes
set_option linter.unusedSimpArgs false
set_option linter.unusedVariables false
section
variable {P : Program} {α : Type} {enc : α → List Value} {k : Nat}
theorem wp_push_at (w : World) {o : Oper} {a : Act} {K : Act → World → Prop} {Q : Exit → Act → World → Prop} (s x : Operand) (t : TypeId)
    (ho : o.op = .call { callee := .builtin .append, args := #[s, x], argTypes := #[t, t] })
    {B E : Nat} (i : TypeInfo) (z : Value) (bytes : Nat) (ht : P.underlying t = some (.slice E)) (hi : P.info? E = some i) (hz : i.zero = some z)
    (hsize : i.size = k) (hby : i.bytes = bytes) (hzs : z.cells.size = k) (hsz : 0 < k)
    (v : Value) (l : List α) (y : α) (hs : a.eval s = v) (hown : Own w B E k v enc l)
    (g : Nat) (hx : a.eval x = .slice (some ⟨g, 0, none⟩) 1 1) (cs : Array Value) (E' : TypeId) (hg : w.heap[g]? = some (.cells cs E' (0, 0))) (hcs : cs.toList = enc y) (hlen : (enc y).length = k) (h1 : ∀ u ∈ enc y, u.oneCell' = true)
    (h63 : l.length + 1 ≤ maxLen) (hbytes : (l.length + 1) * bytes ≤ 140737488355328) (hbase : B ≤ w.heap.size)
    (h : ∀ v' w', Own w' B E k v' enc (l ++ [y]) → w.grownBy w' v.ownBlock → (v'.ownBlock = v.ownBlock ∨ v'.ownBlock = some w.heap.size) → K (a.put o.dst v') w') : o.wp P a w K Q := by
  obtain ⟨v', w', hr, h2, h3, -, h5⟩ := run_append_own_at (P := P) w B t o.type E i z k bytes ht hi hz hsize hby hzs hsz v l.length (l.flatMap enc) hown ⟨g, 0, none⟩ 1 1 (enc y) (by simpa using hlen) (fun j u hu => by
    have hadd : (⟨g, 0, none⟩ : Addr).add j = ⟨g, j, none⟩ := by unfold Addr.add; split <;> simp_all
    rw [hadd, cell_of_row w g j cs E' (0, 0) hg, ← hu, ← hcs]
    simp) h1 h63 hbytes hbase
  unfold Oper.wp execOp
  simp only [ho, resolve, invoke, builtin, Sem.run_bind, Sem.run_pure, Result.andThen_ok, List.map_toArray, List.map_cons, List.map_nil, hs, hx, hr]
  exact h v' w' (by unfold Own; simpa using h2) h3 h5
theorem wpList_push_at (w : World) {ops : Array Oper} {rest : List Oper} {o : Oper} {a : Act} {Q : Exit → Act → World → Prop} (hgd : o.guard = none) (s x : Operand) (t : TypeId)
    (ho : o.op = .call { callee := .builtin .append, args := #[s, x], argTypes := #[t, t] })
    {B E : Nat} (i : TypeInfo) (z : Value) (bytes : Nat) (ht : P.underlying t = some (.slice E)) (hi : P.info? E = some i) (hz : i.zero = some z)
    (hsize : i.size = k) (hby : i.bytes = bytes) (hzs : z.cells.size = k) (hsz : 0 < k)
    (v : Value) (l : List α) (y : α) (hs : a.eval s = v) (hown : Own w B E k v enc l)
    (g : Nat) (hx : a.eval x = .slice (some ⟨g, 0, none⟩) 1 1) (cs : Array Value) (E' : TypeId) (hg : w.heap[g]? = some (.cells cs E' (0, 0))) (hcs : cs.toList = enc y) (hlen : (enc y).length = k) (h1 : ∀ u ∈ enc y, u.oneCell' = true)
    (h63 : l.length + 1 ≤ maxLen) (hbytes : (l.length + 1) * bytes ≤ 140737488355328) (hbase : B ≤ w.heap.size)
    (h : ∀ v' w', Own w' B E k v' enc (l ++ [y]) → w.grownBy w' v.ownBlock → (v'.ownBlock = v.ownBlock ∨ v'.ownBlock = some w.heap.size) → wpList P ops Q rest (a.put o.dst v') w') : wpList P ops Q (o :: rest) a w :=
  wpList_plain hgd fun _ hK => wp_push_at w s x t ho i z bytes ht hi hz hsize hby hzs hsz v l y hs hown g hx cs E' hg hcs hlen h1 h63 hbytes hbase fun v' w' h2 h3 h4 => hK _ _ (h v' w' h2 h3 h4)
end
theorem apart_push {a b c : Option Nat} {N : Nat} (h : apart a b) (hc : c = a ∨ c = some (N + 1)) (hb : ∀ g, b = some g → g < N + 1) : apart c b := by
  rcases hc with rfl | rfl
  · exact h
  · refine .inr fun e => ?_
    have := hb (N + 1) e.symm
    omega

theorem kis {α : Type} {enc : α → List Value} {w wr : World} {E : TypeId} {k : Nat} {r : List α × Int} {c : Int} {l : List α} {v : Value} (h : r = (l, c)) (ho : Own wr w.heap.size E k v enc l) (hb : Below w.heap.size w wr) : GivesOwnI w E k enc r (.returned (.tuple #[v, .int .i64 c])) wr := by
  subst h
  exact ⟨_, rfl, ho, hb⟩
theorem kis_nil {α : Type} {enc : α → List Value} {w : World} {E : TypeId} {k : Nat} {r : List α × Int} {c : Int} (h : r = ([], c)) (wr : World) (hb : Below w.heap.size w wr) : GivesOwnI w E k enc r (.returned (.tuple #[.slice none 0 0, .int .i64 c])) wr := by
  subst h
  exact ⟨_, rfl, Own.nil _ _ _ _ _, hb⟩
theorem mul_bd {p k : Nat} (hp : p ≤ 48) (hk : k ≤ 48) : 0 ≤ 2 * (k : Int) * (p : Int) ∧ 2 * (k : Int) * (p : Int) ≤ 4608 := by
  have h : 2 * k * p ≤ 96 * 48 := Nat.mul_le_mul (by omega) hp
  have e : 2 * (k : Int) * (p : Int) = ((2 * k * p : Nat) : Int) := by simp
  rw [e]
  omega
/-- the pictures that are seen, and a code -/
def discB2 (p s : Int) : Bool := inB p 1 48 && inB s 1 48
def seenR (p s : Int) : List Int × Int := if discB2 p s then (seenTo p.toNat s.toNat s.toNat, 0) else ([], 2)
theorem seenR_bad {p s : Int} (h : discB2 p s = false) : seenR p s = ([], 2) := by unfold seenR; rw [h]; rfl
theorem seenR_good {p s : Int} (h : discB2 p s = true) : seenR p s = (seenTo p.toNat s.toNat s.toNat, 0) := by unfold seenR; rw [h]; rfl
theorem discB2_bd {p s : Int} (h : discB2 p s = true) : (1 ≤ p ∧ p ≤ 48) ∧ (1 ≤ s ∧ s ≤ 48) := by
  unfold discB2 at h
  rw [Bool.and_eq_true] at h
  exact ⟨inB_true h.1, inB_true h.2⟩
theorem seenR_len (p s : Int) : (seenR p s).1.length ≤ 48 := by
  rcases h : discB2 p s with _ | _
  · rw [seenR_bad h]; simp
  · rw [seenR_good h, seenTo_len]
    have := discB2_bd h
    omega
theorem seenR_mem (p s : Int) : ∀ x ∈ (seenR p s).1, 0 ≤ x ∧ x ≤ 48 := by
  rcases h : discB2 p s with _ | _
  · rw [seenR_bad h]; simp
  · rw [seenR_good h]
    have hb := discB2_bd h
    intro x hx
    have := seenTo_mem (by omega) x hx
    omega
theorem disc_impl (w : World) (p s : Int) : Calls Tryz.prog 128 #[.int .i64 p, .int .i64 s] w fun e w' => e = .returned (.bool (discB2 p s)) ∧ w' = w := by
  rcases h1 : inB p 1 48 with _ | _
  · have HR := hd (show discB2 p s = false by unfold discB2; rw [h1]; rfl)
    go_enter Tryz.func128, Tryz.ntmps128
    go_wp2_with (go_at_call 67; refine (in_impl _ _ _ _).mono ?_; rintro e w1 ⟨rfl, hw⟩; have hw := hw.symm; subst hw)
    go_ret
    exact ⟨by rw [HR.out]; simp [h1], rfl⟩
  · have HR := hd (show discB2 p s = inB s 1 48 by unfold discB2; rw [h1]; rfl)
    go_enter Tryz.func128, Tryz.ntmps128
    go_wp2_with (go_at_call 67; refine (in_impl _ _ _ _).mono ?_; rintro e w1 ⟨rfl, hw⟩; have hw := hw.symm; subst hw)
    go_ret
    exact ⟨by rw [HR.out]; simp [h1], rfl⟩
set_option maxRecDepth 100000 in
theorem near_impl (w : World) (p s k : Nat) (hp : 1 ≤ p ∧ p ≤ 48) (hs : 1 ≤ s ∧ s ≤ 48) (hk : k ≤ 48) :
    Calls Tryz.prog 195 #[.int .i64 (p : Int), .int .i64 (s : Int), .int .i64 (k : Int)] w fun e w' => e = .returned (.int .i64 ((nearN p s k : Nat) : Int)) ∧ w' = w := by
  obtain ⟨h1, h2⟩ := mul_bd hp.2 hk
  have h3 : 0 ≤ 2 * (k : Int) * (p : Int) + (s : Int) := by omega
  have HR := hd (near_cast p s k)
  go_enter Tryz.func195, Tryz.ntmps195
  go_wp2_with fail
  go_ret
  exact ⟨by rw [HR.out]; rfl, rfl⟩
set_option maxRecDepth 100000 in
set_option maxHeartbeats 2000000 in
theorem seenO_impl (w : World) (p s : Nat) (hp : 1 ≤ p ∧ p ≤ 48) (hs : 1 ≤ s ∧ s ≤ 48) :
    Calls Tryz.prog 129 #[.int .i64 (p : Int), .int .i64 (s : Int)] w (GivesOwn w 2 1 eI (seenTo p s s)) := by
  obtain ⟨i0, hi, hz0, hz1, hz2⟩ := info_parts info_i64
  have own0 := Own.made0 w w.heap.size 2 1 eI (Nat.le_refl _)
  have bel0 := (Below.refl w.heap.size w).alloc (Nat.le_refl _) (.cells #[] 2)
  go_enter Tryz.func129, Tryz.ntmps129
  go_wp2_with fail
  go_loopw [5, 9] (fun ov iv wr => ∃ k : Nat, k ≤ s ∧ iv = .int .i64 k ∧ Own wr w.heap.size 2 1 ov eI (seenTo p s k) ∧ Below w.heap.size w wr) (fun _ iv _ => s - (intOf iv).toNat)
  case atStart => exact ⟨0, Nat.zero_le _, rfl, own0, bel0⟩
  case round =>
    obtain ⟨k, hk, rfl, hown, hbel⟩ := hrel
    clear own0 bel0
    have hlen := seenTo_len p s k
    by_cases hlt : k < s
    · have HS := hd (seenTo_snoc p s k)
      have HC := hd (seen_cast p s k)
      have hlk : (seenTo p s k).length ≤ 48 := by omega
      have HL := hd hlen
      clear hlen
      generalize seenTo p s k = L at hown hlk HS HL ⊢
      go_wp2_with fail
      refine (near_impl _ _ _ _ hp hs (by omega)).mono ?_
      rintro e w1 ⟨rfl, hw⟩
      rw [← hw] at hown hbel
      clear hw
      go_wp2_with (at_builtin; refine wpList_push _ rfl _ _ 56 rfl i0 (.int .i64 0) 8 Tryz.underlying56 hi hz0 hz1 hz2 rfl (by decide) _ _ (((nearN p s k : Nat) : Int) % (p : Int)) rfl (hown.alloc _) w1.heap.size rfl #[.int .i64 (((nearN p s k : Nat) : Int) % (p : Int))] 2 (heap_alloc_new _ _) rfl rfl (by intro u hu; simp [eI] at hu; subst hu; rfl) (by unfold maxLen; omega) (by omega) (by have := hbel.size; simp; omega) ?_)
      intro v' w3 hown2 hgr2
      have hbel2 := (hbel.alloc hbel.size (.cells #[.int .i64 (((nearN p s k : Nat) : Int) % (p : Int))] 2)).grown hgr2 (by have := hbel.size; simp; omega) (fun g hg => (hown.lt g hg).1)
      clear hown hgr2 hbel
      go_wp2_with fail
      go_roundw
      case rel => exact ⟨k + 1, by omega, by go_num, by rw [HS.out, HC.out]; exact hown2, hbel2⟩
      case measure => simp [intOf]; omega
    · obtain rfl : k = s := by omega
      go_wp2_with fail
      go_ret
      exact ⟨_, rfl, hown, hbel⟩
set_option maxRecDepth 100000 in
theorem seen_impl (w : World) (p s : Int) : Calls Tryz.prog 68 #[.int .i64 p, .int .i64 s] w (GivesOwnI w 2 1 eI (seenR p s)) := by
  rcases h1 : discB2 p s with _ | _
  · have HR := hd (seenR_bad h1)
    go_enter Tryz.func68, Tryz.ntmps68
    go_wp2_with fail
    refine (disc_impl _ _ _).mono ?_
    rintro e w1 ⟨rfl, hw⟩
    have hw := hw.symm
    subst hw
    rw [h1]
    go_wp2_with fail
    go_ret2
    exact kis_nil HR.out _ (Below.refl _ _)
  · obtain ⟨⟨a1, a2⟩, b1, b2⟩ := discB2_bd h1
    have HR := seenR_good h1
    obtain ⟨m, rfl⟩ := Int.eq_ofNat_of_zero_le (show 0 ≤ p by omega)
    obtain ⟨n, rfl⟩ := Int.eq_ofNat_of_zero_le (show 0 ≤ s by omega)
    rw [Int.toNat_natCast, Int.toNat_natCast] at HR
    have HR := hd HR
    go_enter Tryz.func68, Tryz.ntmps68
    go_wp2_with fail
    refine (disc_impl _ _ _).mono ?_
    rintro e w1 ⟨rfl, hw⟩
    have hw := hw.symm
    subst hw
    rw [h1]
    clear h1
    go_wp2_with fail
    refine (seenO_impl _ _ _ (by omega) (by omega)).mono ?_
    rintro e w2 ⟨v, rfl, O, B⟩
    obtain ⟨A, cc, rfl⟩ := O.isSlice
    go_wp2_with fail
    go_ret2
    exact kis HR.out O B
end Go.Proofs.YtgcodjkjdfahdaaGreatDoor

/- Fractions, plain. No condition. -/
namespace Go.Proofs.YtgcodjkjdfahdaaGreatDoor
set_option linter.unusedSimpArgs false
set_option linter.unusedVariables false
theorem gcd_step (a b : Nat) : Nat.gcd b (a % b) = Nat.gcd a b := by
  rw [Nat.gcd_comm a b, Nat.gcd_rec b a, Nat.gcd_comm]
theorem gcd_low {n d : Nat} (hd : 0 < d) : Nat.gcd (n / Nat.gcd n d) (d / Nat.gcd n d) = 1 := by
  have h : 0 < Nat.gcd n d := Nat.gcd_pos_of_pos_right _ hd
  rw [Nat.gcd_div (Nat.gcd_dvd_left n d) (Nat.gcd_dvd_right n d), Nat.div_self h]
def lowN (n d : Nat) : Nat := n / Nat.gcd n d
def lowD (n d : Nat) : Nat := d / Nat.gcd n d
theorem lowD_bd {n d : Nat} (hd : 0 < d) : 1 ≤ lowD n d ∧ lowD n d ≤ d := by
  unfold lowD
  have h : 0 < Nat.gcd n d := Nat.gcd_pos_of_pos_right _ hd
  exact ⟨Nat.div_pos (Nat.le_of_dvd hd (Nat.gcd_dvd_right n d)) h, Nat.div_le_self _ _⟩
theorem lowN_bd (n d : Nat) : lowN n d ≤ n := Nat.div_le_self _ _
def fracS (n d : Int) : ByteArray := if d = 1 then decS n else decS n ++ ⟨#[47]⟩ ++ decS d
theorem fracS_one (n : Int) : fracS n 1 = decS n := by unfold fracS; rw [if_pos rfl]
theorem fracS_two {n d : Int} (h : ¬ d = 1) : fracS n d = decS n ++ ⟨#[47]⟩ ++ decS d := by unfold fracS; rw [if_neg h]
end Go.Proofs.YtgcodjkjdfahdaaGreatDoor

/- Fractions and images: the program's functions and the reference's. No condition. -/
namespace Go.Proofs.YtgcodjkjdfahdaaGreatDoor
open Go Go.RowKit Go.ChangeShapes Go.WideShapes
set_option linter.unusedSimpArgs false
set_option linter.unusedVariables false
theorem load_frac (Z : World) (b : Nat) (x1 x2 : Int) (e0 : Z.cell? ⟨b, 0, none⟩ = some (.int .i64 x1)) (e1 : Z.cell? ⟨b, 1, none⟩ = some (.int .i64 x2)) :
    (loadVar 112 ⟨b, 0, none⟩).run Tryz.prog Z = .ok (.agg #[.int .i64 x1, .int .i64 x2]) Z := by
  simp [loadVar, go_sem, e0, e1]
set_option maxHeartbeats 1000000 in
theorem gcd_impl (w : World) (a b : Nat) (ha : a ≤ 1000000000) (hb : b ≤ 1000000000) :
    Calls Tryz.prog 196 #[.int .i64 (a : Int), .int .i64 (b : Int)] w fun e w' => e = .returned (.int .i64 ((Nat.gcd a b : Nat) : Int)) ∧ ∃ n, w' = w.drewN n := by
  go_enter Tryz.func196, Tryz.ntmps196
  go_wp2_with fail
  go_loopw [0, 1] (fun av bv wr => ∃ x y : Nat, x ≤ 1000000000 ∧ y ≤ 1000000000 ∧ av = .int .i64 (x : Int) ∧ bv = .int .i64 (y : Int) ∧ Hid (Nat.gcd x y = Nat.gcd a b) ∧ ∃ n, wr = w.drewN n) (fun _ bv _ => (intOf bv).toNat)
  case atStart => exact ⟨a, b, ha, hb, rfl, rfl, hd rfl, 0, rfl⟩
  case round =>
    obtain ⟨x, y, hx, hy, rfl, rfl, HG, n, rfl⟩ := hrel
    by_cases h0 : y = 0
    · have h1 : ((y : Int) != 0) = false := by simpa using h0
      have HR := hd (show ((Nat.gcd a b : Nat) : Int) = (x : Int) by rw [← HG.out, h0, Nat.gcd_zero_right])
      clear h0
      go_wp2_with fail
      go_ret
      exact ⟨by rw [HR.out]; rfl, n, rfl⟩
    · have h1 : ((y : Int) != 0) = true := by simpa using h0
      have hp : (0 : Int) < (y : Int) := by omega
      have HN := hd (show Nat.gcd y (x % y) = Nat.gcd a b by rw [gcd_step]; exact HG.out)
      have hm := Nat.mod_lt x (show 0 < y by omega)
      have hml : x % y ≤ 1000000000 := by omega
      have HM := hd (show (((x % y : Nat) : Int)) = (x : Int) % (y : Int) from Int.natCast_emod x y)
      go_wp2_with fail
      go_quiet (fail)
      go_wp2_with fail
      go_roundw
      case rel => exact ⟨y, x % y, hy, hml, rfl, by rw [HM.out]; try rfl, HN, _, World.drewN_drewN _ _ _⟩
      case measure => simp [intOf]; omega
theorem lowN_cast (n d : Nat) : ((lowN n d : Nat) : Int) = (n : Int) / ((Nat.gcd n d : Nat) : Int) := by unfold lowN; exact Int.natCast_ediv ..
theorem lowD_cast (n d : Nat) : ((lowD n d : Nat) : Int) = (d : Int) / ((Nat.gcd n d : Nat) : Int) := by unfold lowD; exact Int.natCast_ediv ..
set_option maxRecDepth 100000 in
set_option maxHeartbeats 1000000 in
theorem lowest_impl (w : World) (n d : Nat) (hn : n ≤ 1000000000) (hd0 : 1 ≤ d) (hd1 : d ≤ 1000000000) :
    Calls Tryz.prog 134 #[.int .i64 (n : Int), .int .i64 (d : Int)] w fun e w' => e = .returned (.agg #[.int .i64 ((lowN n d : Nat) : Int), .int .i64 ((lowD n d : Nat) : Int)]) ∧ Below w.heap.size w w' := by
  have hb0 := (Below.refl w.heap.size w).alloc (Nat.le_refl _) (.cells #[.int .i64 0, .int .i64 0] 112)
  have hg0 : 0 < Nat.gcd n d := Nat.gcd_pos_of_pos_right _ (by omega)
  have hg1 : Nat.gcd n d ≤ d := Nat.le_of_dvd (by omega) (Nat.gcd_dvd_right n d)
  have R1 := hd (lowN_cast n d)
  have R2 := hd (lowD_cast n d)
  have hneg : ¬ (d : Int) < 0 := by omega
  have gg : (w.alloc (.cells #[.int .i64 0, .int .i64 0] 112)).heap[w.heap.size]? = some (.cells #[.int .i64 0, .int .i64 0] 112 (0, 0)) := heap_alloc_new w _
  have hlt : w.heap.size < (w.alloc (.cells #[.int .i64 0, .int .i64 0] 112)).heap.size := by simp
  go_enter Tryz.func134, Tryz.ntmps134
  go_wp2_with fail
  generalize w.alloc (.cells #[.int .i64 0, .int .i64 0] 112) = W at hb0 gg hlt ⊢
  refine (gcd_impl _ _ _ hn hd1).mono ?_
  rintro e w1 ⟨rfl, m, rfl⟩
  generalize Nat.gcd n d = q at hg0 hg1 R1 R2 ⊢
  have hq : (0 : Int) < (q : Int) := by omega
  have d1 : 0 ≤ (n : Int) / (q : Int) := Int.ediv_nonneg (by omega) (by omega)
  have d2 : (n : Int) / (q : Int) ≤ (n : Int) := Int.ediv_le_self _ (by omega)
  have d3 : 0 ≤ (d : Int) / (q : Int) := Int.ediv_nonneg (by omega) (by omega)
  have d4 : (d : Int) / (q : Int) ≤ (d : Int) := Int.ediv_le_self _ (by omega)
  have k1 : IntKind.i64.wrap ((n : Int) / (q : Int)) = (n : Int) / (q : Int) := IntWalk.i64_in _ (by omega)
  have k2 : IntKind.i64.wrap ((d : Int) / (q : Int)) = (d : Int) / (q : Int) := IntWalk.i64_in _ (by omega)
  have c0 := cell_of_row W w.heap.size 0 _ _ (0, 0) gg
  have c1 := cell_of_row W w.heap.size 1 _ _ (0, 0) gg
  have f0 : W.frozen? ⟨w.heap.size, 0, none⟩ = false := by simp [World.frozen?, gg]
  have f1 : W.frozen? ⟨w.heap.size, 1, none⟩ = false := by simp [World.frozen?, gg]
  have B := below_drewN hb0 m
  go_wp2_with fail
  go_region
  go_wp2_with fail
  refine bodyPost_ret (v := .agg #[.int .i64 ((n : Int) / (q : Int)), .int .i64 ((d : Int) / (q : Int))]) (by simp [results, Tryz.results134, go_sem, c0, c1]) rfl ⟨by rw [R1.out, R2.out], ?_⟩
  repeat (first | exact B | exact hb0 | refine below_drewN ?_ _ | refine Below.drew ?_ | refine Below.setCell ?_ (by exact Nat.le_refl _) _)
/-- whether a fraction's two numbers are small enough -/
def fracB (n d : Int) : Bool := inB d 1 1000000 && inB n (-1000000) 1000000
set_option maxRecDepth 100000 in
set_option maxHeartbeats 1000000 in
theorem vfrac_impl (w : World) (n d : Nat) (hn : n ≤ 1000000000) (hd1 : d ≤ 1000000000) (hg : fracB n d = true → Nat.gcd n d = 1) :
    Calls Tryz.prog 135 #[.agg #[.int .i64 (n : Int), .int .i64 (d : Int)]] w fun e w' => e = .returned (.bool (fracB n d)) ∧ Below w.heap.size w w' := by
  have hb0 := (Below.refl w.heap.size w).alloc (Nat.le_refl _) (.cells #[.int .i64 (n : Int), .int .i64 (d : Int)] 112)
  have c0 := new_cell w #[.int .i64 (n : Int), .int .i64 (d : Int)] 112 0 _ rfl
  have c1 := new_cell w #[.int .i64 (n : Int), .int .i64 (d : Int)] 112 1 _ rfl
  rcases h1 : inB (d : Int) 1 1000000 with _ | _
  · have HR := hd (show fracB n d = false by unfold fracB; rw [h1]; rfl)
    clear hg
    go_enter Tryz.func135, Tryz.ntmps135
    go_wp2_with (go_at_call 67; refine (in_impl _ _ _ _).mono ?_; rintro e w1 ⟨rfl, hw⟩; have hw := hw.symm; subst hw)
    go_ret
    exact ⟨by rw [HR.out]; simp [h1], hb0⟩
  rcases h2 : inB (n : Int) (-1000000) 1000000 with _ | _
  · have HR := hd (show fracB n d = false by unfold fracB; rw [h1, h2]; rfl)
    clear hg
    go_enter Tryz.func135, Tryz.ntmps135
    go_wp2_with (go_at_call 67; refine (in_impl _ _ _ _).mono ?_; rintro e w1 ⟨rfl, hw⟩; have hw := hw.symm; subst hw)
    go_ret
    exact ⟨by rw [HR.out]; simp [h1, h2], hb0⟩
  have hf : fracB n d = true := by unfold fracB; rw [h1, h2]; rfl
  have HR := hd hf
  have HG := hd (hg hf)
  clear hg hf
  go_enter Tryz.func135, Tryz.ntmps135
  go_wp2_with (first | (go_at_call 67; refine (in_impl _ _ _ _).mono ?_; rintro e w1 ⟨rfl, hw⟩; have hw := hw.symm; subst hw) | (go_at_call 196; refine (gcd_impl _ _ _ hn hd1).mono ?_; rintro e w1 ⟨rfl, m, rfl⟩; rw [HG.out]))
  go_ret
  exact ⟨by rw [HR.out]; simp [h1, h2], by first | exact below_drewN hb0 _ | exact hb0⟩
end Go.Proofs.YtgcodjkjdfahdaaGreatDoor

/- Where an image is: the program's function and the reference's. No condition. -/
namespace Go.Proofs.YtgcodjkjdfahdaaGreatDoor
open Go Go.RowKit Go.ChangeShapes Go.WideShapes
set_option linter.unusedSimpArgs false
set_option linter.unusedVariables false
theorem free2 {w : World} {b : Nat} {cs : Array Value} {t : TypeId} (h : w.heap[b]? = some (.cells cs t (0, 0))) (o : Nat) : w.frozen? ⟨b, o, none⟩ = false := by simp [World.frozen?, h]
/-- a block of two cells that may be written -/
def FracAt (W : World) (g : Nat) (x y : Int) : Prop := g < W.heap.size ∧ W.cell? ⟨g, 0, none⟩ = some (.int .i64 x) ∧ W.cell? ⟨g, 1, none⟩ = some (.int .i64 y) ∧ W.frozen? ⟨g, 0, none⟩ = false ∧ W.frozen? ⟨g, 1, none⟩ = false
theorem FracAt.below {W W' : World} {g : Nat} {x y : Int} (h : FracAt W g x y) (hb : Below W.heap.size W W') : FracAt W' g x y :=
  ⟨Nat.lt_of_lt_of_le h.1 hb.size, (hb.cell (p := ⟨g, 0, none⟩) h.1).trans h.2.1, (hb.cell (p := ⟨g, 1, none⟩) h.1).trans h.2.2.1, (hb.frozen (p := ⟨g, 0, none⟩) h.1).trans h.2.2.2.1, (hb.frozen (p := ⟨g, 1, none⟩) h.1).trans h.2.2.2.2⟩
theorem frac_new (w : World) (x y : Int) (T : TypeId) : FracAt (w.alloc (.cells #[.int .i64 x, .int .i64 y] T)) w.heap.size x y := by
  have gg : (w.alloc (.cells #[.int .i64 x, .int .i64 y] T)).heap[w.heap.size]? = some (.cells #[.int .i64 x, .int .i64 y] T (0, 0)) := heap_alloc_new w _
  exact ⟨by simp, cell_of_row _ _ 0 _ _ (0, 0) gg, cell_of_row _ _ 1 _ _ (0, 0) gg, free2 gg 0, free2 gg 1⟩
theorem frac_set {W : World} {g : Nat} {x y : Int} (h : FracAt W g x y) (a b : Int) :
    ((W.setCell ⟨g, 0, none⟩ (.int .i64 a)).setCell ⟨g, 1, none⟩ (.int .i64 b)).cell? ⟨g, 0, none⟩ = some (.int .i64 a) ∧ ((W.setCell ⟨g, 0, none⟩ (.int .i64 a)).setCell ⟨g, 1, none⟩ (.int .i64 b)).cell? ⟨g, 1, none⟩ = some (.int .i64 b) := by
  obtain ⟨-, c0, c1, -, -⟩ := h
  constructor <;> go_simp
theorem frac_below {w W : World} {g B : Nat} (hb : Below B w W) (hB : B ≤ g) (a b : Value) : Below B w ((W.setCell ⟨g, 0, none⟩ a).setCell ⟨g, 1, none⟩ b) :=
  (hb.setCell (p := ⟨g, 0, none⟩) hB _).setCell (p := ⟨g, 1, none⟩) hB _
def chkR (n d : Int) : Int × Int × Int := if fracB n d then (n, d, 0) else (0, 0, 5)
def fracV (r : Int × Int × Int) : Value := .tuple #[.agg #[.int .i64 r.1, .int .i64 r.2.1], .int .i64 r.2.2]
theorem fracV_of {r : Int × Int × Int} {a b c : Int} (h : r = (a, b, c)) : Value.tuple #[.agg #[.int .i64 a, .int .i64 b], .int .i64 c] = fracV r := by subst h; rfl
set_option maxRecDepth 100000 in
set_option maxHeartbeats 2000000 in
theorem chk_impl (w : World) (n d : Nat) (hn : n ≤ 1000000000) (hd1 : d ≤ 1000000000) (hg : fracB n d = true → Nat.gcd n d = 1) :
    Calls Tryz.prog 133 #[.agg #[.int .i64 (n : Int), .int .i64 (d : Int)]] w fun e w' => e = .returned (fracV (chkR n d)) ∧ Below w.heap.size w w' := by
  have hF := frac_new w n d 112
  have hG := frac_new (w.alloc (.cells #[.int .i64 (n : Int), .int .i64 (d : Int)] 112)) 0 0 112
  have hF2 := hF.below ((Below.refl _ _).alloc (Nat.le_refl _) (.cells #[.int .i64 0, .int .i64 0] 112))
  have hb : Below w.heap.size w ((w.alloc (.cells #[.int .i64 (n : Int), .int .i64 (d : Int)] 112)).alloc (.cells #[.int .i64 0, .int .i64 0] 112)) := ((Below.refl w.heap.size w).alloc (Nat.le_refl _) _).alloc (by simp) _
  have hz : (w.alloc (.cells #[.int .i64 (n : Int), .int .i64 (d : Int)] 112)).heap.size = w.heap.size + 1 := by simp
  rw [hz] at hG
  clear hF hz
  obtain ⟨-, c0, c1, -, -⟩ := id hF2
  go_enter Tryz.func133, Tryz.ntmps133
  go_wp2_with fail
  generalize ((w.alloc (.cells #[.int .i64 (n : Int), .int .i64 (d : Int)] 112)).alloc (.cells #[.int .i64 0, .int .i64 0] 112)) = W at hb hG hF2 c0 c1 ⊢
  refine (vfrac_impl _ _ _ hn hd1 hg).mono ?_
  rintro e w1 ⟨rfl, hb1⟩
  clear c0 c1
  obtain ⟨-, c0, c1, -, -⟩ := hF2.below hb1
  have hG1 := hG.below hb1
  have HS := hd (frac_set hG1)
  obtain ⟨g0, d0, d1, f0, f1⟩ := id hG1
  have B := below_step hb hb1
  clear hb1 hg hF2 hG hb
  rcases h : fracB (n : Int) (d : Int) with _ | _
  · have HR := hd (show chkR n d = (0, 0, 5) by unfold chkR; rw [h]; rfl)
    go_wp2_with fail
    obtain ⟨e0, e1⟩ := HS.out 0 0
    have BZ := frac_below (g := w.heap.size + 1) B (Nat.le_succ _) (.int .i64 0) (.int .i64 0)
    generalize ((w1.setCell ⟨w.heap.size + 1, 0, none⟩ (.int .i64 0)).setCell ⟨w.heap.size + 1, 1, none⟩ (.int .i64 0)) = Z at e0 e1 BZ ⊢
    refine bodyPost_ret (v := .tuple #[.agg #[.int .i64 0, .int .i64 0], .int .i64 5]) ?_ rfl ⟨by rw [fracV_of HR.out], BZ⟩
    refine (results_cell_tmp Tryz.results133 _ _ _).trans ?_
    show (((loadVar 112 ⟨w.heap.size + 1, 0, none⟩).run Tryz.prog Z).andThen fun v w₂ => Result.ok (Value.tuple #[v, Value.int .i64 5]) w₂) = _
    rw [load_frac Z _ _ _ e0 e1]
    rfl
  · have HR := hd (show chkR n d = ((n : Int), (d : Int), 0) by unfold chkR; rw [h]; rfl)
    go_wp2_with fail
    obtain ⟨e0, e1⟩ := HS.out n d
    have BZ := frac_below (g := w.heap.size + 1) B (Nat.le_succ _) (.int .i64 n) (.int .i64 d)
    generalize ((w1.setCell ⟨w.heap.size + 1, 0, none⟩ (.int .i64 n)).setCell ⟨w.heap.size + 1, 1, none⟩ (.int .i64 d)) = Z at e0 e1 BZ ⊢
    refine bodyPost_ret (v := .tuple #[.agg #[.int .i64 n, .int .i64 d], .int .i64 0]) ?_ rfl ⟨by rw [fracV_of HR.out], BZ⟩
    refine (results_cell_tmp Tryz.results133 _ _ _).trans ?_
    show (((loadVar 112 ⟨w.heap.size + 1, 0, none⟩).run Tryz.prog Z).andThen fun v w₂ => Result.ok (Value.tuple #[v, Value.int .i64 0]) w₂) = _
    rw [load_frac Z _ _ _ e0 e1]
    rfl
end Go.Proofs.YtgcodjkjdfahdaaGreatDoor

/- Hands that cues need: the program's functions and the reference's. No condition but that the cues are small enough. -/
namespace Go.Proofs.YtgcodjkjdfahdaaGreatDoor
open Go Go.RowKit Go.ChangeShapes Go.WideShapes
set_option linter.unusedSimpArgs false
set_option linter.unusedVariables false
theorem handC_yes {t a b c d : Int} (h1 : a ≤ t) (h2 : t < a + b) : handC t (a, b, c, d) = c := by unfold handC; rw [if_pos ⟨h1, h2⟩]
theorem handC_no {t a b c d : Int} (h : ¬ (a ≤ t ∧ t < a + b)) : handC t (a, b, c, d) = 0 := by unfold handC; rw [if_neg h]
theorem max_if (s x : Int) : (if s < x then x else s) = max s x := by split <;> omega
theorem handsL_all (t : Int) (l : List TCue) (k : Nat) (hk : l.length ≤ k) : handsL t (l.take k) = handsL t l := by rw [List.take_of_length_le hk]
theorem bd_take {l : List TCue} (h : ∀ x ∈ l, bdCue x) (k : Nat) : ∀ x ∈ l.take k, bdCue x := fun x hx => h x (List.mem_of_mem_take hx)
theorem hands_take_bd {l : List TCue} (h : ∀ x ∈ l, bdCue x) (hl : l.length ≤ 6) (t : Int) (k : Nat) : 0 ≤ handsL t (l.take k) ∧ handsL t (l.take k) ≤ 24 := by
  have h1 := handsL_bd (bd_take h k) t
  have h2 : (l.take k).length ≤ 6 := by rw [List.length_take]; omega
  omega
set_option maxRecDepth 100000 in
set_option maxHeartbeats 2000000 in
theorem hands_impl (w : World) (v : Value) (l : List TCue) (h : Sl w 4 v eCue l) (hb : ∀ x ∈ l, bdCue x) (hl : l.length ≤ 6) (t : Int) :
    Calls Tryz.prog 197 #[v, .int .i64 t] w fun e w' => e = .returned (.int .i64 (handsL t l)) ∧ Below w.heap.size w w' := by
  obtain ⟨-, A, c, rfl, -, -, -⟩ := id h
  have HB := hd hb
  have HBT := hd (hands_take_bd hb hl t)
  clear hb
  go_enter Tryz.func197, Tryz.ntmps197
  go_wp2_with fail
  go_loopw [5, 10] (fun sv iv wr => ∃ k : Nat, k ≤ l.length ∧ iv = .int .i64 k ∧ sv = .int .i64 (handsL t (l.take k)) ∧ Below w.heap.size w wr) (fun _ iv _ => l.length - (intOf iv).toNat)
  case atStart => exact ⟨0, Nat.zero_le _, rfl, rfl, Below.refl _ _⟩
  case round =>
    obtain ⟨k, hk, rfl, rfl, hbel⟩ := hrel
    by_cases hlt : k < l.length
    · have HS := hd (handsL_take t l k hlt)
      obtain ⟨s1, s2⟩ := HBT.out k
      obtain ⟨⟨a1, a2⟩, ⟨b1, b2⟩, c1, c2⟩ := HB.out _ (List.getElem_mem hlt)
      obtain ⟨bb, o, rfl, -, p0, p1, p2, p3⟩ := (h.below hbel).Cue_at hlt
      generalize l[k] = x at p0 p1 p2 p3 HS a1 a2 b1 b2 c1 c2
      obtain ⟨xa, xb, xc, xd⟩ := x
      dsimp only at p0 p1 p2 p3 a1 a2 b1 b2 c1 c2
      have hbel' := hbel.alloc hbel.size (.cells #[.int .i64 xa, .int .i64 xb, .int .i64 xc, .int .i64 xd] 92)
      generalize handsL t (l.take k) = s at s1 s2 HS ⊢
      by_cases h1 : xa ≤ t
      · by_cases h2 : t < xa + xb
        · replace HS := hd (HS.out.trans (by rw [handC_yes h1 h2]))
          go_wp2_with fail
          go_roundw
          case rel => exact ⟨k + 1, by omega, by go_num, by rw [HS.out], hbel'⟩
          case measure => simp [intOf]; omega
        · replace HS := hd (HS.out.trans (by rw [handC_no (by omega), Int.add_zero]))
          have h2' : xa + xb ≤ t := by omega
          go_wp2_with fail
          go_roundw
          case rel => exact ⟨k + 1, by omega, by go_num, by rw [HS.out], hbel'⟩
          case measure => simp [intOf]; omega
      · replace HS := hd (HS.out.trans (by rw [handC_no (by omega), Int.add_zero]))
        have h1' : t < xa := by omega
        go_wp2_with fail
        go_roundw
        case rel => exact ⟨k + 1, by omega, by go_num, by rw [HS.out], hbel'⟩
        case measure => simp [intOf]; omega
    · have HE := hd (handsL_all t l k (by omega))
      go_wp2_with fail
      go_ret
      exact ⟨by show Ending.returned (.int .i64 (handsL t (l.take k))) = _; rw [HE.out], hbel⟩
set_option maxRecDepth 100000 in
set_option maxHeartbeats 2000000 in
theorem most_impl (w : World) (v : Value) (l : List TCue) (h : Sl w 4 v eCue l) (hb : ∀ x ∈ l, bdCue x) (hl : l.length ≤ 6) :
    Calls Tryz.prog 139 #[v] w fun e w' => e = .returned (.int .i64 (mostL l)) ∧ Below w.heap.size w w' := by
  obtain ⟨-, A, c, rfl, -, -, -⟩ := id h
  have HB := hd hb
  have HBT := hd (fun k => mostTo_bd (m := l.take k) hb hl)
  clear hb
  go_enter Tryz.func139, Tryz.ntmps139
  go_wp2_with fail
  go_loopw [3, 8] (fun sv iv wr => ∃ k : Nat, k ≤ l.length ∧ iv = .int .i64 k ∧ sv = .int .i64 (mostTo l (l.take k)) ∧ Below w.heap.size w wr) (fun _ iv _ => l.length - (intOf iv).toNat)
  case atStart => exact ⟨0, Nat.zero_le _, rfl, rfl, Below.refl _ _⟩
  case round =>
    obtain ⟨k, hk, rfl, rfl, hbel⟩ := hrel
    by_cases hlt : k < l.length
    · have HS := hd (mostTo_take l k hlt)
      obtain ⟨bb, o, hA, -, p0, p1, p2, p3⟩ := (h.below hbel).Cue_at hlt
      subst hA
      generalize l[k] = x at p0 p1 p2 p3 HS
      obtain ⟨xa, xb, xc, xd⟩ := x
      dsimp only at p0 p1 p2 p3
      have hbel' := hbel.alloc hbel.size (.cells #[.int .i64 xa, .int .i64 xb, .int .i64 xc, .int .i64 xd] 92)
      generalize mostTo l (l.take k) = s at HS ⊢
      go_wp2_with fail
      refine (hands_impl _ _ l (h.below hbel') HB.out hl _).mono ?_
      rintro e w2 ⟨rfl, hb2⟩
      have hbel2 := below_step hbel' hb2
      clear hb2 hbel'
      go_wp2_with fail
      go_roundw
      case rel => exact ⟨k + 1, by omega, by go_num, by rw [HS.out, ← max_if], hbel2⟩
      case measure => simp [intOf]; omega
    · have HE := hd (show mostTo l (l.take k) = mostL l by unfold mostL; rw [List.take_of_length_le (by omega)])
      go_wp2_with fail
      go_ret
      exact ⟨by show Ending.returned (.int .i64 (mostTo l (l.take k))) = _; rw [HE.out], hbel⟩
end Go.Proofs.YtgcodjkjdfahdaaGreatDoor

/- Helpers of the laws about properties: f6big, f6ints, f6sum. A []byte parameter read as bytes. -/
namespace Go.Proofs.YtgcodjkjdfahdaaGreatDoor
open Go Go.RowKit Go.ChangeShapes Go.WideShapes
set_option linter.unusedSimpArgs false
set_option linter.unusedVariables false
def toU (l : List Int) : List UInt8 := l.map fun x => UInt8.ofNat x.toNat
theorem Sl.bytes {w : World} {v : Value} {l : List Int} (h : Sl w 1 v eB l) (hr : ∀ x ∈ l, 0 ≤ x ∧ x ≤ 255) : Sl w 1 v eU (toU l) := by
  obtain ⟨h1, A, c, h2, h3, h4, h5⟩ := h
  refine ⟨by simpa [toU] using h1, A, c, by simpa [toU] using h2, by simpa [toU] using h3, h4, fun i y hy => ?_⟩
  simp only [toU, List.getElem?_map, Option.map_eq_some_iff] at hy
  obtain ⟨x, hx, rfl⟩ := hy
  obtain ⟨b, o, hA, hb, hc⟩ := h5 i x hx
  refine ⟨b, o, hA, hb, fun j u hu => hc j u ?_⟩
  obtain ⟨x0, x1⟩ := hr x (List.mem_of_getElem? hx)
  have : ((UInt8.ofNat x.toNat).toNat : Int) = x := by
    rw [UInt8.toNat_ofNat']
    omega
  simp only [eU, this] at hu
  exact hu
end Go.Proofs.YtgcodjkjdfahdaaGreatDoor

/- Helpers of the laws about properties: a2Long, a2At, a2Sum, a2Has, a2Rises, a2Same. No condition but that the slices read. -/
namespace Go.Proofs.YtgcodjkjdfahdaaGreatDoor
open Go Go.RowKit Go.ChangeShapes Go.WideShapes
set_option linter.unusedSimpArgs false
set_option linter.unusedVariables false
theorem a2long_no (w : World) (v1 v2 : Value) (l1 l2 : List UInt8) (h1 : Sl w 1 v1 eU l1) (h2 : Sl w 1 v2 eU l2) (k1 : l1.length ≤ 3000) (k2 : l2.length ≤ 3000) : Calls Tryz.prog 6 #[v1, v2] w fun e w' => e = .returned (.bool false) ∧ w' = w := by
  have m1 := h1.len
  have m2 := h2.len
  obtain ⟨A1, c1, rfl⟩ := h1.isSlice
  obtain ⟨A2, c2, rfl⟩ := h2.isSlice
  go_enter Tryz.func6, Tryz.ntmps6
  go_wp2_with fail
  go_ret
  exact ⟨by show Ending.returned (.bool (decide _ || decide _)) = _; rw [decide_eq_false (by omega), decide_eq_false (by omega)]; rfl, rfl⟩
theorem a2long_yes (w : World) (v1 v2 : Value) (l1 l2 : List UInt8) (h1 : Sl w 1 v1 eU l1) (h2 : Sl w 1 v2 eU l2) (hk : ¬ (l1.length ≤ 3000 ∧ l2.length ≤ 3000)) : Calls Tryz.prog 6 #[v1, v2] w fun e w' => e = .returned (.bool true) ∧ w' = w := by
  have m1 := h1.len
  have m2 := h2.len
  obtain ⟨A1, c1, rfl⟩ := h1.isSlice
  obtain ⟨A2, c2, rfl⟩ := h2.isSlice
  by_cases k1 : l1.length ≤ 3000
  · have k2 : 3000 < l2.length := by omega
    go_enter Tryz.func6, Tryz.ntmps6
    go_wp2_with fail
    go_ret
    exact ⟨by first | rfl | (congr 2; simp; omega), rfl⟩
  · have k2 : 3000 < l1.length := by omega
    clear hk k1
    go_enter Tryz.func6, Tryz.ntmps6
    go_wp2_with fail
    go_ret
    exact ⟨by first | rfl | (congr 2; simp; omega), rfl⟩
end Go.Proofs.YtgcodjkjdfahdaaGreatDoor
