/- Lemmas for the claim (the walks of its functions and their plain laws), joined. No condition. -/
import Derived.Test.YtgcodjkjdfahdaaGreatDoorJ4
import Derived.Test.YtgcodjkjdfahdaaGreatDoorJ1
import Derived.Lib.ItoaLen
import Derived.Lib.AppendIntMem
import Derived.Laws.IdiomStrings
import Derived.Laws.BytesArg
namespace Go.Proofs.YtgcodjkjdfahdaaGreatDoor
open Go Go.RowKit Go.ChangeShapes Go.WideShapes
set_option linter.unusedSimpArgs false
set_option linter.unusedVariables false
def Tab (w : World) : Prop := Lib.TabIs Tryz.prog w "internal/strconv.uint64pow10" .u64 Lib.pow10Tab
theorem Tab.below {w w' : World} (h : Tab w) (hb : Below w.heap.size w w') : Tab w' := Lib.tabBelow_of_tabIs h w' hb
theorem below_grow (w : World) (q : Nat) (os : Array Obj) : Below w.heap.size w (Sort.grow (w.drewN q) os) :=
  ⟨rfl, rfl, rfl, by simp [Sort.grow], fun i hi => by
    show ((w.drewN q).heap ++ os)[i]? = _
    rw [Array.getElem?_append_left (by show i < w.heap.size; omega)]
    rfl⟩
def decS (n : Int) : ByteArray := ⟨(Lib.itoa n).toArray⟩
theorem decS_size {n : Int} (h : -9223372036854775808 ≤ n ∧ n ≤ 9223372036854775807) : (decS n).size ≤ 21 := by
  have := Lib.itoa_length_le n h.1 h.2
  simpa [decS, ByteArray.size] using this
theorem Own.isSlice {α : Type} {w : World} {B : Nat} {E : TypeId} {k : Nat} {v : Value} {enc : α → List Value} {l : List α} (h : Own w B E k v enc l) : ∃ A c, v = .slice A l.length c := by
  rcases h.form with ⟨hv, hl⟩ | ⟨g, cap, hv, -⟩
  · subst hl
    exact ⟨none, 0, hv⟩
  · exact ⟨_, cap, hv⟩
theorem Sl.isSlice {α : Type} {w : World} {k : Nat} {v : Value} {enc : α → List Value} {l : List α} (h : Sl w k v enc l) : ∃ A c, v = .slice A l.length c := by
  obtain ⟨-, A, c, hv, -⟩ := h
  exact ⟨A, c, hv⟩
def eU (x : UInt8) : List Value := [.int .u8 (x.toNat : Int)]
theorem eU_len (x : UInt8) : (eU x).length = 1 := rfl
theorem own_byte (w : World) (X : Int) (y : UInt8) (h : (y.toNat : Int) = X) (B : Nat) (hB : B ≤ w.heap.size) (E : TypeId) : Own (w.alloc (.cells #[.int .u8 X] E)) B E 1 (.slice (some ⟨w.heap.size, 0, none⟩) 1 1) eU [y] := by
  subst h
  exact ⟨rfl, .inr ⟨w.heap.size, 1, #[.int .u8 (y.toNat : Int)], rfl, hB, heap_alloc_new w _, Nat.le_refl _, by decide, rfl, rfl⟩⟩
theorem conv_bytes {P : Program} (w : World) (src dst e : TypeId) (hs : P.underlying src = some (.slice e)) (he : P.underlying e = some (.int .u8)) (hd' : P.underlying dst = some .string) {v : Value} {l : List UInt8} (h : Sl w 1 v eU l) :
    (convert src dst v).run P w = .ok (.string ⟨l.toArray⟩) w := by
  obtain ⟨h1, A, c, rfl, hc, hc', h2⟩ := h
  rcases A with _ | a
  · have hnil : l = [] := by
      rcases l with _ | ⟨y, l⟩
      · rfl
      · obtain ⟨b, o, e', -⟩ := h2 0 y rfl
        cases e'
    subst hnil
    exact run_convert_bytes_nil w src e hs he _ _ dst hd'
  · refine run_convert_bytes_back w src dst e a c l hs he hd' (fun j hj => ?_)
    obtain ⟨b, o, e', -, h3⟩ := h2 j l[j] (List.getElem?_eq_getElem hj)
    cases e'
    have hadd : (⟨b, o, none⟩ : Addr).add j = ⟨b, o + j, none⟩ := by unfold Addr.add; split <;> simp_all
    rw [hadd]
    simpa [eU] using h3 0 _ rfl
def digs (q : Nat) : List UInt8 := if q = 0 then [] else Lib.decDigits q
theorem digs_step {q : Nat} (h : q ≠ 0) : digs q = digs (q / 10) ++ [UInt8.ofNat (48 + q % 10)] := by
  unfold digs
  rw [if_neg h]
  by_cases h2 : q < 10
  · rw [if_pos (by omega), Lib.decDigits_one h2, show q % 10 = q by omega]
    rfl
  · rw [if_neg (by omega)]
    conv => lhs; rw [Lib.decDigits, dif_neg h2]
theorem digit_val (q : Nat) : ((UInt8.ofNat (48 + q % 10)).toNat : Int) = 48 + ((q % 10 : Nat) : Int) := by
  rw [UInt8.toNat_ofNat']
  omega
theorem info_u8 : (Tryz.prog.info? 5).map (fun i => (i.zero, i.size, i.bytes)) = some (some (.int .u8 0), 1, 1) := by kernel_rfl
set_option maxRecDepth 100000 in
set_option maxHeartbeats 1000000 in
theorem dec_spec_pos (w : World) (m : Nat) (h : m ≤ 9223372036854775807) :
    Calls Tryz.prog 167 #[.int .i64 (m : Int)] w fun e w' => e = .returned (.string (decS (m : Int))) ∧ Below w.heap.size w w' := by
  have HLEN := hd (show (digs m).length ≤ 21 by
    unfold digs
    split
    · simp
    · have := Lib.itoa_length_le (m : Int) (by omega) (by omega)
      rwa [Lib.itoa_nonneg] at this)
  have HCV := hd (fun (w : World) (v : Value) (l : List UInt8) (hv : Sl w 1 v eU l) => conv_bytes (P := Tryz.prog) w 22 9 5 Tryz.underlying22 Tryz.underlying5 Tryz.underlying9 hv)
  obtain ⟨i0, hi, hz0, hz1, hz2⟩ := info_parts info_u8
  have O0 := Own.made0 w w.heap.size 5 1 eU (Nat.le_refl _)
  have b0 := (Below.refl w.heap.size w).alloc (Nat.le_refl _) (.cells #[] 5)
  go_enter Tryz.func167, Tryz.ntmps167
  go_wp2_with fail
  go_loopw [3, 4] (fun ov kv wr => ∃ (q : Nat) (l : List UInt8), kv = .int .i64 (q : Int) ∧ q ≤ 9223372036854775808 ∧ Own wr w.heap.size 5 1 ov eU l ∧ Hid (digs m = digs q ++ l) ∧ Below w.heap.size w wr) (fun _ kv _ => (intOf kv).natAbs)
  case atStart => exact ⟨m, [], rfl, by omega, O0, hd (by simp), b0⟩
  case round =>
    obtain ⟨q, l, rfl, hq, hO, HD, hbel⟩ := hrel
    clear O0 b0
    by_cases hq0 : q = 0
    · subst hq0
      have HL := hd (show digs m = l by rw [HD.out]; rfl)
      have hc := HCV.out wr _ l (hO.sl eU_len)
      obtain ⟨A, c, rfl⟩ := hO.isSlice
      by_cases hm : m = 0
      · have hlb : ((l.length : Int) == 0) = true := by rw [← HL.out, hm]; rfl
        have HE := hd (show decS (m : Int) = ⟨#[48]⟩ by unfold decS; rw [Lib.itoa_nonneg, hm, Lib.decDigits_one (by omega)]; rfl)
        clear hm
        go_wp2_with fail
        go_ret
        exact ⟨by rw [HE.out]; rfl, hbel⟩
      · have HE := hd (show decS (m : Int) = ⟨l.toArray⟩ by
          unfold decS
          rw [Lib.itoa_nonneg, ← HL.out]
          unfold digs
          rw [if_neg hm])
        have hlp : 0 < l.length := by
          have e := HL.out
          unfold digs at e
          rw [if_neg hm] at e
          rw [← e, Lib.decDigits_length]
          unfold Lib.nDigits
          split <;> omega
        have hlb : ((l.length : Int) == 0) = false := by simp; intro e; rw [e] at hlp; simp at hlp
        have hm0 : (0 : Int) ≤ (m : Int) := by omega
        go_wp2_with fail
        go_ret
        exact ⟨by rw [HE.out]; rfl, hbel⟩
    · skip
      obtain ⟨y, hy⟩ : ∃ y, y = UInt8.ofNat (48 + q % 10) := ⟨_, rfl⟩
      have HV := hd (show (y.toNat : Int) = (48 + (q : Int) % 10) by rw [hy, digit_val]; omega)
      have HN := hd (show digs m = digs (q / 10) ++ (y :: l) by rw [HD.out, digs_step hq0, List.append_assoc, hy]; rfl)
      clear hy
      have hl21 : l.length ≤ 21 := by have := HLEN.out; rw [HD.out, List.length_append] at this; omega
      have hqp : (0 : Int) < (q : Int) := by omega
      obtain ⟨A, c, rfl⟩ := hO.isSlice
      go_wp2_with (at_builtin; refine wpList_append_sl _ rfl _ _ 22 rfl i0 (.int .u8 0) 1 Tryz.underlying22 hi hz0 hz1 hz2 rfl (by decide) eU_len (by intro y u hu; simp [eU] at hu; subst hu; rfl) _ [y] rfl (own_byte wr _ _ HV.out w.heap.size hbel.size 5) _ l rfl ((hO.sl eU_len).alloc _) (by unfold maxLen; simp; omega) (by simp; omega) (by have := hbel.size; simp; omega) ?_)
      intro v' w1 hown hgr
      have hb1 := (hbel.alloc hbel.size (.cells #[.int .u8 (48 + (q : Int) % 10)] 5)).grown hgr (by have := hbel.size; simp; omega) (fun g hg => (Option.some.inj (show some wr.heap.size = some g from hg)) ▸ hbel.size)
      clear hgr
      go_wp2_with fail
      go_roundw
      case rel => exact ⟨q / 10, y :: l, by go_num, by omega, by simpa using hown, HN, hb1⟩
      case measure => simp [intOf]; omega
set_option maxRecDepth 100000 in
set_option maxHeartbeats 1000000 in
theorem dec_spec_neg (w : World) (m : Nat) (h1 : 1 ≤ m) (h : m ≤ 9223372036854775808) :
    Calls Tryz.prog 167 #[.int .i64 (-(m : Int))] w fun e w' => e = .returned (.string (decS (-(m : Int)))) ∧ Below w.heap.size w w' := by
  have HLEN := hd (show (digs m).length ≤ 21 by
    unfold digs
    split
    · simp
    · have := Lib.itoa_length_le (-(m : Int)) (by omega) (by omega)
      rw [Lib.itoa_neg m h1, List.length_cons] at this
      omega)
  have HCV := hd (fun (w : World) (v : Value) (l : List UInt8) (hv : Sl w 1 v eU l) => conv_bytes (P := Tryz.prog) w 22 9 5 Tryz.underlying22 Tryz.underlying5 Tryz.underlying9 hv)
  obtain ⟨i0, hi, hz0, hz1, hz2⟩ := info_parts info_u8
  have O0 := Own.made0 w w.heap.size 5 1 eU (Nat.le_refl _)
  have b0 := (Below.refl w.heap.size w).alloc (Nat.le_refl _) (.cells #[] 5)
  go_enter Tryz.func167, Tryz.ntmps167
  go_wp2_with fail
  go_loopw [3, 4] (fun ov kv wr => ∃ (q : Nat) (l : List UInt8), kv = .int .i64 (-(q : Int)) ∧ q ≤ 9223372036854775808 ∧ Own wr w.heap.size 5 1 ov eU l ∧ Hid (digs m = digs q ++ l) ∧ Below w.heap.size w wr) (fun _ kv _ => (intOf kv).natAbs)
  case atStart => exact ⟨m, [], rfl, by omega, O0, hd (by simp), b0⟩
  case round =>
    obtain ⟨q, l, rfl, hq, hO, HD, hbel⟩ := hrel
    clear O0 b0
    by_cases hq0 : q = 0
    · subst hq0
      have HL := hd (show digs m = l by rw [HD.out]; rfl)
      have hc := HCV.out wr _ l (hO.sl eU_len)
      obtain ⟨A, c, rfl⟩ := hO.isSlice
      have hlb : ((l.length : Int) == 0) = false := by
        rw [← HL.out]
        unfold digs
        rw [if_neg (by omega)]
        have := Lib.decDigits_length m
        have h3 : 1 ≤ Lib.nDigits m := by unfold Lib.nDigits; split <;> omega
        simp
        intro e
        rw [e] at this
        simp at this
        omega
      have HE := hd (show decS (-(m : Int)) = ⟨#[45]⟩ ++ ⟨l.toArray⟩ by
        unfold decS
        rw [Lib.itoa_neg m h1, ← HL.out]
        unfold digs
        rw [if_neg (by omega)]
        apply ByteArray.ext
        rw [ByteArray.data_append]
        simp)
      have hm0 : (-(m : Int)) < 0 := by omega
      have hlp : 0 < l.length := by
        rcases l with _ | ⟨y, l⟩
        · simp at hlb
        · simp
      have hl22 : l.length ≤ 21 := by have := HLEN.out; rw [HL.out] at this; exact this
      go_wp2_with fail
      go_ret
      exact ⟨by rw [HE.out]; rfl, hbel⟩
    · skip
      obtain ⟨y, hy⟩ : ∃ y, y = UInt8.ofNat (48 + q % 10) := ⟨_, rfl⟩
      have HV := hd (show (y.toNat : Int) = (48 + (q : Int) % 10) by rw [hy, digit_val]; omega)
      have HN := hd (show digs m = digs (q / 10) ++ (y :: l) by rw [HD.out, digs_step hq0, List.append_assoc, hy]; rfl)
      clear hy
      have hl21 : l.length ≤ 21 := by have := HLEN.out; rw [HD.out, List.length_append] at this; omega
      have hqp : (0 : Int) < (q : Int) := by omega
      have hqq : (-(q : Int)).tdiv 10 = -((q : Int) / 10) := by rw [Int.neg_tdiv]; rw [Int.tdiv_eq_ediv_of_nonneg (by omega)]
      have hr9 : (q : Int) % 10 ≤ 9 := by omega
      by_cases hz : (q : Int) % 10 = 0
      · have ht : (-(q : Int)).tmod 10 = 0 := by rw [Int.neg_tmod]; rw [Int.tmod_eq_emod_of_nonneg (by omega)]; omega
        have HV2 := hd (show (y.toNat : Int) = 48 by rw [HV.out]; omega)
        clear hz
        obtain ⟨A, c, rfl⟩ := hO.isSlice
        go_wp2_with (at_builtin; refine wpList_append_sl _ rfl _ _ 22 rfl i0 (.int .u8 0) 1 Tryz.underlying22 hi hz0 hz1 hz2 rfl (by decide) eU_len (by intro y u hu; simp [eU] at hu; subst hu; rfl) _ [y] rfl (own_byte wr _ _ HV2.out w.heap.size hbel.size 5) _ l rfl ((hO.sl eU_len).alloc _) (by unfold maxLen; simp; omega) (by simp; omega) (by have := hbel.size; simp; omega) ?_)
        intro v' w1 hown hgr
        have hb1 := (hbel.alloc hbel.size (.cells #[.int .u8 48] 5)).grown hgr (by have := hbel.size; simp; omega) (fun g hg => (Option.some.inj (show some wr.heap.size = some g from hg)) ▸ hbel.size)
        clear hgr
        go_wp2_with fail
        go_roundw
        case rel => exact ⟨q / 10, y :: l, by go_num, by omega, by simpa using hown, HN, hb1⟩
        case measure => simp [intOf]; omega
      · have ht : (-(q : Int)).tmod 10 = -((q : Int) % 10) := by rw [Int.neg_tmod]; rw [Int.tmod_eq_emod_of_nonneg (by omega)]
        have hr0 : 0 < (q : Int) % 10 := by omega
        clear hz
        obtain ⟨A, c, rfl⟩ := hO.isSlice
        go_wp2_with (at_builtin; refine wpList_append_sl _ rfl _ _ 22 rfl i0 (.int .u8 0) 1 Tryz.underlying22 hi hz0 hz1 hz2 rfl (by decide) eU_len (by intro y u hu; simp [eU] at hu; subst hu; rfl) _ [y] rfl (own_byte wr _ _ HV.out w.heap.size hbel.size 5) _ l rfl ((hO.sl eU_len).alloc _) (by unfold maxLen; simp; omega) (by simp; omega) (by have := hbel.size; simp; omega) ?_)
        intro v' w1 hown hgr
        have hb1 := (hbel.alloc hbel.size (.cells #[.int .u8 (48 + (q : Int) % 10)] 5)).grown hgr (by have := hbel.size; simp; omega) (fun g hg => (Option.some.inj (show some wr.heap.size = some g from hg)) ▸ hbel.size)
        clear hgr
        go_wp2_with fail
        go_roundw
        case rel => exact ⟨q / 10, y :: l, by go_num, by omega, by simpa using hown, HN, hb1⟩
        case measure => simp [intOf]; omega
theorem dec_spec (w : World) (n : Int) (h : -9223372036854775808 ≤ n ∧ n ≤ 9223372036854775807) :
    Calls Tryz.prog 167 #[.int .i64 n] w fun e w' => e = .returned (.string (decS n)) ∧ Below w.heap.size w w' := by
  by_cases q : 0 ≤ n
  · obtain ⟨m, rfl⟩ : ∃ m : Nat, n = (m : Int) := ⟨n.toNat, by omega⟩
    exact dec_spec_pos w m (by omega)
  · obtain ⟨m, rfl⟩ : ∃ m : Nat, n = -(m : Int) := ⟨n.natAbs, by omega⟩
    exact dec_spec_neg w m (by omega) (by omega)
end Go.Proofs.YtgcodjkjdfahdaaGreatDoor

namespace Go.Proofs.YtgcodjkjdfahdaaGreatDoor
open Go Go.RowKit Go.ChangeShapes Go.WideShapes
set_option linter.unusedSimpArgs false
set_option linter.unusedVariables false
section
variable {P : Program} {α : Type} {enc : α → List Value} {k : Nat}
theorem wp_push_at (w : World) {o : Oper} {a : Act} {K : Act → World → Prop} {Q : Exit → Act → World → Prop} (s x : Operand) (t : TypeId)
    (ho : o.op = .call { callee := .builtin .append, args := #[s, x], argTypes := #[t, t] })
    {B E : Nat} (i : TypeInfo) (z : Value) (bytes : Nat) (ht : P.underlying t = some (.slice E)) (hi : P.info? E = some i) (hz : i.zero = some z)
    (hsize : i.size = k) (hby : i.bytes = bytes) (hzs : z.cells.size = k) (hsz : 0 < k)
    (v : Value) (l : List α) (y : α) (hs : a.eval s = v) (hown : Own w B E k v enc l)
    (g : Nat) (hx : a.eval x = .slice (some ⟨g, 0, none⟩) 1 1) (cs : Array Value) (E' : TypeId) (hg : w.heap[g]? = some (.cells cs E' (0, 0))) (hcs : cs.toList = enc y) (hlen : (enc y).length = k) (h1 : ∀ u ∈ enc y, u.oneCell' = true)
    (h63 : l.length + 1 ≤ maxLen) (hbytes : (l.length + 1) * bytes ≤ 140737488355328) (hbase : B ≤ w.heap.size)
    (h : ∀ v' w', Own w' B E k v' enc (l ++ [y]) → w.grownBy w' v.ownBlock → (v'.ownBlock = v.ownBlock ∨ v'.ownBlock = some w.heap.size) → K (a.put o.dst v') w') : o.wp P a w K Q := by
  obtain ⟨v', w', hr, h2, h3, -, h5⟩ := run_append_own_at (P := P) w B t o.type E i z k bytes ht hi hz hsize hby hzs hsz v l.length (l.flatMap enc) hown ⟨g, 0, none⟩ 1 1 (enc y) (by simpa using hlen) (fun j u hu => by
    have hadd : (⟨g, 0, none⟩ : Addr).add j = ⟨g, j, none⟩ := by unfold Addr.add; split <;> simp_all
    rw [hadd, cell_of_row w g j cs E' (0, 0) hg, ← hu, ← hcs]
    simp) h1 h63 hbytes hbase
  unfold Oper.wp execOp
  simp only [ho, resolve, invoke, builtin, Sem.run_bind, Sem.run_pure, Result.andThen_ok, List.map_toArray, List.map_cons, List.map_nil, hs, hx, hr]
  exact h v' w' (by unfold Own; simpa using h2) h3 h5
theorem wpList_push_at (w : World) {ops : Array Oper} {rest : List Oper} {o : Oper} {a : Act} {Q : Exit → Act → World → Prop} (hgd : o.guard = none) (s x : Operand) (t : TypeId)
    (ho : o.op = .call { callee := .builtin .append, args := #[s, x], argTypes := #[t, t] })
    {B E : Nat} (i : TypeInfo) (z : Value) (bytes : Nat) (ht : P.underlying t = some (.slice E)) (hi : P.info? E = some i) (hz : i.zero = some z)
    (hsize : i.size = k) (hby : i.bytes = bytes) (hzs : z.cells.size = k) (hsz : 0 < k)
    (v : Value) (l : List α) (y : α) (hs : a.eval s = v) (hown : Own w B E k v enc l)
    (g : Nat) (hx : a.eval x = .slice (some ⟨g, 0, none⟩) 1 1) (cs : Array Value) (E' : TypeId) (hg : w.heap[g]? = some (.cells cs E' (0, 0))) (hcs : cs.toList = enc y) (hlen : (enc y).length = k) (h1 : ∀ u ∈ enc y, u.oneCell' = true)
    (h63 : l.length + 1 ≤ maxLen) (hbytes : (l.length + 1) * bytes ≤ 140737488355328) (hbase : B ≤ w.heap.size)
    (h : ∀ v' w', Own w' B E k v' enc (l ++ [y]) → w.grownBy w' v.ownBlock → (v'.ownBlock = v.ownBlock ∨ v'.ownBlock = some w.heap.size) → wpList P ops Q rest (a.put o.dst v') w') : wpList P ops Q (o :: rest) a w :=
  wpList_plain hgd fun _ hK => wp_push_at w s x t ho i z bytes ht hi hz hsize hby hzs hsz v l y hs hown g hx cs E' hg hcs hlen h1 h63 hbytes hbase fun v' w' h2 h3 h4 => hK _ _ (h v' w' h2 h3 h4)
end
theorem apart_push {a b c : Option Nat} {N : Nat} (h : apart a b) (hc : c = a ∨ c = some (N + 1)) (hb : ∀ g, b = some g → g < N + 1) : apart c b := by
  rcases hc with rfl | rfl
  · exact h
  · refine .inr fun e => ?_
    have := hb (N + 1) e.symm
    omega
theorem kis {α : Type} {enc : α → List Value} {w wr : World} {E : TypeId} {k : Nat} {r : List α × Int} {c : Int} {l : List α} {v : Value} (h : r = (l, c)) (ho : Own wr w.heap.size E k v enc l) (hb : Below w.heap.size w wr) : GivesOwnI w E k enc r (.returned (.tuple #[v, .int .i64 c])) wr := by
  subst h
  exact ⟨_, rfl, ho, hb⟩
theorem kis_nil {α : Type} {enc : α → List Value} {w : World} {E : TypeId} {k : Nat} {r : List α × Int} {c : Int} (h : r = ([], c)) (wr : World) (hb : Below w.heap.size w wr) : GivesOwnI w E k enc r (.returned (.tuple #[.slice none 0 0, .int .i64 c])) wr := by
  subst h
  exact ⟨_, rfl, Own.nil _ _ _ _ _, hb⟩
theorem mul_bd {p k : Nat} (hp : p ≤ 48) (hk : k ≤ 48) : 0 ≤ 2 * (k : Int) * (p : Int) ∧ 2 * (k : Int) * (p : Int) ≤ 4608 := by
  have h : 2 * k * p ≤ 96 * 48 := Nat.mul_le_mul (by omega) hp
  have e : 2 * (k : Int) * (p : Int) = ((2 * k * p : Nat) : Int) := by simp
  rw [e]
  omega
theorem mul_bd2 {p k : Nat} (hp : p ≤ 48) (hk : k ≤ 48) : 0 ≤ (k : Int) * (p : Int) ∧ (k : Int) * (p : Int) ≤ 2304 := by
  have h : k * p ≤ 48 * 48 := Nat.mul_le_mul (by omega) hp
  have e : (k : Int) * (p : Int) = ((k * p : Nat) : Int) := by simp
  rw [e]
  omega
def discB2 (p s : Int) : Bool := inB p 1 48 && inB s 1 48
def seenR (p s : Int) : List Int × Int := if discB2 p s then (seenTo p.toNat s.toNat s.toNat, 0) else ([], 2)
theorem seenR_bad {p s : Int} (h : discB2 p s = false) : seenR p s = ([], 2) := by unfold seenR; rw [h]; rfl
theorem seenR_good {p s : Int} (h : discB2 p s = true) : seenR p s = (seenTo p.toNat s.toNat s.toNat, 0) := by unfold seenR; rw [h]; rfl
theorem discB2_bd {p s : Int} (h : discB2 p s = true) : (1 ≤ p ∧ p ≤ 48) ∧ (1 ≤ s ∧ s ≤ 48) := by
  unfold discB2 at h
  rw [Bool.and_eq_true] at h
  exact ⟨inB_true h.1, inB_true h.2⟩
theorem seenR_len (p s : Int) : (seenR p s).1.length ≤ 48 := by
  rcases h : discB2 p s with _ | _
  · rw [seenR_bad h]; simp
  · rw [seenR_good h, seenTo_len]
    have := discB2_bd h
    omega
theorem seenR_mem (p s : Int) : ∀ x ∈ (seenR p s).1, 0 ≤ x ∧ x ≤ 48 := by
  rcases h : discB2 p s with _ | _
  · rw [seenR_bad h]; simp
  · rw [seenR_good h]
    have hb := discB2_bd h
    intro x hx
    have := seenTo_mem (by omega) x hx
    omega
theorem disc_impl (w : World) (p s : Int) : Calls Tryz.prog 128 #[.int .i64 p, .int .i64 s] w fun e w' => e = .returned (.bool (discB2 p s)) ∧ w' = w := by
  rcases h1 : inB p 1 48 with _ | _
  · have HR := hd (show discB2 p s = false by unfold discB2; rw [h1]; rfl)
    go_enter Tryz.func128, Tryz.ntmps128
    go_wp2_with (go_at_call 67; refine (in_impl _ _ _ _).mono ?_; rintro e w1 ⟨rfl, hw⟩; have hw := hw.symm; subst hw)
    go_ret
    exact ⟨by rw [HR.out]; simp [h1], rfl⟩
  · have HR := hd (show discB2 p s = inB s 1 48 by unfold discB2; rw [h1]; rfl)
    go_enter Tryz.func128, Tryz.ntmps128
    go_wp2_with (go_at_call 67; refine (in_impl _ _ _ _).mono ?_; rintro e w1 ⟨rfl, hw⟩; have hw := hw.symm; subst hw)
    go_ret
    exact ⟨by rw [HR.out]; simp [h1], rfl⟩
set_option maxRecDepth 100000 in
theorem near_impl (w : World) (p s k : Nat) (hp : 1 ≤ p ∧ p ≤ 48) (hs : 1 ≤ s ∧ s ≤ 48) (hk : k ≤ 48) :
    Calls Tryz.prog 195 #[.int .i64 (p : Int), .int .i64 (s : Int), .int .i64 (k : Int)] w fun e w' => e = .returned (.int .i64 ((nearN p s k : Nat) : Int)) ∧ w' = w := by
  obtain ⟨h1, h2⟩ := mul_bd hp.2 hk
  have h3 : 0 ≤ 2 * (k : Int) * (p : Int) + (s : Int) := by omega
  have HR := hd (near_cast p s k)
  go_enter Tryz.func195, Tryz.ntmps195
  go_wp2_with fail
  go_ret
  exact ⟨by rw [HR.out]; rfl, rfl⟩
set_option maxRecDepth 100000 in
set_option maxHeartbeats 2000000 in
theorem seenO_impl (w : World) (p s : Nat) (hp : 1 ≤ p ∧ p ≤ 48) (hs : 1 ≤ s ∧ s ≤ 48) :
    Calls Tryz.prog 129 #[.int .i64 (p : Int), .int .i64 (s : Int)] w (GivesOwn w 2 1 eI (seenTo p s s)) := by
  obtain ⟨i0, hi, hz0, hz1, hz2⟩ := info_parts info_i64
  have own0 := Own.made0 w w.heap.size 2 1 eI (Nat.le_refl _)
  have bel0 := (Below.refl w.heap.size w).alloc (Nat.le_refl _) (.cells #[] 2)
  go_enter Tryz.func129, Tryz.ntmps129
  go_wp2_with fail
  go_loopw [5, 9] (fun ov iv wr => ∃ k : Nat, k ≤ s ∧ iv = .int .i64 k ∧ Own wr w.heap.size 2 1 ov eI (seenTo p s k) ∧ Below w.heap.size w wr) (fun _ iv _ => s - (intOf iv).toNat)
  case atStart => exact ⟨0, Nat.zero_le _, rfl, own0, bel0⟩
  case round =>
    obtain ⟨k, hk, rfl, hown, hbel⟩ := hrel
    clear own0 bel0
    have hlen := seenTo_len p s k
    by_cases hlt : k < s
    · have HS := hd (seenTo_snoc p s k)
      have HC := hd (seen_cast p s k)
      have hlk : (seenTo p s k).length ≤ 48 := by omega
      have HL := hd hlen
      clear hlen
      generalize seenTo p s k = L at hown hlk HS HL ⊢
      go_wp2_with fail
      refine (near_impl _ _ _ _ hp hs (by omega)).mono ?_
      rintro e w1 ⟨rfl, hw⟩
      rw [← hw] at hown hbel
      clear hw
      go_wp2_with (at_builtin; refine wpList_push _ rfl _ _ 56 rfl i0 (.int .i64 0) 8 Tryz.underlying56 hi hz0 hz1 hz2 rfl (by decide) _ _ (((nearN p s k : Nat) : Int) % (p : Int)) rfl (hown.alloc _) w1.heap.size rfl #[.int .i64 (((nearN p s k : Nat) : Int) % (p : Int))] 2 (heap_alloc_new _ _) rfl rfl (by intro u hu; simp [eI] at hu; subst hu; rfl) (by unfold maxLen; omega) (by omega) (by have := hbel.size; simp; omega) ?_)
      intro v' w3 hown2 hgr2
      have hbel2 := (hbel.alloc hbel.size (.cells #[.int .i64 (((nearN p s k : Nat) : Int) % (p : Int))] 2)).grown hgr2 (by have := hbel.size; simp; omega) (fun g hg => (hown.lt g hg).1)
      clear hown hgr2 hbel
      go_wp2_with fail
      go_roundw
      case rel => exact ⟨k + 1, by omega, by go_num, by rw [HS.out, HC.out]; exact hown2, hbel2⟩
      case measure => simp [intOf]; omega
    · obtain rfl : k = s := by omega
      go_wp2_with fail
      go_ret
      exact ⟨_, rfl, hown, hbel⟩
set_option maxRecDepth 100000 in
theorem seen_impl (w : World) (p s : Int) : Calls Tryz.prog 68 #[.int .i64 p, .int .i64 s] w (GivesOwnI w 2 1 eI (seenR p s)) := by
  rcases h1 : discB2 p s with _ | _
  · have HR := hd (seenR_bad h1)
    go_enter Tryz.func68, Tryz.ntmps68
    go_wp2_with fail
    refine (disc_impl _ _ _).mono ?_
    rintro e w1 ⟨rfl, hw⟩
    have hw := hw.symm
    subst hw
    rw [h1]
    go_wp2_with fail
    go_ret2
    exact kis_nil HR.out _ (Below.refl _ _)
  · obtain ⟨⟨a1, a2⟩, b1, b2⟩ := discB2_bd h1
    have HR := seenR_good h1
    obtain ⟨m, rfl⟩ := Int.eq_ofNat_of_zero_le (show 0 ≤ p by omega)
    obtain ⟨n, rfl⟩ := Int.eq_ofNat_of_zero_le (show 0 ≤ s by omega)
    rw [Int.toNat_natCast, Int.toNat_natCast] at HR
    have HR := hd HR
    go_enter Tryz.func68, Tryz.ntmps68
    go_wp2_with fail
    refine (disc_impl _ _ _).mono ?_
    rintro e w1 ⟨rfl, hw⟩
    have hw := hw.symm
    subst hw
    rw [h1]
    clear h1
    go_wp2_with fail
    refine (seenO_impl _ _ _ (by omega) (by omega)).mono ?_
    rintro e w2 ⟨v, rfl, O, B⟩
    obtain ⟨A, cc, rfl⟩ := O.isSlice
    go_wp2_with fail
    go_ret2
    exact kis HR.out O B
theorem floor_spec (w : World) (n d : Int) (h0 : 0 ≤ n) (h1 : n ≤ 1000000000) (h2 : 1 ≤ d) (h3 : d ≤ 1000000000) : Calls Tryz.prog 288 #[.int .i64 n, .int .i64 d] w fun e w' => e = .returned (.int .i64 (n / d)) ∧ w' = w := by
  have q := Int.emod_nonneg n (show d ≠ 0 by omega)
  have q2 := Int.ediv_nonneg h0 (show 0 ≤ d by omega)
  have q3 : n / d ≤ n := Int.ediv_le_self _ h0
  go_enter Tryz.func288, Tryz.ntmps288
  go_wp2_with fail
  go_ret
  exact ⟨rfl, rfl⟩
theorem round_spec (w : World) (n d : Int) (h0 : 0 ≤ n) (h1 : n ≤ 1000000) (h2 : 1 ≤ d) (h3 : d ≤ 1000000) : Calls Tryz.prog 284 #[.int .i64 n, .int .i64 d] w fun e w' => e = .returned (.int .i64 ((2 * n + d) / (2 * d))) ∧ w' = w := by
  go_enter Tryz.func284, Tryz.ntmps284
  go_wp2_with fail
  refine (floor_spec _ _ _ (by omega) (by omega) (by omega) (by omega)).mono ?_
  rintro e w1 ⟨rfl, hw⟩
  have hw := hw.symm
  subst hw
  go_wp2_with fail
  go_ret
  exact ⟨rfl, rfl⟩
set_option maxRecDepth 100000 in
theorem near_spec (w : World) (p s k : Nat) (hp : 1 ≤ p ∧ p ≤ 48) (hs : 1 ≤ s ∧ s ≤ 48) (hk : k ≤ 48) :
    Calls Tryz.prog 278 #[.int .i64 (p : Int), .int .i64 (s : Int), .int .i64 (k : Int)] w fun e w' => e = .returned (.int .i64 ((nearN p s k : Nat) : Int)) ∧ w' = w := by
  obtain ⟨h1, h2⟩ := mul_bd2 hp.2 hk
  have HR := hd (show ((nearN p s k : Nat) : Int) = (2 * ((k : Int) * (p : Int)) + (s : Int)) / (2 * (s : Int)) by rw [near_cast, Int.mul_assoc])
  go_enter Tryz.func278, Tryz.ntmps278
  go_wp2_with fail
  refine (round_spec _ _ _ (by omega) (by omega) (by omega) (by omega)).mono ?_
  rintro e w1 ⟨rfl, hw⟩
  have hw := hw.symm
  subst hw
  rw [← HR.out]
  go_wp2_with fail
  go_ret
  exact ⟨rfl, rfl⟩
set_option maxRecDepth 100000 in
theorem seenN_spec (w : World) (p s k : Nat) (hp : 1 ≤ p ∧ p ≤ 48) (hs : 1 ≤ s ∧ s ≤ 48) (hk : k ≤ 48) :
    Calls Tryz.prog 263 #[.int .i64 (p : Int), .int .i64 (s : Int), .int .i64 (k : Int)] w fun e w' => e = .returned (.int .i64 ((seenN p s k : Nat) : Int)) ∧ w' = w := by
  have HC := hd (seen_cast p s k)
  go_enter Tryz.func263, Tryz.ntmps263
  go_wp2_with fail
  refine (near_spec _ _ _ _ hp hs hk).mono ?_
  rintro e w1 ⟨rfl, hw⟩
  have hw := hw.symm
  subst hw
  go_wp2_with fail
  go_ret
  exact ⟨by rw [HC.out]; rfl, rfl⟩
theorem many_spec (w : World) (n : Int) : Calls Tryz.prog 270 #[.int .i64 n] w fun e w' => e = .returned (.bool (inB n 1 48)) ∧ w' = w := by
  go_enter Tryz.func270, Tryz.ntmps270
  go_wp2_with (go_at_call 158; refine (in_spec _ _ _ _).mono ?_; rintro e w1 ⟨rfl, hw⟩; have hw := hw.symm; subst hw)
  go_ret
  exact ⟨rfl, rfl⟩
def discC (p s : Int) : Int := if discB2 p s then 0 else 2
theorem discC_spec (w : World) (p s : Int) : Calls Tryz.prog 234 #[.int .i64 p, .int .i64 s] w fun e w' => e = .returned (.int .i64 (discC p s)) ∧ w' = w := by
  rcases h1 : inB p 1 48 with _ | _
  · have HR := hd (show discC p s = 2 by unfold discC discB2; rw [h1]; rfl)
    go_enter Tryz.func234, Tryz.ntmps234
    go_wp2_with (go_at_call 270; refine (many_spec _ _).mono ?_; rintro e w1 ⟨rfl, hw⟩; have hw := hw.symm; subst hw)
    go_ret
    exact ⟨by rw [HR.out]; rfl, rfl⟩
  rcases h2 : inB s 1 48 with _ | _
  · have HR := hd (show discC p s = 2 by unfold discC discB2; rw [h1, h2]; rfl)
    go_enter Tryz.func234, Tryz.ntmps234
    go_wp2_with (go_at_call 270; refine (many_spec _ _).mono ?_; rintro e w1 ⟨rfl, hw⟩; have hw := hw.symm; subst hw)
    go_ret
    exact ⟨by rw [HR.out]; rfl, rfl⟩
  · have HR := hd (show discC p s = 0 by unfold discC discB2; rw [h1, h2]; rfl)
    go_enter Tryz.func234, Tryz.ntmps234
    go_wp2_with (go_at_call 270; refine (many_spec _ _).mono ?_; rintro e w1 ⟨rfl, hw⟩; have hw := hw.symm; subst hw)
    go_ret
    exact ⟨by rw [HR.out]; rfl, rfl⟩
set_option maxRecDepth 100000 in
set_option maxHeartbeats 2000000 in
theorem seenO_spec (w : World) (p s : Nat) (hp : 1 ≤ p ∧ p ≤ 48) (hs : 1 ≤ s ∧ s ≤ 48) :
    Calls Tryz.prog 235 #[.int .i64 (p : Int), .int .i64 (s : Int)] w (GivesOwn w 2 1 eI (seenTo p s s)) := by
  obtain ⟨i0, hi, hz0, hz1, hz2⟩ := info_parts info_i64
  have own0 := Own.made0 w w.heap.size 2 1 eI (Nat.le_refl _)
  have bel0 := (Below.refl w.heap.size w).alloc (Nat.le_refl _) (.cells #[] 2)
  go_enter Tryz.func235, Tryz.ntmps235
  go_wp2_with fail
  go_loopw [5, 6] (fun ov iv wr => ∃ k : Nat, k ≤ s ∧ iv = .int .i64 k ∧ Own wr w.heap.size 2 1 ov eI (seenTo p s k) ∧ Below w.heap.size w wr) (fun _ iv _ => s - (intOf iv).toNat)
  case atStart => exact ⟨0, Nat.zero_le _, rfl, own0, bel0⟩
  case round =>
    obtain ⟨k, hk, rfl, hown, hbel⟩ := hrel
    clear own0 bel0
    have hlen := seenTo_len p s k
    by_cases hlt : k < s
    · have HS := hd (seenTo_snoc p s k)
      have hlk : (seenTo p s k).length ≤ 48 := by omega
      have HL := hd hlen
      clear hlen
      generalize seenTo p s k = L at hown hlk HS HL ⊢
      go_wp2_with fail
      refine (seenN_spec _ _ _ _ hp hs (by omega)).mono ?_
      rintro e w1 ⟨rfl, hw⟩
      rw [← hw] at hown hbel
      clear hw
      go_wp2_with (at_builtin; refine wpList_push _ rfl _ _ 56 rfl i0 (.int .i64 0) 8 Tryz.underlying56 hi hz0 hz1 hz2 rfl (by decide) _ _ ((seenN p s k : Nat) : Int) rfl (hown.alloc _) w1.heap.size rfl #[.int .i64 ((seenN p s k : Nat) : Int)] 2 (heap_alloc_new _ _) rfl rfl (by intro u hu; simp [eI] at hu; subst hu; rfl) (by unfold maxLen; omega) (by omega) (by have := hbel.size; simp; omega) ?_)
      intro v' w3 hown2 hgr2
      have hbel2 := (hbel.alloc hbel.size (.cells #[.int .i64 ((seenN p s k : Nat) : Int)] 2)).grown hgr2 (by have := hbel.size; simp; omega) (fun g hg => (hown.lt g hg).1)
      clear hown hgr2 hbel
      go_wp2_with fail
      go_roundw
      case rel => exact ⟨k + 1, by omega, by go_num, by rw [HS.out]; exact hown2, hbel2⟩
      case measure => simp [intOf]; omega
    · obtain rfl : k = s := by omega
      go_wp2_with fail
      go_ret
      exact ⟨_, rfl, hown, hbel⟩
set_option maxRecDepth 100000 in
theorem seen_spec (w : World) (p s : Int) : Calls Tryz.prog 177 #[.int .i64 p, .int .i64 s] w (GivesOwnI w 2 1 eI (seenR p s)) := by
  rcases h1 : discB2 p s with _ | _
  · have HR := hd (seenR_bad h1)
    have HC := hd (show discC p s = 2 by unfold discC; rw [h1]; rfl)
    go_enter Tryz.func177, Tryz.ntmps177
    go_wp2_with fail
    refine (discC_spec _ _ _).mono ?_
    rintro e w1 ⟨rfl, hw⟩
    have hw := hw.symm
    subst hw
    rw [HC.out]
    go_wp2_with fail
    go_ret2
    exact kis_nil HR.out _ (Below.refl _ _)
  · obtain ⟨⟨a1, a2⟩, b1, b2⟩ := discB2_bd h1
    have HC := hd (show discC p s = 0 by unfold discC; rw [h1]; rfl)
    have HR := seenR_good h1
    obtain ⟨m, rfl⟩ := Int.eq_ofNat_of_zero_le (show 0 ≤ p by omega)
    obtain ⟨n, rfl⟩ := Int.eq_ofNat_of_zero_le (show 0 ≤ s by omega)
    rw [Int.toNat_natCast, Int.toNat_natCast] at HR
    have HR := hd HR
    clear h1
    go_enter Tryz.func177, Tryz.ntmps177
    go_wp2_with fail
    refine (discC_spec _ _ _).mono ?_
    rintro e w1 ⟨rfl, hw⟩
    have hw := hw.symm
    subst hw
    rw [HC.out]
    go_wp2_with fail
    refine (seenO_spec _ _ _ (by omega) (by omega)).mono ?_
    rintro e w2 ⟨v, rfl, O, B⟩
    obtain ⟨A, cc, rfl⟩ := O.isSlice
    go_wp2_with fail
    go_ret2
    exact kis HR.out O B
end Go.Proofs.YtgcodjkjdfahdaaGreatDoor

namespace Go.Proofs.YtgcodjkjdfahdaaGreatDoor
set_option linter.unusedSimpArgs false
set_option linter.unusedVariables false
theorem gcd_step (a b : Nat) : Nat.gcd b (a % b) = Nat.gcd a b := by
  rw [Nat.gcd_comm a b, Nat.gcd_rec b a, Nat.gcd_comm]
theorem gcd_low {n d : Nat} (hd : 0 < d) : Nat.gcd (n / Nat.gcd n d) (d / Nat.gcd n d) = 1 := by
  have h : 0 < Nat.gcd n d := Nat.gcd_pos_of_pos_right _ hd
  rw [Nat.gcd_div (Nat.gcd_dvd_left n d) (Nat.gcd_dvd_right n d), Nat.div_self h]
def lowN (n d : Nat) : Nat := n / Nat.gcd n d
def lowD (n d : Nat) : Nat := d / Nat.gcd n d
theorem lowD_bd {n d : Nat} (hd : 0 < d) : 1 ≤ lowD n d ∧ lowD n d ≤ d := by
  unfold lowD
  have h : 0 < Nat.gcd n d := Nat.gcd_pos_of_pos_right _ hd
  exact ⟨Nat.div_pos (Nat.le_of_dvd hd (Nat.gcd_dvd_right n d)) h, Nat.div_le_self _ _⟩
theorem lowN_bd (n d : Nat) : lowN n d ≤ n := Nat.div_le_self _ _
def fracS (n d : Int) : ByteArray := if d = 1 then decS n else decS n ++ ⟨#[47]⟩ ++ decS d
theorem fracS_one (n : Int) : fracS n 1 = decS n := by unfold fracS; rw [if_pos rfl]
theorem fracS_two {n d : Int} (h : ¬ d = 1) : fracS n d = decS n ++ ⟨#[47]⟩ ++ decS d := by unfold fracS; rw [if_neg h]
end Go.Proofs.YtgcodjkjdfahdaaGreatDoor
