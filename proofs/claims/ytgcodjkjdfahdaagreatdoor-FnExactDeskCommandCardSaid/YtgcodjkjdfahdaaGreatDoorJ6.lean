/- Lemmas for the claim (the walks of its functions and their plain laws), joined. No condition. -/
import Derived.Test.YtgcodjkjdfahdaaGreatDoorJ5
import Derived.Test.YtgcodjkjdfahdaaGreatDoorShelfQ
import Derived.Test.YtgcodjkjdfahdaaGreatDoorJ4
import Derived.Lib.AppendStr
namespace Go.Proofs.YtgcodjkjdfahdaaGreatDoor
open Go Go.RowKit Go.ChangeShapes Go.WideShapes
set_option linter.unusedSimpArgs false
set_option linter.unusedVariables false
theorem dec_impl (w : World) (n : Int) (h : -9223372036854775808 ≤ n ∧ n ≤ 9223372036854775807) (ht : Tab w) :
    Calls Tryz.prog 36 #[.int .i64 n] w fun e w' => e = .returned (.string (decS n)) ∧ Below w.heap.size w w' := by
  have HT := hd ht
  have hm := maxLen
  go_enter Tryz.func36, Tryz.ntmps36
  go_wp2_with fail
  refine (Tryz.strconv_FormatInt_10 n h.1 h.2 _ HT.out).mono ?_
  rintro e w1 ⟨rfl, k, os, hw⟩
  have hb : Below w.heap.size w w1 := by rw [hw]; exact below_grow w k os
  clear hw
  go_wp2_with fail
  go_ret
  exact ⟨rfl, hb⟩
end Go.Proofs.YtgcodjkjdfahdaaGreatDoor

namespace Go.Proofs.YtgcodjkjdfahdaaGreatDoor
open Go Go.RowKit Go.ChangeShapes Go.WideShapes
set_option linter.unusedSimpArgs false
set_option linter.unusedVariables false
end Go.Proofs.YtgcodjkjdfahdaaGreatDoor

namespace Go.Proofs.YtgcodjkjdfahdaaGreatDoor
open Go Go.RowKit Go.ChangeShapes Go.WideShapes
set_option linter.unusedSimpArgs false
set_option linter.unusedVariables false
def wordsS (a : Int) (b : ByteArray) (c : Int) : ByteArray := decS a ++ ⟨#[32]⟩ ++ b ++ ⟨#[32]⟩ ++ decS c
theorem okEntryB_bd {a : Int} {b : ByteArray} {c : Int} (h : okEntryB (a, b, c) = true) : (0 ≤ a ∧ a ≤ 100000) ∧ isNameB b = true ∧ (-1000000 ≤ c ∧ c ≤ 1000000) := by
  simp only [okEntryB, Bool.and_eq_true] at h
  exact ⟨inB_true h.1, h.2.1, inB_true h.2.2⟩
theorem name_size {s : ByteArray} (h : isNameB s = true) : s.size ≤ 12 := by
  by_cases q : s.size ≤ 12
  · exact q
  · rw [isName_long q] at h; cases h
theorem words_size {a : Int} {b : ByteArray} {c : Int} (h : okEntryB (a, b, c) = true) : (wordsS a b c).size ≤ 56 := by
  obtain ⟨h1, h2, h3⟩ := okEntryB_bd h
  have sa := decS_size (n := a) (by omega)
  have sc := decS_size (n := c) (by omega)
  have sb := name_size h2
  unfold wordsS
  simp only [ByteArray.size_append]
  have : (⟨#[32]⟩ : ByteArray).size = 1 := rfl
  omega
def stampStep (t : Int) (c : UInt8) : Int := (37 * t + (c.toNat : Int)) % 65519
theorem stamp_arith (t c : Int) (h1 : 0 ≤ t) (h2 : t ≤ 65518) (h3 : 0 ≤ c) (h4 : c ≤ 255) : (37 * t + c) % 65519 = (wrap64 (37 * t + wrap64 c)).tmod 65519 := by
  rw [IntWalk.wrap64_in c ⟨by omega, by omega⟩, IntWalk.wrap64_in _ ⟨by omega, by omega⟩, Int.tmod_eq_emod_of_nonneg (by omega)]
theorem byte_bd (c : UInt8) : (0 : Int) ≤ (c.toNat : Int) ∧ (c.toNat : Int) ≤ 255 := by have := c.toNat_lt; omega
def stampN (before : Int) (s : ByteArray) : Int := s.data.toList.foldl stampStep ((before + 29) % 65519)
def stampTo (before : Int) (s : ByteArray) (k : Nat) : Int := (s.data.toList.take k).foldl stampStep ((before + 29) % 65519)
theorem stampTo_succ (before : Int) (s : ByteArray) (k : Nat) (h : k < s.size) : stampTo before s (k + 1) = (37 * stampTo before s k + (s[k].toNat : Int)) % 65519 := by
  unfold stampTo
  rw [List.take_succ_eq_append_getElem (by rw [Array.length_toList]; exact h), List.foldl_append]
  rfl
theorem stampTo_all (before : Int) (s : ByteArray) : stampTo before s s.size = stampN before s := by
  unfold stampTo stampN
  rw [List.take_of_length_le (by rw [Array.length_toList]; exact Nat.le_refl _)]
theorem stampTo_bd (before : Int) (s : ByteArray) (k : Nat) : 0 ≤ stampTo before s k ∧ stampTo before s k ≤ 65518 := by
  unfold stampTo
  have h : ∀ (l : List UInt8) (t : Int), 0 ≤ t ∧ t ≤ 65518 → 0 ≤ l.foldl stampStep t ∧ l.foldl stampStep t ≤ 65518 := by
    intro l
    induction l with
    | nil => exact fun t ht => ht
    | cons c l ih =>
      intro t ht
      refine ih _ ?_
      unfold stampStep
      omega
  exact h _ _ (by omega)
theorem stampN_bd (before : Int) (s : ByteArray) : 0 ≤ stampN before s ∧ stampN before s ≤ 65518 := by
  rw [← stampTo_all]
  exact stampTo_bd ..
set_option maxHeartbeats 4000000 in
theorem words_impl (w : World) (a : Int) (b : ByteArray) (c : Int) (h : okEntryB (a, b, c) = true) (ht : Tab w) :
    Calls Tryz.prog 88 #[.agg #[.int .i64 a, .string b, .int .i64 c]] w fun e w' => e = .returned (.string (wordsS a b c)) ∧ Below w.heap.size w w' := by
  obtain ⟨⟨a1, a2⟩, bn, c1, c2⟩ := okEntryB_bd h
  have hlen := name_size bn
  have HA := hd (show -9223372036854775808 ≤ a ∧ a ≤ 9223372036854775807 by omega)
  have HC := hd (show -9223372036854775808 ≤ c ∧ c ≤ 9223372036854775807 by omega)
  have sa := decS_size HA.out
  have sc := decS_size HC.out
  have hb := (Below.refl w.heap.size w).alloc (Nat.le_refl _) (.cells #[.int .i64 a, .string b, .int .i64 c] 130)
  have g0 := gro_cell (new_cell w #[.int .i64 a, .string b, .int .i64 c] 130 0 _ rfl)
  have g1 := gro_cell (new_cell w #[.int .i64 a, .string b, .int .i64 c] 130 1 _ rfl)
  have g2 := gro_cell (new_cell w #[.int .i64 a, .string b, .int .i64 c] 130 2 _ rfl)
  have HT := hd (ht.below hb)
  clear bn h ht
  go_enter Tryz.func88, Tryz.ntmps88
  go_wp2_with fail
  generalize (w.alloc (.cells #[.int .i64 a, .string b, .int .i64 c] 130)) = W at hb g0 g1 g2 HT ⊢
  have HTX := hd (show ∀ x : Ext W, Tab (gro W x) from fun x => HT.out.below (gro_below x))
  refine wp_region_calm (by kernel_rfl) (by kernel_rfl) ?_
  repeat (first | go_big_quiet_step ((go_at_call 36; exact calm_of (dec_impl _ _ (by first | exact HA.out | exact HC.out) (HTX.out _)))) | quiet_step ((go_at_call 36; exact calm_of (dec_impl _ _ (by first | exact HA.out | exact HC.out) (HTX.out _)))))
  refine wpQuiet_nil ?_
  rintro w2 ⟨x, rfl⟩
  have hb3 := below_step hb (gro_below x)
  clear g0 g1 g2
  go_wp2_with fail
  go_ret
  exact ⟨rfl, hb3⟩
set_option maxHeartbeats 4000000 in
theorem words_spec (w : World) (g o : Nat) (a : Int) (b : ByteArray) (c : Int) (p0 : w.cell? ⟨g, o, none⟩ = some (.int .i64 a)) (p1 : w.cell? ⟨g, o + 1, none⟩ = some (.string b)) (p2 : w.cell? ⟨g, o + 2, none⟩ = some (.int .i64 c)) (h : okEntryB (a, b, c) = true) :
    Calls Tryz.prog 175 #[.pointer (some ⟨g, o, none⟩)] w fun e w' => e = .returned (.string (wordsS a b c)) ∧ Below w.heap.size w w' := by
  obtain ⟨⟨a1, a2⟩, bn, c1, c2⟩ := okEntryB_bd h
  have hlen := name_size bn
  have HA := hd (show -9223372036854775808 ≤ a ∧ a ≤ 9223372036854775807 by omega)
  have HC := hd (show -9223372036854775808 ≤ c ∧ c ≤ 9223372036854775807 by omega)
  have sa := decS_size HA.out
  have sc := decS_size HC.out
  have g0 := gro_cell p0
  have g1 := gro_cell p1
  have g2 := gro_cell p2
  clear bn h p0 p1 p2
  go_enter Tryz.func175, Tryz.ntmps175
  go_wp2_with fail
  refine wp_region_calm (by kernel_rfl) (by kernel_rfl) ?_
  repeat (first | go_big_quiet_step ((go_at_call 167; exact calm_of (dec_spec _ _ (by first | exact HA.out | exact HC.out)))) | quiet_step ((go_at_call 167; exact calm_of (dec_spec _ _ (by first | exact HA.out | exact HC.out)))))
  refine wpQuiet_nil ?_
  rintro w2 ⟨x, rfl⟩
  have hb3 := gro_below x
  clear g0 g1 g2
  go_wp2_with fail
  go_ret
  exact ⟨rfl, hb3⟩
set_option maxHeartbeats 1000000 in
theorem l27Stamp_spec (w : World) (before : Int) (hbf : 0 ≤ before ∧ before ≤ 65518) (s : ByteArray) (hs : s.size ≤ 1048576) :
    Calls Tryz.prog 226 #[.int .i64 before, .string s] w fun e w' => e = .returned (.int .i64 (stampN before s)) ∧ w' = w := by
  obtain ⟨hb1, hb2⟩ := hbf
  have HALL := hd (stampTo_all before s)
  go_enter Tryz.func226, Tryz.ntmps226
  go_wp2_with fail
  go_loop [5, 6] (fun t i => ∃ k : Nat, k ≤ s.size ∧ i = .int .i64 k ∧ t = .int .i64 (stampTo before s k)) (fun _ i => s.size - (intOf i).toNat)
  case atStart => exact ⟨0, Nat.zero_le _, rfl, rfl⟩
  case round =>
    obtain ⟨k, hk, rfl, rfl⟩ := hrel
    obtain ⟨t1, t2⟩ := stampTo_bd before s k
    by_cases hlt : k < s.size
    · have HS := hd (stampTo_succ before s k hlt)
      generalize stampTo before s k = t at t1 t2 HS
      go_wp2_with fail
      go_round
      case rel => exact ⟨k + 1, by omega, by go_num, by rw [HS.out, stamp_arith _ _ t1 t2 (byte_bd _).1 (byte_bd _).2]⟩
      case measure => simp [intOf]; omega
    · obtain rfl : k = s.size := by omega
      go_wp2_with fail
      go_ret
      exact ⟨by rw [← HALL.out]; rfl, rfl⟩
set_option maxHeartbeats 1000000 in
theorem stampOf_impl (w : World) (before : Int) (hbf : 0 ≤ before ∧ before ≤ 65518) (a : Int) (b : ByteArray) (c : Int) (h : okEntryB (a, b, c) = true) (ht : Tab w) :
    Calls Tryz.prog 156 #[.int .i64 before, .agg #[.int .i64 a, .string b, .int .i64 c]] w fun e w' => e = .returned (.int .i64 (stampN before (wordsS a b c))) ∧ Below w.heap.size w w' := by
  obtain ⟨hb1, hb2⟩ := hbf
  have HALL := hd (stampTo_all before (wordsS a b c))
  have hs := words_size h
  have hb := (Below.refl w.heap.size w).alloc (Nat.le_refl _) (.cells #[.int .i64 a, .string b, .int .i64 c] 130)
  have p0 := new_cell w #[.int .i64 a, .string b, .int .i64 c] 130 0 _ rfl
  have p1 := new_cell w #[.int .i64 a, .string b, .int .i64 c] 130 1 _ rfl
  have p2 := new_cell w #[.int .i64 a, .string b, .int .i64 c] 130 2 _ rfl
  have HT := hd (ht.below hb)
  have HK := hd h
  clear ht h
  go_enter Tryz.func156, Tryz.ntmps156
  go_wp2_with fail
  generalize (w.alloc (.cells #[.int .i64 a, .string b, .int .i64 c] 130)) = W at hb p0 p1 p2 HT ⊢
  refine (words_impl _ _ _ _ HK.out HT.out).mono ?_
  rintro e w1 ⟨rfl, hb1'⟩
  have hb2' := below_step hb hb1'
  clear p0 p1 p2 hb1'
  go_wp2_with fail
  go_loop [5, 15] (fun t i => ∃ k : Nat, k ≤ (wordsS a b c).size ∧ i = .int .i64 k ∧ t = .int .i64 (stampTo before (wordsS a b c) k)) (fun _ i => (wordsS a b c).size - (intOf i).toNat)
  case atStart => exact ⟨0, Nat.zero_le _, rfl, rfl⟩
  case round =>
    obtain ⟨k, hk, rfl, rfl⟩ := hrel
    obtain ⟨t1, t2⟩ := stampTo_bd before (wordsS a b c) k
    by_cases hlt : k < (wordsS a b c).size
    · have HS := hd (stampTo_succ before (wordsS a b c) k hlt)
      generalize stampTo before (wordsS a b c) k = t at t1 t2 HS
      go_wp2_with fail
      go_round
      case rel => exact ⟨k + 1, by omega, by go_num, by rw [HS.out, stamp_arith _ _ t1 t2 (byte_bd _).1 (byte_bd _).2]⟩
      case measure => simp [intOf]; omega
    · obtain rfl : k = (wordsS a b c).size := by omega
      go_wp2_with fail
      go_ret
      exact ⟨by rw [← HALL.out]; rfl, hb2'⟩
end Go.Proofs.YtgcodjkjdfahdaaGreatDoor

namespace Go.Proofs.YtgcodjkjdfahdaaGreatDoor
open Go Go.RowKit Go.ChangeShapes Go.WideShapes
set_option linter.unusedSimpArgs false
set_option linter.unusedVariables false
def noE : TEntry := (0, ByteArray.empty, 0)
def wordsE (x : TEntry) : ByteArray := wordsS x.1 x.2.1 x.2.2
def lineS (st : Int) (x : TEntry) : ByteArray := wordsE x ++ ⟨#[32]⟩ ++ decS st ++ ⟨#[10]⟩
theorem lineS_size {st : Int} {x : TEntry} (hs : 0 ≤ st ∧ st ≤ 65518) (h : okEntryB x = true) : 2 ≤ (lineS st x).size ∧ (lineS st x).size ≤ 79 := by
  have h1 := words_size (a := x.1) (b := x.2.1) (c := x.2.2) h
  have h2 := decS_size (n := st) (by omega)
  unfold lineS wordsE
  simp only [ByteArray.size_append]
  have e1 : (⟨#[32]⟩ : ByteArray).size = 1 := rfl
  have e2 : (⟨#[10]⟩ : ByteArray).size = 1 := rfl
  omega
end Go.Proofs.YtgcodjkjdfahdaaGreatDoor

namespace Go.Proofs.YtgcodjkjdfahdaaGreatDoor
open Go Go.RowKit Go.ChangeShapes Go.WideShapes
set_option linter.unusedSimpArgs false
set_option linter.unusedVariables false
set_option maxHeartbeats 1000000 in
theorem line_spec (w : World) (st : Int) (hst : 0 ≤ st ∧ st ≤ 65518) (g o : Nat) (x : TEntry) (p0 : w.cell? ⟨g, o, none⟩ = some (.int .i64 x.1)) (p1 : w.cell? ⟨g, o + 1, none⟩ = some (.string x.2.1)) (p2 : w.cell? ⟨g, o + 2, none⟩ = some (.int .i64 x.2.2)) (h : okEntryB x = true) :
    Calls Tryz.prog 225 #[.int .i64 st, .pointer (some ⟨g, o, none⟩)] w fun e w' => e = .returned (.string (lineS st x)) ∧ Below w.heap.size w w' := by
  obtain ⟨a, b, c⟩ := x
  have H1 := hd (words_spec w g o a b c p0 p1 p2 h)
  have hw := words_size h
  have s1 := decS_size (n := st) (by omega)
  have H2 := hd (fun w : World => dec_spec w st (by omega))
  have HE := hd (show lineS st (a, b, c) = wordsS a b c ++ ⟨#[32]⟩ ++ decS st ++ ⟨#[10]⟩ from rfl)
  clear p0 p1 p2 h
  go_enter Tryz.func225, Tryz.ntmps225
  go_wp2_with fail
  refine H1.out.mono ?_
  rintro e w1 ⟨rfl, hb1⟩
  go_wp2_with fail
  refine (H2.out _).mono ?_
  rintro e w2 ⟨rfl, hb2⟩
  have hb3 := below_step hb1 hb2
  go_wp2_with fail
  go_ret
  exact ⟨by rw [HE.out]; rfl, hb3⟩
end Go.Proofs.YtgcodjkjdfahdaaGreatDoor
