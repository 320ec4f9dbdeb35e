/- Contracts of the laws' helpers on []string: a copy, a comparison, marks. No condition but that the slice reads. -/
import Derived.Test.YtlgcehdklpbknaaBase
namespace Go.Proofs.Ytlgcehdklpbknaa
open Go Go.RowKit Go.ChangeShapes Go.WideShapes
set_option linter.unusedSimpArgs false
set_option linter.unusedVariables false

def eS (x : ByteArray) : List Value := [.string x]
theorem eS_len (x : ByteArray) : (eS x).length = 1 := rfl
theorem bytes_of_toList {a b : ByteArray} (h : a.toList = b.toList) : a = b := by
  rw [ByteArray.toList_eq, ByteArray.toList_eq] at h
  obtain ⟨⟨x⟩⟩ := a
  obtain ⟨⟨y⟩⟩ := b
  simpa using h
theorem info_str : (Try.prog.info? 9).map (fun i => (i.zero, i.size, i.bytes)) = some (some (.string ByteArray.empty), 1, 16) := by kernel_rfl
theorem Sl.str_at {w : World} {A : Option Addr} {n c : Nat} {l : List ByteArray} (h : Sl w 1 (.slice A n c) eS l) {i : Nat} (hi : i < l.length) :
    ∃ b o, A = some ⟨b, o, none⟩ ∧ b < w.heap.size ∧ w.cell? ⟨b, o + i, none⟩ = some (.string l[i]) := by
  obtain ⟨b, o, x, hx, hA, hb, hc⟩ := h.at_ hi
  have : x = l[i] := by rw [List.getElem?_eq_getElem hi] at hx; exact (Option.some.inj hx).symm
  subst this
  exact ⟨b, o, hA, hb, by simpa using hc 0 _ rfl⟩


/-- the digits of a number ahead of a text -/
def mtGo : Nat → Nat → ByteArray → ByteArray
  | 0, _, out => out
  | f + 1, n, out => if n = 0 then out else mtGo f (n / 10) (strOfNums [48 + (n : Int) % 10] ++ out)
def markB (k : Nat) : ByteArray := if k = 0 then ⟨#[109, 48]⟩ else ⟨#[109]⟩ ++ mtGo 20 k ByteArray.empty
set_option maxRecDepth 100000 in
set_option maxHeartbeats 1000000 in
theorem markText (w : World) (k : Nat) (hk : k ≤ 4611686018427387904) :
    Calls Try.prog 89 #[.int .i64 k] w fun e w' => e = .returned (.string (markB k)) ∧ Below w.heap.size w w' := by
  by_cases h0 : k = 0
  · subst h0
    go_enter Try.func89, Try.ntmps89
    go_wp2_with fail
    go_ret
    exact ⟨rfl, Below.refl _ _⟩
  obtain ⟨r, hr⟩ : ∃ r, r = mtGo 20 k ByteArray.empty := ⟨_, rfl⟩
  have HR := hd hr.symm
  have HM := hd (show markB k = ⟨#[109]⟩ ++ r by unfold markB; rw [if_neg h0, hr])
  have hpos : (0 : Int) < k := by omega
  clear hr h0
  go_enter Try.func89, Try.ntmps89
  go_wp2_with fail
  go_loopw [0, 3] (fun kv ov wr => ∃ (f n : Nat) (out : ByteArray), n < 10 ^ f ∧ out.size + f ≤ 20 ∧ kv = .int .i64 n ∧ ov = .string out ∧ n ≤ 4611686018427387904 ∧ Below w.heap.size w wr ∧ Hid (mtGo f n out = r)) (fun kv _ _ => (intOf kv).toNat)
  case atStart => exact ⟨20, k, ByteArray.empty, by omega, by simp, rfl, rfl, hk, Below.refl _ _, HR⟩
  case round =>
    obtain ⟨f, n, out, hf, hsz, rfl, rfl, hn, hbel, HT⟩ := hrel
    by_cases hz : n = 0
    · subst hz
      go_wp2_with fail
      go_ret
      refine ⟨?_, hbel⟩
      have e : out = r := by
        rw [← HT.out]
        cases f <;> rfl
      rw [HM.out, e]
      rfl
    · rcases f with _ | f
      · exfalso; simp at hf; omega
      have hpos : (0 : Int) < n := by omega
      have hcv := run_convert_bytes_arg (P := Try.prog) (wr.alloc (.cells #[.int .u8 (48 + (n : Int) % 10)] 5)) 22 5 Try.underlying22 Try.underlying5 wr.heap.size 0 1 1 [48 + (n : Int) % 10] rfl (fun i hi => by obtain rfl : i = 0 := (by omega); exact new_cell wr _ _ 0 _ rfl) 9 Try.underlying9
      have hbel' := hbel.alloc hbel.size (.cells #[.int .u8 (48 + (n : Int) % 10)] 5)
      have HT' := hd (show mtGo f (n / 10) (strOfNums [48 + (n : Int) % 10] ++ out) = r by have := HT.out; rw [mtGo, if_neg hz] at this; exact this)
      have hs1 : (strOfNums [48 + (n : Int) % 10]).size = 1 := rfl
      have HF := hd hf
      clear hf
      go_wp2_with fail
      go_roundw
      case rel => exact ⟨f, n / 10, strOfNums [48 + (n : Int) % 10] ++ out, by have := HF.out; rw [Nat.pow_succ] at this; omega, by rw [ByteArray.size_append, hs1]; omega, by go_num, rfl, by omega, hbel', HT'⟩
      case measure => simp [intOf]; omega

def marksB (k n : Nat) : List ByteArray := (List.range n).map fun i => markB (k + i)
theorem marksB_len (k n : Nat) : (marksB k n).length = n := by simp [marksB]
theorem marksB_get (k n i : Nat) (h : i < (marksB k n).length) : (marksB k n)[i] = markB (k + i) := by simp [marksB]
end Go.Proofs.Ytlgcehdklpbknaa
