/- Contracts of the laws' helpers on []string: a copy, a comparison, marks. No condition but that the slice reads. -/
import Derived.Test.YtklepmeiaiihhaaDoorBase
namespace Go.Proofs.YtklepmeiaiihhaaDoor
open Go Go.RowKit Go.ChangeShapes Go.WideShapes
set_option linter.unusedSimpArgs false
set_option linter.unusedVariables false

def eS (x : ByteArray) : List Value := [.string x]
theorem eS_len (x : ByteArray) : (eS x).length = 1 := rfl
theorem bytes_of_toList {a b : ByteArray} (h : a.toList = b.toList) : a = b := by
  rw [ByteArray.toList_eq, ByteArray.toList_eq] at h
  obtain ⟨⟨x⟩⟩ := a
  obtain ⟨⟨y⟩⟩ := b
  simpa using h
theorem info_str : (Tryd.prog.info? 9).map (fun i => (i.zero, i.size, i.bytes)) = some (some (.string ByteArray.empty), 1, 16) := by kernel_rfl
theorem Sl.str_at {w : World} {A : Option Addr} {n c : Nat} {l : List ByteArray} (h : Sl w 1 (.slice A n c) eS l) {i : Nat} (hi : i < l.length) :
    ∃ b o, A = some ⟨b, o, none⟩ ∧ b < w.heap.size ∧ w.cell? ⟨b, o + i, none⟩ = some (.string l[i]) := by
  obtain ⟨b, o, x, hx, hA, hb, hc⟩ := h.at_ hi
  have : x = l[i] := by rw [List.getElem?_eq_getElem hi] at hx; exact (Option.some.inj hx).symm
  subst this
  exact ⟨b, o, hA, hb, by simpa using hc 0 _ rfl⟩

set_option maxHeartbeats 400000 in
theorem eqStrs (w : World) (v1 v2 : Value) (l1 l2 : List ByteArray) (h1 : Sl w 1 v1 eS l1) (h2 : Sl w 1 v2 eS l2) :
    Calls Tryd.prog 33 #[v1, v2] w fun e w' => e = .returned (.bool (decide (l1 = l2))) ∧ ∃ n, w' = w.drewN n := by
  have m1 := h1.len
  have m2 := h2.len
  obtain ⟨-, A1, c1, rfl, -, -, -⟩ := id h1
  obtain ⟨-, A2, c2, rfl, -, -, -⟩ := id h2
  by_cases hlen : l1.length = l2.length
  · have hb : (((l1.length : Nat) : Int) != ((l2.length : Nat) : Int)) = false := by simp [hlen]
    have HL := hd hlen
    clear hlen
    go_enter Tryd.func33, Tryd.ntmps33
    go_wp2
    go_loopw [5] (fun i wr => ∃ k : Nat, k ≤ l1.length ∧ i = .int .i64 k ∧ (∃ d, wr = w.drewN d) ∧ Hid (l1.take k = l2.take k)) (fun i _ => l1.length - (intOf i).toNat)
    case atStart => exact ⟨0, Nat.zero_le _, rfl, ⟨0, rfl⟩, hd (by simp)⟩
    case round =>
      obtain ⟨k, hk, rfl, ⟨d, rfl⟩, HT⟩ := hrel
      by_cases hlt : k < l1.length
      · have hlt2 : k < l2.length := HL.out ▸ hlt
        obtain ⟨a1, o1, rfl, -, hc1⟩ := h1.str_at hlt
        obtain ⟨a2, o2, rfl, -, hc2⟩ := h2.str_at hlt2
        go_wp2
        go_quiet (fail)
        go_wp2
        · have hne : (!(l1[k].toList == l2[k].toList)) = true := by assumption
          go_ret
          refine ⟨?_, d + nq, by first | rfl | exact World.drewN_drewN _ _ _⟩
          have : l1 ≠ l2 := by rintro rfl; simp at hne
          simp [this]
        · have heq : (!(l1[k].toList == l2[k].toList)) = false := by assumption
          have heq := bytes_of_toList (show l1[k].toList = l2[k].toList by simpa using heq)
          go_roundw
          case rel => exact ⟨k + 1, by omega, by go_num, ⟨_, rfl⟩, hd (by rw [List.take_succ_eq_append_getElem hlt, List.take_succ_eq_append_getElem hlt2, HT.out]; rw [heq])⟩
          case measure => simp [intOf]; omega
      · go_wp2
        go_ret
        refine ⟨?_, _, rfl⟩
        have h3 := HT.out
        rw [List.take_of_length_le (by omega), List.take_of_length_le (by have := HL.out; omega)] at h3
        simp [h3]
  · have hb : (((l1.length : Nat) : Int) != ((l2.length : Nat) : Int)) = true := by simp; omega
    have HL := hd hlen
    clear hlen
    go_enter Tryd.func33, Tryd.ntmps33
    go_wp2
    go_ret
    refine ⟨?_, 0, rfl⟩
    have : l1 ≠ l2 := by rintro rfl; exact HL.out rfl
    simp [this]


/-- the digits of a number ahead of a text -/
def mtGo : Nat → Nat → ByteArray → ByteArray
  | 0, _, out => out
  | f + 1, n, out => if n = 0 then out else mtGo f (n / 10) (strOfNums [48 + (n : Int) % 10] ++ out)
def markB (k : Nat) : ByteArray := if k = 0 then ⟨#[109, 48]⟩ else ⟨#[109]⟩ ++ mtGo 20 k ByteArray.empty
set_option maxRecDepth 100000 in
set_option maxHeartbeats 1000000 in
theorem markText (w : World) (k : Nat) (hk : k ≤ 4611686018427387904) :
    Calls Tryd.prog 63 #[.int .i64 k] w fun e w' => e = .returned (.string (markB k)) ∧ Below w.heap.size w w' := by
  by_cases h0 : k = 0
  · subst h0
    go_enter Tryd.func63, Tryd.ntmps63
    go_wp2_with fail
    go_ret
    exact ⟨rfl, Below.refl _ _⟩
  obtain ⟨r, hr⟩ : ∃ r, r = mtGo 20 k ByteArray.empty := ⟨_, rfl⟩
  have HR := hd hr.symm
  have HM := hd (show markB k = ⟨#[109]⟩ ++ r by unfold markB; rw [if_neg h0, hr])
  have hpos : (0 : Int) < k := by omega
  clear hr h0
  go_enter Tryd.func63, Tryd.ntmps63
  go_wp2_with fail
  go_loopw [0, 3] (fun kv ov wr => ∃ (f n : Nat) (out : ByteArray), n < 10 ^ f ∧ out.size + f ≤ 20 ∧ kv = .int .i64 n ∧ ov = .string out ∧ n ≤ 4611686018427387904 ∧ Below w.heap.size w wr ∧ Hid (mtGo f n out = r)) (fun kv _ _ => (intOf kv).toNat)
  case atStart => exact ⟨20, k, ByteArray.empty, by omega, by simp, rfl, rfl, hk, Below.refl _ _, HR⟩
  case round =>
    obtain ⟨f, n, out, hf, hsz, rfl, rfl, hn, hbel, HT⟩ := hrel
    by_cases hz : n = 0
    · subst hz
      go_wp2_with fail
      go_ret
      refine ⟨?_, hbel⟩
      have e : out = r := by
        rw [← HT.out]
        cases f <;> rfl
      rw [HM.out, e]
      rfl
    · rcases f with _ | f
      · exfalso; simp at hf; omega
      have hpos : (0 : Int) < n := by omega
      have hcv := run_convert_bytes_arg (P := Tryd.prog) (wr.alloc (.cells #[.int .u8 (48 + (n : Int) % 10)] 5)) 104 5 Tryd.underlying104 Tryd.underlying5 wr.heap.size 0 1 1 [48 + (n : Int) % 10] rfl (fun i hi => by obtain rfl : i = 0 := (by omega); exact new_cell wr _ _ 0 _ rfl) 9 Tryd.underlying9
      have hbel' := hbel.alloc hbel.size (.cells #[.int .u8 (48 + (n : Int) % 10)] 5)
      have HT' := hd (show mtGo f (n / 10) (strOfNums [48 + (n : Int) % 10] ++ out) = r by have := HT.out; rw [mtGo, if_neg hz] at this; exact this)
      have hs1 : (strOfNums [48 + (n : Int) % 10]).size = 1 := rfl
      have HF := hd hf
      clear hf
      go_wp2_with fail
      go_roundw
      case rel => exact ⟨f, n / 10, strOfNums [48 + (n : Int) % 10] ++ out, by have := HF.out; rw [Nat.pow_succ] at this; omega, by rw [ByteArray.size_append, hs1]; omega, by go_num, rfl, by omega, hbel', HT'⟩
      case measure => simp [intOf]; omega

def marksB (k n : Nat) : List ByteArray := (List.range n).map fun i => markB (k + i)
theorem marksB_len (k n : Nat) : (marksB k n).length = n := by simp [marksB]
theorem marksB_get (k n i : Nat) (h : i < (marksB k n).length) : (marksB k n)[i] = markB (k + i) := by simp [marksB]
set_option maxHeartbeats 1000000 in
theorem markStrs (w : World) (B : Nat) (E : TypeId) (v : Value) (l : List ByteArray) (h : Own w B E 1 v eS l) (k : Nat) (hk : k + l.length ≤ 4611686018427387904) :
    Calls Tryd.prog 34 #[v, .int .i64 k] w fun e w' => e = .returned (.int .i64 ((k + l.length : Nat) : Int)) ∧ Own w' B E 1 v eS (marksB k l.length) ∧ w.grownBy w' v.ownBlock := by
  have hfin : ∀ wr, MarkTo w B E 1 v l.length eS (marksB k l.length) l.length wr → Own wr B E 1 v eS (marksB k l.length) ∧ w.grownBy wr v.ownBlock := by
    rintro wr ⟨ys, hown, hys, hgr⟩
    refine ⟨?_, hgr⟩
    unfold Own
    rw [marksB_len]
    have e1 : ys = (marksB k l.length).flatMap eS := by
      rw [List.take_of_length_le (by rw [hown.1]; exact Nat.le_refl _)] at hys
      rw [hys]
      have := marksB_len k l.length
      rw [List.take_of_length_le (by omega)]
    rw [← e1]
    exact hown
  have H0 : MarkTo w B E 1 v l.length eS (marksB k l.length) 0 w := ⟨_, h, by simp, World.grownBy.refl _ _⟩
  have HF := hd hfin
  clear hfin
  rcases h.form with ⟨rfl, rfl⟩ | ⟨g, cap, rfl, hBg, hgw, hlc, hcm⟩
  · go_enter Tryd.func34, Tryd.ntmps34
    go_wp2
    go_loopw [1, 5] (fun kk i wr => wr = w ∧ kk = .int .i64 k ∧ i = .int .i64 0) (fun _ _ _ => 0)
    case atStart => exact ⟨rfl, rfl, rfl⟩
    case round =>
      obtain ⟨rfl, rfl, rfl⟩ := hrel
      go_wp2
      go_ret
      exact ⟨by simp, HF.out _ H0⟩
  · have hlen := h.1
    go_enter Tryd.func34, Tryd.ntmps34
    go_wp2
    go_loopw [1, 5] (fun kk i wr => ∃ j : Nat, j ≤ l.length ∧ i = .int .i64 j ∧ kk = .int .i64 ((k + j : Nat) : Int) ∧ MarkTo w B E 1 (.slice (some ⟨g, 0, none⟩) l.length cap) l.length eS (marksB k l.length) j wr) (fun _ i _ => l.length - (intOf i).toNat)
    case atStart => exact ⟨0, Nat.zero_le _, rfl, rfl, H0⟩
    case round =>
      obtain ⟨j, hj, rfl, rfl, H⟩ := hrel
      clear H0
      by_cases hlt : j < l.length
      · obtain ⟨ys, hown0, hys, hgr0⟩ := H
        go_wp2_with fail
        refine (markText _ (k + j) (by omega)).mono ?_
        rintro e w2 ⟨rfl, hb2⟩
        have hown := World.ownsRow.kept hown0 (grownBy_of_below hb2 none) (Or.inr (by simp [Value.ownBlock]))
        have hgr := grownBy_trans hgr0 (grownBy_of_below hb2 _)
        clear hown0 hgr0
        have hky : j < ys.length := by rw [hown.1]; omega
        have hcell := hown.cellAt j (by omega)
        rw [List.getElem?_eq_getElem hky] at hcell
        have hfr := hown.frozenAt j
        go_wp2
        go_roundw
        case rel =>
          have hst := hown.stored j (.string (markB (k + j)))
          refine ⟨j + 1, by omega, by go_num, by go_num, _, hst.1, ?_, grownBy_trans hgr hst.2⟩
          have hjm : j < (marksB k l.length).length := by rw [marksB_len]; exact hlt
          rw [Nat.mul_one] at hys ⊢
          rw [take_set_snoc hys hky, flatMap_snoc _ _ _ hjm, marksB_get]
          rfl
        case measure => simp [intOf]; omega
      · go_wp2
        go_ret
        have hjl : j = l.length := by omega
        subst hjl
        exact ⟨rfl, HF.out _ H⟩

set_option maxHeartbeats 1000000 in
theorem heldStrs (w : World) (v : Value) (k : Nat) (n : Nat) (h : Sl w 1 v eS (marksB k n)) (hk : k + n ≤ 4611686018427387904) :
    Calls Tryd.prog 35 #[v, .int .i64 k] w fun e w' => e = .returned (.int .i64 ((k + n : Nat) : Int)) ∧ Below w.heap.size w w' := by
  have hlen := marksB_len k n
  obtain ⟨-, A, c, hv, -, -, -⟩ := id h
  rw [hlen] at hv
  subst hv
  have HL := hd hlen
  clear hlen
  go_enter Tryd.func35, Tryd.ntmps35
  go_wp2
  go_loopw [1, 5] (fun kk i wr => ∃ j : Nat, j ≤ n ∧ i = .int .i64 j ∧ kk = .int .i64 ((k + j : Nat) : Int) ∧ Below w.heap.size w wr) (fun _ i _ => n - (intOf i).toNat)
  case atStart => exact ⟨0, Nat.zero_le _, rfl, rfl, Below.refl _ _⟩
  case round =>
    obtain ⟨j, hj, rfl, rfl, hbel⟩ := hrel
    by_cases hlt : j < n
    · obtain ⟨b, o, rfl, hb, hc⟩ := (h.below hbel).str_at (i := j) (by rw [HL.out]; exact hlt)
      rw [marksB_get] at hc
      have g0 := gro_cell hc
      go_wp2_with fail
      refine wp_region_calm (by kernel_rfl) (by kernel_rfl) ?_
      repeat (first | go_big_quiet_step ((first | (go_at_call 63; exact calm_of (markText _ (k + j) (by omega))))) | quiet_step ((first | (go_at_call 63; exact calm_of (markText _ (k + j) (by omega))))))
      refine wpQuiet_nil ?_
      rintro w1 ⟨xw, rfl⟩
      have hb1 := below_step hbel (gro_below xw)
      go_wp2_with fail
      go_roundw
      case rel => exact ⟨j + 1, by omega, by go_num, by go_num, hb1⟩
      case measure => simp [intOf]; omega
    · go_wp2
      go_ret
      have hjl : j = n := by omega
      subst hjl
      exact ⟨rfl, hbel⟩

end Go.Proofs.YtklepmeiaiihhaaDoor
