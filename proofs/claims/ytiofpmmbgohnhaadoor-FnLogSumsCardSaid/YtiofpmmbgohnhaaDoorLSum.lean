/- SumOfWhat: the reference's function and the program's. No condition but that the library's table, its two errors and its search variable lie as they are laid. -/
import Derived.Test.YtiofpmmbgohnhaaDoorLVal
namespace Go.Proofs.YtiofpmmbgohnhaaDoor
open Go Go.RowKit Go.ChangeShapes Go.WideShapes
set_option linter.unusedSimpArgs false
set_option linter.unusedVariables false
def hitS (t : ByteArray) (a b : Int) (x : TEntry) : Bool := decide (x.2.1 = t) && inB x.1 a b
def sumTo (l : List TEntry) (t : ByteArray) (a b : Int) : Nat → Int
  | 0 => 0
  | k + 1 => sumTo l t a b k + (if hitS t a b (l.getD k noE) = true then (l.getD k noE).2.2 else 0)
theorem sumTo_step {l : List TEntry} {t : ByteArray} {a b : Int} {k : Nat} (hk : k < l.length) : sumTo l t a b (k + 1) = sumTo l t a b k + (if hitS t a b l[k] = true then l[k].2.2 else 0) := by
  have e : l.getD k noE = l[k] := by simp [hk]
  show sumTo l t a b k + (if hitS t a b (l.getD k noE) = true then (l.getD k noE).2.2 else 0) = _
  rw [e]
theorem sumTo_bd {l : List TEntry} {t : ByteArray} {a b : Int} (h : ∀ x ∈ l, okEntryB x = true) : ∀ k, k ≤ l.length → -1000000 * (k : Int) ≤ sumTo l t a b k ∧ sumTo l t a b k ≤ 1000000 * (k : Int)
  | 0, _ => by simp [sumTo]
  | k + 1, hk => by
    obtain ⟨h1, h2⟩ := sumTo_bd (t := t) (a := a) (b := b) h k (by omega)
    have hlt : k < l.length := by omega
    rw [sumTo_step (show k < l.length by omega)]
    obtain ⟨-, -, h3, h4⟩ := okEntryB_bd (a := l[k].1) (b := l[k].2.1) (c := l[k].2.2) (h l[k] (List.getElem_mem hlt))
    split <;> omega
def lsC (s t : ByteArray) (a b : Int) : Int := if lw s t = 0 then (if inB a 0 100000 = true ∧ inB b 0 100000 = true then 0 else 2) else lw s t
theorem lsC_good {s t : ByteArray} {a b : Int} (h : lw s t = 0) (ha : inB a 0 100000 = true) (hb : inB b 0 100000 = true) : lsC s t a b = 0 := by unfold lsC; rw [if_pos h, if_pos ⟨ha, hb⟩]
theorem lsC_a {s t : ByteArray} {a b : Int} (h : lw s t = 0) (ha : inB a 0 100000 = false) : lsC s t a b = 2 := by unfold lsC; rw [if_pos h, if_neg (fun e => by rw [ha] at e; cases e.1)]
theorem lsC_b {s t : ByteArray} {a b : Int} (h : lw s t = 0) (hb : inB b 0 100000 = false) : lsC s t a b = 2 := by unfold lsC; rw [if_pos h, if_neg (fun e => by rw [hb] at e; cases e.2)]
theorem lsC_w {s t : ByteArray} {a b : Int} (h : ¬ lw s t = 0) : lsC s t a b = lw s t := by unfold lsC; rw [if_neg h]
def sumR (s t : ByteArray) (a b : Int) : Int × Int := if lsC s t a b = 0 then (sumTo (readL s).l t a b (readL s).l.length, 0) else (0, lsC s t a b)
theorem sumR_bad {s t : ByteArray} {a b x : Int} (h : lsC s t a b = x) (hx : x ≠ 0) : sumR s t a b = (0, x) := by unfold sumR; rw [h, if_neg hx]
theorem sumR_good {s t : ByteArray} {a b : Int} (h : lsC s t a b = 0) : sumR s t a b = (sumTo (readL s).l t a b (readL s).l.length, 0) := by unfold sumR; rw [if_pos h]
set_option maxRecDepth 100000 in
set_option maxHeartbeats 4000000 in
theorem sum_impl (w : World) (s t : ByteArray) (a b : Int) (hs : s.size ≤ 1048576) (ht : t.size ≤ 9223372036854775807) (hsh : Shop w) :
    Calls Tryd.prog 11 #[.string s, .string t, .int .i64 a, .int .i64 b] w fun e w' => e = .returned (.tuple #[.int .i64 (sumR s t a b).1, .int .i64 (sumR s t a b).2]) ∧ Below w.heap.size w w' := by
  go_enter Tryd.func11, Tryd.ntmps11
  go_wp2_with fail
  refine (code_impl _ _ hs hsh).mono ?_
  rintro e w1 ⟨v, st, n, rfl, O, -, ⟨s1, s2⟩, ⟨n1, n2⟩, B⟩
  obtain ⟨A, cc, rfl⟩ := O.isSlice
  have hle := eL_len s
  obtain ⟨t0, t1, t2, -, hz2', hb2⟩ := new3 w1 (.slice A (eL s).length cc) (.int .i64 st) (.int .i64 n) 87
  have O2 := O.below hb2 (Nat.le_refl _)
  have B2 := below_step B hb2
  clear O B hb2 hz2'
  by_cases hc : lc s = 0
  case neg =>
    have hw : lw s t = lc s := by unfold lw; rw [if_neg hc]
    have HR := hd (show sumR s t a b = (0, lc s) from sumR_bad ((lsC_w (by rw [hw]; exact hc)).trans hw) hc)
    obtain ⟨x, hx⟩ : ∃ x, lc s = x := ⟨_, rfl⟩
    rw [hx] at hc HR ⊢
    have kc : (x != 0) = true := by simpa using hc
    have kd : (x == 0) = false := by simpa using hc
    have HB2 := hd B2
    clear hc hx hw B2 O2
    go_wp2_with fail
    go_ret2
    exact ⟨by rw [HR.out]; rfl, HB2.out⟩
  rw [hc]
  have HC := hd hc
  have HEL := hd (eL_good hc)
  clear hc
  rcases hn : isNameB t with _ | _
  · have hw : lw s t = 2 := by unfold lw; rw [if_pos HC.out, hn]; rfl
    have HR := hd (show sumR s t a b = (0, 2) from sumR_bad ((lsC_w (by rw [hw]; decide)).trans hw) (by decide))
    have HB2 := hd B2
    clear hw B2 O2
    go_wp2_with fail
    refine (name_impl _ _).mono ?_
    rintro e ww ⟨rfl, hww⟩
    have hww := hww.symm
    subst hww
    rw [hn]
    go_wp2_with fail
    go_ret2
    exact ⟨by rw [HR.out]; rfl, HB2.out⟩
  have hw : lw s t = 0 := by unfold lw; rw [if_pos HC.out, hn]; rfl
  rcases ha : inB a 0 100000 with _ | _
  · have HR := hd (sumR_bad (lsC_a (a := a) (b := b) hw ha) (by decide))
    have HB2 := hd B2
    clear hw B2 O2
    go_wp2_with fail
    refine (name_impl _ _).mono ?_
    rintro e ww ⟨rfl, hww⟩
    have hww := hww.symm
    subst hww
    rw [hn]
    go_wp2_with fail
    refine (in_impl _ _ _ _).mono ?_
    rintro e ww ⟨rfl, hww⟩
    have hww := hww.symm
    subst hww
    rw [ha]
    go_wp2_with fail
    go_ret2
    exact ⟨by rw [HR.out]; rfl, HB2.out⟩
  rcases hb : inB b 0 100000 with _ | _
  · have HR := hd (sumR_bad (lsC_b (a := a) (b := b) hw hb) (by decide))
    have HB2 := hd B2
    clear hw B2 O2
    go_wp2_with fail
    refine (name_impl _ _).mono ?_
    rintro e ww ⟨rfl, hww⟩
    have hww := hww.symm
    subst hww
    rw [hn]
    go_wp2_with fail
    refine (in_impl _ _ _ _).mono ?_
    rintro e ww ⟨rfl, hww⟩
    have hww := hww.symm
    subst hww
    rw [ha]
    go_wp2_with fail
    refine (in_impl _ _ _ _).mono ?_
    rintro e ww ⟨rfl, hww⟩
    have hww := hww.symm
    subst hww
    rw [hb]
    go_wp2_with fail
    go_ret2
    exact ⟨by rw [HR.out]; rfl, HB2.out⟩
  have HR := hd (sumR_good (lsC_good (a := a) (b := b) hw ha hb))
  clear hw
  rw [HEL.out] at O2 t0 t1 t2 B2 hle ⊢
  go_wp2_with fail
  refine (name_impl _ _).mono ?_
  rintro e ww ⟨rfl, hww⟩
  have hww := hww.symm
  subst hww
  rw [hn]
  go_wp2_with fail
  refine (in_impl _ _ _ _).mono ?_
  rintro e ww ⟨rfl, hww⟩
  have hww := hww.symm
  subst hww
  rw [ha]
  go_wp2_with fail
  refine (in_impl _ _ _ _).mono ?_
  rintro e ww ⟨rfl, hww⟩
  have hww := hww.symm
  subst hww
  rw [hb]
  generalize w1.alloc (.cells #[.slice A (readL s).l.length cc, .int .i64 st, .int .i64 n] 87) = W2 at t0 t1 t2 O2 B2 ⊢
  have SE := O2.sl eEntry_len
  have hl4 : (readL s).l.length ≤ 4000 := hle
  have bel0 := Below.refl W2.heap.size W2
  go_wp2_with fail
  go_loopw [12, 43] (fun sv iv wr => ∃ k : Nat, k ≤ (readL s).l.length ∧ iv = .int .i64 k ∧ sv = .int .i64 (sumTo (readL s).l t a b k) ∧ Below W2.heap.size W2 wr) (fun _ iv _ => (readL s).l.length - (intOf iv).toNat)
  case atStart => exact ⟨0, Nat.zero_le _, rfl, rfl, bel0⟩
  case round =>
    obtain ⟨k, hk, rfl, rfl, hbel⟩ := hrel
    clear bel0
    have hsb := sumTo_bd (t := t) (a := a) (b := b) (readL_ok s) k hk
    by_cases hlt : k < (readL s).l.length
    · obtain ⟨bb, o, rfl, -, p0, p1, p2⟩ := (SE.below hbel).Entry_at hlt
      obtain ⟨⟨ha1, ha2⟩, hbz, hb1, hb2⟩ := entry_bd hlt
      have HY := hd (sumTo_step (t := t) (a := a) (b := b) hlt)
      generalize (readL s).l[k] = x at p0 p1 p2 HY hbz hb1 hb2 ha1 ha2
      obtain ⟨xa, xb, xc⟩ := x
      dsimp only at p0 p1 p2 hbz hb1 hb2 ha1 ha2
      generalize sumTo (readL s).l t a b k = σ at HY hsb ⊢
      obtain ⟨hs1, hs2⟩ := hsb
      have hs3 : -4000000000 ≤ σ := by omega
      have hs4 : σ ≤ 4000000000 := by omega
      clear hs1 hs2
      have hbel' := hbel.alloc hbel.size (.cells #[.int .i64 xa, .string xb, .int .i64 xc] 38)
      by_cases q : xb = t
      case neg =>
        have kq : (xb.toList == t.toList) = false := beq_eq_false_iff_ne.2 (fun e => q (bytes_of_toList e))
        have HZ' := hd (show sumTo (readL s).l t a b (k + 1) = σ by rw [HY.out]; simp [hitS, q])
        clear q HY
        go_wp2_with fail
        go_roundw
        case rel => exact ⟨k + 1, by omega, by go_num, by rw [HZ'.out], hbel'⟩
        case measure => simp [intOf]; omega
      have kq : (xb.toList == t.toList) = true := by rw [q]; simp
      have q' := hd q
      clear q
      rcases hin : inB xa a b with _ | _
      · have HZ' := hd (show sumTo (readL s).l t a b (k + 1) = σ by rw [HY.out]; simp [hitS, hin])
        clear HY
        go_wp2_with fail
        refine (in_impl _ _ _ _).mono ?_
        rintro e ww ⟨rfl, hww⟩
        have hww := hww.symm
        subst hww
        rw [hin]
        go_wp2_with fail
        go_roundw
        case rel => exact ⟨k + 1, by omega, by go_num, by rw [HZ'.out], hbel'⟩
        case measure => simp [intOf]; omega
      · have HZ' := hd (show sumTo (readL s).l t a b (k + 1) = σ + xc by rw [HY.out]; simp [hitS, hin, q'.out])
        clear HY
        go_wp2_with fail
        refine (in_impl _ _ _ _).mono ?_
        rintro e ww ⟨rfl, hww⟩
        have hww := hww.symm
        subst hww
        rw [hin]
        go_wp2_with fail
        go_roundw
        case rel => exact ⟨k + 1, by omega, by go_num, by rw [HZ'.out], hbel'⟩
        case measure => simp [intOf]; omega
    · obtain rfl : k = (readL s).l.length := by omega
      go_wp2_with fail
      go_ret2
      exact ⟨by rw [HR.out]; rfl, B2.trans (hbel.mono B2.size)⟩
end Go.Proofs.YtiofpmmbgohnhaaDoor
