/- Texts of the claim, joined: each says at its head what it proves. No condition. -/
import Derived.Test.YtgcodjkjdfahdaaGreatDoorJ5
import Derived.Test.YtgcodjkjdfahdaaGreatDoorShelf
import Derived.Test.YtgcodjkjdfahdaaGreatDoorJ4
/- Numbers in decimal: the program's function. No condition but that the library's table of powers of ten reads as it is laid. -/
namespace Go.Proofs.YtgcodjkjdfahdaaGreatDoor
open Go Go.RowKit Go.ChangeShapes Go.WideShapes
set_option linter.unusedSimpArgs false
set_option linter.unusedVariables false
theorem dec_impl (w : World) (n : Int) (h : -9223372036854775808 ≤ n ∧ n ≤ 9223372036854775807) (ht : Tab w) :
    Calls Tryz.prog 36 #[.int .i64 n] w fun e w' => e = .returned (.string (decS n)) ∧ Below w.heap.size w w' := by
  have HT := hd ht
  have hm := maxLen
  go_enter Tryz.func36, Tryz.ntmps36
  go_wp2_with fail
  refine (Tryz.strconv_FormatInt_10 n h.1 h.2 _ HT.out).mono ?_
  rintro e w1 ⟨rfl, k, os, hw⟩
  have hb : Below w.heap.size w w1 := by rw [hw]; exact below_grow w k os
  clear hw
  go_wp2_with fail
  go_ret
  exact ⟨rfl, hb⟩

end Go.Proofs.YtgcodjkjdfahdaaGreatDoor

/- Money as text: the program's function and the reference's. No condition but the library's table. -/
namespace Go.Proofs.YtgcodjkjdfahdaaGreatDoor
open Go Go.RowKit Go.ChangeShapes Go.WideShapes
set_option linter.unusedSimpArgs false
set_option linter.unusedVariables false

end Go.Proofs.YtgcodjkjdfahdaaGreatDoor

/- The text of a title: the program's function and the reference's. No condition but the library's table. -/
namespace Go.Proofs.YtgcodjkjdfahdaaGreatDoor
open Go Go.RowKit Go.ChangeShapes Go.WideShapes
set_option linter.unusedSimpArgs false
set_option linter.unusedVariables false

def titleS (a : Int) (b : ByteArray) (c d : Int) : ByteArray :=
  (⟨#[110, 111, 32]⟩ ++ decS a ++ ⟨#[32]⟩ ++ b ++ ⟨#[32, 103, 108, 97, 115, 115, 101, 115, 32]⟩ ++ decS c ++ ⟨#[32, 98, 114, 111, 107, 101, 110, 32]⟩ ++ decS d)
def textR (a : Int) (b : ByteArray) (c d : Int) : ByteArray := if okTitleB (a, b, c, d) = true then titleS a b c d else ByteArray.empty
theorem isName_len {s : ByteArray} (h : isNameB s = true) : s.size ≤ 12 := by
  by_cases q : s.size ≤ 12
  · exact q
  · rw [isName_long q] at h; cases h

set_option maxHeartbeats 1000000 in
theorem ttext_impl (w : World) (a : Int) (b : ByteArray) (c d : Int) (ht : Tab w) :
    Calls Tryz.prog 82 #[.agg #[.int .i64 a, .string b, .int .i64 c, .int .i64 d]] w fun e w' => e = .returned (.string (textR a b c d)) ∧ Below w.heap.size w w' := by
  have hb := (Below.refl w.heap.size w).alloc (Nat.le_refl _) (.cells #[.int .i64 a, .string b, .int .i64 c, .int .i64 d] 95)
  have p0 := new_cell w #[.int .i64 a, .string b, .int .i64 c, .int .i64 d] 95 0 _ rfl
  have p1 := new_cell w #[.int .i64 a, .string b, .int .i64 c, .int .i64 d] 95 1 _ rfl
  have p2 := new_cell w #[.int .i64 a, .string b, .int .i64 c, .int .i64 d] 95 2 _ rfl
  have p3 := new_cell w #[.int .i64 a, .string b, .int .i64 c, .int .i64 d] 95 3 _ rfl
  have hgs : w.heap.size < (w.alloc (.cells #[.int .i64 a, .string b, .int .i64 c, .int .i64 d] 95)).heap.size := by simp
  have HT := hd ht
  clear ht
  rcases q : okTitleB (a, b, c, d) with _ | _
  · have HE := hd (show textR a b c d = ByteArray.empty by unfold textR; rw [q]; rfl)
    go_enter Tryz.func82, Tryz.ntmps82
    go_wp2_with fail
    generalize (w.alloc (.cells #[.int .i64 a, .string b, .int .i64 c, .int .i64 d] 95)) = W at hb p0 p1 p2 p3 hgs ⊢
    refine (title_impl _ _ _ _ _).mono ?_
    rintro e w1 ⟨rfl, hb1⟩
    have hb2 := below_step hb hb1
    rw [q]
    go_wp2_with fail
    go_ret
    exact ⟨by rw [HE.out]; rfl, hb2⟩
  · have HE := hd (show textR a b c d = titleS a b c d by unfold textR; rw [if_pos q])
    obtain ⟨⟨a1, a2⟩, bn, ⟨c1, c2⟩, d1, d2⟩ := okTitleB_bd q
    have hlen := isName_len bn
    dsimp only at a1 a2 c1 c2 d1 d2 hlen
    have HA := hd (show -9223372036854775808 ≤ a ∧ a ≤ 9223372036854775807 by omega)
    have HC := hd (show -9223372036854775808 ≤ c ∧ c ≤ 9223372036854775807 by omega)
    have HD := hd (show -9223372036854775808 ≤ d ∧ d ≤ 9223372036854775807 by omega)
    have sa := decS_size HA.out
    have sc := decS_size HC.out
    have sd := decS_size HD.out
    clear bn
    go_enter Tryz.func82, Tryz.ntmps82
    go_wp2_with fail
    generalize (w.alloc (.cells #[.int .i64 a, .string b, .int .i64 c, .int .i64 d] 95)) = W at hb p0 p1 p2 p3 hgs ⊢
    refine (title_impl _ _ _ _ _).mono ?_
    rintro e w1 ⟨rfl, hb1⟩
    have hb2 := below_step hb hb1
    rw [q]
    clear q
    have g0 := gro_cell ((hb1.cell (p := ⟨w.heap.size, 0, none⟩) hgs).trans p0)
    have g1 := gro_cell ((hb1.cell (p := ⟨w.heap.size, 1, none⟩) hgs).trans p1)
    have g2 := gro_cell ((hb1.cell (p := ⟨w.heap.size, 2, none⟩) hgs).trans p2)
    have g3 := gro_cell ((hb1.cell (p := ⟨w.heap.size, 3, none⟩) hgs).trans p3)
    have HTX := hd (show ∀ x : Ext w1, Tab (gro w1 x) from fun x => (HT.out.below hb2).below (gro_below x))
    clear p0 p1 p2 p3 hgs hb hb1
    go_wp2_with fail
    refine wp_region_calm (by kernel_rfl) (by kernel_rfl) ?_
    repeat (first | go_big_quiet_step ((go_at_call 36; exact calm_of (dec_impl _ _ (by first | exact HA.out | exact HC.out | exact HD.out) (HTX.out _)))) | quiet_step ((go_at_call 36; exact calm_of (dec_impl _ _ (by first | exact HA.out | exact HC.out | exact HD.out) (HTX.out _)))))
    refine wpQuiet_nil ?_
    rintro w2 ⟨x, rfl⟩
    have hb3 := below_step hb2 (gro_below x)
    clear g0 g1 g2 g3
    go_wp2_with fail
    go_ret
    exact ⟨by rw [HE.out]; rfl, hb3⟩

end Go.Proofs.YtgcodjkjdfahdaaGreatDoor

/- Where an image is and a fraction's text: the program's functions. No condition but that the library's table lies as it is laid. -/
namespace Go.Proofs.YtgcodjkjdfahdaaGreatDoor
open Go Go.RowKit Go.ChangeShapes Go.WideShapes
set_option linter.unusedSimpArgs false
set_option linter.unusedVariables false
theorem focal_impl (w : World) (f : Int) : Calls Tryz.prog 131 #[.int .i64 f] w fun e w' => e = .returned (.bool (inB f 1 2000)) ∧ w' = w := by
  go_enter Tryz.func131, Tryz.ntmps131
  go_wp2_with (go_at_call 67; refine (in_impl _ _ _ _).mono ?_; rintro e w1 ⟨rfl, hw⟩; have hw := hw.symm; subst hw)
  go_ret
  exact ⟨rfl, rfl⟩
theorem throw_impl (w : World) (f : Int) : Calls Tryz.prog 132 #[.int .i64 f] w fun e w' => e = .returned (.bool (inB f 1 100000)) ∧ w' = w := by
  go_enter Tryz.func132, Tryz.ntmps132
  go_wp2_with (go_at_call 67; refine (in_impl _ _ _ _).mono ?_; rintro e w1 ⟨rfl, hw⟩; have hw := hw.symm; subst hw)
  go_ret
  exact ⟨rfl, rfl⟩
/-- where an image is -/
def imgC (f o : Int) : Int × Int × Int :=
  if inB f 1 2000 && inB o 1 100000 then
    if o ≤ f then (0, 0, 6) else chkR (lowN (f * o).toNat (o - f).toNat : Nat) (lowD (f * o).toNat (o - f).toNat : Nat)
  else (0, 0, 2)
theorem imgC_bad1 {f o : Int} (h : inB f 1 2000 = false) : imgC f o = (0, 0, 2) := by unfold imgC; rw [h]; rfl
theorem imgC_bad2 {f o : Int} (h : inB o 1 100000 = false) : imgC f o = (0, 0, 2) := by unfold imgC; rw [h, Bool.and_false]; rfl
theorem imgC_state {f o : Int} (h1 : inB f 1 2000 = true) (h2 : inB o 1 100000 = true) (h : o ≤ f) : imgC f o = (0, 0, 6) := by unfold imgC; rw [h1, h2]; simp [h]
theorem imgC_good {f d : Nat} (h1 : inB (f : Int) 1 2000 = true) (h2 : inB ((f + d : Nat) : Int) 1 100000 = true) (h : 0 < d) : imgC f ((f + d : Nat) : Int) = chkR (lowN (f * (f + d)) d : Nat) (lowD (f * (f + d)) d : Nat) := by
  unfold imgC
  rw [h1, h2]
  have e1 : ((f : Int) * ((f + d : Nat) : Int)).toNat = f * (f + d) := by rw [← Int.natCast_mul]; exact Int.toNat_natCast _
  have e2 : (((f + d : Nat) : Int) - (f : Int)).toNat = d := by omega
  have e3 : ¬ (((f + d : Nat) : Int) ≤ (f : Int)) := by omega
  rw [e1, e2, if_neg e3]
  rfl
theorem img_arith {f d : Nat} (h1 : f ≤ 2000) (h2 : f + d ≤ 100000) : f * (f + d) ≤ 200000000 := by
  calc f * (f + d) ≤ 2000 * 100000 := Nat.mul_le_mul h1 h2
    _ = 200000000 := rfl
/-- the shape of an answer -/
theorem chkR_shape (n d : Nat) (h : Nat.gcd n d = 1) : ∃ a b : Nat, ∃ c : Int, chkR n d = ((a : Int), (b : Int), c) ∧ a ≤ 1000000000 ∧ b ≤ 1000000000 ∧ (fracB a b = true → Nat.gcd a b = 1) := by
  unfold chkR
  rcases hf : fracB (n : Int) (d : Int) with _ | _
  · exact ⟨0, 0, 5, rfl, by omega, by omega, fun h => by revert h; decide⟩
  · refine ⟨n, d, 0, rfl, ?_, ?_, fun _ => h⟩
    · unfold fracB at hf; rw [Bool.and_eq_true] at hf; have := inB_true hf.2; omega
    · unfold fracB at hf; rw [Bool.and_eq_true] at hf; have := inB_true hf.1; omega
theorem imgC_shape (f o : Int) : ∃ a b : Nat, ∃ c : Int, imgC f o = ((a : Int), (b : Int), c) ∧ a ≤ 1000000000 ∧ b ≤ 1000000000 ∧ (fracB a b = true → Nat.gcd a b = 1) := by
  have bad : ∀ c : Int, ∃ a b : Nat, ∃ c' : Int, ((0, 0, c) : Int × Int × Int) = ((a : Int), (b : Int), c') ∧ a ≤ 1000000000 ∧ b ≤ 1000000000 ∧ (fracB a b = true → Nat.gcd a b = 1) := fun c => ⟨0, 0, c, rfl, by omega, by omega, fun h => by revert h; decide⟩
  rcases h1 : inB f 1 2000 with _ | _
  · rw [imgC_bad1 h1]; exact bad _
  rcases h2 : inB o 1 100000 with _ | _
  · rw [imgC_bad2 h2]; exact bad _
  by_cases h : o ≤ f
  · rw [imgC_state h1 h2 h]; exact bad _
  have b1 := inB_true h1
  obtain ⟨f', rfl⟩ := Int.eq_ofNat_of_zero_le (show 0 ≤ f by omega)
  obtain ⟨d, rfl⟩ : ∃ d : Nat, o = ((f' + d : Nat) : Int) := ⟨(o - (f' : Int)).toNat, by omega⟩
  rw [imgC_good h1 h2 (by omega)]
  exact chkR_shape _ _ (gcd_low (by omega))
/-- a fraction's text -/
def fracT (n d : Int) : ByteArray := if fracB n d = true then fracS n d else ⟨#[]⟩
theorem fracB_bd {n d : Int} (h : fracB n d = true) : (1 ≤ d ∧ d ≤ 1000000) ∧ -1000000 ≤ n ∧ n ≤ 1000000 := by
  unfold fracB at h
  rw [Bool.and_eq_true] at h
  have h1 := inB_true h.1
  have h2 := inB_true h.2
  omega
theorem fracT_size (n d : Int) : (fracT n d).size ≤ 43 := by
  unfold fracT
  split
  · rename_i h
    have hb := fracB_bd h
    have s1 := decS_size (n := n) (by omega)
    have s2 := decS_size (n := d) (by omega)
    unfold fracS
    split
    · omega
    · rw [ByteArray.size_append, ByteArray.size_append]
      show (decS n).size + 1 + (decS d).size ≤ 43
      omega
  · exact Nat.zero_le _
set_option maxRecDepth 100000 in
set_option maxHeartbeats 2000000 in
theorem image_impl (w : World) (f o : Int) : Calls Tryz.prog 74 #[.int .i64 f, .int .i64 o] w fun e w' => e = .returned (fracV (imgC f o)) ∧ Below w.heap.size w w' := by
  have hG := frac_new w 0 0 112
  have hb : Below w.heap.size w (w.alloc (.cells #[.int .i64 0, .int .i64 0] 112)) := (Below.refl w.heap.size w).alloc (Nat.le_refl _) _
  obtain ⟨g0, d0, d1, f0, f1⟩ := id hG
  rcases h1 : inB f 1 2000 with _ | _
  · have HR := hd (imgC_bad1 (o := o) h1)
    go_enter Tryz.func74, Tryz.ntmps74
    go_wp2_with (go_at_call 131; refine (focal_impl _ _).mono ?_; rintro e w1 ⟨rfl, hw⟩; have hw := hw.symm; subst hw)
    generalize w.alloc (.cells #[.int .i64 0, .int .i64 0] 112) = Z at d0 d1 hb ⊢
    refine bodyPost_ret (v := .tuple #[.agg #[.int .i64 0, .int .i64 0], .int .i64 2]) ?_ rfl ⟨by rw [fracV_of HR.out], hb⟩
    refine (results_cell_tmp Tryz.results74 _ _ _).trans ?_
    show (((loadVar 112 ⟨w.heap.size, 0, none⟩).run Tryz.prog Z).andThen fun v w₂ => Result.ok (Value.tuple #[v, Value.int .i64 2]) w₂) = _
    rw [load_frac Z _ _ _ d0 d1]
    rfl
  rcases h2 : inB o 1 100000 with _ | _
  · have HR := hd (imgC_bad2 (f := f) h2)
    go_enter Tryz.func74, Tryz.ntmps74
    go_wp2_with (first | (go_at_call 131; refine (focal_impl _ _).mono ?_; rintro e w1 ⟨rfl, hw⟩; have hw := hw.symm; subst hw) | (go_at_call 132; refine (throw_impl _ _).mono ?_; rintro e w1 ⟨rfl, hw⟩; have hw := hw.symm; subst hw))
    generalize w.alloc (.cells #[.int .i64 0, .int .i64 0] 112) = Z at d0 d1 hb ⊢
    refine bodyPost_ret (v := .tuple #[.agg #[.int .i64 0, .int .i64 0], .int .i64 2]) ?_ rfl ⟨by rw [fracV_of HR.out], hb⟩
    refine (results_cell_tmp Tryz.results74 _ _ _).trans ?_
    show (((loadVar 112 ⟨w.heap.size, 0, none⟩).run Tryz.prog Z).andThen fun v w₂ => Result.ok (Value.tuple #[v, Value.int .i64 2]) w₂) = _
    rw [load_frac Z _ _ _ d0 d1]
    rfl
  by_cases h : o ≤ f
  · have HR := hd (imgC_state h1 h2 h)
    go_enter Tryz.func74, Tryz.ntmps74
    go_wp2_with (first | (go_at_call 131; refine (focal_impl _ _).mono ?_; rintro e w1 ⟨rfl, hw⟩; have hw := hw.symm; subst hw) | (go_at_call 132; refine (throw_impl _ _).mono ?_; rintro e w1 ⟨rfl, hw⟩; have hw := hw.symm; subst hw))
    generalize w.alloc (.cells #[.int .i64 0, .int .i64 0] 112) = Z at d0 d1 hb ⊢
    refine bodyPost_ret (v := .tuple #[.agg #[.int .i64 0, .int .i64 0], .int .i64 6]) ?_ rfl ⟨by rw [fracV_of HR.out], hb⟩
    refine (results_cell_tmp Tryz.results74 _ _ _).trans ?_
    show (((loadVar 112 ⟨w.heap.size, 0, none⟩).run Tryz.prog Z).andThen fun v w₂ => Result.ok (Value.tuple #[v, Value.int .i64 6]) w₂) = _
    rw [load_frac Z _ _ _ d0 d1]
    rfl
  have b1 := inB_true h1
  have b2 := inB_true h2
  obtain ⟨f', rfl⟩ := Int.eq_ofNat_of_zero_le (show 0 ≤ f by omega)
  obtain ⟨d, rfl⟩ : ∃ d : Nat, o = ((f' + d : Nat) : Int) := ⟨(o - (f' : Int)).toNat, by omega⟩
  have hd0 : 1 ≤ d := by omega
  have ha := img_arith (f := f') (d := d) (by omega) (by omega)
  have HR := hd (imgC_good h1 h2 hd0)
  have e1 : ((f' : Int) * ((f' + d : Nat) : Int)) = ((f' * (f' + d) : Nat) : Int) := (Int.natCast_mul _ _).symm
  have e2 : (((f' + d : Nat) : Int) - (f' : Int)) = (d : Int) := by omega
  have k1 : IntKind.i64.wrap ((f' : Int) * ((f' + d : Nat) : Int)) = ((f' * (f' + d) : Nat) : Int) := by rw [e1]; exact IntWalk.i64_in _ (by omega)
  have k2 : IntKind.i64.wrap (((f' + d : Nat) : Int) - (f' : Int)) = (d : Int) := by rw [e2]; exact IntWalk.i64_in _ (by omega)
  have E1 := hd e1
  have E2 := hd e2
  clear e1 e2
  have h1' : inB (f' : Int) 1 2000 = true := h1
  have hdb : d ≤ 100000 := by omega
  have HLE := hd (fun w => lowest_impl w (f' * (f' + d)) d (by omega) hd0 (by omega))
  have HN := hd (lowN_bd (f' * (f' + d)) d)
  have HD := hd (lowD_bd (n := f' * (f' + d)) (d := d) hd0)
  have HG := hd (show Nat.gcd (lowN (f' * (f' + d)) d) (lowD (f' * (f' + d)) d) = 1 from gcd_low (n := f' * (f' + d)) (d := d) hd0)
  generalize f' * (f' + d) = m at *
  generalize f' + d = o at *
  go_enter Tryz.func74, Tryz.ntmps74
  clear d0 d1 g0 f0 f1
  go_wp2_with (first | (go_at_call 131; refine (focal_impl _ _).mono ?_; rintro e w1 ⟨rfl, hw⟩; have hw := hw.symm; subst hw) | (go_at_call 132; refine (throw_impl _ _).mono ?_; rintro e w1 ⟨rfl, hw⟩; have hw := hw.symm; subst hw))
  generalize w.alloc (.cells #[.int .i64 0, .int .i64 0] 112) = Z at hG hb ⊢
  refine (HLE.out _).mono ?_
  rintro e w1 ⟨rfl, hb1⟩
  have hl1 : lowN m d ≤ 1000000000 := Nat.le_trans HN.out (by omega)
  have hl2 : lowD m d ≤ 1000000000 := Nat.le_trans HD.out.2 (by omega)
  have hg := HG.out
  clear HLE HN HD HG
  generalize lowN m d = x at *
  generalize lowD m d = y at *
  have hG1 := hG.below hb1
  have B := below_step hb hb1
  go_wp2_with fail
  refine (chk_impl _ _ _ hl1 hl2 (fun _ => hg)).mono ?_
  rintro e w2 ⟨rfl, hb2⟩
  have HS := hd (frac_set (hG1.below hb2))
  obtain ⟨g0, d0, d1, f0, f1⟩ := hG1.below hb2
  have B2 := below_step B hb2
  clear hb hb1 hb2 hG hG1 B
  obtain ⟨r1, r2, r3, hr⟩ : ∃ r1 r2 r3, chkR x y = (r1, r2, r3) := ⟨_, _, _, rfl⟩
  rw [hr] at HR
  rw [hr, show fracV (r1, r2, r3) = .tuple #[.agg #[.int .i64 r1, .int .i64 r2], .int .i64 r3] from rfl]
  have HR := hd HR.out
  clear hr
  go_wp2_with fail
  obtain ⟨e0, e1⟩ := HS.out r1 r2
  have BZ := frac_below (g := w.heap.size) B2 (Nat.le_refl _) (.int .i64 r1) (.int .i64 r2)
  generalize ((w2.setCell ⟨w.heap.size, 0, none⟩ (.int .i64 r1)).setCell ⟨w.heap.size, 1, none⟩ (.int .i64 r2)) = Z at e0 e1 BZ ⊢
  refine bodyPost_ret (v := .tuple #[.agg #[.int .i64 r1, .int .i64 r2], .int .i64 r3]) ?_ rfl ⟨by rw [fracV_of HR.out], BZ⟩
  refine (results_cell_tmp Tryz.results74 _ _ _).trans ?_
  show (((loadVar 112 ⟨w.heap.size, 0, none⟩).run Tryz.prog Z).andThen fun v w₂ => Result.ok (Value.tuple #[v, Value.int .i64 r3]) w₂) = _
  rw [load_frac Z _ _ _ e0 e1]
  rfl
set_option maxRecDepth 100000 in
set_option maxHeartbeats 2000000 in
theorem ftext_impl (w : World) (n d : Nat) (hn : n ≤ 1000000000) (hd1 : d ≤ 1000000000) (hg : fracB n d = true → Nat.gcd n d = 1) (ht : Tab w) :
    Calls Tryz.prog 75 #[.agg #[.int .i64 (n : Int), .int .i64 (d : Int)]] w fun e w' => e = .returned (.string (fracT n d)) ∧ Below w.heap.size w w' := by
  have hF := frac_new w n d 112
  have hb : Below w.heap.size w (w.alloc (.cells #[.int .i64 (n : Int), .int .i64 (d : Int)] 112)) := (Below.refl w.heap.size w).alloc (Nat.le_refl _) _
  have HT := hd (ht.below hb)
  obtain ⟨-, c0, c1, -, -⟩ := id hF
  go_enter Tryz.func75, Tryz.ntmps75
  go_wp2_with fail
  generalize w.alloc (.cells #[.int .i64 (n : Int), .int .i64 (d : Int)] 112) = W at hb hF c0 c1 HT ⊢
  refine (vfrac_impl _ _ _ hn hd1 hg).mono ?_
  rintro e w1 ⟨rfl, hb1⟩
  clear c0 c1
  obtain ⟨-, c0, c1, -, -⟩ := hF.below hb1
  have HT1 := hd (HT.out.below hb1)
  have B1 := below_step hb hb1
  clear hb hb1 hF ht HT
  rcases h : fracB (n : Int) (d : Int) with _ | _
  · have HR := hd (show fracT n d = ⟨#[]⟩ by unfold fracT; rw [h]; rfl)
    go_wp2_with fail
    go_ret
    exact ⟨by rw [HR.out]; rfl, B1⟩
  have hbd := fracB_bd h
  have HR := hd (show fracT n d = fracS n d by unfold fracT; rw [if_pos h])
  by_cases h1 : (d : Int) = 1
  · have HR2 := hd (show fracT n d = decS n by rw [HR.out, h1]; exact fracS_one _)
    have HDC := hd (dec_impl w1 (n : Int) (by omega) HT1.out)
    go_wp2_with fail
    refine HDC.out.mono ?_
    rintro e w2 ⟨rfl, hb2⟩
    go_wp2_with fail
    go_ret
    exact ⟨by rw [HR2.out]; rfl, below_step B1 hb2⟩
  have HR2 := hd (show fracT n d = decS n ++ ⟨#[47]⟩ ++ decS d by rw [HR.out]; exact fracS_two h1)
  have s1 := decS_size (n := (n : Int)) (by omega)
  have s2 := decS_size (n := (d : Int)) (by omega)
  have HTB := hd (show ∀ x : Ext w1, Tab (gro w1 x) from fun x => HT1.out.below (gro_below x))
  go_wp2_with fail
  have g0 := gro_cell c0
  have g1 := gro_cell c1
  clear c0 c1
  refine wp_region_calm (by kernel_rfl) (by kernel_rfl) ?_
  repeat (first | go_big_quiet_step ((go_at_call 36; exact calm_of (dec_impl _ _ (by omega) (HTB.out _)))) | quiet_step ((go_at_call 36; exact calm_of (dec_impl _ _ (by omega) (HTB.out _)))))
  refine wpQuiet_nil ?_
  rintro w2 ⟨x, rfl⟩
  have hb3 := gro_below x
  clear g0 g1
  go_wp2_with fail
  go_ret
  exact ⟨by rw [HR2.out]; rfl, below_step B1 hb3⟩
end Go.Proofs.YtgcodjkjdfahdaaGreatDoor
