/- Lemmas for the claim (the walks of its functions and their plain laws), joined. No condition. -/
import Derived.Test.YtgcodjkjdfahdaaGreatDoorJ8
import Derived.Test.YtgcodjkjdfahdaaGreatDoorJ6
namespace Go.Proofs.YtgcodjkjdfahdaaGreatDoor
open Go Go.RowKit Go.ChangeShapes Go.WideShapes
set_option linter.unusedSimpArgs false
set_option linter.unusedVariables false
theorem focal_impl (w : World) (f : Int) : Calls Tryz.prog 131 #[.int .i64 f] w fun e w' => e = .returned (.bool (inB f 1 2000)) ∧ w' = w := by
  go_enter Tryz.func131, Tryz.ntmps131
  go_wp2_with (go_at_call 67; refine (in_impl _ _ _ _).mono ?_; rintro e w1 ⟨rfl, hw⟩; have hw := hw.symm; subst hw)
  go_ret
  exact ⟨rfl, rfl⟩
theorem throw_impl (w : World) (f : Int) : Calls Tryz.prog 132 #[.int .i64 f] w fun e w' => e = .returned (.bool (inB f 1 100000)) ∧ w' = w := by
  go_enter Tryz.func132, Tryz.ntmps132
  go_wp2_with (go_at_call 67; refine (in_impl _ _ _ _).mono ?_; rintro e w1 ⟨rfl, hw⟩; have hw := hw.symm; subst hw)
  go_ret
  exact ⟨rfl, rfl⟩
def imgC (f o : Int) : Int × Int × Int :=
  if inB f 1 2000 && inB o 1 100000 then
    if o ≤ f then (0, 0, 6) else chkR (lowN (f * o).toNat (o - f).toNat : Nat) (lowD (f * o).toNat (o - f).toNat : Nat)
  else (0, 0, 2)
theorem imgC_bad1 {f o : Int} (h : inB f 1 2000 = false) : imgC f o = (0, 0, 2) := by unfold imgC; rw [h]; rfl
theorem imgC_bad2 {f o : Int} (h : inB o 1 100000 = false) : imgC f o = (0, 0, 2) := by unfold imgC; rw [h, Bool.and_false]; rfl
theorem imgC_state {f o : Int} (h1 : inB f 1 2000 = true) (h2 : inB o 1 100000 = true) (h : o ≤ f) : imgC f o = (0, 0, 6) := by unfold imgC; rw [h1, h2]; simp [h]
theorem imgC_good {f d : Nat} (h1 : inB (f : Int) 1 2000 = true) (h2 : inB ((f + d : Nat) : Int) 1 100000 = true) (h : 0 < d) : imgC f ((f + d : Nat) : Int) = chkR (lowN (f * (f + d)) d : Nat) (lowD (f * (f + d)) d : Nat) := by
  unfold imgC
  rw [h1, h2]
  have e1 : ((f : Int) * ((f + d : Nat) : Int)).toNat = f * (f + d) := by rw [← Int.natCast_mul]; exact Int.toNat_natCast _
  have e2 : (((f + d : Nat) : Int) - (f : Int)).toNat = d := by omega
  have e3 : ¬ (((f + d : Nat) : Int) ≤ (f : Int)) := by omega
  rw [e1, e2, if_neg e3]
  rfl
theorem img_arith {f d : Nat} (h1 : f ≤ 2000) (h2 : f + d ≤ 100000) : f * (f + d) ≤ 200000000 := by
  calc f * (f + d) ≤ 2000 * 100000 := Nat.mul_le_mul h1 h2
    _ = 200000000 := rfl
theorem chkR_shape (n d : Nat) (h : Nat.gcd n d = 1) : ∃ a b : Nat, ∃ c : Int, chkR n d = ((a : Int), (b : Int), c) ∧ a ≤ 1000000000 ∧ b ≤ 1000000000 ∧ (fracB a b = true → Nat.gcd a b = 1) := by
  unfold chkR
  rcases hf : fracB (n : Int) (d : Int) with _ | _
  · exact ⟨0, 0, 5, rfl, by omega, by omega, fun h => by revert h; decide⟩
  · refine ⟨n, d, 0, rfl, ?_, ?_, fun _ => h⟩
    · unfold fracB at hf; rw [Bool.and_eq_true] at hf; have := inB_true hf.2; omega
    · unfold fracB at hf; rw [Bool.and_eq_true] at hf; have := inB_true hf.1; omega
theorem imgC_shape (f o : Int) : ∃ a b : Nat, ∃ c : Int, imgC f o = ((a : Int), (b : Int), c) ∧ a ≤ 1000000000 ∧ b ≤ 1000000000 ∧ (fracB a b = true → Nat.gcd a b = 1) := by
  have bad : ∀ c : Int, ∃ a b : Nat, ∃ c' : Int, ((0, 0, c) : Int × Int × Int) = ((a : Int), (b : Int), c') ∧ a ≤ 1000000000 ∧ b ≤ 1000000000 ∧ (fracB a b = true → Nat.gcd a b = 1) := fun c => ⟨0, 0, c, rfl, by omega, by omega, fun h => by revert h; decide⟩
  rcases h1 : inB f 1 2000 with _ | _
  · rw [imgC_bad1 h1]; exact bad _
  rcases h2 : inB o 1 100000 with _ | _
  · rw [imgC_bad2 h2]; exact bad _
  by_cases h : o ≤ f
  · rw [imgC_state h1 h2 h]; exact bad _
  have b1 := inB_true h1
  obtain ⟨f', rfl⟩ := Int.eq_ofNat_of_zero_le (show 0 ≤ f by omega)
  obtain ⟨d, rfl⟩ : ∃ d : Nat, o = ((f' + d : Nat) : Int) := ⟨(o - (f' : Int)).toNat, by omega⟩
  rw [imgC_good h1 h2 (by omega)]
  exact chkR_shape _ _ (gcd_low (by omega))
def fracT (n d : Int) : ByteArray := if fracB n d = true then fracS n d else ⟨#[]⟩
theorem fracB_bd {n d : Int} (h : fracB n d = true) : (1 ≤ d ∧ d ≤ 1000000) ∧ -1000000 ≤ n ∧ n ≤ 1000000 := by
  unfold fracB at h
  rw [Bool.and_eq_true] at h
  have h1 := inB_true h.1
  have h2 := inB_true h.2
  omega
theorem fracT_size (n d : Int) : (fracT n d).size ≤ 43 := by
  unfold fracT
  split
  · rename_i h
    have hb := fracB_bd h
    have s1 := decS_size (n := n) (by omega)
    have s2 := decS_size (n := d) (by omega)
    unfold fracS
    split
    · omega
    · rw [ByteArray.size_append, ByteArray.size_append]
      show (decS n).size + 1 + (decS d).size ≤ 43
      omega
  · exact Nat.zero_le _
set_option maxRecDepth 100000 in
set_option maxHeartbeats 2000000 in
theorem image_impl (w : World) (f o : Int) : Calls Tryz.prog 74 #[.int .i64 f, .int .i64 o] w fun e w' => e = .returned (fracV (imgC f o)) ∧ Below w.heap.size w w' := by
  have hG := frac_new w 0 0 112
  have hb : Below w.heap.size w (w.alloc (.cells #[.int .i64 0, .int .i64 0] 112)) := (Below.refl w.heap.size w).alloc (Nat.le_refl _) _
  obtain ⟨g0, d0, d1, f0, f1⟩ := id hG
  rcases h1 : inB f 1 2000 with _ | _
  · have HR := hd (imgC_bad1 (o := o) h1)
    go_enter Tryz.func74, Tryz.ntmps74
    go_wp2_with (go_at_call 131; refine (focal_impl _ _).mono ?_; rintro e w1 ⟨rfl, hw⟩; have hw := hw.symm; subst hw)
    generalize w.alloc (.cells #[.int .i64 0, .int .i64 0] 112) = Z at d0 d1 hb ⊢
    refine bodyPost_ret (v := .tuple #[.agg #[.int .i64 0, .int .i64 0], .int .i64 2]) ?_ rfl ⟨by rw [fracV_of HR.out], hb⟩
    refine (results_cell_tmp Tryz.results74 _ _ _).trans ?_
    show (((loadVar 112 ⟨w.heap.size, 0, none⟩).run Tryz.prog Z).andThen fun v w₂ => Result.ok (Value.tuple #[v, Value.int .i64 2]) w₂) = _
    rw [load_frac Z _ _ _ d0 d1]
    rfl
  rcases h2 : inB o 1 100000 with _ | _
  · have HR := hd (imgC_bad2 (f := f) h2)
    go_enter Tryz.func74, Tryz.ntmps74
    go_wp2_with (first | (go_at_call 131; refine (focal_impl _ _).mono ?_; rintro e w1 ⟨rfl, hw⟩; have hw := hw.symm; subst hw) | (go_at_call 132; refine (throw_impl _ _).mono ?_; rintro e w1 ⟨rfl, hw⟩; have hw := hw.symm; subst hw))
    generalize w.alloc (.cells #[.int .i64 0, .int .i64 0] 112) = Z at d0 d1 hb ⊢
    refine bodyPost_ret (v := .tuple #[.agg #[.int .i64 0, .int .i64 0], .int .i64 2]) ?_ rfl ⟨by rw [fracV_of HR.out], hb⟩
    refine (results_cell_tmp Tryz.results74 _ _ _).trans ?_
    show (((loadVar 112 ⟨w.heap.size, 0, none⟩).run Tryz.prog Z).andThen fun v w₂ => Result.ok (Value.tuple #[v, Value.int .i64 2]) w₂) = _
    rw [load_frac Z _ _ _ d0 d1]
    rfl
  by_cases h : o ≤ f
  · have HR := hd (imgC_state h1 h2 h)
    go_enter Tryz.func74, Tryz.ntmps74
    go_wp2_with (first | (go_at_call 131; refine (focal_impl _ _).mono ?_; rintro e w1 ⟨rfl, hw⟩; have hw := hw.symm; subst hw) | (go_at_call 132; refine (throw_impl _ _).mono ?_; rintro e w1 ⟨rfl, hw⟩; have hw := hw.symm; subst hw))
    generalize w.alloc (.cells #[.int .i64 0, .int .i64 0] 112) = Z at d0 d1 hb ⊢
    refine bodyPost_ret (v := .tuple #[.agg #[.int .i64 0, .int .i64 0], .int .i64 6]) ?_ rfl ⟨by rw [fracV_of HR.out], hb⟩
    refine (results_cell_tmp Tryz.results74 _ _ _).trans ?_
    show (((loadVar 112 ⟨w.heap.size, 0, none⟩).run Tryz.prog Z).andThen fun v w₂ => Result.ok (Value.tuple #[v, Value.int .i64 6]) w₂) = _
    rw [load_frac Z _ _ _ d0 d1]
    rfl
  have b1 := inB_true h1
  have b2 := inB_true h2
  obtain ⟨f', rfl⟩ := Int.eq_ofNat_of_zero_le (show 0 ≤ f by omega)
  obtain ⟨d, rfl⟩ : ∃ d : Nat, o = ((f' + d : Nat) : Int) := ⟨(o - (f' : Int)).toNat, by omega⟩
  have hd0 : 1 ≤ d := by omega
  have ha := img_arith (f := f') (d := d) (by omega) (by omega)
  have HR := hd (imgC_good h1 h2 hd0)
  have e1 : ((f' : Int) * ((f' + d : Nat) : Int)) = ((f' * (f' + d) : Nat) : Int) := (Int.natCast_mul _ _).symm
  have e2 : (((f' + d : Nat) : Int) - (f' : Int)) = (d : Int) := by omega
  have k1 : IntKind.i64.wrap ((f' : Int) * ((f' + d : Nat) : Int)) = ((f' * (f' + d) : Nat) : Int) := by rw [e1]; exact IntWalk.i64_in _ (by omega)
  have k2 : IntKind.i64.wrap (((f' + d : Nat) : Int) - (f' : Int)) = (d : Int) := by rw [e2]; exact IntWalk.i64_in _ (by omega)
  have E1 := hd e1
  have E2 := hd e2
  clear e1 e2
  have h1' : inB (f' : Int) 1 2000 = true := h1
  have hdb : d ≤ 100000 := by omega
  have HLE := hd (fun w => lowest_impl w (f' * (f' + d)) d (by omega) hd0 (by omega))
  have HN := hd (lowN_bd (f' * (f' + d)) d)
  have HD := hd (lowD_bd (n := f' * (f' + d)) (d := d) hd0)
  have HG := hd (show Nat.gcd (lowN (f' * (f' + d)) d) (lowD (f' * (f' + d)) d) = 1 from gcd_low (n := f' * (f' + d)) (d := d) hd0)
  generalize f' * (f' + d) = m at *
  generalize f' + d = o at *
  go_enter Tryz.func74, Tryz.ntmps74
  clear d0 d1 g0 f0 f1
  go_wp2_with (first | (go_at_call 131; refine (focal_impl _ _).mono ?_; rintro e w1 ⟨rfl, hw⟩; have hw := hw.symm; subst hw) | (go_at_call 132; refine (throw_impl _ _).mono ?_; rintro e w1 ⟨rfl, hw⟩; have hw := hw.symm; subst hw))
  generalize w.alloc (.cells #[.int .i64 0, .int .i64 0] 112) = Z at hG hb ⊢
  refine (HLE.out _).mono ?_
  rintro e w1 ⟨rfl, hb1⟩
  have hl1 : lowN m d ≤ 1000000000 := Nat.le_trans HN.out (by omega)
  have hl2 : lowD m d ≤ 1000000000 := Nat.le_trans HD.out.2 (by omega)
  have hg := HG.out
  clear HLE HN HD HG
  generalize lowN m d = x at *
  generalize lowD m d = y at *
  have hG1 := hG.below hb1
  have B := below_step hb hb1
  go_wp2_with fail
  refine (chk_impl _ _ _ hl1 hl2 (fun _ => hg)).mono ?_
  rintro e w2 ⟨rfl, hb2⟩
  have HS := hd (frac_set (hG1.below hb2))
  obtain ⟨g0, d0, d1, f0, f1⟩ := hG1.below hb2
  have B2 := below_step B hb2
  clear hb hb1 hb2 hG hG1 B
  obtain ⟨r1, r2, r3, hr⟩ : ∃ r1 r2 r3, chkR x y = (r1, r2, r3) := ⟨_, _, _, rfl⟩
  rw [hr] at HR
  rw [hr, show fracV (r1, r2, r3) = .tuple #[.agg #[.int .i64 r1, .int .i64 r2], .int .i64 r3] from rfl]
  have HR := hd HR.out
  clear hr
  go_wp2_with fail
  obtain ⟨e0, e1⟩ := HS.out r1 r2
  have BZ := frac_below (g := w.heap.size) B2 (Nat.le_refl _) (.int .i64 r1) (.int .i64 r2)
  generalize ((w2.setCell ⟨w.heap.size, 0, none⟩ (.int .i64 r1)).setCell ⟨w.heap.size, 1, none⟩ (.int .i64 r2)) = Z at e0 e1 BZ ⊢
  refine bodyPost_ret (v := .tuple #[.agg #[.int .i64 r1, .int .i64 r2], .int .i64 r3]) ?_ rfl ⟨by rw [fracV_of HR.out], BZ⟩
  refine (results_cell_tmp Tryz.results74 _ _ _).trans ?_
  show (((loadVar 112 ⟨w.heap.size, 0, none⟩).run Tryz.prog Z).andThen fun v w₂ => Result.ok (Value.tuple #[v, Value.int .i64 r3]) w₂) = _
  rw [load_frac Z _ _ _ e0 e1]
  rfl
set_option maxRecDepth 100000 in
set_option maxHeartbeats 2000000 in
theorem ftext_impl (w : World) (n d : Nat) (hn : n ≤ 1000000000) (hd1 : d ≤ 1000000000) (hg : fracB n d = true → Nat.gcd n d = 1) (ht : Tab w) :
    Calls Tryz.prog 75 #[.agg #[.int .i64 (n : Int), .int .i64 (d : Int)]] w fun e w' => e = .returned (.string (fracT n d)) ∧ Below w.heap.size w w' := by
  have hF := frac_new w n d 112
  have hb : Below w.heap.size w (w.alloc (.cells #[.int .i64 (n : Int), .int .i64 (d : Int)] 112)) := (Below.refl w.heap.size w).alloc (Nat.le_refl _) _
  have HT := hd (ht.below hb)
  obtain ⟨-, c0, c1, -, -⟩ := id hF
  go_enter Tryz.func75, Tryz.ntmps75
  go_wp2_with fail
  generalize w.alloc (.cells #[.int .i64 (n : Int), .int .i64 (d : Int)] 112) = W at hb hF c0 c1 HT ⊢
  refine (vfrac_impl _ _ _ hn hd1 hg).mono ?_
  rintro e w1 ⟨rfl, hb1⟩
  clear c0 c1
  obtain ⟨-, c0, c1, -, -⟩ := hF.below hb1
  have HT1 := hd (HT.out.below hb1)
  have B1 := below_step hb hb1
  clear hb hb1 hF ht HT
  rcases h : fracB (n : Int) (d : Int) with _ | _
  · have HR := hd (show fracT n d = ⟨#[]⟩ by unfold fracT; rw [h]; rfl)
    go_wp2_with fail
    go_ret
    exact ⟨by rw [HR.out]; rfl, B1⟩
  have hbd := fracB_bd h
  have HR := hd (show fracT n d = fracS n d by unfold fracT; rw [if_pos h])
  by_cases h1 : (d : Int) = 1
  · have HR2 := hd (show fracT n d = decS n by rw [HR.out, h1]; exact fracS_one _)
    have HDC := hd (dec_impl w1 (n : Int) (by omega) HT1.out)
    go_wp2_with fail
    refine HDC.out.mono ?_
    rintro e w2 ⟨rfl, hb2⟩
    go_wp2_with fail
    go_ret
    exact ⟨by rw [HR2.out]; rfl, below_step B1 hb2⟩
  have HR2 := hd (show fracT n d = decS n ++ ⟨#[47]⟩ ++ decS d by rw [HR.out]; exact fracS_two h1)
  have s1 := decS_size (n := (n : Int)) (by omega)
  have s2 := decS_size (n := (d : Int)) (by omega)
  have HTB := hd (show ∀ x : Ext w1, Tab (gro w1 x) from fun x => HT1.out.below (gro_below x))
  go_wp2_with fail
  have g0 := gro_cell c0
  have g1 := gro_cell c1
  clear c0 c1
  refine wp_region_calm (by kernel_rfl) (by kernel_rfl) ?_
  repeat (first | go_big_quiet_step ((go_at_call 36; exact calm_of (dec_impl _ _ (by omega) (HTB.out _)))) | quiet_step ((go_at_call 36; exact calm_of (dec_impl _ _ (by omega) (HTB.out _)))))
  refine wpQuiet_nil ?_
  rintro w2 ⟨x, rfl⟩
  have hb3 := gro_below x
  clear g0 g1
  go_wp2_with fail
  go_ret
  exact ⟨by rw [HR2.out]; rfl, below_step B1 hb3⟩
end Go.Proofs.YtgcodjkjdfahdaaGreatDoor

namespace Go.Proofs.YtgcodjkjdfahdaaGreatDoor
open Go Go.RowKit Go.ChangeShapes Go.WideShapes
set_option linter.unusedSimpArgs false
set_option linter.unusedVariables false
theorem focal_spec (w : World) (n : Int) : Calls Tryz.prog 265 #[.int .i64 n] w fun e w' => e = .returned (.bool (inB n 1 2000)) ∧ w' = w := by
  go_enter Tryz.func265, Tryz.ntmps265
  go_wp2_with fail
  refine (in_spec _ _ _ _).mono ?_
  rintro e ww ⟨rfl, hw⟩
  have hw := hw.symm
  subst hw
  go_wp2_with fail
  go_ret
  exact ⟨rfl, rfl⟩
theorem length_spec (w : World) (n : Int) : Calls Tryz.prog 266 #[.int .i64 n] w fun e w' => e = .returned (.bool (inB n 1 100000)) ∧ w' = w := by
  go_enter Tryz.func266, Tryz.ntmps266
  go_wp2_with fail
  refine (in_spec _ _ _ _).mono ?_
  rintro e ww ⟨rfl, hw⟩
  have hw := hw.symm
  subst hw
  go_wp2_with fail
  go_ret
  exact ⟨rfl, rfl⟩
set_option maxRecDepth 100000 in
set_option maxHeartbeats 4000000 in
theorem sharp_spec (w : World) (f o : Int) : Calls Tryz.prog 230 #[.int .i64 f, .int .i64 o] w fun e w' => e = .returned (fracV (imgC f o)) ∧ Below w.heap.size w w' := by
  have hG := frac_new w 0 0 112
  have hb : Below w.heap.size w (w.alloc (.cells #[.int .i64 0, .int .i64 0] 112)) := (Below.refl w.heap.size w).alloc (Nat.le_refl _) _
  rcases h1 : inB f 1 2000 with _ | _
  · have HR := hd (imgC_bad1 (o := o) h1)
    go_enter Tryz.func230, Tryz.ntmps230
    go_wp2_with fail
    generalize w.alloc (.cells #[.int .i64 0, .int .i64 0] 112) = W at hb hG ⊢
    refine (focal_spec _ _).mono ?_
    rintro e ww ⟨rfl, hw⟩
    have hw := hw.symm
    subst hw
    rw [h1]
    have HS := hd (frac_set hG)
    obtain ⟨g0, d0, d1, f0, f1⟩ := id hG
    go_wp2_with fail
    obtain ⟨e0, e1⟩ := HS.out 0 0
    have BZ := frac_below (g := w.heap.size) hb (Nat.le_refl _) (.int .i64 0) (.int .i64 0)
    generalize ((W.setCell ⟨w.heap.size, 0, none⟩ (.int .i64 0)).setCell ⟨w.heap.size, 1, none⟩ (.int .i64 0)) = Z at e0 e1 BZ ⊢
    refine bodyPost_ret (v := .tuple #[.agg #[.int .i64 0, .int .i64 0], .int .i64 2]) ?_ rfl ⟨by rw [fracV_of HR.out], BZ⟩
    refine (results_cell_tmp Tryz.results230 _ _ _).trans ?_
    show (((loadVar 112 ⟨w.heap.size, 0, none⟩).run Tryz.prog Z).andThen fun v w₂ => Result.ok (Value.tuple #[v, Value.int .i64 2]) w₂) = _
    rw [load_frac Z _ _ _ e0 e1]
    rfl
  rcases h2 : inB o 1 100000 with _ | _
  · have HR := hd (imgC_bad2 (f := f) h2)
    go_enter Tryz.func230, Tryz.ntmps230
    go_wp2_with fail
    generalize w.alloc (.cells #[.int .i64 0, .int .i64 0] 112) = W at hb hG ⊢
    refine (focal_spec _ _).mono ?_
    rintro e ww ⟨rfl, hw⟩
    have hw := hw.symm
    subst hw
    rw [h1]
    go_wp2_with fail
    refine (length_spec _ _).mono ?_
    rintro e ww ⟨rfl, hw⟩
    have hw := hw.symm
    subst hw
    rw [h2]
    have HS := hd (frac_set hG)
    obtain ⟨g0, d0, d1, f0, f1⟩ := id hG
    go_wp2_with fail
    obtain ⟨e0, e1⟩ := HS.out 0 0
    have BZ := frac_below (g := w.heap.size) hb (Nat.le_refl _) (.int .i64 0) (.int .i64 0)
    generalize ((W.setCell ⟨w.heap.size, 0, none⟩ (.int .i64 0)).setCell ⟨w.heap.size, 1, none⟩ (.int .i64 0)) = Z at e0 e1 BZ ⊢
    refine bodyPost_ret (v := .tuple #[.agg #[.int .i64 0, .int .i64 0], .int .i64 2]) ?_ rfl ⟨by rw [fracV_of HR.out], BZ⟩
    refine (results_cell_tmp Tryz.results230 _ _ _).trans ?_
    show (((loadVar 112 ⟨w.heap.size, 0, none⟩).run Tryz.prog Z).andThen fun v w₂ => Result.ok (Value.tuple #[v, Value.int .i64 2]) w₂) = _
    rw [load_frac Z _ _ _ e0 e1]
    rfl
  obtain ⟨a1, a2⟩ := inB_true h1
  obtain ⟨b1, b2⟩ := inB_true h2
  by_cases h3 : o ≤ f
  · have HR := hd (imgC_state h1 h2 h3)
    go_enter Tryz.func230, Tryz.ntmps230
    go_wp2_with fail
    generalize w.alloc (.cells #[.int .i64 0, .int .i64 0] 112) = W at hb hG ⊢
    refine (focal_spec _ _).mono ?_
    rintro e ww ⟨rfl, hw⟩
    have hw := hw.symm
    subst hw
    rw [h1]
    go_wp2_with fail
    refine (length_spec _ _).mono ?_
    rintro e ww ⟨rfl, hw⟩
    have hw := hw.symm
    subst hw
    rw [h2]
    have HS := hd (frac_set hG)
    obtain ⟨g0, d0, d1, f0, f1⟩ := id hG
    go_wp2_with fail
    obtain ⟨e0, e1⟩ := HS.out 0 0
    have BZ := frac_below (g := w.heap.size) hb (Nat.le_refl _) (.int .i64 0) (.int .i64 0)
    generalize ((W.setCell ⟨w.heap.size, 0, none⟩ (.int .i64 0)).setCell ⟨w.heap.size, 1, none⟩ (.int .i64 0)) = Z at e0 e1 BZ ⊢
    refine bodyPost_ret (v := .tuple #[.agg #[.int .i64 0, .int .i64 0], .int .i64 6]) ?_ rfl ⟨by rw [fracV_of HR.out], BZ⟩
    refine (results_cell_tmp Tryz.results230 _ _ _).trans ?_
    show (((loadVar 112 ⟨w.heap.size, 0, none⟩).run Tryz.prog Z).andThen fun v w₂ => Result.ok (Value.tuple #[v, Value.int .i64 6]) w₂) = _
    rw [load_frac Z _ _ _ e0 e1]
    rfl
  obtain ⟨f', rfl⟩ := Int.eq_ofNat_of_zero_le (show 0 ≤ f by omega)
  obtain ⟨d, hd'⟩ := Int.eq_ofNat_of_zero_le (show 0 ≤ o - (f' : Int) by omega)
  obtain ⟨o', rfl⟩ := Int.eq_ofNat_of_zero_le (show 0 ≤ o by omega)
  have hd0 : 1 ≤ d := by omega
  have hdl : d ≤ 1000000000 := by omega
  have hmul : f' * o' ≤ 2000 * 100000 := Nat.mul_le_mul (by omega) (by omega)
  have e1 : (f' : Int) * (o' : Int) = ((f' * o' : Nat) : Int) := by push_cast; rfl
  have HR := hd (show imgC (f' : Int) (o' : Int) = fullR (f' * o') d by
    unfold imgC fullR
    rw [h1, h2]
    simp only [Bool.and_self, if_true]
    rw [if_neg h3, hd', e1, Int.toNat_natCast, Int.toNat_natCast]
    rfl)
  have k1 : IntKind.i64.wrap ((f' : Int) * (o' : Int)) = ((f' * o' : Nat) : Int) := by rw [e1]; exact IntWalk.i64_in _ (by omega)
  have k2 : IntKind.i64.wrap ((o' : Int) - (f' : Int)) = (d : Int) := by rw [hd']; exact IntWalk.i64_in _ (by omega)
  have HFU := hd (fun W => full_spec W (f' * o') d (by omega) hd0 hdl)
  have h4 : ¬ ((o' : Int) ≤ (f' : Int)) := h3
  have h5 : (f' : Int) < (o' : Int) := by omega
  have h6 : f' < o' := by omega
  have h7 : (o' : Int) - (f' : Int) = (d : Int) := hd'
  have HML := hd (show ∀ m, f' * o' = m → m ≤ 200000000 from fun m h => by omega)
  clear hmul hd0 hdl hd'
  generalize fullR (f' * o') d = r at HR HFU
  obtain ⟨x, y, c⟩ := r
  generalize hnn : f' * o' = nn at e1 k1 HFU
  have hnl := HML.out nn hnn
  have k3 : wrap64 (nn : Int) = (nn : Int) := by unfold wrap64; omega
  clear hnn HML
  go_enter Tryz.func230, Tryz.ntmps230
  go_wp2_with fail
  generalize w.alloc (.cells #[.int .i64 0, .int .i64 0] 112) = W at hb hG ⊢
  refine (focal_spec _ _).mono ?_
  rintro e ww ⟨rfl, hw⟩
  have hw := hw.symm
  subst hw
  rw [h1]
  go_wp2_with fail
  refine (length_spec _ _).mono ?_
  rintro e ww ⟨rfl, hw⟩
  have hw := hw.symm
  subst hw
  rw [h2]
  go_wp2_with fail
  refine (HFU.out W).mono ?_
  rintro e w3 ⟨rfl, hb3⟩
  have hG1 := hG.below hb3
  have B3 := below_step hb hb3
  have HS := hd (frac_set hG1)
  obtain ⟨g0, d0, d1, f0, f1⟩ := id hG1
  clear hG hb hb3 hG1
  unfold fracV
  dsimp only
  go_wp2_with fail
  obtain ⟨e0, e1⟩ := HS.out x y
  have BZ := frac_below (g := w.heap.size) B3 (Nat.le_refl _) (.int .i64 x) (.int .i64 y)
  generalize ((w3.setCell ⟨w.heap.size, 0, none⟩ (.int .i64 x)).setCell ⟨w.heap.size, 1, none⟩ (.int .i64 y)) = Z at e0 e1 BZ ⊢
  refine bodyPost_ret (v := .tuple #[.agg #[.int .i64 x, .int .i64 y], .int .i64 c]) ?_ rfl ⟨by rw [fracV_of HR.out], BZ⟩
  refine (results_cell_tmp Tryz.results230 _ _ _).trans ?_
  show (((loadVar 112 ⟨w.heap.size, 0, none⟩).run Tryz.prog Z).andThen fun v w₂ => Result.ok (Value.tuple #[v, Value.int .i64 c]) w₂) = _
  rw [load_frac Z _ _ _ e0 e1]
  rfl
set_option maxRecDepth 100000 in
set_option maxHeartbeats 4000000 in
theorem image_spec (w : World) (f o : Int) : Calls Tryz.prog 172 #[.int .i64 f, .int .i64 o] w fun e w' => e = .returned (fracV (imgC f o)) ∧ Below w.heap.size w w' := by
  have hG := frac_new w 0 0 112
  have hb : Below w.heap.size w (w.alloc (.cells #[.int .i64 0, .int .i64 0] 112)) := (Below.refl w.heap.size w).alloc (Nat.le_refl _) _
  have HFU := hd (fun W => sharp_spec W f o)
  have HR := hd (show imgC f o = imgC f o from rfl)
  go_enter Tryz.func172, Tryz.ntmps172
  go_wp2_with fail
  generalize w.alloc (.cells #[.int .i64 0, .int .i64 0] 112) = W at hb hG ⊢
  refine (HFU.out W).mono ?_
  rintro e w3 ⟨rfl, hb3⟩
  obtain ⟨r, hr⟩ : ∃ r, imgC f o = r := ⟨_, rfl⟩
  replace HR := hd hr
  rw [hr]
  clear hr
  obtain ⟨x, y, c⟩ := r
  have hG1 := hG.below hb3
  have B3 := below_step hb hb3
  have HS := hd (frac_set hG1)
  obtain ⟨g0, d0, d1, f0, f1⟩ := id hG1
  clear hG hb hb3 hG1
  unfold fracV
  dsimp only
  go_wp2_with fail
  obtain ⟨e0, e1⟩ := HS.out x y
  have BZ := frac_below (g := w.heap.size) B3 (Nat.le_refl _) (.int .i64 x) (.int .i64 y)
  generalize ((w3.setCell ⟨w.heap.size, 0, none⟩ (.int .i64 x)).setCell ⟨w.heap.size, 1, none⟩ (.int .i64 y)) = Z at e0 e1 BZ ⊢
  refine bodyPost_ret (v := .tuple #[.agg #[.int .i64 x, .int .i64 y], .int .i64 c]) ?_ rfl ⟨by rw [fracV_of HR.out], BZ⟩
  refine (results_cell_tmp Tryz.results172 _ _ _).trans ?_
  show (((loadVar 112 ⟨w.heap.size, 0, none⟩).run Tryz.prog Z).andThen fun v w₂ => Result.ok (Value.tuple #[v, Value.int .i64 c]) w₂) = _
  rw [load_frac Z _ _ _ e0 e1]
  rfl
end Go.Proofs.YtgcodjkjdfahdaaGreatDoor
