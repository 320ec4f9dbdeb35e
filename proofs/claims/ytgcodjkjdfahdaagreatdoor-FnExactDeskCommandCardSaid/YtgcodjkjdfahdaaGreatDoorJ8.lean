/- Lemmas for the claim (the walks of its functions and their plain laws), joined. No condition. -/
import Derived.Test.YtgcodjkjdfahdaaGreatDoorJ4
import Derived.Test.YtgcodjkjdfahdaaGreatDoorJ5
import Derived.Laws.ResultCell
import Derived.IntWalk
namespace Go.Proofs.YtgcodjkjdfahdaaGreatDoor
open Go Go.RowKit Go.ChangeShapes Go.WideShapes
set_option linter.unusedSimpArgs false
set_option linter.unusedVariables false
theorem load_frac (Z : World) (b : Nat) (x1 x2 : Int) (e0 : Z.cell? ⟨b, 0, none⟩ = some (.int .i64 x1)) (e1 : Z.cell? ⟨b, 1, none⟩ = some (.int .i64 x2)) :
    (loadVar 112 ⟨b, 0, none⟩).run Tryz.prog Z = .ok (.agg #[.int .i64 x1, .int .i64 x2]) Z := by
  simp [loadVar, go_sem, e0, e1]
set_option maxHeartbeats 1000000 in
theorem gcd_impl (w : World) (a b : Nat) (ha : a ≤ 1000000000) (hb : b ≤ 1000000000) :
    Calls Tryz.prog 196 #[.int .i64 (a : Int), .int .i64 (b : Int)] w fun e w' => e = .returned (.int .i64 ((Nat.gcd a b : Nat) : Int)) ∧ ∃ n, w' = w.drewN n := by
  go_enter Tryz.func196, Tryz.ntmps196
  go_wp2_with fail
  go_loopw [0, 1] (fun av bv wr => ∃ x y : Nat, x ≤ 1000000000 ∧ y ≤ 1000000000 ∧ av = .int .i64 (x : Int) ∧ bv = .int .i64 (y : Int) ∧ Hid (Nat.gcd x y = Nat.gcd a b) ∧ ∃ n, wr = w.drewN n) (fun _ bv _ => (intOf bv).toNat)
  case atStart => exact ⟨a, b, ha, hb, rfl, rfl, hd rfl, 0, rfl⟩
  case round =>
    obtain ⟨x, y, hx, hy, rfl, rfl, HG, n, rfl⟩ := hrel
    by_cases h0 : y = 0
    · have h1 : ((y : Int) != 0) = false := by simpa using h0
      have HR := hd (show ((Nat.gcd a b : Nat) : Int) = (x : Int) by rw [← HG.out, h0, Nat.gcd_zero_right])
      clear h0
      go_wp2_with fail
      go_ret
      exact ⟨by rw [HR.out]; rfl, n, rfl⟩
    · have h1 : ((y : Int) != 0) = true := by simpa using h0
      have hp : (0 : Int) < (y : Int) := by omega
      have HN := hd (show Nat.gcd y (x % y) = Nat.gcd a b by rw [gcd_step]; exact HG.out)
      have hm := Nat.mod_lt x (show 0 < y by omega)
      have hml : x % y ≤ 1000000000 := by omega
      have HM := hd (show (((x % y : Nat) : Int)) = (x : Int) % (y : Int) from Int.natCast_emod x y)
      go_wp2_with fail
      go_quiet (fail)
      go_wp2_with fail
      go_roundw
      case rel => exact ⟨y, x % y, hy, hml, rfl, by rw [HM.out]; try rfl, HN, _, World.drewN_drewN _ _ _⟩
      case measure => simp [intOf]; omega
set_option maxHeartbeats 1000000 in
theorem gcd_spec (w : World) (a b : Nat) (ha : a ≤ 1000000000) (hb : b ≤ 1000000000) :
    Calls Tryz.prog 285 #[.int .i64 (a : Int), .int .i64 (b : Int)] w fun e w' => e = .returned (.int .i64 ((Nat.gcd a b : Nat) : Int)) ∧ w' = w := by
  go_enter Tryz.func285, Tryz.ntmps285
  go_wp2_with fail
  go_loop [0, 1] (fun av bv => ∃ x y : Nat, x ≤ 1000000000 ∧ y ≤ 1000000000 ∧ av = .int .i64 (x : Int) ∧ bv = .int .i64 (y : Int) ∧ Hid (Nat.gcd x y = Nat.gcd a b)) (fun _ bv => (intOf bv).toNat)
  case atStart => exact ⟨a, b, ha, hb, rfl, rfl, hd rfl⟩
  case round =>
    obtain ⟨x, y, hx, hy, rfl, rfl, HG⟩ := hrel
    by_cases h0 : y = 0
    · have h1 : ((y : Int) != 0) = false := by simpa using h0
      have HR := hd (show ((Nat.gcd a b : Nat) : Int) = (x : Int) by rw [← HG.out, h0, Nat.gcd_zero_right])
      clear h0
      go_wp2_with fail
      go_ret
      exact ⟨by rw [HR.out]; rfl, rfl⟩
    · have h1 : ((y : Int) != 0) = true := by simpa using h0
      have hp : (0 : Int) < (y : Int) := by omega
      have HN := hd (show Nat.gcd y (x % y) = Nat.gcd a b by rw [gcd_step]; exact HG.out)
      have hm := Nat.mod_lt x (show 0 < y by omega)
      have hml : x % y ≤ 1000000000 := by omega
      have HM := hd (show (((x % y : Nat) : Int)) = (x : Int) % (y : Int) from Int.natCast_emod x y)
      go_wp2_with fail
      go_round
      case rel => exact ⟨y, x % y, hy, hml, rfl, by rw [HM.out]; try rfl, HN⟩
      case measure => simp [intOf]; omega
theorem size_spec (w : World) (n : Nat) : Calls Tryz.prog 286 #[.int .i64 (n : Int)] w fun e w' => e = .returned (.int .i64 (n : Int)) ∧ w' = w := by
  have h : ¬ (n : Int) < 0 := by omega
  go_enter Tryz.func286, Tryz.ntmps286
  go_wp2_with fail
  go_ret
  exact ⟨rfl, rfl⟩
theorem lowN_cast (n d : Nat) : ((lowN n d : Nat) : Int) = (n : Int) / ((Nat.gcd n d : Nat) : Int) := by unfold lowN; exact Int.natCast_ediv ..
theorem lowD_cast (n d : Nat) : ((lowD n d : Nat) : Int) = (d : Int) / ((Nat.gcd n d : Nat) : Int) := by unfold lowD; exact Int.natCast_ediv ..
set_option maxRecDepth 100000 in
set_option maxHeartbeats 1000000 in
theorem lowest_impl (w : World) (n d : Nat) (hn : n ≤ 1000000000) (hd0 : 1 ≤ d) (hd1 : d ≤ 1000000000) :
    Calls Tryz.prog 134 #[.int .i64 (n : Int), .int .i64 (d : Int)] w fun e w' => e = .returned (.agg #[.int .i64 ((lowN n d : Nat) : Int), .int .i64 ((lowD n d : Nat) : Int)]) ∧ Below w.heap.size w w' := by
  have hb0 := (Below.refl w.heap.size w).alloc (Nat.le_refl _) (.cells #[.int .i64 0, .int .i64 0] 112)
  have hg0 : 0 < Nat.gcd n d := Nat.gcd_pos_of_pos_right _ (by omega)
  have hg1 : Nat.gcd n d ≤ d := Nat.le_of_dvd (by omega) (Nat.gcd_dvd_right n d)
  have R1 := hd (lowN_cast n d)
  have R2 := hd (lowD_cast n d)
  have hneg : ¬ (d : Int) < 0 := by omega
  have gg : (w.alloc (.cells #[.int .i64 0, .int .i64 0] 112)).heap[w.heap.size]? = some (.cells #[.int .i64 0, .int .i64 0] 112 (0, 0)) := heap_alloc_new w _
  have hlt : w.heap.size < (w.alloc (.cells #[.int .i64 0, .int .i64 0] 112)).heap.size := by simp
  go_enter Tryz.func134, Tryz.ntmps134
  go_wp2_with fail
  generalize w.alloc (.cells #[.int .i64 0, .int .i64 0] 112) = W at hb0 gg hlt ⊢
  refine (gcd_impl _ _ _ hn hd1).mono ?_
  rintro e w1 ⟨rfl, m, rfl⟩
  generalize Nat.gcd n d = q at hg0 hg1 R1 R2 ⊢
  have hq : (0 : Int) < (q : Int) := by omega
  have d1 : 0 ≤ (n : Int) / (q : Int) := Int.ediv_nonneg (by omega) (by omega)
  have d2 : (n : Int) / (q : Int) ≤ (n : Int) := Int.ediv_le_self _ (by omega)
  have d3 : 0 ≤ (d : Int) / (q : Int) := Int.ediv_nonneg (by omega) (by omega)
  have d4 : (d : Int) / (q : Int) ≤ (d : Int) := Int.ediv_le_self _ (by omega)
  have k1 : IntKind.i64.wrap ((n : Int) / (q : Int)) = (n : Int) / (q : Int) := IntWalk.i64_in _ (by omega)
  have k2 : IntKind.i64.wrap ((d : Int) / (q : Int)) = (d : Int) / (q : Int) := IntWalk.i64_in _ (by omega)
  have c0 := cell_of_row W w.heap.size 0 _ _ (0, 0) gg
  have c1 := cell_of_row W w.heap.size 1 _ _ (0, 0) gg
  have f0 : W.frozen? ⟨w.heap.size, 0, none⟩ = false := by simp [World.frozen?, gg]
  have f1 : W.frozen? ⟨w.heap.size, 1, none⟩ = false := by simp [World.frozen?, gg]
  have B := below_drewN hb0 m
  go_wp2_with fail
  go_region
  go_wp2_with fail
  refine bodyPost_ret (v := .agg #[.int .i64 ((n : Int) / (q : Int)), .int .i64 ((d : Int) / (q : Int))]) (by simp [results, Tryz.results134, go_sem, c0, c1]) rfl ⟨by rw [R1.out, R2.out], ?_⟩
  repeat (first | exact B | exact hb0 | refine below_drewN ?_ _ | refine Below.drew ?_ | refine Below.setCell ?_ (by exact Nat.le_refl _) _)
set_option maxRecDepth 100000 in
set_option maxHeartbeats 1000000 in
theorem lowest_spec (w : World) (n d : Nat) (hn : n ≤ 1000000000) (hd0 : 1 ≤ d) (hd1 : d ≤ 1000000000) :
    Calls Tryz.prog 279 #[.int .i64 (n : Int), .int .i64 (d : Int)] w fun e w' => e = .returned (.agg #[.int .i64 ((lowN n d : Nat) : Int), .int .i64 ((lowD n d : Nat) : Int)]) ∧ Below w.heap.size w w' := by
  have hb0 := (Below.refl w.heap.size w).alloc (Nat.le_refl _) (.cells #[.int .i64 0, .int .i64 0] 112)
  have hg0 : 0 < Nat.gcd n d := Nat.gcd_pos_of_pos_right _ (by omega)
  have hg1 : Nat.gcd n d ≤ d := Nat.le_of_dvd (by omega) (Nat.gcd_dvd_right n d)
  have R1 := hd (lowN_cast n d)
  have R2 := hd (lowD_cast n d)
  have gg : (w.alloc (.cells #[.int .i64 0, .int .i64 0] 112)).heap[w.heap.size]? = some (.cells #[.int .i64 0, .int .i64 0] 112 (0, 0)) := heap_alloc_new w _
  have hlt : w.heap.size < (w.alloc (.cells #[.int .i64 0, .int .i64 0] 112)).heap.size := by simp
  go_enter Tryz.func279, Tryz.ntmps279
  go_wp2_with fail
  generalize w.alloc (.cells #[.int .i64 0, .int .i64 0] 112) = W at hb0 gg hlt ⊢
  refine (size_spec _ _).mono ?_
  rintro e w1 ⟨rfl, hw⟩
  have hw := hw.symm
  subst hw
  go_wp2_with fail
  refine (gcd_spec _ _ _ hn hd1).mono ?_
  rintro e w1 ⟨rfl, hw⟩
  have hw := hw.symm
  subst hw
  generalize Nat.gcd n d = q at hg0 hg1 R1 R2 ⊢
  have hq : (0 : Int) < (q : Int) := by omega
  have d1 : 0 ≤ (n : Int) / (q : Int) := Int.ediv_nonneg (by omega) (by omega)
  have d2 : (n : Int) / (q : Int) ≤ (n : Int) := Int.ediv_le_self _ (by omega)
  have d3 : 0 ≤ (d : Int) / (q : Int) := Int.ediv_nonneg (by omega) (by omega)
  have d4 : (d : Int) / (q : Int) ≤ (d : Int) := Int.ediv_le_self _ (by omega)
  have k1 : IntKind.i64.wrap ((n : Int) / (q : Int)) = (n : Int) / (q : Int) := IntWalk.i64_in _ (by omega)
  have k2 : IntKind.i64.wrap ((d : Int) / (q : Int)) = (d : Int) / (q : Int) := IntWalk.i64_in _ (by omega)
  have c0 := cell_of_row W w.heap.size 0 _ _ (0, 0) gg
  have c1 := cell_of_row W w.heap.size 1 _ _ (0, 0) gg
  have f0 : W.frozen? ⟨w.heap.size, 0, none⟩ = false := by simp [World.frozen?, gg]
  have f1 : W.frozen? ⟨w.heap.size, 1, none⟩ = false := by simp [World.frozen?, gg]
  go_wp2_with fail
  go_region
  go_wp2_with fail
  refine bodyPost_ret (v := .agg #[.int .i64 ((n : Int) / (q : Int)), .int .i64 ((d : Int) / (q : Int))]) (by simp [results, Tryz.results279, go_sem, c0, c1]) rfl ⟨by rw [R1.out, R2.out], ?_⟩
  repeat (first | exact hb0 | refine below_drewN ?_ _ | refine Below.drew ?_ | refine Below.setCell ?_ (by exact Nat.le_refl _) _)
def fracB (n d : Int) : Bool := inB d 1 1000000 && inB n (-1000000) 1000000
set_option maxRecDepth 100000 in
set_option maxHeartbeats 1000000 in
theorem vfrac_impl (w : World) (n d : Nat) (hn : n ≤ 1000000000) (hd1 : d ≤ 1000000000) (hg : fracB n d = true → Nat.gcd n d = 1) :
    Calls Tryz.prog 135 #[.agg #[.int .i64 (n : Int), .int .i64 (d : Int)]] w fun e w' => e = .returned (.bool (fracB n d)) ∧ Below w.heap.size w w' := by
  have hb0 := (Below.refl w.heap.size w).alloc (Nat.le_refl _) (.cells #[.int .i64 (n : Int), .int .i64 (d : Int)] 112)
  have c0 := new_cell w #[.int .i64 (n : Int), .int .i64 (d : Int)] 112 0 _ rfl
  have c1 := new_cell w #[.int .i64 (n : Int), .int .i64 (d : Int)] 112 1 _ rfl
  rcases h1 : inB (d : Int) 1 1000000 with _ | _
  · have HR := hd (show fracB n d = false by unfold fracB; rw [h1]; rfl)
    clear hg
    go_enter Tryz.func135, Tryz.ntmps135
    go_wp2_with (go_at_call 67; refine (in_impl _ _ _ _).mono ?_; rintro e w1 ⟨rfl, hw⟩; have hw := hw.symm; subst hw)
    go_ret
    exact ⟨by rw [HR.out]; simp [h1], hb0⟩
  rcases h2 : inB (n : Int) (-1000000) 1000000 with _ | _
  · have HR := hd (show fracB n d = false by unfold fracB; rw [h1, h2]; rfl)
    clear hg
    go_enter Tryz.func135, Tryz.ntmps135
    go_wp2_with (go_at_call 67; refine (in_impl _ _ _ _).mono ?_; rintro e w1 ⟨rfl, hw⟩; have hw := hw.symm; subst hw)
    go_ret
    exact ⟨by rw [HR.out]; simp [h1, h2], hb0⟩
  have hf : fracB n d = true := by unfold fracB; rw [h1, h2]; rfl
  have HR := hd hf
  have HG := hd (hg hf)
  clear hg hf
  go_enter Tryz.func135, Tryz.ntmps135
  go_wp2_with (first | (go_at_call 67; refine (in_impl _ _ _ _).mono ?_; rintro e w1 ⟨rfl, hw⟩; have hw := hw.symm; subst hw) | (go_at_call 196; refine (gcd_impl _ _ _ hn hd1).mono ?_; rintro e w1 ⟨rfl, m, rfl⟩; rw [HG.out]))
  go_ret
  exact ⟨by rw [HR.out]; simp [h1, h2], by first | exact below_drewN hb0 _ | exact hb0⟩
set_option maxRecDepth 100000 in
set_option maxHeartbeats 1000000 in
theorem vfrac_spec (w : World) (n d : Nat) (hn : n ≤ 1000000000) (hd1 : d ≤ 1000000000) (hg : fracB n d = true → Nat.gcd n d = 1) :
    Calls Tryz.prog 280 #[.agg #[.int .i64 (n : Int), .int .i64 (d : Int)]] w fun e w' => e = .returned (.bool (fracB n d)) ∧ Below w.heap.size w w' := by
  have hb0 := (Below.refl w.heap.size w).alloc (Nat.le_refl _) (.cells #[.int .i64 (n : Int), .int .i64 (d : Int)] 112)
  have c0 := new_cell w #[.int .i64 (n : Int), .int .i64 (d : Int)] 112 0 _ rfl
  have c1 := new_cell w #[.int .i64 (n : Int), .int .i64 (d : Int)] 112 1 _ rfl
  rcases h1 : inB (d : Int) 1 1000000 with _ | _
  · have HR := hd (show fracB n d = false by unfold fracB; rw [h1]; rfl)
    clear hg
    go_enter Tryz.func280, Tryz.ntmps280
    go_wp2_with fail
    go_quiet ((go_at_call 158; exact Calls.quiet_of_same (in_spec _ _ _ _)))
    go_wp2_with fail
    go_ret
    exact ⟨by rw [HR.out]; simp [h1], by first | exact below_drewN hb0 _ | exact hb0⟩
  rcases h2 : inB (n : Int) (-1000000) 1000000 with _ | _
  · have HR := hd (show fracB n d = false by unfold fracB; rw [h1, h2]; rfl)
    clear hg
    go_enter Tryz.func280, Tryz.ntmps280
    go_wp2_with fail
    go_quiet ((go_at_call 158; exact Calls.quiet_of_same (in_spec _ _ _ _)))
    go_wp2_with fail
    go_ret
    exact ⟨by rw [HR.out]; simp [h1, h2], by first | exact below_drewN hb0 _ | exact hb0⟩
  have hf : fracB n d = true := by unfold fracB; rw [h1, h2]; rfl
  have HR := hd hf
  have HG := hd (fun w => (show Calls Tryz.prog 285 #[.int .i64 (n : Int), .int .i64 (d : Int)] w fun e w' => e = .returned (.int .i64 1) ∧ w' = w from by have := gcd_spec w n d hn hd1; rw [hg hf] at this; exact this))
  clear hg hf
  go_enter Tryz.func280, Tryz.ntmps280
  go_wp2_with fail
  go_quiet ((first | (go_at_call 158; exact Calls.quiet_of_same (in_spec _ _ _ _)) | (go_at_call 286; exact Calls.quiet_of_same (size_spec _ _)) | (go_at_call 285; exact Calls.quiet_of_same (HG.out _))))
  go_wp2_with fail
  go_ret
  exact ⟨by rw [HR.out]; simp [h1, h2], by first | exact below_drewN hb0 _ | exact hb0⟩
end Go.Proofs.YtgcodjkjdfahdaaGreatDoor

namespace Go.Proofs.YtgcodjkjdfahdaaGreatDoor
open Go Go.RowKit Go.ChangeShapes Go.WideShapes
set_option linter.unusedSimpArgs false
set_option linter.unusedVariables false
theorem free2 {w : World} {b : Nat} {cs : Array Value} {t : TypeId} (h : w.heap[b]? = some (.cells cs t (0, 0))) (o : Nat) : w.frozen? ⟨b, o, none⟩ = false := by simp [World.frozen?, h]
def FracAt (W : World) (g : Nat) (x y : Int) : Prop := g < W.heap.size ∧ W.cell? ⟨g, 0, none⟩ = some (.int .i64 x) ∧ W.cell? ⟨g, 1, none⟩ = some (.int .i64 y) ∧ W.frozen? ⟨g, 0, none⟩ = false ∧ W.frozen? ⟨g, 1, none⟩ = false
theorem FracAt.below {W W' : World} {g : Nat} {x y : Int} (h : FracAt W g x y) (hb : Below W.heap.size W W') : FracAt W' g x y :=
  ⟨Nat.lt_of_lt_of_le h.1 hb.size, (hb.cell (p := ⟨g, 0, none⟩) h.1).trans h.2.1, (hb.cell (p := ⟨g, 1, none⟩) h.1).trans h.2.2.1, (hb.frozen (p := ⟨g, 0, none⟩) h.1).trans h.2.2.2.1, (hb.frozen (p := ⟨g, 1, none⟩) h.1).trans h.2.2.2.2⟩
theorem frac_new (w : World) (x y : Int) (T : TypeId) : FracAt (w.alloc (.cells #[.int .i64 x, .int .i64 y] T)) w.heap.size x y := by
  have gg : (w.alloc (.cells #[.int .i64 x, .int .i64 y] T)).heap[w.heap.size]? = some (.cells #[.int .i64 x, .int .i64 y] T (0, 0)) := heap_alloc_new w _
  exact ⟨by simp, cell_of_row _ _ 0 _ _ (0, 0) gg, cell_of_row _ _ 1 _ _ (0, 0) gg, free2 gg 0, free2 gg 1⟩
theorem frac_set {W : World} {g : Nat} {x y : Int} (h : FracAt W g x y) (a b : Int) :
    ((W.setCell ⟨g, 0, none⟩ (.int .i64 a)).setCell ⟨g, 1, none⟩ (.int .i64 b)).cell? ⟨g, 0, none⟩ = some (.int .i64 a) ∧ ((W.setCell ⟨g, 0, none⟩ (.int .i64 a)).setCell ⟨g, 1, none⟩ (.int .i64 b)).cell? ⟨g, 1, none⟩ = some (.int .i64 b) := by
  obtain ⟨-, c0, c1, -, -⟩ := h
  constructor <;> go_simp
theorem frac_below {w W : World} {g B : Nat} (hb : Below B w W) (hB : B ≤ g) (a b : Value) : Below B w ((W.setCell ⟨g, 0, none⟩ a).setCell ⟨g, 1, none⟩ b) :=
  (hb.setCell (p := ⟨g, 0, none⟩) hB _).setCell (p := ⟨g, 1, none⟩) hB _
def fullR (n d : Nat) : Int × Int × Int := if fracB (lowN n d : Nat) (lowD n d : Nat) then ((lowN n d : Nat), (lowD n d : Nat), 0) else (0, 0, 5)
def chkR (n d : Int) : Int × Int × Int := if fracB n d then (n, d, 0) else (0, 0, 5)
def fracV (r : Int × Int × Int) : Value := .tuple #[.agg #[.int .i64 r.1, .int .i64 r.2.1], .int .i64 r.2.2]
theorem fracV_of {r : Int × Int × Int} {a b c : Int} (h : r = (a, b, c)) : Value.tuple #[.agg #[.int .i64 a, .int .i64 b], .int .i64 c] = fracV r := by subst h; rfl
set_option maxRecDepth 100000 in
set_option maxHeartbeats 2000000 in
theorem chk_impl (w : World) (n d : Nat) (hn : n ≤ 1000000000) (hd1 : d ≤ 1000000000) (hg : fracB n d = true → Nat.gcd n d = 1) :
    Calls Tryz.prog 133 #[.agg #[.int .i64 (n : Int), .int .i64 (d : Int)]] w fun e w' => e = .returned (fracV (chkR n d)) ∧ Below w.heap.size w w' := by
  have hF := frac_new w n d 112
  have hG := frac_new (w.alloc (.cells #[.int .i64 (n : Int), .int .i64 (d : Int)] 112)) 0 0 112
  have hF2 := hF.below ((Below.refl _ _).alloc (Nat.le_refl _) (.cells #[.int .i64 0, .int .i64 0] 112))
  have hb : Below w.heap.size w ((w.alloc (.cells #[.int .i64 (n : Int), .int .i64 (d : Int)] 112)).alloc (.cells #[.int .i64 0, .int .i64 0] 112)) := ((Below.refl w.heap.size w).alloc (Nat.le_refl _) _).alloc (by simp) _
  have hz : (w.alloc (.cells #[.int .i64 (n : Int), .int .i64 (d : Int)] 112)).heap.size = w.heap.size + 1 := by simp
  rw [hz] at hG
  clear hF hz
  obtain ⟨-, c0, c1, -, -⟩ := id hF2
  go_enter Tryz.func133, Tryz.ntmps133
  go_wp2_with fail
  generalize ((w.alloc (.cells #[.int .i64 (n : Int), .int .i64 (d : Int)] 112)).alloc (.cells #[.int .i64 0, .int .i64 0] 112)) = W at hb hG hF2 c0 c1 ⊢
  refine (vfrac_impl _ _ _ hn hd1 hg).mono ?_
  rintro e w1 ⟨rfl, hb1⟩
  clear c0 c1
  obtain ⟨-, c0, c1, -, -⟩ := hF2.below hb1
  have hG1 := hG.below hb1
  have HS := hd (frac_set hG1)
  obtain ⟨g0, d0, d1, f0, f1⟩ := id hG1
  have B := below_step hb hb1
  clear hb1 hg hF2 hG hb
  rcases h : fracB (n : Int) (d : Int) with _ | _
  · have HR := hd (show chkR n d = (0, 0, 5) by unfold chkR; rw [h]; rfl)
    go_wp2_with fail
    obtain ⟨e0, e1⟩ := HS.out 0 0
    have BZ := frac_below (g := w.heap.size + 1) B (Nat.le_succ _) (.int .i64 0) (.int .i64 0)
    generalize ((w1.setCell ⟨w.heap.size + 1, 0, none⟩ (.int .i64 0)).setCell ⟨w.heap.size + 1, 1, none⟩ (.int .i64 0)) = Z at e0 e1 BZ ⊢
    refine bodyPost_ret (v := .tuple #[.agg #[.int .i64 0, .int .i64 0], .int .i64 5]) ?_ rfl ⟨by rw [fracV_of HR.out], BZ⟩
    refine (results_cell_tmp Tryz.results133 _ _ _).trans ?_
    show (((loadVar 112 ⟨w.heap.size + 1, 0, none⟩).run Tryz.prog Z).andThen fun v w₂ => Result.ok (Value.tuple #[v, Value.int .i64 5]) w₂) = _
    rw [load_frac Z _ _ _ e0 e1]
    rfl
  · have HR := hd (show chkR n d = ((n : Int), (d : Int), 0) by unfold chkR; rw [h]; rfl)
    go_wp2_with fail
    obtain ⟨e0, e1⟩ := HS.out n d
    have BZ := frac_below (g := w.heap.size + 1) B (Nat.le_succ _) (.int .i64 n) (.int .i64 d)
    generalize ((w1.setCell ⟨w.heap.size + 1, 0, none⟩ (.int .i64 n)).setCell ⟨w.heap.size + 1, 1, none⟩ (.int .i64 d)) = Z at e0 e1 BZ ⊢
    refine bodyPost_ret (v := .tuple #[.agg #[.int .i64 n, .int .i64 d], .int .i64 0]) ?_ rfl ⟨by rw [fracV_of HR.out], BZ⟩
    refine (results_cell_tmp Tryz.results133 _ _ _).trans ?_
    show (((loadVar 112 ⟨w.heap.size + 1, 0, none⟩).run Tryz.prog Z).andThen fun v w₂ => Result.ok (Value.tuple #[v, Value.int .i64 0]) w₂) = _
    rw [load_frac Z _ _ _ e0 e1]
    rfl
set_option maxRecDepth 100000 in
set_option maxHeartbeats 2000000 in
theorem full_spec (w : World) (n d : Nat) (hn : n ≤ 1000000000) (hd0 : 1 ≤ d) (hd1 : d ≤ 1000000000) :
    Calls Tryz.prog 267 #[.int .i64 (n : Int), .int .i64 (d : Int)] w fun e w' => e = .returned (fracV (fullR n d)) ∧ Below w.heap.size w w' := by
  have hG := frac_new w 0 0 112
  have hb : Below w.heap.size w (w.alloc (.cells #[.int .i64 0, .int .i64 0] 112)) := (Below.refl w.heap.size w).alloc (Nat.le_refl _) _
  have hl1 := lowN_bd n d
  have hl2 := lowD_bd (n := n) (d := d) hd0
  have HG := hd (gcd_low (n := n) (d := d) hd0)
  have HV := hd (fun w => vfrac_spec w (lowN n d) (lowD n d) (by omega) (by omega) (fun _ => HG.out))
  go_enter Tryz.func267, Tryz.ntmps267
  go_wp2_with fail
  generalize w.alloc (.cells #[.int .i64 0, .int .i64 0] 112) = W at hb hG ⊢
  refine (lowest_spec _ _ _ hn hd0 hd1).mono ?_
  rintro e w1 ⟨rfl, hb1⟩
  have R : fullR n d = chkR (lowN n d : Nat) (lowD n d : Nat) := rfl
  have HR0 := hd R
  clear R
  generalize lowN n d = x at hl1 HV HR0 HG ⊢
  generalize lowD n d = y at hl2 HV HR0 HG ⊢
  have hF := frac_new w1 x y 112
  have hG2 := (hG.below hb1).below ((Below.refl _ _).alloc (Nat.le_refl _) (.cells #[.int .i64 (x : Int), .int .i64 (y : Int)] 112))
  have B := (below_step hb hb1).alloc (below_step hb hb1).size (.cells #[.int .i64 (x : Int), .int .i64 (y : Int)] 112)
  have HF := hd hF
  have HG2 := hd hG2
  obtain ⟨-, c0, c1, -, -⟩ := hF
  clear hG hb hb1 hG2
  go_wp2_with fail
  generalize w1.alloc (.cells #[.int .i64 (x : Int), .int .i64 (y : Int)] 112) = W2 at HF HG2 B c0 c1 ⊢
  refine (HV.out _).mono ?_
  rintro e w3 ⟨rfl, hb3⟩
  clear c0 c1
  obtain ⟨-, c0, c1, -, -⟩ := HF.out.below hb3
  have hG1 := HG2.out.below hb3
  have HS := hd (frac_set hG1)
  obtain ⟨g0, d0, d1, f0, f1⟩ := id hG1
  have B3 := below_step B hb3
  clear hb3 B hG1
  rcases h : fracB (x : Int) (y : Int) with _ | _
  · have HR := hd (show fullR n d = (0, 0, 5) by rw [HR0.out]; unfold chkR; rw [h]; rfl)
    go_wp2_with fail
    obtain ⟨e0, e1⟩ := HS.out 0 0
    have BZ := frac_below (g := w.heap.size) B3 (Nat.le_refl _) (.int .i64 0) (.int .i64 0)
    generalize ((w3.setCell ⟨w.heap.size, 0, none⟩ (.int .i64 0)).setCell ⟨w.heap.size, 1, none⟩ (.int .i64 0)) = Z at e0 e1 BZ ⊢
    refine bodyPost_ret (v := .tuple #[.agg #[.int .i64 0, .int .i64 0], .int .i64 5]) ?_ rfl ⟨by rw [fracV_of HR.out], BZ⟩
    refine (results_cell_tmp Tryz.results267 _ _ _).trans ?_
    show (((loadVar 112 ⟨w.heap.size, 0, none⟩).run Tryz.prog Z).andThen fun v w₂ => Result.ok (Value.tuple #[v, Value.int .i64 5]) w₂) = _
    rw [load_frac Z _ _ _ e0 e1]
    rfl
  · have HR := hd (show fullR n d = ((x : Int), (y : Int), 0) by rw [HR0.out]; unfold chkR; rw [h]; rfl)
    go_wp2_with fail
    obtain ⟨e0, e1⟩ := HS.out x y
    have BZ := frac_below (g := w.heap.size) B3 (Nat.le_refl _) (.int .i64 x) (.int .i64 y)
    generalize ((w3.setCell ⟨w.heap.size, 0, none⟩ (.int .i64 x)).setCell ⟨w.heap.size, 1, none⟩ (.int .i64 y)) = Z at e0 e1 BZ ⊢
    refine bodyPost_ret (v := .tuple #[.agg #[.int .i64 x, .int .i64 y], .int .i64 0]) ?_ rfl ⟨by rw [fracV_of HR.out], BZ⟩
    refine (results_cell_tmp Tryz.results267 _ _ _).trans ?_
    show (((loadVar 112 ⟨w.heap.size, 0, none⟩).run Tryz.prog Z).andThen fun v w₂ => Result.ok (Value.tuple #[v, Value.int .i64 0]) w₂) = _
    rw [load_frac Z _ _ _ e0 e1]
    rfl
end Go.Proofs.YtgcodjkjdfahdaaGreatDoor
