/- FnRoads: helpers of the law. Two lists that are the same; numbers that rise; roads that are read. No condition but that the slices read. -/
import Derived.Test.YtlgcehdklpbknaaTourA
import Derived.Test.YtlgcehdklpbknaaRoadP
import Derived.Test.YtlgcehdklpbknaaShortS
import Derived.StillTactics
namespace Go.Proofs.Ytlgcehdklpbknaa
open Go Go.RowKit Go.ChangeShapes Go.WideShapes
set_option linter.unusedSimpArgs false
set_option linter.unusedVariables false
def Dr (w w' : World) : Prop := ∃ n, w' = w.drewN n
theorem Dr.refl (w : World) : Dr w w := ⟨0, rfl⟩
theorem Dr.drew {w w' : World} (h : Dr w w') : Dr w w'.drew := by obtain ⟨n, rfl⟩ := h; exact ⟨n + 1, rfl⟩
theorem Dr.drewN {w w' : World} (h : Dr w w') (k : Nat) : Dr w (w'.drewN k) := by obtain ⟨n, rfl⟩ := h; exact ⟨n + k, World.drewN_drewN _ _ _⟩
theorem Dr.below {w w' : World} (h : Dr w w') : Below w.heap.size w w' := by obtain ⟨n, rfl⟩ := h; exact below_of_drewN n _
set_option maxRecDepth 100000 in
set_option maxHeartbeats 1000000 in
theorem a2same_self (w : World) (v1 v2 : Value) (l : List Int) (h1 : Sl w 1 v1 eI l) (h2 : Sl w 1 v2 eI l) :
    Calls Try.prog 14 #[v1, v2] w fun e w' => e = .returned (.bool true) ∧ Dr w w' := by
  have m1 := h1.len
  obtain ⟨-, A1, c1, rfl, -, -, -⟩ := id h1
  obtain ⟨-, A2, c2, rfl, -, -, -⟩ := id h2
  have hb : (((l.length : Nat) : Int) != ((l.length : Nat) : Int)) = false := by simp
  go_enter Try.func14, Try.ntmps14
  go_wp2_with fail
  go_loopw [5] (fun i wr => ∃ k : Nat, k ≤ l.length ∧ i = .int .i64 k ∧ Hid (Dr w wr)) (fun i _ => l.length - (intOf i).toNat)
  case atStart => exact ⟨0, Nat.zero_le _, rfl, hd (Dr.refl w)⟩
  case round =>
    obtain ⟨k, hk, rfl, DW⟩ := hrel
    have DW2 := hd DW.out.drew
    by_cases hlt : k < l.length
    · obtain ⟨a1, o1, rfl, -, hc1⟩ := (h1.below DW.out.below).int_at hlt
      obtain ⟨a2, o2, rfl, -, hc2⟩ := (h2.below DW.out.below).int_at hlt
      generalize l[k] = x at hc1 hc2
      have hx : (x != x) = false := by simp
      go_wp2_with fail
      refine wp_region_still_lit (by kernel_rfl) (by kernel_rfl) ?_
      repeat still_step
      refine wpStill_nil ?_
      go_wp2_with fail
      go_roundw
      case rel => exact ⟨k + 1, by omega, by go_num, DW2⟩
      case measure => simp [intOf]; omega
    · go_wp2_with fail
      go_ret
      exact ⟨rfl, DW.out⟩
set_option maxRecDepth 100000 in
set_option maxHeartbeats 1000000 in
theorem a2rises_yes (w : World) (v : Value) (l : List Int) (h : Sl w 1 v eI l) (n : Nat) (hn : n ≤ 1000000) (hr : rises l n) :
    Calls Try.prog 19 #[v, .int .i64 n] w fun e w' => e = .returned (.bool true) ∧ Dr w w' := by
  have m1 := h.len
  obtain ⟨-, A1, c1, rfl, -, -, -⟩ := id h
  have HR := hd hr
  clear hr
  go_enter Try.func19, Try.ntmps19
  go_wp2_with fail
  go_loopw [5] (fun i wr => ∃ k : Nat, k ≤ l.length ∧ i = .int .i64 k ∧ Hid (Dr w wr)) (fun i _ => l.length - (intOf i).toNat)
  case atStart => exact ⟨0, Nat.zero_le _, rfl, hd (Dr.refl w)⟩
  case round =>
    obtain ⟨k, hk, rfl, DW⟩ := hrel
    have DW2 := hd fun n => DW.out.drewN n
    by_cases hlt : k < l.length
    · obtain ⟨a1, o1, rfl, -, hc1⟩ := (h.below DW.out.below).int_at hlt
      obtain ⟨r1, r2, r3⟩ := HR.out k hlt
      by_cases h0 : k = 0
      · subst h0
        generalize l[0] = x at hc1 r1 r2
        have hc2 : wr.cell? ⟨a1, o1, none⟩ = some (.int .i64 x) := hc1
        clear hc1 r3
        have e1 : decide (x < 0) = false := by simpa using r1
        have e2 : decide ((n : Int) ≤ x) = false := by simpa using r2
        go_wp2_with fail
        go_quiet (fail)
        go_wp2_with fail
        go_roundw
        case rel => exact ⟨0 + 1, by omega, by go_num, hd (DW2.out _)⟩
        case measure => simp [intOf]; omega
      · obtain ⟨m, rfl⟩ : ∃ m, k = m + 1 := ⟨k - 1, by omega⟩
        have hm : m < l.length := by omega
        have r4 := r3 m hm rfl
        obtain ⟨a2, o2, ha2, -, hc2⟩ := (h.below DW.out.below).int_at hm
        injection ha2 with ha2
        injection ha2 with ha3 ha4 _
        subst ha3 ha4
        generalize l[m + 1] = x at hc1 r1 r2 r4
        generalize l[m] = y at hc2 r4
        clear r3
        have e1 : decide (x < 0) = false := by simpa using r1
        have e2 : decide ((n : Int) ≤ x) = false := by simpa using r2
        have e3 : decide (x ≤ y) = false := by simpa using r4
        go_wp2_with fail
        go_quiet (fail)
        go_wp2_with fail
        go_roundw
        case rel => exact ⟨m + 1 + 1, by omega, by go_num, hd (DW2.out _)⟩
        case measure => simp [intOf]; omega
    · go_wp2_with fail
      go_ret
      exact ⟨rfl, DW.out⟩
/-- roads that lie behind a pointer, cell by cell -/
structure Rdx (W : World) (g n : Nat) (A1 A2 : Option Addr) (c1 c2 : Nat) (h : Nat → Int) (f : Nat → Nat → Int) (b1 o1 b2 o2 : Nat) (gr og cr : Nat → Nat) : Prop where
  p0 : W.cell? ⟨g, 0, none⟩ = some (.slice A1 n c1)
  p1 : W.cell? ⟨g, 1, none⟩ = some (.slice A2 n c2)
  a1 : 0 < n → A1 = some ⟨b1, o1, none⟩
  a2 : 0 < n → A2 = some ⟨b2, o2, none⟩
  home : ∀ i, i < n → W.cell? ⟨b1, o1 + i, none⟩ = some (.int .i64 (h i))
  row : ∀ i, i < n → W.cell? ⟨b2, o2 + i, none⟩ = some (.slice (some ⟨gr i, og i, none⟩) n (cr i))
  day : ∀ i k, i < n → k < n → W.cell? ⟨gr i, og i + k, none⟩ = some (.int .i64 (f i k))
theorem Rdx.dr {W W' : World} {g n : Nat} {A1 A2 : Option Addr} {c1 c2 : Nat} {h : Nat → Int} {f : Nat → Nat → Int} {b1 o1 b2 o2 : Nat} {gr og cr : Nat → Nat} (R : Rdx W g n A1 A2 c1 c2 h f b1 o1 b2 o2 gr og cr) (d : Dr W W') : Rdx W' g n A1 A2 c1 c2 h f b1 o1 b2 o2 gr og cr := by
  obtain ⟨k, rfl⟩ := d
  exact ⟨R.p0, R.p1, R.a1, R.a2, R.home, R.row, R.day⟩
theorem rdx_of {W : World} {B g : Nat} {T : TypeId} {A1 A2 : Option Addr} {c1 c2 n : Nat} {H : List Int} {M : List TRow} (R : Rec W B g T [.slice A1 n c1, .slice A2 n c2]) (S1 : Sl W 1 (.slice A1 n c1) eI H) (S2 : SlR W (.slice A2 n c2) M) {h : Nat → Int} {f : Nat → Nat → Int} (hH : H = vec n h) (hM : rowsOf M = mat n f) :
    ∃ b1 o1 b2 o2 gr og cr, Rdx W g n A1 A2 c1 c2 h f b1 o1 b2 o2 gr og cr := by
  by_cases hn : n = 0
  · subst hn
    exact ⟨0, 0, 0, 0, fun _ => 0, fun _ => 0, fun _ => 0, R.cell 0 _ rfl, R.cell 1 _ rfl, fun h => absurd h (by omega), fun h => absurd h (by omega), fun i h => absurd h (by omega), fun i h => absurd h (by omega), fun i k h => absurd h (by omega)⟩
  have hMl : M.length = n := by have := congrArg List.length hM; rw [rowsOf_len, mat_len] at this; exact this
  have hHl : H.length = n := by rw [hH]; exact vec_len _ _
  obtain ⟨b1, o1, e1, -, -⟩ := S1.int_at (i := 0) (by omega)
  have hS2 : SlR W (.slice A2 M.length c2) M := by rw [hMl]; exact S2
  obtain ⟨b2, o2, e2, -, -, -⟩ := hS2.row_at (i := 0) (by omega)
  have hrow : ∀ i, ∃ x : Nat × Nat × Nat, i < n → W.cell? ⟨b2, o2 + i, none⟩ = some (.slice (some ⟨x.1, x.2.1, none⟩) n x.2.2) ∧ ∀ k, k < n → W.cell? ⟨x.1, x.2.1 + k, none⟩ = some (.int .i64 (f i k)) := by
    intro i
    by_cases hi : i < n
    · obtain ⟨b, o, e3, -, hc, hr⟩ := hS2.row_at (i := i) (by omega)
      have e4 := e2.symm.trans e3
      injection e4 with e4
      injection e4 with e5 e6 _
      subst e5 e6
      have hl : M[i].2 = vec n (f i) := by
        have h1 : (rowsOf M)[i]'(by rw [rowsOf_len]; omega) = M[i].2 := by simp [rowsOf]
        rw [← h1]
        simp only [hM]
        exact mat_at _
      obtain ⟨Ar, cr, e7⟩ := hr.slice
      rw [e7] at hr hc
      rw [hl, vec_len] at hr hc
      obtain ⟨gr, og, e8, -, -⟩ := hr.int_at (i := 0) (by rw [vec_len]; omega)
      subst e8
      refine ⟨(gr, og, cr), fun _ => ⟨hc, fun k hk => ?_⟩⟩
      obtain ⟨g2, o3, e9, -, hk2⟩ := hr.int_at (i := k) (by rw [vec_len]; exact hk)
      injection e9 with e9
      injection e9 with e10 e11 _
      subst e10 e11
      rw [hk2, vec_at]
    · exact ⟨(0, 0, 0), fun h => absurd h hi⟩
  obtain ⟨F, hF⟩ := Classical.axiomOfChoice hrow
  refine ⟨b1, o1, b2, o2, fun i => (F i).1, fun i => (F i).2.1, fun i => (F i).2.2, R.cell 0 _ rfl, R.cell 1 _ rfl, fun _ => e1, fun _ => e2, fun i hi => ?_, fun i hi => (hF i hi).1, fun i k hi hk => (hF i hi).2 k hk⟩
  obtain ⟨b, o, e3, -, hc⟩ := S1.int_at (i := i) (by omega)
  have e4 := e1.symm.trans e3
  injection e4 with e4
  injection e4 with e5 e6 _
  subst e5 e6
  rw [hc]
  subst hH
  rw [vec_at]
/-- what is waited is little -/
theorem wait_bd {l : List THall} {H : List Int} {R : List (List Int)} (hH : HallsOk l H R) {T : List Int} (hT : tourOk l.length T = true) (hL : lateT l H R T = false) : ∀ k, k ≤ T.length → 0 ≤ waitTo l H R T k ∧ waitTo l H R T k ≤ 365 * k := by
  intro k
  induction k with
  | zero => intro _; exact ⟨Int.le_refl _, Int.le_refl _⟩
  | succ k ih =>
    intro hk
    have hk1 : k < T.length := by omega
    have hs : k < (showsT l H R startT T).length := by rw [showsT_len]; omega
    obtain ⟨h1, h2⟩ := ih (by omega)
    obtain ⟨j, e1, hj, -, h5, h6, h7, h8⟩ := tour_day hH hT hL hk1 hs
    rw [wait_step hk1 hs]
    have h9 := (hH.hall j hj).1
    have e2 : hallAt l T[k] = l.getD j (0, 0, 0) := by rw [e1]; unfold hallAt; simp
    rw [e2] at h5 h6
    have h10 : 0 ≤ thereT H R (runT l H R startT (T.take k)) T[k] := by
      cases k with
      | zero => rw [h7 rfl]; exact (hH.home j hj).1
      | succ m =>
        obtain ⟨q, e3, hq, e4⟩ := h8 m (by omega) (by rw [showsT_len]; omega) rfl
        rw [e4]
        have h11 := (hH.day q j hq hj).1
        obtain ⟨j', e5, hj', -, h12, -, -, -⟩ := tour_day hH hT hL (i := m) (by omega) (by rw [showsT_len]; omega)
        have e6 : hallAt l T[m] = l.getD j' (0, 0, 0) := by rw [e5]; unfold hallAt; simp
        rw [e6] at h12
        have h13 := (hH.hall j' hj').1
        omega
    omega
theorem nextR_two (l : List THall) (H : List Int) (R : List (List Int)) (T : List Int) (h : tcode l H R T ≠ 0) : nextR l H R T = ([], tcode l H R T) := by unfold nextR; rw [if_neg h]
theorem twR_two (l : List THall) (H : List Int) (R : List (List Int)) (T : List Int) (h : tcode l H R T ≠ 0) : twR l H R T = (0, tcode l H R T) := by unfold twR; rw [if_neg h]
end Go.Proofs.Ytlgcehdklpbknaa
