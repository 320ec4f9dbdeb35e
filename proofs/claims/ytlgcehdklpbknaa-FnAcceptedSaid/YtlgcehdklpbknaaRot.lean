/- In-place work on a row of hires: the worlds that a stable sort passes through, and swapRange; over any program that bears these bodies. No condition but that the row is held. -/
import Derived.Test.YtlgcehdklpbknaaSHire
import Derived.Test.YtlgcehdklpbknaaSrtI
import Derived.Test.YtlgcehdklpbknaaSrtL
import Derived.Shelf.SlSortCmp.InsertionK
namespace Go.Proofs.Ytlgcehdklpbknaa
open Go Go.RowKit Go.ChangeShapes Go.WideShapes Go.Shelf Go.Lib Go.Sort
set_option linter.unusedSimpArgs false
set_option linter.unusedVariables false
/-- what is asked of a program: the bodies of the stable sort at hires, their types (an element has k cells) -/
structure Lay (P : Program) (k : Nat) : Prop where
  mixed : P.follows .mixedOrders = true
  fsw : P.funcs[180]? = some Try.f180
  fro : P.funcs[173]? = some Try.f173
  fsm : P.funcs[156]? = some Try.f156
  t0 : P.underlying 0 = some (TypeDesc.tuple #[])
  a0 : ∀ w, (isAgg 0).run P w = .ok false w
  z0 : ∀ w, (Go.sizeOf 0).run P w = .ok 1 w
  v0 : ∀ w, (zeroValue 0).run P w = .ok (Value.tuple #[]) w
  ti : P.underlying 3 = some (TypeDesc.int IntKind.i64)
  ai : ∀ w, (isAgg 3).run P w = .ok false w
  zi : ∀ w, (Go.sizeOf 3).run P w = .ok 1 w
  vi : ∀ w, (zeroValue 3).run P w = .ok (Value.int IntKind.i64 0) w
  tb : P.underlying 4 = some (TypeDesc.bool)
  ab : ∀ w, (isAgg 4).run P w = .ok false w
  zb : ∀ w, (Go.sizeOf 4).run P w = .ok 1 w
  vb : ∀ w, (zeroValue 4).run P w = .ok (Value.bool false) w
  tu : P.underlying 168 = some (TypeDesc.int IntKind.u64)
  au : ∀ w, (isAgg 168).run P w = .ok false w
  zu : ∀ w, (Go.sizeOf 168).run P w = .ok 1 w
  vu : ∀ w, (zeroValue 168).run P w = .ok (Value.int IntKind.u64 0) w
  ts : P.underlying 64 = some (TypeDesc.slice 76)
  asl : ∀ w, (isAgg 64).run P w = .ok false w
  zs : ∀ w, (Go.sizeOf 64).run P w = .ok 1 w
  vs : ∀ w, (zeroValue 64).run P w = .ok (Value.slice none 0 0) w
  ah : ∀ w, (isAgg 76).run P w = .ok true w
  zh : ∀ w, (Go.sizeOf 76).run P w = .ok k w
  hk : ∀ x : THire, (eHire x).length = k
/-- a row of n hires is held in the world w -/
structure Row (k : Nat) (w : World) (blk off n : Nat) : Prop where
  lt : blk < w.heap.size
  held : ∃ d0 : List THire, d0.length = n ∧ HoldsK eHire k w blk off d0.toArray
  sm : n ≤ 40
/-- a world behind w: the row holds L, other blocks may have been laid behind -/
def St (k : Nat) (w : World) (blk off n : Nat) (L : List THire) (W : World) : Prop := L.length = n ∧ ∃ m os, W = sortWorldK eHire k w blk off m L.toArray os
theorem bang_at {L : List THire} {i : Nat} (hi : i < L.length) : L.toArray[i]! = L[i] := by rw [getElem!_pos _ _ (by simpa using hi)]; simp
theorem hire_one (x : THire) : ∀ v ∈ eHire x, v.oneCell' = true := by
  intro v hv
  simp [eHire] at hv
  rcases hv with rfl | rfl | rfl <;> rfl
theorem row_bound {i m k : Nat} (hi : i < m) : i * k + k ≤ m * k := by
  have := Nat.mul_le_mul_right k (show i + 1 ≤ m from hi)
  rwa [Nat.add_mul, Nat.one_mul] at this
section
variable {k : Nat} {w W : World} {blk off n : Nat} {L : List THire}
theorem St.len (h : St k w blk off n L W) : L.length = n := h.1
theorem St.holds (R : Row k w blk off n) (h : St k w blk off n L W) : HoldsK eHire k W blk off L.toArray := by
  obtain ⟨hl, m, os, rfl⟩ := h
  obtain ⟨d0, e0, h0⟩ := R.held
  exact holdsK_sortWorldK_c eHire k w blk off d0.toArray L.toArray m os h0 R.lt (by simp; omega)
theorem St.class (h : St k w blk off n L W) (q : Nat) (os' : Array Obj) : St k w blk off n L (grow (W.drewN q) os') := by
  obtain ⟨hl, m, os, rfl⟩ := h
  exact ⟨hl, _, _, sortWorldK_grown_c eHire k w blk off m q L.toArray os os'⟩
theorem St.drewN (h : St k w blk off n L W) (q : Nat) : St k w blk off n L (W.drewN q) := by
  have := h.class q #[]
  rwa [grow_empty] at this
theorem St.drew (h : St k w blk off n L W) : St k w blk off n L W.drew := h.drewN 1
theorem St.start (h : HoldsK eHire k w blk off L.toArray) (hl : L.length = n) : St k w blk off n L w := by
  refine ⟨hl, 0, #[], ?_⟩
  unfold sortWorldK
  rw [grow_empty]
  exact (putRowK_self eHire k w blk off _ h).symm
theorem St.load (P : Program) (hk : ∀ x : THire, (eHire x).length = k) (R : Row k w blk off n) (h : St k w blk off n L W) {i : Nat} (hi : i < L.length) : Sem.run P (loadCellsFrom ⟨blk, off + i * k, none⟩ 0 k #[]) W = .ok (eHire L[i]).toArray W := by
  rw [← bang_at hi]
  exact run_loadCellsFrom_list P _ _ _ k (hk _) (HoldsK.cells (h.holds R) hk (by simpa using hi))
theorem St.store1 (P : Program) (hk : ∀ x : THire, (eHire x).length = k) (R : Row k w blk off n) (h : St k w blk off n L W) {i : Nat} (hi : i < L.length) (x : THire) :
    Sem.run P (storeCells ⟨blk, off + i * k, none⟩ (eHire x) 0) W = .ok () (W.setCells blk (off + i * k) (eHire x)) :=
  stores_of_holds P (h.holds R) (i * k) _ (by rw [hk, size_flatK]; simpa using row_bound hi) (hire_one x)
theorem St.store2 (P : Program) (hk : ∀ x : THire, (eHire x).length = k) (R : Row k w blk off n) (h : St k w blk off n L W) {i j : Nat} (hi : i < L.length) (hj : j < L.length) (x y : THire) :
    Sem.run P (storeCells ⟨blk, off + j * k, none⟩ (eHire y) 0) (W.setCells blk (off + i * k) (eHire x)) = .ok () ((W.setCells blk (off + i * k) (eHire x)).setCells blk (off + j * k) (eHire y)) :=
  stores_of_holds P (holds_setCells_c (h.holds R) (i * k) _ (by rw [hk, size_flatK]; simpa using row_bound hi)) (j * k) _ (by rw [hk, size_setMany, size_flatK]; simpa using row_bound hj) (hire_one y)
/-- two elements change places -/
def swpL (L : List THire) (i j : Nat) : List THire := (swp L.toArray i j).toList
theorem St.swap (hk : ∀ x : THire, (eHire x).length = k) (R : Row k w blk off n) (h : St k w blk off n L W) {i j : Nat} (hi : i < L.length) (hj : j < L.length) :
    St k w blk off n (swpL L i j) ((W.drew.setCells blk (off + i * k) (eHire L[j])).setCells blk (off + j * k) (eHire L[i])) := by
  obtain ⟨hl, m, os, rfl⟩ := h
  refine ⟨by unfold swpL; rw [Array.length_toList, size_swp]; simpa using hl, m + 1, os, ?_⟩
  have := sortWorldK_swp_c eHire k w blk off hk m L.toArray os R.lt i j (by simpa using hi) (by simpa using hj)
  rw [bang_at hi, bang_at hj] at this
  unfold swpL
  simpa using this
theorem swpL_mid (A B C : List THire) (x y : THire) : swpL (A ++ x :: (B ++ y :: C)) A.length (A.length + 1 + B.length) = A ++ y :: (B ++ x :: C) := by
  have e1 : (A ++ x :: (B ++ y :: C)).toArray[A.length]! = x := by rw [bang_at (by simp)]; simp
  have e2 : (A ++ x :: (B ++ y :: C)).toArray[A.length + 1 + B.length]! = y := by
    rw [bang_at (by simp; omega), List.getElem_append_right (by omega)]
    have : A.length + 1 + B.length - A.length = B.length + 1 := by omega
    simp [this]
  have hn : ¬ (A.length + 1 + B.length < A.length) := by omega
  unfold swpL swp
  rw [e1, e2]
  simp [List.set_append, hn, show A.length + 1 + B.length - A.length = B.length + 1 by omega]
theorem mid_x (A B C : List THire) (x y : THire) (h : A.length < (A ++ x :: (B ++ y :: C)).length) : (A ++ x :: (B ++ y :: C))[A.length] = x := by simp
theorem mid_y (A B C : List THire) (x y : THire) (h : A.length + 1 + B.length < (A ++ x :: (B ++ y :: C)).length) : (A ++ x :: (B ++ y :: C))[A.length + 1 + B.length] = y := by
  rw [List.getElem_append_right (by omega)]
  simp [show A.length + 1 + B.length - A.length = B.length + 1 by omega]
end
/-- swapRange behind i steps -/
def swR (P X M Y C : List THire) (i : Nat) : List THire := (P ++ Y.take i) ++ (X.drop i ++ M ++ X.take i) ++ (Y.drop i ++ C)
theorem swR_zero (P X M Y C : List THire) : swR P X M Y C 0 = P ++ (X ++ (M ++ (Y ++ C))) := by simp [swR]
theorem swR_end {P X M Y C : List THire} (h : X.length = Y.length) : swR P X M Y C X.length = P ++ (Y ++ (M ++ (X ++ C))) := by
  unfold swR
  rw [List.take_length, List.drop_length, h, List.take_length, List.drop_length]
  simp
theorem swR_at {P X M Y C : List THire} {i : Nat} (h : X.length = Y.length) (hi : i < X.length) : swR P X M Y C i = (P ++ Y.take i) ++ X[i] :: ((X.drop (i + 1) ++ M ++ X.take i) ++ Y[i]'(by omega) :: (Y.drop (i + 1) ++ C)) := by
  unfold swR
  rw [List.drop_eq_getElem_cons hi, List.drop_eq_getElem_cons (show i < Y.length by omega)]
  simp only [List.append_assoc, List.cons_append, List.nil_append]
theorem swR_succ {P X M Y C : List THire} {i : Nat} (h : X.length = Y.length) (hi : i < X.length) : swR P X M Y C (i + 1) = (P ++ Y.take i) ++ (Y[i]'(by omega)) :: ((X.drop (i + 1) ++ M ++ X.take i) ++ X[i] :: (Y.drop (i + 1) ++ C)) := by
  unfold swR
  rw [List.take_succ_eq_append_getElem hi, List.take_succ_eq_append_getElem (show i < Y.length by omega)]
  simp only [List.append_assoc, List.cons_append, List.nil_append]
theorem swR_len {P X M Y C : List THire} {i : Nat} (h : X.length = Y.length) (hi : i ≤ X.length) : (swR P X M Y C i).length = P.length + X.length + M.length + X.length + C.length := by
  unfold swR
  simp
  omega
set_option maxRecDepth 1000000 in
set_option maxHeartbeats 4000000 in
theorem swapR_fn {Pr : Program} {z : Nat} (L : Lay Pr z) {w : World} {blk off n : Nat} (R : Row z w blk off n) (cap : Nat) (fv : Value) (P X M Y C : List THire) (hl : X.length = Y.length) (W : World) (h : St z w blk off n (P ++ (X ++ (M ++ (Y ++ C)))) W) (a b i : Nat) (ha : a = P.length) (hb : b = P.length + X.length + M.length) (hi : i = X.length) :
    Calls Pr 180 #[.slice (some ⟨blk, off, none⟩) n cap, .int .i64 a, .int .i64 b, .int .i64 i, fv] W fun e w' => e = .returned (.tuple #[]) ∧ St z w blk off n (P ++ (Y ++ (M ++ (X ++ C)))) w' := by
  have mixed := L.mixed; have t0 := L.t0; have a0 := L.a0; have z0 := L.z0; have v0 := L.v0; have ti := L.ti; have ai := L.ai; have zi := L.zi; have vi := L.vi; have tb := L.tb; have ab := L.ab; have zb := L.zb; have vb := L.vb; have ts := L.ts; have asl := L.asl; have zs := L.zs; have vs := L.vs; have ah := L.ah; have zh := L.zh
  have us := run_underlying L.ts
  have HK := hd L.hk
  have HS := hd h
  have hn := R.sm
  have HR := hd R
  have hnl : P.length + X.length + M.length + X.length + C.length = n := by have := h.len; simp at this; omega
  have HNL := hd hnl
  have ha' : a + i ≤ n := by omega
  have hb' : b + i ≤ n := by omega
  have HA := hd ha
  have HB := hd hb
  have HI := hd hi
  have HF := L.fsw
  clear h R hnl ha hb hi L
  go_enter HF, Try.ntmps180
  clear HF
  go_wp2_with fail
  go_loopw [10] (fun kv wr => ∃ k : Nat, k ≤ i ∧ kv = .int .i64 k ∧ Hid (St z w blk off n (swR P X M Y C k) wr)) (fun kv _ => i - (intOf kv).toNat)
  case atStart => exact ⟨0, Nat.zero_le _, rfl, hd (by rw [swR_zero]; exact HS.out)⟩
  case round =>
    obtain ⟨k, hk, rfl, HW⟩ := hrel
    clear HS
    by_cases hki : k < i
    · have hkx : k < X.length := by rw [← HI.out]; exact hki
      have hky : k < Y.length := by omega
      have HE := hd (swR_at (P := P) (M := M) (C := C) hl hkx)
      have HT := hd (swR_succ (P := P) (M := M) (C := C) hl hkx)
      have HP : Hid ((P ++ Y.take k).length = a + k) := hd (by have := HA.out; simp; omega)
      have HQ : Hid ((P ++ Y.take k).length + 1 + (X.drop (k + 1) ++ M ++ X.take k).length = b + k) := hd (by have := HB.out; have := HI.out; simp; omega)
      generalize X[k] = x at HE HT
      generalize Y[k] = y at HE HT
      generalize P ++ Y.take k = A1 at HE HT HP HQ
      generalize X.drop (k + 1) ++ M ++ X.take k = B1 at HE HT HQ
      generalize Y.drop (k + 1) ++ C = C1 at HE HT
      replace HW := hd (show St z w blk off n (A1 ++ x :: (B1 ++ y :: C1)) wr from HE.out ▸ HW.out)
      clear HE
      have l1 : A1.length < (A1 ++ x :: (B1 ++ y :: C1)).length := by simp
      have l2 : A1.length + 1 + B1.length < (A1 ++ x :: (B1 ++ y :: C1)).length := by simp; omega
      have hpa : A1.length = a + k := HP.out
      have hqa : A1.length + 1 + B1.length = b + k := HQ.out
      have lx := HW.out.drew.load Pr HK.out HR.out l1
      have ly := HW.out.drew.load Pr HK.out HR.out l2
      rw [mid_x] at lx
      rw [mid_y] at ly
      have s1 := HW.out.drew.store1 Pr HK.out HR.out l1 y
      have s2 := HW.out.drew.store2 Pr HK.out HR.out l1 l2 y x
      have HN := hd (HW.out.swap HK.out HR.out l1 l2)
      rw [mid_x, mid_y, swpL_mid, ← HT.out] at HN
      rw [hqa] at ly s2 HN
      rw [hpa] at lx s1 s2 HN
      have hsx := HK.out x
      have hsy := HK.out y
      clear l1 l2 hpa hqa HP HQ HT HW
      generalize eHire x = cx at lx s2 hsx HN
      generalize eHire y = cy at ly s1 s2 hsy HN
      have q1 : (0 : Int) ≤ (a : Int) + (k : Int) := by omega
      have q2 : (a : Int) + (k : Int) < (n : Int) := by omega
      have q3 : ((a : Int) + (k : Int)).toNat = a + k := by omega
      have r1 : (0 : Int) ≤ (b : Int) + (k : Int) := by omega
      have r2 : (b : Int) + (k : Int) < (n : Int) := by omega
      have r3 : ((b : Int) + (k : Int)).toNat = b + k := by omega
      go_wp2_with fail
      go_big_region_o
      all_goals go_wp2_with fail
      exact ⟨⟨k + 1, by omega, by go_num, HN⟩, by simp [intOf]; omega⟩
    · obtain rfl : k = i := by omega
      go_wp2_with fail
      go_end0
      exact ⟨rfl, by rw [← swR_end hl, ← HI.out]; exact HW.out⟩
set_option maxRecDepth 1000000 in
set_option maxHeartbeats 4000000 in
theorem rot_fn {Pr : Program} {z : Nat} (L : Lay Pr z) {w : World} {blk off n : Nat} (R : Row z w blk off n) (cap : Nat) (fv : Value) (A U V C : List THire) (hU : 0 < U.length) (hV : 0 < V.length) (W : World) (h : St z w blk off n (A ++ (U ++ (V ++ C))) W) (a m b : Nat) (ha : a = A.length) (hm : m = A.length + U.length) (hb : b = A.length + U.length + V.length) :
    Calls Pr 173 #[.slice (some ⟨blk, off, none⟩) n cap, .int .i64 a, .int .i64 m, .int .i64 b, fv] W fun e w' => e = .returned (.tuple #[]) ∧ St z w blk off n (A ++ (V ++ (U ++ C))) w' := by
  have mixed := L.mixed; have t0 := L.t0; have a0 := L.a0; have z0 := L.z0; have v0 := L.v0; have ti := L.ti; have ai := L.ai; have zi := L.zi; have vi := L.vi; have tb := L.tb; have ab := L.ab; have zb := L.zb; have vb := L.vb; have ts := L.ts; have asl := L.asl; have zs := L.zs; have vs := L.vs; have ah := L.ah; have zh := L.zh
  have us := run_underlying L.ts
  have HL := hd L
  have HS := hd h
  have hn := R.sm
  have HR := hd R
  have hbn : b ≤ n := by have := h.len; simp at this; omega
  have e1 : (m : Int) - (a : Int) = ((U.length : Nat) : Int) := by omega
  have e2 : (b : Int) - (m : Int) = ((V.length : Nat) : Int) := by omega
  have HF := L.fro
  have HAL := hd ha
  have esw : ∀ args w, (callFunc 180 args).run Pr w = .ok (.enter 180 args) w := enters_of L.fsw (by kernel_rfl) rfl
  have ham : a < m := by omega
  have hmb : m < b := by omega
  have HUL := hd (show a + U.length = m ∧ m + V.length = b by omega)
  clear h R L ha hm hb
  go_enter HF, Try.ntmps173
  clear HF
  go_wp2_with fail
  go_loopw [10, 11] (fun iv jv wr => ∃ (i j : Nat) (P U' V' Q : List THire), iv = .int .i64 i ∧ jv = .int .i64 j ∧ 0 < i ∧ 0 < j ∧ i ≤ m ∧ m + j ≤ n ∧ Hid (i = U'.length ∧ j = V'.length ∧ P.length + i = m) ∧ Hid (St z w blk off n (P ++ (U' ++ (V' ++ Q))) wr) ∧ Hid (P ++ (V' ++ (U' ++ Q)) = A ++ (V ++ (U ++ C)))) (fun iv jv _ => (intOf iv).toNat + (intOf jv).toNat)
  case atStart => exact ⟨U.length, V.length, A, U, V, C, rfl, rfl, hU, hV, by have := HUL.out; omega, by have := HUL.out; omega, hd ⟨rfl, rfl, by have := HUL.out; have := HAL.out; omega⟩, HS, hd rfl⟩
  case round =>
    obtain ⟨i, j, P, U', V', Q, rfl, rfl, hi, hj, him, hjm, HN, HW, HE⟩ := hrel
    clear HS e1 e2
    have e3 : (m : Int) - (i : Int) = ((m - i : Nat) : Int) := by omega
    by_cases hij : i = j
    · subst hij
      have hne : ((i : Int) != (i : Int)) = false := by simp
      have HC := hd (swapR_fn HL.out HR.out cap fv P U' [] V' Q (by have := HN.out; omega) wr HW.out (m - i) m i (by have := HN.out; omega) (by have := HN.out; simp; omega) (by have := HN.out; omega))
      go_wp2_with fail
      refine HC.out.mono ?_
      rintro e w2 ⟨rfl, hs⟩
      have HS2 := hd hs
      clear hs HC
      go_wp2_with fail
      go_end0
      exact ⟨rfl, by rw [← HE.out]; exact HS2.out⟩
    · have hne : ((i : Int) != (j : Int)) = true := by simp; omega
      by_cases hji : j < i
      · obtain ⟨X, U2, hX, rfl⟩ : ∃ X U2, X.length = j ∧ U' = X ++ U2 := ⟨U'.take j, U'.drop j, by have := HN.out; simp; omega, (List.take_append_drop j U').symm⟩
        have HX := hd hX
        have HU2 := hd (show U2.length = i - j by have := HN.out; simp at this; omega)
        have HC := hd (swapR_fn HL.out HR.out cap fv P X U2 V' Q (by have := HN.out; have := HX.out; omega) wr (by have := HW.out; simpa using this) (m - i) m j (by have := HN.out; omega) (by have := HN.out; simp at this; omega) (by have := HX.out; omega))
        clear hX
        have e4 : (i : Int) - (j : Int) = ((i - j : Nat) : Int) := by omega
        go_wp2_with fail
        refine HC.out.mono ?_
        rintro e w2 ⟨rfl, hs⟩
        have HS2 := hd hs
        clear hs HC
        go_wp2_with fail
        go_roundw
        case rel => exact ⟨i - j, j, P ++ V', U2, X, Q, rfl, rfl, by omega, hj, by omega, hjm, hd ⟨HU2.out.symm, HX.out.symm, by have := HN.out; simp; omega⟩, hd (by have := HS2.out; simpa using this), hd (by have := HE.out; simpa using this)⟩
        case measure => simp only [intOf]; omega
      · have hij2 : i < j := by omega
        obtain ⟨V1, Y, hY, rfl⟩ : ∃ V1 Y, Y.length = i ∧ V' = V1 ++ Y := ⟨V'.take (j - i), V'.drop (j - i), by have := HN.out; simp; omega, (List.take_append_drop (j - i) V').symm⟩
        have HY := hd hY
        have HV1 := hd (show V1.length = j - i by have := HN.out; simp at this; omega)
        have HC := hd (swapR_fn HL.out HR.out cap fv P U' V1 Y Q (by have := HN.out; have := HY.out; omega) wr (by have := HW.out; simpa using this) (m - i) (m + j - i) i (by have := HN.out; omega) (by have := HN.out; have := HV1.out; omega) (by have := HN.out; omega))
        clear hY
        have e4 : (j : Int) - (i : Int) = ((j - i : Nat) : Int) := by omega
        have e5 : (m : Int) + (j : Int) - (i : Int) = ((m + j - i : Nat) : Int) := by omega
        go_wp2_with fail
        refine HC.out.mono ?_
        rintro e w2 ⟨rfl, hs⟩
        have HS2 := hd hs
        clear hs HC
        go_wp2_with fail
        go_roundw
        case rel => exact ⟨i, j - i, P, Y, V1, U' ++ Q, rfl, rfl, hi, by omega, him, by omega, hd ⟨HY.out.symm, HV1.out.symm, by have := HN.out; omega⟩, hd (by have := HS2.out; simpa using this), hd (by have := HE.out; simpa using this)⟩
        case measure => simp only [intOf]; omega
end Go.Proofs.Ytlgcehdklpbknaa
