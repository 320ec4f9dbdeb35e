/- Lemmas for the claim (the walks of its functions and their plain laws), joined. No condition. -/
import Derived.Test.YtgcodjkjdfahdaaGreatDoorJ31
import Derived.Test.YtgcodjkjdfahdaaGreatDoorJ29
import Derived.Test.YtgcodjkjdfahdaaGreatDoorShelfQ
namespace Go.Proofs.YtgcodjkjdfahdaaGreatDoor
open Go Go.RowKit Go.ChangeShapes Go.WideShapes
set_option linter.unusedSimpArgs false
set_option linter.unusedVariables false
theorem kgrown_set (W : World) (a : Addr) (v : Value) : W.grownBy (W.setCell a v) (some a.block) :=
  ⟨rfl, rfl, rfl, (KeepsWalks.setCell W _ v).size, fun k _ hk => Below.heap_setCell _ _ _ k (fun e => hk (by rw [e]))⟩
def okShow (s : ByteArray) : Bool := lettersB s && decide (s.size ≤ 40)
theorem show_bad {s : ByteArray} {k : Nat} (hk : k < s.size) (h : smallN (s.get! k).toNat = false) : okShow s = false := by
  unfold okShow lettersB
  rw [allTo_false hk h]
  rfl
theorem show_all {s : ByteArray} (h : ∀ i, i < s.size → smallN (s.get! i).toNat = true) : okShow s = decide (s.size ≤ 40) := by
  unfold okShow lettersB
  rw [allTo_true h]
  rfl
theorem okShow_bd {s : ByteArray} (h : okShow s = true) : s.size ≤ 40 ∧ ∀ x ∈ s.data.toList, x ≠ 0 := by
  unfold okShow at h
  rw [Bool.and_eq_true] at h
  refine ⟨of_decide_eq_true h.2, fun x hx => ?_⟩
  have h1 := allTo_get h.1
  obtain ⟨i, hi, rfl⟩ := List.getElem_of_mem hx
  have hi' : i < s.size := by rw [list_size] at hi; exact hi
  have h2 := h1 i hi'
  rw [get_bang s i hi'] at h2
  intro e
  have e2 : s[i] = 0 := e
  rw [e2] at h2
  revert h2
  decide
def showC (s : ByteArray) (n : Int) : Int := if okShow s then (if inB n 1 6 then 0 else 2) else 1
theorem showC_bad {s : ByteArray} {n : Int} (h : okShow s = false) : showC s n = 1 := by unfold showC; rw [h]; rfl
theorem showC_range {s : ByteArray} {n : Int} (h : okShow s = true) (h2 : inB n 1 6 = false) : showC s n = 2 := by unfold showC; rw [h, h2]; rfl
theorem showC_good {s : ByteArray} {n : Int} (h : okShow s = true) (h2 : inB n 1 6 = true) : showC s n = 0 := by unfold showC; rw [h, h2]; rfl
theorem showC_zero {s : ByteArray} {n : Int} (h0 : showC s n = 0) : okShow s = true ∧ inB n 1 6 = true := by
  rcases h1 : okShow s with _ | _
  · rw [showC_bad h1] at h0; cases h0
  rcases h2 : inB n 1 6 with _ | _
  · rw [showC_range h1 h2] at h0; cases h0
  exact ⟨rfl, rfl⟩
def loadN (l : List UInt8) (n : Nat) : Int := (cntTo l n (planTo l n l.length).2 l.length).2
def loadR (s : ByteArray) (n : Int) : Int × Int := if showC s n = 0 then (loadN s.data.toList n.toNat, 0) else (0, showC s n)
theorem loadR_bad {s : ByteArray} {n c : Int} (h : showC s n = c) (hc : c ≠ 0) : loadR s n = (0, c) := by unfold loadR; rw [h, if_neg hc]
theorem loadR_good {s : ByteArray} {n : Int} (h : showC s n = 0) : loadR s n = (loadN s.data.toList n.toNat, 0) := by unfold loadR; rw [if_pos h]
theorem loadR_bd (s : ByteArray) (n : Int) : 0 ≤ (loadR s n).1 ∧ (loadR s n).1 ≤ 40 := by
  by_cases h : showC s n = 0
  · rw [loadR_good h]
    have h1 := (okShow_bd (showC_zero h).1).1
    have h2 := cntTo_bd s.data.toList n.toNat (planTo s.data.toList n.toNat s.data.toList.length).2 s.data.toList.length
    have h3 := list_size s
    unfold loadN
    simp only
    omega
  · rw [loadR_bad rfl h]; simp
theorem indexByte_find (l : List UInt8) (c : UInt8) : Lib.indexByte l c = if l.findIdx (· == c) < l.length then ((l.findIdx (· == c) : Nat) : Int) else -1 := by
  induction l with
  | nil => simp [Lib.indexByte]
  | cons b l ih =>
    rcases h : b == c with _ | _
    · have e1 : List.findIdx (· == c) (b :: l) = List.findIdx (· == c) l + 1 := by rw [List.findIdx_cons, h]; rfl
      have e2 : Lib.indexByte (b :: l) c = if Lib.indexByte l c == -1 then -1 else Lib.indexByte l c + 1 := by simp only [Lib.indexByte, h, Bool.false_eq_true, if_false]
      rw [e1, e2, ih, List.length_cons]
      by_cases h2 : List.findIdx (· == c) l < l.length
      · rw [if_pos h2, if_neg (show ¬ ((((List.findIdx (· == c) l : Nat) : Int) == -1) = true) by simp), if_pos (show List.findIdx (· == c) l + 1 < l.length + 1 by omega)]
        simp
      · rw [if_neg h2, if_neg (show ¬ List.findIdx (· == c) l + 1 < l.length + 1 by omega)]
        rfl
    · have e1 : List.findIdx (· == c) (b :: l) = 0 := by rw [List.findIdx_cons, h]; rfl
      have e2 : Lib.indexByte (b :: l) c = 0 := by simp only [Lib.indexByte, h, if_true]
      rw [e1, e2]
      simp
theorem drop_list (s : ByteArray) (i : Nat) : (s.extract i s.size).data.toList = s.data.toList.drop i := by
  rw [Lib.extract_data, List.take_of_length_le]
  rw [List.length_drop, list_size]
  exact Nat.le_refl _
theorem index_next (s : ByteArray) (i : Nat) (c : UInt8) : Lib.indexByte (s.extract i s.size).data.toList c = if s.data.toList.length - i ≤ nextN s.data.toList i c then -1 else ((nextN s.data.toList i c : Nat) : Int) := by
  rw [indexByte_find, drop_list, List.length_drop]
  unfold nextN
  by_cases h : (s.data.toList.drop i).findIdx (· == c) < s.data.toList.length - i
  · rw [if_pos h, if_neg (by omega)]
  · rw [if_neg h, if_pos (by omega)]
def idxU (c : UInt8) (m : List UInt8) : Int := if posU c m < m.length then ((posU c m : Nat) : Int) else -1
theorem posU_ge {c : UInt8} {m : List UInt8} {k : Nat} (hk : k < m.length) (h : k ≤ posU c m) (hne : m[k] ≠ c) : k + 1 ≤ posU c m := by
  rcases Nat.lt_or_ge k (posU c m) with h1 | h1
  · exact h1
  · exfalso
    have e : posU c m = k := by omega
    have h2 : posU c m < m.length := by omega
    have h3 := List.findIdx_getElem (xs := m) (p := (· == c)) (w := h2)
    have h4 : m[posU c m]'h2 = c := eq_of_beq h3
    exact hne (by simpa [e] using h4)
theorem posU_at {c : UInt8} {m : List UInt8} {k : Nat} (hk : k < m.length) (h : k ≤ posU c m) (he : m[k] = c) : posU c m = k := by
  rcases Nat.lt_or_ge k (posU c m) with h1 | h1
  · exfalso
    have := List.not_of_lt_findIdx (p := (· == c)) (xs := m) (i := k) h1
    simp [he] at this
  · omega
set_option maxRecDepth 100000 in
set_option maxHeartbeats 8000000 in
theorem letters40_impl (w : World) (s : ByteArray) (hs : s.size ≤ 1048576) (h0 : 1 ≤ s.size) : Calls Tryz.prog 120 #[.string s, .int .i64 40] w fun e w' => e = .returned (.bool (okShow s)) ∧ w' = w := by
  go_enter Tryz.func120, Tryz.ntmps120
  go_wp2_with fail
  go_loop [5] (fun i => ∃ k : Nat, k ≤ s.size ∧ i = .int .i64 k ∧ Hid (∀ j, j < k → smallN (s.get! j).toNat = true)) (fun i => s.size - (intOf i).toNat)
  case atStart => exact ⟨0, Nat.zero_le _, rfl, hd (fun j hj => absurd hj (Nat.not_lt_zero _))⟩
  case round =>
    obtain ⟨k, hk, rfl, HT⟩ := hrel
    by_cases hlt : k < s.size
    · have GK := hd (get_bang s k hlt)
      rcases h3 : smallN (s.get! k).toNat with _ | _
      · have HR := hd (show_bad hlt h3)
        rw [GK.out] at h3
        rcases small_cases h3 with q | q
        all_goals
          clear h3
          go_wp2_with fail
          go_ret
          exact ⟨by rw [HR.out]; rfl, rfl⟩
      · have HN := hd (show ∀ j, j < k + 1 → smallN (s.get! j).toNat = true from fun j hj => by
          by_cases e : j = k
          · subst e; exact h3
          · exact HT.out j (by omega))
        rw [GK.out] at h3
        obtain ⟨q1, q2⟩ := small_true h3
        clear h3
        go_wp2_with fail
        go_round
        case rel => exact ⟨k + 1, by omega, by go_num, HN⟩
        case measure => simp [intOf]; omega
    · obtain rfl : k = s.size := by omega
      have HR := hd (show_all HT.out)
      have HI := hd (show decide (s.size ≤ 40) = decide ((s.size : Int) ≤ 40) from decide_eq_decide.2 (by omega))
      go_wp2_with fail
      go_ret
      exact ⟨by rw [HR.out, HI.out]; rfl, rfl⟩
set_option maxRecDepth 100000 in
set_option maxHeartbeats 8000000 in
theorem show_impl (w : World) (s : ByteArray) (hs : s.size ≤ 1048576) : Calls Tryz.prog 198 #[.string s] w fun e w' => e = .returned (.bool (okShow s)) ∧ w' = w := by
  by_cases h0 : s.size = 0
  · have hz : s = ⟨#[]⟩ := by
      apply ByteArray.ext
      exact Array.eq_empty_of_size_eq_zero h0
    subst hz
    go_enter Tryz.func198, Tryz.ntmps198
    go_wp2_with fail
    go_ret
    exact ⟨rfl, rfl⟩
  have h1 : s.toList.isEmpty = false := notEmpty_of_size (by omega)
  have h1' : (!s.toList.isEmpty) = true := by rw [h1]; rfl
  go_enter Tryz.func198, Tryz.ntmps198
  go_wp2_with (go_at_call 120; refine (letters40_impl _ _ hs (by omega)).mono ?_; rintro e w1 ⟨rfl, hw⟩; have hw := hw.symm; subst hw)
  go_ret
  exact ⟨rfl, rfl⟩
set_option maxRecDepth 100000 in
set_option maxHeartbeats 8000000 in
theorem showC_impl (w : World) (s : ByteArray) (hs : s.size ≤ 1048576) (n : Int) : Calls Tryz.prog 142 #[.string s, .int .i64 n] w fun e w' => e = .returned (.int .i64 (showC s n)) ∧ w' = w := by
  rcases h1 : okShow s with _ | _
  · have HR := hd (showC_bad (n := n) h1)
    go_enter Tryz.func142, Tryz.ntmps142
    go_wp2_with fail
    refine (show_impl _ _ hs).mono ?_
    rintro e ww ⟨rfl, hw⟩
    have hw := hw.symm
    subst hw
    rw [h1]
    go_wp2_with fail
    go_ret
    exact ⟨by rw [HR.out]; rfl, rfl⟩
  rcases h2 : inB n 1 6 with _ | _
  all_goals
    have HR := hd (show showC s n = _ by first | exact showC_range h1 h2 | exact showC_good h1 h2)
    go_enter Tryz.func142, Tryz.ntmps142
    go_wp2_with fail
    refine (show_impl _ _ hs).mono ?_
    rintro e ww ⟨rfl, hw⟩
    have hw := hw.symm
    subst hw
    rw [h1]
    go_wp2_with fail
    refine (in_impl _ _ _ _).mono ?_
    rintro e ww ⟨rfl, hw⟩
    have hw := hw.symm
    subst hw
    rw [h2]
    go_wp2_with fail
    go_ret
    exact ⟨by rw [HR.out]; rfl, rfl⟩
set_option maxRecDepth 100000 in
set_option maxHeartbeats 8000000 in
theorem indexU_impl (w : World) (v : Value) (m : List UInt8) (h : Sl w 1 v eU m) (c : UInt8) :
    Calls Tryz.prog 199 #[v, .int .u8 (c.toNat : Int)] w fun e w' => e = .returned (.int .i64 (idxU c m)) ∧ w' = w := by
  have m1 := h.len
  obtain ⟨A, cc, rfl⟩ := h.isSlice
  go_enter Tryz.func199, Tryz.ntmps199
  go_wp2_with fail
  go_loop [8] (fun i => ∃ k : Nat, k ≤ m.length ∧ i = .int .i64 k ∧ Hid (k ≤ posU c m)) (fun i => m.length - (intOf i).toNat)
  case atStart => exact ⟨0, Nat.zero_le _, rfl, hd (Nat.zero_le _)⟩
  case round =>
    obtain ⟨k, hk, rfl, HT⟩ := hrel
    by_cases hlt : k < m.length
    · obtain ⟨b, o, x, hx, hA, -, hc⟩ := h.at_ hlt
      subst hA
      have hxe : x = m[k] := by rw [List.getElem?_eq_getElem hlt] at hx; exact (Option.some.inj hx).symm
      subst hxe
      have hcell := hc 0 _ rfl
      rw [Nat.mul_one, Nat.add_zero] at hcell
      have HP := hd (fun q => posU_at hlt HT.out q)
      have HG := hd (fun q => posU_ge hlt HT.out q)
      clear hc hx
      generalize m[k] = x at hcell HP HG
      by_cases q : x = c
      · have HE := hd (show idxU c m = (k : Int) by unfold idxU; rw [HP.out q, if_pos hlt])
        subst q
        go_wp2_with fail
        go_ret
        exact ⟨by rw [HE.out]; rfl, rfl⟩
      · have HN := hd (HG.out q)
        have kq : (((c.toNat : Nat) : Int) == ((x.toNat : Nat) : Int)) = false := by
          simp only [beq_eq_false_iff_ne, ne_eq]
          intro e
          exact q (UInt8.toNat_inj.1 (by omega))
        clear q HP HG
        go_wp2_with fail
        go_round
        case rel => exact ⟨k + 1, by omega, by go_num, HN⟩
        case measure => simp [intOf]; omega
    · have HE := hd (show idxU c m = -1 by unfold idxU; rw [if_neg (by have := HT.out; omega)])
      go_wp2_with fail
      go_ret
      exact ⟨by rw [HE.out]; rfl, rfl⟩
theorem index0_impl (w : World) (v : Value) (m : List UInt8) (h : Sl w 1 v eU m) :
    Calls Tryz.prog 199 #[v, .int .u8 0] w fun e w' => e = .returned (.int .i64 (idxU 0 m)) ∧ w' = w := indexU_impl w v m h 0
theorem mk_bytes (n : Nat) (hn : n ≤ 1000) (w : World) : (Instr.makeSlice 22 (.int .i64 (n : Int)) (.int .i64 (n : Int))).run Tryz.prog w = .ok (.slice (some ⟨w.heap.size, 0, none⟩) n n) (w.alloc (.cells (madeCells #[.int .u8 0] (n * 1)) 5)) := by
  obtain ⟨i0, hi, hz0, hz1, hz2⟩ := info_parts info_u8
  have hr := run_make (P := Tryz.prog) w 22 5 i0 (.int .u8 0) Tryz.underlying22 hi hz0 .i64 .i64 n n (by omega) (Int.le_refl _) (by rw [hz2]; omega) (by omega)
  simp only [Int.toNat_natCast, hz1] at hr
  exact hr
theorem own_bytes (w : World) (B n : Nat) (E : TypeId) (hB : B ≤ w.heap.size) (hn : n ≤ 1000) : Own (w.alloc (.cells (madeCells #[.int .u8 0] n) E)) B E 1 (.slice (some ⟨w.heap.size, 0, none⟩) n n) eU (List.replicate n 0) :=
  made_bytes _ _ _ _ _ (World.ownsRow_lit (size := 1) (e := E) w (madeCells #[.int .u8 0] n) n hB (by unfold maxLen; omega) (by rw [size_madeCells, Nat.mul_one]))
set_option maxRecDepth 100000 in
set_option maxHeartbeats 16000000 in
theorem plan_impl (w : World) (s : ByteArray) (hs : s.size ≤ 40) (n : Nat) (hn : 1 ≤ n ∧ n ≤ 6) :
    Calls Tryz.prog 144 #[.string s, .int .i64 (n : Int)] w (GivesOwn w 2 1 eI (planTo s.data.toList n s.size).2) := by
  obtain ⟨i0, hi, hz0, hz1, hz2⟩ := info_parts info_i64
  have hmk := mk_bytes n (by omega)
  obtain ⟨B, hB⟩ : ∃ B, B = w.heap.size := ⟨_, rfl⟩
  have HBE := hd hB
  have HB := hd (show B ≤ w.heap.size by omega)
  clear hB
  go_enter Tryz.func144, Tryz.ntmps144
  go_wp2_with fail
  go_region
  clear hmk
  all_goals first | (change Exit.then _ _ Exit.normal _ (((w.alloc (.cells #[] 2)).alloc (.cells (madeCells #[.int .u8 0] n) 5)).drew); have hO := ((Own.made0 w B 2 1 eI HB.out).alloc (.cells (madeCells #[.int .u8 0] n) 5)).drew; have hM := (own_bytes (w.alloc (.cells #[] 2)) B n 5 (by have := HB.out; simp; omega) (by omega)).drew; rw [show (w.alloc (.cells #[] 2)).heap.size = w.heap.size + 1 from by simp] at hM; have hA : apart (Value.slice (some ⟨w.heap.size, 0, none⟩) 0 0).ownBlock (some (w.heap.size + 1)) := .inr (fun e => by have : some w.heap.size = some (w.heap.size + 1) := e; injection this with this; omega); have hL : Below B w (((w.alloc (.cells #[] 2)).alloc (.cells (madeCells #[.int .u8 0] n) 5)).drew) := (((Below.refl B w).alloc HB.out _).alloc (by have := HB.out; simp; omega) _).drew; generalize (((w.alloc (.cells #[] 2)).alloc (.cells (madeCells #[.int .u8 0] n) 5)).drew) = W at hO hM hL ⊢; generalize w.heap.size + 1 = gM at hM hA ⊢; generalize (Value.slice (some ⟨w.heap.size, 0, none⟩) 0 0) = vO at hO hA ⊢) | (change Exit.then _ _ Exit.normal _ (((w.alloc (.cells (madeCells #[.int .u8 0] n) 5)).alloc (.cells #[] 2)).drew); have hO := (Own.made0 (w.alloc (.cells (madeCells #[.int .u8 0] n) 5)) B 2 1 eI (by have := HB.out; simp; omega)).drew; rw [show (w.alloc (.cells (madeCells #[.int .u8 0] n) 5)).heap.size = w.heap.size + 1 from by simp] at hO; have hM := ((own_bytes w B n 5 HB.out (by omega)).alloc (.cells #[] 2)).drew; have hA : apart (Value.slice (some ⟨w.heap.size + 1, 0, none⟩) 0 0).ownBlock (some w.heap.size) := .inr (fun e => by have : some (w.heap.size + 1) = some w.heap.size := e; injection this with this; omega); have hL : Below B w (((w.alloc (.cells (madeCells #[.int .u8 0] n) 5)).alloc (.cells #[] 2)).drew) := (((Below.refl B w).alloc HB.out _).alloc (by have := HB.out; simp; omega) _).drew; generalize (((w.alloc (.cells (madeCells #[.int .u8 0] n) 5)).alloc (.cells #[] 2)).drew) = W at hO hM hL ⊢; generalize (Value.slice (some ⟨w.heap.size + 1, 0, none⟩) 0 0) = vO at hO hA ⊢; generalize w.heap.size = gM at hM hA ⊢)
  all_goals
    obtain ⟨AO, cO, rfl⟩ : ∃ A c, vO = .slice A 0 c := hO.isSlice
    as_aux_lemma =>
    go_wp2_with fail
    go_loopw [5, 18] (fun ov iv wr => ∃ i : Nat, i ≤ s.size ∧ iv = .int .i64 i ∧ Own wr B 2 1 ov eI (planTo s.data.toList n i).2 ∧ Own wr B 5 1 (.slice (some ⟨gM, 0, none⟩) n n) eU (planTo s.data.toList n i).1 ∧ apart ov.ownBlock (some gM) ∧ Below B w wr) (fun _ iv _ => s.size - (intOf iv).toNat)
    case atStart => exact ⟨0, Nat.zero_le _, rfl, hO, hM, hA, hL⟩
    case round =>
      obtain ⟨i, hi', rfl, hown, hmag, hap, hbel⟩ := hrel
      clear hO hM hA hL
      have hpl := planTo_len s.data.toList n i
      have HAP := hd hap
      have HML := hd hpl.1
      clear hap
      by_cases hlt : i < s.size
      · have HSI := hd (get_listK s i hlt)
        have HPL := hd (show (planTo s.data.toList n i).2.length ≤ 40 by omega)
        have smag := hmag.sl eU_len
        have hch := chI_lt s.data.toList (planTo s.data.toList n i).1 i (by omega)
        rw [hpl.1] at hch
        by_cases hA : posU (s.data.toList.getD i 0) (planTo s.data.toList n i).1 < (planTo s.data.toList n i).1.length
        · have HK0 : chI s.data.toList (planTo s.data.toList n i).1 i = posU (s.data.toList.getD i 0) (planTo s.data.toList n i).1 := by unfold chI; rw [if_pos hA]
          have HI0 : idxU (s[i]) (planTo s.data.toList n i).1 = (chI s.data.toList (planTo s.data.toList n i).1 i : Nat) := by rw [HK0]; unfold idxU; rw [← HSI.out, if_pos hA]
          obtain ⟨kk, hkke⟩ : ∃ kk, chI s.data.toList (planTo s.data.toList n i).1 i = kk := ⟨_, rfl⟩
          rw [hkke] at HI0 hch
          have HK := hd hkke
          have HI := hd HI0
          have hkk := hch
          clear hA HK0 HI0 hch hkke hpl
          go_wp2_with fail
          refine (indexU_impl _ _ _ smag _).mono ?_
          rintro e ww ⟨rfl, hw⟩
          have hw := hw.symm
          subst hw
          rw [HI.out]
          clear smag
          obtain ⟨hcell, hfr⟩ := hmag.cell_one eU_len kk (by rw [HML.out]; exact hkk) (u := .int .u8 ((planTo s.data.toList n i).1[kk]'(by rw [HML.out]; exact hkk)).toNat) rfl
          have HST := hd (hmag.set_one eU_len kk (s[i]) (u := .int .u8 (s[i].toNat : Int)) rfl)
          have hgr1 := kgrown_set wr ⟨gM, kk, none⟩ (.int .u8 (s[i].toNat : Int))
          have hgm := hmag.lt gM rfl
          have hown1 : Own (wr.setCell ⟨gM, kk, none⟩ (.int .u8 (s[i].toNat : Int))) B 2 1 u5 eI (planTo s.data.toList n i).2 := hown.grown hgr1 HAP.out
          have hbel1 : Below B w (wr.setCell ⟨gM, kk, none⟩ (.int .u8 (s[i].toNat : Int))) := hbel.setCell (p := ⟨gM, kk, none⟩) hgm.1 _
          have hzz : (wr.setCell ⟨gM, kk, none⟩ (.int .u8 (s[i].toNat : Int))).heap.size = wr.heap.size := by simp
          have HZZ := hd hzz
          have HSUCC := hd (show planTo s.data.toList n (i + 1) = ((planTo s.data.toList n i).1.set kk (s[i]), (planTo s.data.toList n i).2 ++ [(kk : Int)]) by rw [planTo, HK.out, HSI.out])
          have hln := HPL.out
          have hB2 : B ≤ wr.heap.size := Nat.le_trans HB.out hbel.size
          clear hmag hbel hown hgr1 hzz
          go_wp2_with (at_builtin; refine wpList_push_at _ rfl _ _ 56 rfl i0 (.int .i64 0) 8 Tryz.underlying56 hi hz0 hz1 hz2 rfl (by decide) _ _ (kk : Int) rfl (hown1.alloc _) wr.heap.size rfl #[.int .i64 (kk : Int)] 2 (by have := heap_alloc_new (wr.setCell ⟨gM, kk, none⟩ (.int .u8 (s[i].toNat : Int))) (.cells #[.int .i64 (kk : Int)] 2); rwa [HZZ.out] at this) rfl rfl (by intro u hu; simp [eI] at hu; subst hu; rfl) (by unfold maxLen; omega) (by omega) (by simp; omega) ?_)
          intro v' w3 hown2 hgr2 hat
          have hbel2 := (hbel1.alloc (by rw [HZZ.out]; exact hB2) (.cells #[.int .i64 (kk : Int)] 2)).grown hgr2 (by simp; omega) (fun g hg => (hown1.lt g hg).1)
          have hmag2 := (HST.out.alloc (.cells #[.int .i64 (kk : Int)] 2)).grown hgr2 (ne_symm HAP.out)
          have hap2 : apart v'.ownBlock (some gM) := apart_push (N := wr.heap.size) HAP.out (by simpa using hat) (fun g hg => by injection hg with hg; omega)
          have HO2 := hd hown2
          have HM2 := hd hmag2
          have HA2 := hd hap2
          have HB2 := hd hbel2
          clear hown2 hmag2 hap2 hbel2 hgr2 hat hown1 hbel1 hcell hfr
          go_wp2_with fail
          go_roundw
          case rel => exact ⟨i + 1, by omega, by go_num, by rw [HSUCC.out]; exact HO2.out, by rw [HSUCC.out]; exact HM2.out, HA2.out, HB2.out⟩
          case measure => simp [intOf]; omega
        have HI1 := hd (show idxU (s[i]) (planTo s.data.toList n i).1 = -1 by unfold idxU; rw [← HSI.out, if_neg hA])
        by_cases hB : posU 0 (planTo s.data.toList n i).1 < (planTo s.data.toList n i).1.length
        · have HK0 : chI s.data.toList (planTo s.data.toList n i).1 i = posU 0 (planTo s.data.toList n i).1 := by unfold chI; rw [if_neg hA, if_pos hB]
          have HI0 : idxU 0 (planTo s.data.toList n i).1 = (chI s.data.toList (planTo s.data.toList n i).1 i : Nat) := by rw [HK0]; unfold idxU; rw [if_pos hB]
          obtain ⟨kk, hkke⟩ : ∃ kk, chI s.data.toList (planTo s.data.toList n i).1 i = kk := ⟨_, rfl⟩
          rw [hkke] at HI0 hch
          have HK := hd hkke
          have HI := hd HI0
          have hkk := hch
          clear hA hB HK0 HI0 hch hkke hpl
          go_wp2_with fail
          refine (indexU_impl _ _ _ smag _).mono ?_
          rintro e ww ⟨rfl, hw⟩
          have hw := hw.symm
          subst hw
          rw [HI1.out]
          go_wp2_with fail
          refine (index0_impl _ _ _ smag).mono ?_
          rintro e ww ⟨rfl, hw⟩
          have hw := hw.symm
          subst hw
          rw [HI.out]
          clear smag
          obtain ⟨hcell, hfr⟩ := hmag.cell_one eU_len kk (by rw [HML.out]; exact hkk) (u := .int .u8 ((planTo s.data.toList n i).1[kk]'(by rw [HML.out]; exact hkk)).toNat) rfl
          have HST := hd (hmag.set_one eU_len kk (s[i]) (u := .int .u8 (s[i].toNat : Int)) rfl)
          have hgr1 := kgrown_set wr ⟨gM, kk, none⟩ (.int .u8 (s[i].toNat : Int))
          have hgm := hmag.lt gM rfl
          have hown1 : Own (wr.setCell ⟨gM, kk, none⟩ (.int .u8 (s[i].toNat : Int))) B 2 1 u5 eI (planTo s.data.toList n i).2 := hown.grown hgr1 HAP.out
          have hbel1 : Below B w (wr.setCell ⟨gM, kk, none⟩ (.int .u8 (s[i].toNat : Int))) := hbel.setCell (p := ⟨gM, kk, none⟩) hgm.1 _
          have hzz : (wr.setCell ⟨gM, kk, none⟩ (.int .u8 (s[i].toNat : Int))).heap.size = wr.heap.size := by simp
          have HZZ := hd hzz
          have HSUCC := hd (show planTo s.data.toList n (i + 1) = ((planTo s.data.toList n i).1.set kk (s[i]), (planTo s.data.toList n i).2 ++ [(kk : Int)]) by rw [planTo, HK.out, HSI.out])
          have hln := HPL.out
          have hB2 : B ≤ wr.heap.size := Nat.le_trans HB.out hbel.size
          clear hmag hbel hown hgr1 hzz
          go_wp2_with (at_builtin; refine wpList_push_at _ rfl _ _ 56 rfl i0 (.int .i64 0) 8 Tryz.underlying56 hi hz0 hz1 hz2 rfl (by decide) _ _ (kk : Int) rfl (hown1.alloc _) wr.heap.size rfl #[.int .i64 (kk : Int)] 2 (by have := heap_alloc_new (wr.setCell ⟨gM, kk, none⟩ (.int .u8 (s[i].toNat : Int))) (.cells #[.int .i64 (kk : Int)] 2); rwa [HZZ.out] at this) rfl rfl (by intro u hu; simp [eI] at hu; subst hu; rfl) (by unfold maxLen; omega) (by omega) (by simp; omega) ?_)
          intro v' w3 hown2 hgr2 hat
          have hbel2 := (hbel1.alloc (by rw [HZZ.out]; exact hB2) (.cells #[.int .i64 (kk : Int)] 2)).grown hgr2 (by simp; omega) (fun g hg => (hown1.lt g hg).1)
          have hmag2 := (HST.out.alloc (.cells #[.int .i64 (kk : Int)] 2)).grown hgr2 (ne_symm HAP.out)
          have hap2 : apart v'.ownBlock (some gM) := apart_push (N := wr.heap.size) HAP.out (by simpa using hat) (fun g hg => by injection hg with hg; omega)
          have HO2 := hd hown2
          have HM2 := hd hmag2
          have HA2 := hd hap2
          have HB2 := hd hbel2
          clear hown2 hmag2 hap2 hbel2 hgr2 hat hown1 hbel1 hcell hfr
          go_wp2_with fail
          go_roundw
          case rel => exact ⟨i + 1, by omega, by go_num, by rw [HSUCC.out]; exact HO2.out, by rw [HSUCC.out]; exact HM2.out, HA2.out, HB2.out⟩
          case measure => simp [intOf]; omega
        have HI2 := hd (show idxU 0 (planTo s.data.toList n i).1 = -1 by unfold idxU; rw [if_neg hB])
        have HCH := hd (show chI s.data.toList (planTo s.data.toList n i).1 i = farI s.data.toList i (planTo s.data.toList n i).1 0 0 (-1) by unfold chI; rw [if_neg hA, if_neg hB])
        have HSMAG := hd smag
        have HLS := hd (list_size s)
        clear hA hB hpl hch
        go_wp2_with fail
        refine (indexU_impl _ _ _ smag _).mono ?_
        rintro e ww ⟨rfl, hw⟩
        have hw := hw.symm
        subst hw
        rw [HI1.out]
        go_wp2_with fail
        refine (index0_impl _ _ _ smag).mono ?_
        rintro e ww ⟨rfl, hw⟩
        have hw := hw.symm
        subst hw
        rw [HI2.out]
        clear smag
        go_wp2_with fail
        go_loop [8, 9, 34] (fun kv fv pv => ∃ (p k : Nat) (far : Int), p ≤ n ∧ k < n ∧ (-1 ≤ far ∧ far ≤ 40) ∧ pv = .int .i64 p ∧ kv = .int .i64 k ∧ fv = .int .i64 far ∧ Hid (farI s.data.toList i ((planTo s.data.toList n i).1.drop p) p k far = farI s.data.toList i (planTo s.data.toList n i).1 0 0 (-1))) (fun _ _ pv => n - (intOf pv).toNat)
        case atStart => exact ⟨0, 0, -1, by omega, by omega, by omega, rfl, rfl, rfl, hd (by rw [List.drop_zero])⟩
        case round =>
          obtain ⟨p, k, far, hp, hk, ⟨hf1, hf2⟩, rfl, rfl, rfl, HF⟩ := hrel
          by_cases hpn : p < n
          · have hpm : p < (planTo s.data.toList n i).1.length := by rw [HML.out]; exact hpn
            obtain ⟨hcp, -⟩ := hmag.cell_one eU_len p hpm (u := .int .u8 ((planTo s.data.toList n i).1[p].toNat : Int)) rfl
            have HD := hd (List.drop_eq_getElem_cons hpm)
            have HIX := hd (index_next s i (planTo s.data.toList n i).1[p])
            have hnx := nextN_le s.data.toList i (planTo s.data.toList n i).1[p]
            have HC2 := hd (show ((((planTo s.data.toList n i).1[p].toNat : Nat) : Int).toNat.toUInt8) = (planTo s.data.toList n i).1[p] by rw [Int.toNat_natCast]; exact UInt8.ofNat_toNat)
            generalize (planTo s.data.toList n i).1[p] = x at hcp HD HIX hnx HC2
            by_cases hno : s.data.toList.length - i ≤ nextN s.data.toList i x
            · have HK := hd (show chI s.data.toList (planTo s.data.toList n i).1 i = p by rw [HCH.out, ← HF.out, HD.out]; unfold farI; rw [if_pos hno])
              have HV := hd (show Lib.indexByte (s.extract i s.size).data.toList x = -1 by rw [HIX.out, if_pos hno])
              have hkk := hpn
              clear hno hnx
              go_wp2_with fail
              refine (Tryz.strings_IndexByte _ _ _).mono ?_
              rintro e ww ⟨rfl, hw⟩
              have hw := hw.symm
              subst hw
              rw [HC2.out, HV.out]
              clear hcp
              obtain ⟨hcell, hfr⟩ := hmag.cell_one eU_len p (by rw [HML.out]; exact hkk) (u := .int .u8 ((planTo s.data.toList n i).1[p]'(by rw [HML.out]; exact hkk)).toNat) rfl
              have HST := hd (hmag.set_one eU_len p (s[i]) (u := .int .u8 (s[i].toNat : Int)) rfl)
              have hgr1 := kgrown_set wr ⟨gM, p, none⟩ (.int .u8 (s[i].toNat : Int))
              have hgm := hmag.lt gM rfl
              have hown1 : Own (wr.setCell ⟨gM, p, none⟩ (.int .u8 (s[i].toNat : Int))) B 2 1 u5 eI (planTo s.data.toList n i).2 := hown.grown hgr1 HAP.out
              have hbel1 : Below B w (wr.setCell ⟨gM, p, none⟩ (.int .u8 (s[i].toNat : Int))) := hbel.setCell (p := ⟨gM, p, none⟩) hgm.1 _
              have hzz : (wr.setCell ⟨gM, p, none⟩ (.int .u8 (s[i].toNat : Int))).heap.size = wr.heap.size := by simp
              have HZZ := hd hzz
              have HSUCC := hd (show planTo s.data.toList n (i + 1) = ((planTo s.data.toList n i).1.set p (s[i]), (planTo s.data.toList n i).2 ++ [(p : Int)]) by rw [planTo, HK.out, HSI.out])
              have hln := HPL.out
              have hB2 : B ≤ wr.heap.size := Nat.le_trans HB.out hbel.size
              clear hmag hbel hown hgr1 hzz
              go_wp2_with (at_builtin; refine wpList_push_at _ rfl _ _ 56 rfl i0 (.int .i64 0) 8 Tryz.underlying56 hi hz0 hz1 hz2 rfl (by decide) _ _ (p : Int) rfl (hown1.alloc _) wr.heap.size rfl #[.int .i64 (p : Int)] 2 (by have := heap_alloc_new (wr.setCell ⟨gM, p, none⟩ (.int .u8 (s[i].toNat : Int))) (.cells #[.int .i64 (p : Int)] 2); rwa [HZZ.out] at this) rfl rfl (by intro u hu; simp [eI] at hu; subst hu; rfl) (by unfold maxLen; omega) (by omega) (by simp; omega) ?_)
              intro v' w3 hown2 hgr2 hat
              have hbel2 := (hbel1.alloc (by rw [HZZ.out]; exact hB2) (.cells #[.int .i64 (p : Int)] 2)).grown hgr2 (by simp; omega) (fun g hg => (hown1.lt g hg).1)
              have hmag2 := (HST.out.alloc (.cells #[.int .i64 (p : Int)] 2)).grown hgr2 (ne_symm HAP.out)
              have hap2 : apart v'.ownBlock (some gM) := apart_push (N := wr.heap.size) HAP.out (by simpa using hat) (fun g hg => by injection hg with hg; omega)
              have HO2 := hd hown2
              have HM2 := hd hmag2
              have HA2 := hd hap2
              have HB2 := hd hbel2
              clear hown2 hmag2 hap2 hbel2 hgr2 hat hown1 hbel1 hcell hfr
              go_wp2_with fail
              go_roundw
              case rel => exact ⟨i + 1, by omega, by go_num, by rw [HSUCC.out]; exact HO2.out, by rw [HSUCC.out]; exact HM2.out, HA2.out, HB2.out⟩
              case measure => simp [intOf]; omega
            have HV := hd (show Lib.indexByte (s.extract i s.size).data.toList x = ((nextN s.data.toList i x : Nat) : Int) by rw [HIX.out, if_neg hno])
            have hnx2 : nextN s.data.toList i x ≤ 40 := by have := HLS.out; omega
            by_cases hfar : far < ((nextN s.data.toList i x : Nat) : Int)
            · have HN := hd (show farI s.data.toList i ((planTo s.data.toList n i).1.drop (p + 1)) (p + 1) p ((nextN s.data.toList i x : Nat) : Int) = farI s.data.toList i (planTo s.data.toList n i).1 0 0 (-1) by rw [← HF.out, HD.out, farI, if_neg hno, if_pos hfar])
              clear hno hnx
              generalize nextN s.data.toList i x = y at hnx2 hfar HN HV
              go_wp2_with fail
              refine (Tryz.strings_IndexByte _ _ _).mono ?_
              rintro e ww ⟨rfl, hw⟩
              have hw := hw.symm
              subst hw
              rw [HC2.out, HV.out]
              go_wp2_with fail
              go_round
              case rel => exact ⟨p + 1, p, y, by omega, hpn, by omega, by go_num, rfl, rfl, HN⟩
              case measure => simp [intOf]; omega
            · have HN := hd (show farI s.data.toList i ((planTo s.data.toList n i).1.drop (p + 1)) (p + 1) k far = farI s.data.toList i (planTo s.data.toList n i).1 0 0 (-1) by rw [← HF.out, HD.out, farI, if_neg hno, if_neg hfar])
              have hfar' : ((nextN s.data.toList i x : Nat) : Int) ≤ far := by omega
              clear hno hnx hfar
              generalize nextN s.data.toList i x = y at hnx2 hfar' HN HV
              go_wp2_with fail
              refine (Tryz.strings_IndexByte _ _ _).mono ?_
              rintro e ww ⟨rfl, hw⟩
              have hw := hw.symm
              subst hw
              rw [HC2.out, HV.out]
              go_wp2_with fail
              go_round
              case rel => exact ⟨p + 1, k, far, by omega, hk, by omega, by go_num, rfl, rfl, HN⟩
              case measure => simp [intOf]; omega
          · have hpe : p = n := by omega
            have HK := hd (show chI s.data.toList (planTo s.data.toList n i).1 i = k by rw [HCH.out, ← HF.out, List.drop_of_length_le (by rw [HML.out]; omega)]; rfl)
            have hkk := hk
            obtain ⟨hcell, hfr⟩ := hmag.cell_one eU_len k (by rw [HML.out]; exact hkk) (u := .int .u8 ((planTo s.data.toList n i).1[k]'(by rw [HML.out]; exact hkk)).toNat) rfl
            have HST := hd (hmag.set_one eU_len k (s[i]) (u := .int .u8 (s[i].toNat : Int)) rfl)
            have hgr1 := kgrown_set wr ⟨gM, k, none⟩ (.int .u8 (s[i].toNat : Int))
            have hgm := hmag.lt gM rfl
            have hown1 : Own (wr.setCell ⟨gM, k, none⟩ (.int .u8 (s[i].toNat : Int))) B 2 1 u5 eI (planTo s.data.toList n i).2 := hown.grown hgr1 HAP.out
            have hbel1 : Below B w (wr.setCell ⟨gM, k, none⟩ (.int .u8 (s[i].toNat : Int))) := hbel.setCell (p := ⟨gM, k, none⟩) hgm.1 _
            have hzz : (wr.setCell ⟨gM, k, none⟩ (.int .u8 (s[i].toNat : Int))).heap.size = wr.heap.size := by simp
            have HZZ := hd hzz
            have HSUCC := hd (show planTo s.data.toList n (i + 1) = ((planTo s.data.toList n i).1.set k (s[i]), (planTo s.data.toList n i).2 ++ [(k : Int)]) by rw [planTo, HK.out, HSI.out])
            have hln := HPL.out
            have hB2 : B ≤ wr.heap.size := Nat.le_trans HB.out hbel.size
            clear hmag hbel hown hgr1 hzz
            go_wp2_with (at_builtin; refine wpList_push_at _ rfl _ _ 56 rfl i0 (.int .i64 0) 8 Tryz.underlying56 hi hz0 hz1 hz2 rfl (by decide) _ _ (k : Int) rfl (hown1.alloc _) wr.heap.size rfl #[.int .i64 (k : Int)] 2 (by have := heap_alloc_new (wr.setCell ⟨gM, k, none⟩ (.int .u8 (s[i].toNat : Int))) (.cells #[.int .i64 (k : Int)] 2); rwa [HZZ.out] at this) rfl rfl (by intro u hu; simp [eI] at hu; subst hu; rfl) (by unfold maxLen; omega) (by omega) (by simp; omega) ?_)
            intro v' w3 hown2 hgr2 hat
            have hbel2 := (hbel1.alloc (by rw [HZZ.out]; exact hB2) (.cells #[.int .i64 (k : Int)] 2)).grown hgr2 (by simp; omega) (fun g hg => (hown1.lt g hg).1)
            have hmag2 := (HST.out.alloc (.cells #[.int .i64 (k : Int)] 2)).grown hgr2 (ne_symm HAP.out)
            have hap2 : apart v'.ownBlock (some gM) := apart_push (N := wr.heap.size) HAP.out (by simpa using hat) (fun g hg => by injection hg with hg; omega)
            have HO2 := hd hown2
            have HM2 := hd hmag2
            have HA2 := hd hap2
            have HB2 := hd hbel2
            clear hown2 hmag2 hap2 hbel2 hgr2 hat hown1 hbel1 hcell hfr
            go_wp2_with fail
            go_roundw
            case rel => exact ⟨i + 1, by omega, by go_num, by rw [HSUCC.out]; exact HO2.out, by rw [HSUCC.out]; exact HM2.out, HA2.out, HB2.out⟩
            case measure => simp [intOf]; omega
      · obtain rfl : i = s.size := by omega
        clear hpl
        go_wp2_with fail
        go_ret
        exact ⟨_, rfl, by rw [← HBE.out]; exact hown, by rw [← HBE.out]; exact hbel⟩
theorem cntTo_same {l : List UInt8} {n : Nat} {p : List Int} {i k : Nat} {c : UInt8} (hp : p.getD i 0 = (k : Int)) (hc : l.getD i 0 = c) (hk : k < (cntTo l n p i).1.length) (he : (cntTo l n p i).1[k] = c) : cntTo l n p (i + 1) = cntTo l n p i := by
  have h2 : (cntTo l n p i).1.getD k 0 = c := by rw [List.getD_eq_getElem?_getD, List.getElem?_eq_getElem hk]; exact he
  have h3 : (cntTo l n p i).1.set k c = (cntTo l n p i).1 := by rw [← he]; exact List.set_getElem_self hk
  rw [cntTo, hp, hc, Int.toNat_natCast, if_pos h2, h3]
theorem cntTo_other {l : List UInt8} {n : Nat} {p : List Int} {i k : Nat} {c : UInt8} (hp : p.getD i 0 = (k : Int)) (hc : l.getD i 0 = c) (hk : k < (cntTo l n p i).1.length) (he : ¬ (cntTo l n p i).1[k] = c) : cntTo l n p (i + 1) = ((cntTo l n p i).1.set k c, (cntTo l n p i).2 + 1) := by
  have h2 : ¬ (cntTo l n p i).1.getD k 0 = c := by rw [List.getD_eq_getElem?_getD, List.getElem?_eq_getElem hk]; exact he
  rw [cntTo, hp, hc, Int.toNat_natCast, if_neg h2]
set_option maxRecDepth 100000 in
set_option maxHeartbeats 8000000 in
theorem cnt_impl (w : World) (s : ByteArray) (hs : s.size ≤ 40) (n : Nat) (hn : 1 ≤ n ∧ n ≤ 6) (v : Value) (p : List Int) (h : Sl w 1 v eI p) (hl : p.length = s.size) (hp : ∀ x ∈ p, 0 ≤ x ∧ x < n) :
    Calls Tryz.prog 143 #[.string s, .int .i64 (n : Int), v] w fun e w' => e = .returned (.int .i64 (cntTo s.data.toList n p s.size).2) ∧ Below w.heap.size w w' := by
  obtain ⟨i0, hi, hz0, hz1, hz2⟩ := info_parts info_u8
  obtain ⟨A, cc, rfl⟩ := h.isSlice
  have HL := hd hl
  have HP := hd hp
  rw [hl]
  clear hl hp
  go_enter Tryz.func143, Tryz.ntmps143
  go_wp2_with (at_make; refine wpList_make_full _ rfl _ _ 22 rfl w.heap.size 5 i0 (.int .u8 0) 1 Tryz.underlying22 hi hz0 hz1 .i64 .i64 _ _ n rfl rfl rfl rfl (by rw [hz2]; omega) (by unfold maxLen; omega) (Nat.le_refl _) ?_)
  intro w1 hown0 hgr
  have hown0 := made_bytes _ _ _ _ _ hown0
  have hbel0 : Below w.heap.size w w1 := below_of_grown hgr (Nat.le_refl _) (by simp)
  clear hgr hi hz0 hz1 hz2
  go_wp2_with fail
  go_loopw [8, 15] (fun cv iv wr => ∃ i : Nat, i ≤ s.size ∧ iv = .int .i64 i ∧ cv = .int .i64 (cntTo s.data.toList n p i).2 ∧ Own wr w.heap.size 5 1 (.slice (some ⟨w.heap.size, 0, none⟩) n n) eU (cntTo s.data.toList n p i).1 ∧ Below w.heap.size w wr) (fun _ iv _ => s.size - (intOf iv).toNat)
  case atStart => exact ⟨0, Nat.zero_le _, rfl, rfl, hown0, hbel0⟩
  case round =>
    obtain ⟨i, hi', rfl, rfl, hown, hbel⟩ := hrel
    clear hown0 hbel0
    by_cases hlt : i < s.size
    · have hip : i < p.length := by rw [HL.out]; exact hlt
      obtain ⟨x1, x2⟩ := HP.out _ (List.getElem_mem hip)
      obtain ⟨bb, oo, hA, hbb, hcc⟩ := (h.below hbel).int_at hip
      subst hA
      have HG := hd (show p.getD i 0 = p[i] by rw [List.getD_eq_getElem?_getD, List.getElem?_eq_getElem hip]; rfl)
      have HSI := hd (get_listK s i hlt)
      have hml := cntTo_len s.data.toList n p i
      obtain ⟨q1, q2⟩ := cntTo_bd s.data.toList n p i
      generalize p[i] = x at x1 x2 hcc HG
      obtain ⟨k, rfl⟩ := Int.eq_ofNat_of_zero_le x1
      have hk : k < (cntTo s.data.toList n p i).1.length := by rw [hml]; omega
      have HS := hd (fun he => cntTo_same HG.out HSI.out hk he)
      have HO := hd (fun he => cntTo_other HG.out HSI.out hk he)
      obtain ⟨hcell, hfr⟩ := hown.cell_one eU_len k hk (u := .int .u8 ((cntTo s.data.toList n p i).1[k].toNat : Int)) rfl
      have HST := hd (hown.set_one eU_len k (s[i]) (u := .int .u8 (s[i].toNat : Int)) rfl)
      have HOW := hd hown
      have HBE := hd hbel
      generalize (cntTo s.data.toList n p i).1[k] = y at hcell HS HO
      have HML := hd hml
      clear hml hown hbel
      obtain ⟨c, hc⟩ : ∃ c, (cntTo s.data.toList n p i).2 = c := ⟨_, rfl⟩
      rw [hc] at q1 q2 HO ⊢
      have HCQ := hd hc
      clear hc
      have q3 : c ≤ 40 := by omega
      by_cases hy : y = s[i]
      · have k0 := byte_same hy
        have HE := hd (HS.out hy)
        clear hy HS HO HST
        go_wp2_with fail
        go_quiet (fail)
        go_wp2_with fail
        go_roundw
        case rel => exact ⟨i + 1, by omega, by go_num, by rw [HE.out, HCQ.out], by rw [HE.out]; exact Own.drewN HOW.out _, below_drewN HBE.out _⟩
        case measure => simp [intOf]; omega
      · have k0 := byte_ne hy
        have HE := hd (HO.out hy)
        clear hy HS HO
        go_wp2_with fail
        go_quiet (fail)
        go_wp2_with fail
        go_roundw
        case rel => exact ⟨i + 1, by omega, by go_num, by rw [HE.out], by rw [HE.out]; exact Own.drewN HST.out _, below_drewN (HBE.out.setCell (p := ⟨w.heap.size, k, none⟩) (Nat.le_refl _) _) _⟩
        case measure => simp [intOf]; omega
    · obtain rfl : i = s.size := by omega
      go_wp2_with fail
      go_ret
      exact ⟨rfl, hbel⟩
set_option maxRecDepth 100000 in
set_option maxHeartbeats 8000000 in
theorem fewL_impl (w : World) (s : ByteArray) (hs : s.size ≤ 1048576) (n : Int) :
    Calls Tryz.prog 77 #[.string s, .int .i64 n] w fun e w' => e = .returned (.tuple #[.int .i64 (loadR s n).1, .int .i64 (loadR s n).2]) ∧ Below w.heap.size w w' := by
  by_cases hc : showC s n = 0
  case neg =>
    obtain ⟨c, hcc⟩ : ∃ c, showC s n = c := ⟨_, rfl⟩
    have HR := hd (loadR_bad hcc (by rw [← hcc]; exact hc))
    have kc : (c != 0) = true := by rw [← hcc]; simpa using hc
    have HC := hd hcc
    clear hc hcc
    go_enter Tryz.func77, Tryz.ntmps77
    go_wp2_with fail
    refine (showC_impl _ _ hs _).mono ?_
    rintro e ww ⟨rfl, hw⟩
    have hw := hw.symm
    subst hw
    rw [HC.out]
    go_wp2_with fail
    go_ret2
    exact ⟨by rw [HR.out]; rfl, Below.refl _ _⟩
  have HR := loadR_good hc
  obtain ⟨h1, h2⟩ := showC_zero hc
  obtain ⟨hz, hnz⟩ := okShow_bd h1
  have hn := inB_true h2
  obtain ⟨m, rfl⟩ := Int.eq_ofNat_of_zero_le (show 0 ≤ n by omega)
  rw [Int.toNat_natCast] at HR
  have hpl := (planTo_len s.data.toList m s.size).2
  have hpb := plan_bd s.data.toList m (by omega) s.size
  have HPL := hd hpl
  have HPB := hd hpb
  have HLN := hd (show loadN s.data.toList m = (cntTo s.data.toList m (planTo s.data.toList m s.size).2 s.size).2 by unfold loadN; rw [list_size])
  have hlb := loadR_bd s m
  rw [HR] at hlb
  have HR := hd HR
  have HC := hd hc
  clear hc h1 h2 hnz hpl hpb
  go_enter Tryz.func77, Tryz.ntmps77
  go_wp2_with fail
  refine (showC_impl _ _ hs _).mono ?_
  rintro e ww ⟨rfl, hw⟩
  have hw := hw.symm
  subst hw
  rw [HC.out]
  go_wp2_with fail
  refine (plan_impl _ _ hz _ (by omega)).mono ?_
  rintro e w1 ⟨v, rfl, O, B⟩
  have SP := O.sl eI_len
  obtain ⟨A, cc, rfl⟩ := O.isSlice
  go_wp2_with fail
  refine (cnt_impl _ _ hz _ (by omega) _ _ SP HPL.out HPB.out).mono ?_
  rintro e w2 ⟨rfl, hb2⟩
  rw [← HLN.out]
  have B2 := below_step B hb2
  clear SP O B hb2
  go_wp2_with fail
  go_ret2
  exact ⟨by rw [HR.out]; rfl, B2⟩
end Go.Proofs.YtgcodjkjdfahdaaGreatDoor
