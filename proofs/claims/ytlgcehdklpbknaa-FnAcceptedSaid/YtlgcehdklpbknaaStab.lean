/- slices.SortStableFunc at hires, 40 at most: the hires stand by the key, equals as they stood. No condition but that the row is held. -/
import Derived.Test.YtlgcehdklpbknaaSymM
import Derived.Shelf.SlSortFuncK.ComposeK
namespace Go.Proofs.Ytlgcehdklpbknaa
open Go Go.RowKit Go.ChangeShapes Go.WideShapes Go.Shelf Go.Lib Go.Sort
set_option linter.unusedSimpArgs false
set_option linter.unusedVariables false
theorem St.on {k : Nat} {w W : World} {blk off n : Nat} {L L' : List THire} (hb : blk < w.heap.size) (h : St k w blk off n L W) (hl : L'.length = n) (m : Nat) (os : Array Obj) : St k w blk off n L' (sortWorldK eHire k W blk off m L'.toArray os) := by
  obtain ⟨hl0, m0, os0, rfl⟩ := h
  exact ⟨hl, _, _, sortWorldK_on eHire k w blk off m0 m L.toArray L'.toArray os0 os hb (by simp; omega)⟩
theorem St.lt {k : Nat} {w W : World} {blk off n : Nat} {L : List THire} (hb : blk < w.heap.size) (h : St k w blk off n L W) : blk < W.heap.size := by
  obtain ⟨hl0, m0, os0, rfl⟩ := h
  exact Nat.lt_of_lt_of_le hb (size_sortWorldK_c eHire k w blk off m0 L.toArray os0)
theorem lay3 : Lay Try.prog 3 := {
  mixed := by kernel_rfl
  fsw := Try.func180
  fro := Try.func173
  fsm := Try.func156
  t0 := Try.underlying0
  a0 := Try.isAgg0
  z0 := Try.sizeOf0
  v0 := Try.zeroValue0
  ti := Try.underlying3
  ai := Try.isAgg3
  zi := Try.sizeOf3
  vi := Try.zeroValue3
  tb := Try.underlying4
  ab := Try.isAgg4
  zb := Try.sizeOf4
  vb := Try.zeroValue4
  tu := Try.underlying168
  au := Try.isAgg168
  zu := Try.sizeOf168
  vu := Try.zeroValue168
  ts := Try.underlying64
  asl := Try.isAgg64
  zs := Try.sizeOf64
  vs := Try.zeroValue64
  ah := Try.isAgg76
  zh := Try.sizeOf76
  hk := eHire_len }
theorem sym_fn {Pr : Program} {z : Nat} (L : Lay Pr z) (key : THire → Int) (cf : THire → THire → Int) (hcf : ∀ x y, cf x y < 0 ↔ key x < key y) (g : Nat) (cb : Array Value) (eg : ∀ args w, (callFunc g args).run Pr w = .ok (.enter g args) w) {w : World} {blk off n : Nat} (R : Row z w blk off n) (HC : CmpSt Pr g cb cf z w blk off n) (cap : Nat) :
    ∀ (N : Nat) (A U V C : List THire), U.length + V.length ≤ N → 0 < U.length → 0 < V.length → sorted key U → sorted key V → ∀ W, St z w blk off n (A ++ (U ++ (V ++ C))) W → ∀ a m b : Nat, a = A.length → m = a + U.length → b = m + V.length →
    Calls Pr 156 #[.slice (some ⟨blk, off, none⟩) n cap, .int .i64 a, .int .i64 m, .int .i64 b, .func (.func g) #[] cb] W fun e w' => e = .returned (.tuple #[]) ∧ St z w blk off n (A ++ (mrg key U V ++ C)) w' := by
  intro N
  induction N with
  | zero => intro A U V C h1 h2; omega
  | succ N ih =>
    intro A U V C hN hU hV sU sV W h a m b ha hm hb
    by_cases q : U.length = 1
    · obtain ⟨x, rfl⟩ := List.length_eq_one_iff.1 q
      exact sym_one L key cf hcf g cb eg R HC cap A x V C hV sV W (by simpa using h) a m b ha (by simpa using hm) (by simp at hm; omega)
    · by_cases q2 : V.length = 1
      · obtain ⟨y, rfl⟩ := List.length_eq_one_iff.1 q2
        exact sym_last L key cf hcf g cb eg R HC cap A U y C (by omega) sU W (by simpa using h) a m b ha hm (by simpa using hb)
      · exact sym_main L key cf hcf g cb eg R HC cap A U V C (by omega) (by omega) sU sV (fun A' U' V' C' hl hU' hV' sU' sV' W' h' a' m' b' ha' hm' hb' => ih A' U' V' C' (by omega) hU' hV' sU' sV' W' h' a' m' b' ha' hm' hb') W h a m b ha hm hb
theorem ins_h (key : THire → Int) (cf : THire → THire → Int) (hcf : ∀ x y, cf x y < 0 ↔ key x < key y) (g : Nat) (cb : Array Value) (eg : ∀ args w, (callFunc g args).run Try.prog w = .ok (.enter g args) w) {w : World} {blk off n : Nat} (R : Row 3 w blk off n) (HC : CmpSt Try.prog g cb cf 3 w blk off n) (cap : Nat)
    (A M D : List THire) (W : World) (h : St 3 w blk off n (A ++ (M ++ D)) W) (a b : Nat) (ha : a = A.length) (hb : b = a + M.length) :
    Calls Try.prog 155 #[.slice (some ⟨blk, off, none⟩) n cap, .int .i64 a, .int .i64 b, .func (.func g) #[] cb] W fun e w' => e = .returned (.tuple #[]) ∧ St 3 w blk off n (A ++ (srt key M ++ D)) w' := by
  have hl := h.len
  have hsz : (A ++ (M ++ D)).toArray.size = n := by simpa using hl
  have hn := R.sm
  have hcmp : CmpLays Try.prog g cb eHire 3 cf blk off (A ++ (M ++ D)).toArray.size W := by
    intro m os dk hd x y
    have := h.on (L' := dk.toList) R.lt (by rw [Array.length_toList]; omega) m os
    rw [Array.toArray_toList] at this
    exact HC _ _ this x y
  have c := AnyQ.insertionSortCmpFunc Try.laysInsH 3 Try.isAgg76 Try.sizeOf76 eHire eHire_len hire_one cf g cb blk off cap a b (A ++ (M ++ D)).toArray W eg hcmp (h.holds R) (h.lt R.lt) (by omega) (by simp; omega) (by omega)
  rw [hsz] at c
  refine c.mono ?_
  rintro e w' ⟨rfl, m, os, rfl⟩
  refine ⟨rfl, ?_⟩
  have e1 : ltOf cf = fun x y => decide (key x < key y) := by
    funext x y
    unfold ltOf
    exact decide_eq_decide.2 (hcf x y)
  have e2 := ins_srt key (ltOf cf) (fun x y => by rw [e1]) A M D
  rw [← ha, ← hb, List.append_assoc, List.append_assoc] at e2
  rw [e2]
  exact h.on R.lt (by rw [← hl]; simp [srt_len]) m os
/-- the row while the blocks are put in order -/
def rowd (key : THire → Int) (L : List THire) : Nat → List THire
  | 0 => L
  | 1 => srt key (L.take 20) ++ L.drop 20
  | _ => srt key (L.take 20) ++ srt key (L.drop 20)
theorem srt_two (key : THire → Int) (L : List THire) : srt key L = mrg key (srt key (L.take 20)) (srt key (L.drop 20)) := by
  conv => lhs; rw [← List.take_append_drop 20 L]
  exact srt_app key _ _
set_option maxRecDepth 100000 in
set_option maxHeartbeats 4000000 in
theorem stab_h (key : THire → Int) (cf : THire → THire → Int) (hcf : ∀ x y, cf x y < 0 ↔ key x < key y) (g : Nat) (cb : Array Value) (eg : ∀ args w, (callFunc g args).run Try.prog w = .ok (.enter g args) w) {w : World} {blk off n : Nat} (R : Row 3 w blk off n) (HC : CmpSt Try.prog g cb cf 3 w blk off n) (cap : Nat)
    (L : List THire) (W : World) (h : St 3 w blk off n L W) :
    Calls Try.prog 134 #[.slice (some ⟨blk, off, none⟩) n cap, .int .i64 n, .func (.func g) #[] cb] W fun e w' => e = .returned (.tuple #[]) ∧ St 3 w blk off n (srt key L) w' := by
  have hn := R.sm
  have HL := hd h.len
  have HS := hd h
  have HI := hd (fun A M D W' (hs : St 3 w blk off n (A ++ (M ++ D)) W') (a b : Nat) ha hb => ins_h key cf hcf g cb eg R HC cap A M D W' hs a b ha hb)
  have HY := hd (fun A U V C hU hV sU sV W' (hs : St 3 w blk off n (A ++ (U ++ (V ++ C))) W') (a m b : Nat) ha hm hb => sym_fn lay3 key cf hcf g cb eg R HC cap (U.length + V.length) A U V C (Nat.le_refl _) hU hV sU sV W' hs a m b ha hm hb)
  clear R HC hcf h
  go_enter Try.func134, Try.ntmps134
  go_wp2_with fail
  go_loopw [7, 8] (fun a b wr => ∃ d : Nat, d ≤ 2 ∧ a = .int .i64 (20 * d : Nat) ∧ b = .int .i64 (20 * d + 20 : Nat) ∧ 20 * d ≤ n ∧ Hid (St 3 w blk off n (rowd key L d) wr)) (fun _ b _ => 100 - (intOf b).toNat)
  case atStart => exact ⟨0, by omega, rfl, rfl, Nat.zero_le _, HS⟩
  case round =>
    obtain ⟨d, hd2, rfl, rfl, hdn, HW⟩ := hrel
    clear HS
    by_cases hb : 20 * d + 20 ≤ n
    · rcases (show d = 0 ∨ d = 1 by omega) with rfl | rfl
      · have HC1 := hd (HI.out [] (L.take 20) (L.drop 20) _ (by have := HW.out; simpa [rowd] using this) 0 20 rfl (by have := HL.out; simp; omega))
        go_wp2_with fail
        refine HC1.out.mono ?_
        rintro e w2 ⟨rfl, hs⟩
        have HS2 := hd hs
        clear hs HC1 HW
        go_wp2_with fail
        go_roundw
        case rel => exact ⟨1, by omega, rfl, rfl, by omega, hd (by have := HS2.out; simpa [rowd] using this)⟩
        case measure => simp [intOf]
      · have HC1 := hd (HI.out (srt key (L.take 20)) (L.drop 20) [] _ (by have := HW.out; simpa [rowd] using this) 20 40 (by have := HL.out; simp [srt_len]; omega) (by have := HL.out; simp; omega))
        go_wp2_with fail
        refine HC1.out.mono ?_
        rintro e w2 ⟨rfl, hs⟩
        have HS2 := hd hs
        clear hs HC1 HW
        go_wp2_with fail
        go_roundw
        case rel => exact ⟨2, by omega, rfl, rfl, by omega, hd (by have := HS2.out; simpa [rowd] using this)⟩
        case measure => simp [intOf]
    · rcases (show d = 0 ∨ d = 1 ∨ d = 2 by omega) with rfl | rfl | rfl
      · have HC1 := hd (HI.out [] L [] _ (by have := HW.out; simpa [rowd] using this) 0 n rfl (by have := HL.out; simp; omega))
        go_wp2_with fail
        refine HC1.out.mono ?_
        rintro e w2 ⟨rfl, hs⟩
        have HS2 := hd hs
        clear hs HC1 HW
        go_wp2_with fail
        as_aux_lemma =>
        go_loopw [6, 7, 8, 9] (fun a b c d wr => a = .int .i64 20 ∧ Hid (St 3 w blk off n (srt key L) wr)) (fun _ _ _ _ _ => 0)
        case atStart => exact ⟨rfl, hd (by have := HS2.out; simpa using this)⟩
        case round =>
          obtain ⟨rfl, HW⟩ := hrel
          clear HS2
          go_wp2_with fail
          go_end0
          exact ⟨rfl, HW.out⟩
      · have HC1 := hd (HI.out (srt key (L.take 20)) (L.drop 20) [] _ (by have := HW.out; simpa [rowd] using this) 20 n (by have := HL.out; simp [srt_len]; omega) (by have := HL.out; simp; omega))
        go_wp2_with fail
        refine HC1.out.mono ?_
        rintro e w2 ⟨rfl, hs⟩
        have HS2 := hd hs
        clear hs HC1 HW
        go_wp2_with fail
        as_aux_lemma =>
        go_loopw [6, 7, 8, 9] (fun a b c d wr => ∃ t : Nat, t ≤ 1 ∧ a = .int .i64 (20 * t + 20 : Nat) ∧ (t = 1 → 20 < n) ∧ Hid (St 3 w blk off n (if t = 0 then rowd key L 2 else srt key L) wr)) (fun a _ _ _ _ => 100 - (intOf a).toNat)
        case atStart => exact ⟨0, by omega, rfl, by omega, hd (by have := HS2.out; simpa [rowd] using this)⟩
        case round =>
          obtain ⟨t, ht, rfl, ht1, HW⟩ := hrel
          clear HS2
          rcases (show t = 0 ∨ t = 1 by omega) with rfl | rfl
          · by_cases h20 : 20 < n
            · as_aux_lemma =>
              go_wp2_with fail
              go_loopw [7, 8] (fun a b wr => a = .int .i64 0 ∧ b = .int .i64 40 ∧ Hid (St 3 w blk off n ([] ++ (srt key (L.take 20) ++ (srt key (L.drop 20) ++ []))) wr)) (fun _ _ _ => 0)
              case atStart => exact ⟨rfl, rfl, hd (by have := HW.out; simpa [rowd] using this)⟩
              case round =>
                obtain ⟨rfl, rfl, HV⟩ := hrel
                clear HW
                have HY1 := hd (HY.out [] (srt key (L.take 20)) (srt key (L.drop 20)) [] (by have := HL.out; simp [srt_len]; omega) (by have := HL.out; simp [srt_len]; omega) (srt_sorted key _) (srt_sorted key _) _ HV.out 0 20 n rfl (by have := HL.out; simp [srt_len]; omega) (by have := HL.out; simp [srt_len]; omega))
                go_wp2_with fail
                refine HY1.out.mono ?_
                rintro e w3 ⟨rfl, hs⟩
                have HS3 := hd hs
                clear hs HY1 HV
                go_wp2_with fail
                go_roundw
                case rel => exact ⟨1, by omega, rfl, fun _ => h20, hd (by have := HS3.out; rw [if_neg (by omega), srt_two]; simpa using this)⟩
                case measure => simp [intOf]
            · as_aux_lemma =>
              go_wp2_with fail
              go_end0
              have hdr : L.drop 20 = [] := List.drop_eq_nil_of_le (by have := HL.out; omega)
              exact ⟨rfl, by have := HW.out; rw [srt_two, hdr, srt_nil, mrg_nil_right]; simpa [rowd, hdr, srt_nil] using this⟩
          · as_aux_lemma =>
            go_wp2_with fail
            go_end0
            exact ⟨rfl, by have := HW.out; simpa using this⟩
      · have HC1 := hd (HI.out (srt key (L.take 20) ++ srt key (L.drop 20)) [] [] _ (by have := HW.out; simpa [rowd] using this) 40 n (by have := HL.out; simp [srt_len]; omega) (by simp; omega))
        go_wp2_with fail
        refine HC1.out.mono ?_
        rintro e w2 ⟨rfl, hs⟩
        have HS2 := hd hs
        clear hs HC1 HW
        go_wp2_with fail
        as_aux_lemma =>
        go_loopw [6, 7, 8, 9] (fun a b c d wr => ∃ t : Nat, t ≤ 1 ∧ a = .int .i64 (20 * t + 20 : Nat) ∧ Hid (St 3 w blk off n (if t = 0 then rowd key L 2 else srt key L) wr)) (fun a _ _ _ _ => 100 - (intOf a).toNat)
        case atStart => exact ⟨0, by omega, rfl, hd (by have := HS2.out; simpa [rowd, srt_nil] using this)⟩
        case round =>
          obtain ⟨t, ht, rfl, HW⟩ := hrel
          clear HS2
          rcases (show t = 0 ∨ t = 1 by omega) with rfl | rfl
          · as_aux_lemma =>
            go_wp2_with fail
            go_loopw [7, 8] (fun a b wr => ∃ u : Nat, u ≤ 1 ∧ a = .int .i64 (40 * u : Nat) ∧ b = .int .i64 (40 * u + 40 : Nat) ∧ Hid (St 3 w blk off n (if u = 0 then [] ++ (srt key (L.take 20) ++ (srt key (L.drop 20) ++ [])) else srt key L) wr)) (fun a _ _ => 100 - (intOf a).toNat)
            case atStart => exact ⟨0, by omega, rfl, rfl, hd (by have := HW.out; simpa [rowd] using this)⟩
            case round =>
              obtain ⟨u, hu, rfl, rfl, HV⟩ := hrel
              clear HW
              rcases (show u = 0 ∨ u = 1 by omega) with rfl | rfl
              · as_aux_lemma =>
                have HY1 := hd (HY.out [] (srt key (L.take 20)) (srt key (L.drop 20)) [] (by have := HL.out; simp [srt_len]; omega) (by have := HL.out; simp [srt_len]; omega) (srt_sorted key _) (srt_sorted key _) _ HV.out 0 20 40 rfl (by have := HL.out; simp [srt_len]; omega) (by have := HL.out; simp [srt_len]; omega))
                go_wp2_with fail
                refine HY1.out.mono ?_
                rintro e w3 ⟨rfl, hs⟩
                have HS3 := hd hs
                clear hs HY1 HV
                go_wp2_with fail
                go_roundw
                case rel => exact ⟨1, by omega, rfl, rfl, hd (by have := HS3.out; rw [if_neg (by omega), srt_two]; simpa using this)⟩
                case measure => simp [intOf]
              · as_aux_lemma =>
                go_wp2_with fail
                go_roundw
                case rel => exact ⟨1, by omega, rfl, hd (by have := HV.out; simpa using this)⟩
                case measure => simp [intOf]
          · as_aux_lemma =>
            go_wp2_with fail
            go_end0
            exact ⟨rfl, by have := HW.out; simpa using this⟩
theorem sort_h (key : THire → Int) (cf : THire → THire → Int) (hcf : ∀ x y, cf x y < 0 ↔ key x < key y) (g : Nat) (cb : Array Value) (eg : ∀ args w, (callFunc g args).run Try.prog w = .ok (.enter g args) w) {w : World} {blk off n : Nat} (R : Row 3 w blk off n) (HC : CmpSt Try.prog g cb cf 3 w blk off n) (cap : Nat)
    (L : List THire) (W : World) (h : St 3 w blk off n L W) :
    Calls Try.prog 96 #[.slice (some ⟨blk, off, none⟩) n cap, .func (.func g) #[] cb] W fun e w' => e = .returned (.tuple #[]) ∧ St 3 w blk off n (srt key L) w' := by
  have hn := R.sm
  have c := hd (stab_h key cf hcf g cb eg R HC cap L W h)
  clear R HC hcf h
  go_enter Try.func96, Try.ntmps96
  go_wp2_with fail
  refine c.out.mono ?_
  rintro e w1 ⟨rfl, hs⟩
  have HS := hd hs
  clear hs
  go_wp2_with fail
  go_end0
  exact ⟨rfl, HS.out⟩
end Go.Proofs.Ytlgcehdklpbknaa
