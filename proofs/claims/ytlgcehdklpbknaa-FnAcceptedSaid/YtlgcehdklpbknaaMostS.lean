/- MostAccepted: the reference's side. No condition but that the slices read. -/
import Derived.Test.YtlgcehdklpbknaaMost
import Derived.BigQuiet
namespace Go.Proofs.Ytlgcehdklpbknaa
open Go Go.RowKit Go.ChangeShapes Go.WideShapes
set_option linter.unusedSimpArgs false
set_option linter.unusedVariables false
set_option maxHeartbeats 1000000 in
theorem own_intsM (w : World) (v : Value) (l : List Int) (h : Sl w 1 v eI l) (hl : l.length ≤ 1048576) :
    Calls Try.prog 66 #[v] w (GivesOwn w 2 1 eI l) := by
  obtain ⟨-, A, c, rfl, -, -, hA⟩ := id h
  obtain ⟨i0, hi, hz0, hz1, hz2⟩ := info_parts info_i64
  clear hA
  go_enter Try.func66, Try.ntmps66
  go_wp2_with (at_builtin; refine wpList_append_sl _ rfl _ _ 25 rfl i0 (.int .i64 0) 8 Try.underlying25 hi hz0 hz1 hz2 rfl (by decide) eI_len (by intro y u hu; simp [eI] at hu; subst hu; rfl) _ [] rfl (Own.made0 w w.heap.size 2 1 eI (Nat.le_refl _)) _ l rfl (h.alloc _) (by unfold maxLen; simp; omega) (by simp; omega) (by simp) ?_)
  intro v' w1 hown hgr
  have hbel := ((Below.refl w.heap.size w).alloc (Nat.le_refl _) (.cells #[] 2)).grown hgr (by simp) (by intro g hg; simp [Value.ownBlock] at hg; omega)
  go_wp2_with fail
  go_ret
  exact ⟨_, rfl, by simpa using hown, hbel⟩

theorem Sl.droppedM {α : Type} {w : World} {k n c : Nat} {A : Option Addr} {enc : α → List Value} {l : List α} (h : Sl w k (.slice A n c) enc l) (i : Nat) (hi : i ≤ l.length) :
    Sl w k (.slice (if c = i then A else A.map (·.add (i * k))) (l.length - i) (c - i)) enc (l.drop i) := by
  obtain ⟨h1, A', c', hv, hc, hc', h2⟩ := h
  injection hv with e1 e2 e3
  subst e1 e3
  refine ⟨by simp; omega, _, _, by rw [List.length_drop], by rw [List.length_drop]; omega, by omega, fun j x hx => ?_⟩
  rw [List.getElem?_drop] at hx
  obtain ⟨b, o, hA, hb, h3⟩ := h2 (i + j) x hx
  have hlt : i + j < l.length := (List.getElem?_eq_some_iff.1 hx).1
  subst hA
  refine ⟨b, o + i * k, ?_, hb, fun m u hu => ?_⟩
  · rw [if_neg (by omega)]
    simp only [Option.map_some, Addr.add]
    split
    · next h0 => rw [h0]; rfl
    · rfl
  · have := h3 m u hu
    rw [show o + i * k + j * k + m = o + (i + j) * k + m by rw [Nat.add_mul]; omega]
    exact this
theorem Sl.takenM {α : Type} {w : World} {k n c : Nat} {A : Option Addr} {enc : α → List Value} {l : List α} (h : Sl w k (.slice A n c) enc l) (i : Nat) (hi : i ≤ l.length) : Sl w k (.slice A i c) enc (l.take i) := by
  obtain ⟨h1, A', c', hv, hc, hc', h2⟩ := h
  injection hv with e1 e2 e3
  subst e1 e3
  have hl : (l.take i).length = i := by rw [List.length_take]; omega
  refine ⟨by omega, A, c, by rw [hl], by omega, hc', fun j x hx => h2 j x ?_⟩
  have : j < i := by have := (List.getElem?_eq_some_iff.1 hx).1; omega
  rwa [List.getElem?_take_of_lt this] at hx
theorem slcapM {α : Type} {w : World} {k n c : Nat} {A : Option Addr} {enc : α → List Value} {l : List α} (h : Sl w k (.slice A n c) enc l) : l.length ≤ c ∧ c ≤ 9223372036854775807 := by
  obtain ⟨h1, A', c', hv, hc, hc', h2⟩ := h
  injection hv with e1 e2 e3
  omega
def castN (M : List Nat) : List Int := M.map fun i : Nat => (i : Int)
theorem castN_len (M : List Nat) : (castN M).length = M.length := by simp [castN]
theorem castN_at (M : List Nat) {i : Nat} (hi : i < M.length) : (castN M)[i]'(by rw [castN_len]; exact hi) = (M[i] : Int) := by simp [castN]
theorem castN_take (M : List Nat) (i : Nat) : (castN M).take i = castN (M.take i) := by simp [castN, List.map_take]
theorem castN_drop (M : List Nat) (i : Nat) : (castN M).drop i = castN (M.drop i) := by simp [castN, List.map_drop]
theorem castN_put (M : List Nat) (k i : Nat) : ((castN M).take k ++ [(i : Int)]) ++ (castN M).drop k = castN (M.take k ++ i :: M.drop k) := by simp [castN, List.map_take, List.map_drop]
theorem castN_put' (M : List Nat) (k i : Nat) : (castN M).take k ++ (i : Int) :: (castN M).drop k = castN (M.take k ++ i :: M.drop k) := by simp [castN, List.map_take, List.map_drop]
theorem slemptyM {α : Type} (w : World) (k : Nat) (A : Option Addr) (c : Nat) {enc : α → List Value} (hc : c ≤ 9223372036854775807) : Sl w k (.slice A 0 c) enc [] := ⟨by simp, A, c, rfl, by simp, hc, fun i x hx => by simp at hx⟩
def atH (L : List THire) (j : Nat) : THire := L.getD j zeroH
/-- the places of the hires of an item, in their order -/
def Ord (L : List THire) (item : Int) (i : Nat) (O : List Nat) : Prop := (∀ j ∈ O, j < L.length) ∧ O.map (atH L) = srt keyTo (ownH (L.take i) item)
theorem ownH_no {L : List THire} {item : Int} {i : Nat} (hi : i < L.length) (h : (L[i].1 != item) = true) : ownH (L.take (i + 1)) item = ownH (L.take i) item := by
  unfold ownH
  rw [List.take_succ_eq_append_getElem hi, List.filter_append]
  simp only [List.filter_cons, h, List.filter_nil]
  simp
theorem ownH_yes {L : List THire} {item : Int} {i : Nat} (hi : i < L.length) (h : (L[i].1 != item) = false) : ownH (L.take (i + 1)) item = ownH (L.take i) item ++ [L[i]] := by
  unfold ownH
  rw [List.take_succ_eq_append_getElem hi, List.filter_append]
  simp only [List.filter_cons, h, List.filter_nil]
  simp
theorem Ord.no {L : List THire} {item : Int} {i : Nat} {O : List Nat} (h : Ord L item i O) (hi : i < L.length) (hn : (L[i].1 != item) = true) : Ord L item (i + 1) O := ⟨h.1, by rw [ownH_no hi hn]; exact h.2⟩
theorem Ord.len {L : List THire} {item : Int} {i : Nat} {O : List Nat} (h : Ord L item i O) : O.length ≤ i := by
  have h1 := congrArg List.length h.2
  rw [List.length_map, srt_len] at h1
  have h2 := List.length_filter_le (fun x : THire => !(x.1 != item)) (L.take i)
  have h3 := List.length_take_le i L
  unfold ownH at h1
  omega
theorem atH_at {L : List THire} {i : Nat} (hi : i < L.length) : atH L i = L[i] := by
  unfold atH
  rw [List.getD_eq_getElem?_getD, List.getElem?_eq_getElem hi]
  rfl
theorem Ord.put {L : List THire} {item : Int} {i k : Nat} {O : List Nat} (h : Ord L item i O) (hi : i < L.length) (hn : (L[i].1 != item) = false) (hk : k ≤ O.length) (h1 : ∀ t (ht : t < O.length), k ≤ t → keyTo L[i] < keyTo (atH L O[t])) (h2 : ∀ (hp : 0 < k), keyTo (atH L (O[k - 1]'(by omega))) ≤ keyTo L[i]) : Ord L item (i + 1) (O.take k ++ i :: O.drop k) := by
  have hl : (srt keyTo (ownH (L.take i) item)).length = O.length := by rw [← h.2, List.length_map]
  refine ⟨fun j hj => ?_, ?_⟩
  · rcases List.mem_append.1 hj with hj | hj
    · exact h.1 j (List.mem_of_mem_take hj)
    · rcases List.mem_cons.1 hj with rfl | hj
      · exact hi
      · exact h.1 j (List.mem_of_mem_drop hj)
  · rw [ownH_yes hi hn, srt_put keyTo _ L[i] k (by omega) (fun y hy => ?_) (fun hp => ?_), ← h.2]
    · rw [List.map_append, List.map_cons, List.map_take, List.map_drop, atH_at hi]
    · rw [← h.2] at hy
      obtain ⟨t, ht, hkt, rfl⟩ := drop_mem hy
      rw [List.length_map] at ht
      rw [List.getElem_map]
      exact h1 t ht hkt
    · have h3 := h2 hp
      have e : (srt keyTo (ownH (L.take i) item))[k - 1]'(by omega) = atH L (O[k - 1]'(by omega)) := by
        rw [List.getElem_of_eq h.2.symm, List.getElem_map]
      rw [e]
      exact h3
set_option maxRecDepth 100000 in
set_option maxHeartbeats 8000000 in
theorem acc_spec (w : World) (vS : Value) (S : List Int) (hS : Sl w 1 vS eI S) (vL : Value) (L : List THire) (hL : Sl w 3 vL eHire L) (item : Int) :
    Calls Try.prog 36 #[vS, vL, .int .i64 item] w fun e w' => e = .returned (.tuple #[.int .i64 (accR S L item).1, .int .i64 (accR S L item).2]) ∧ Below w.heap.size w w' := by
  have m1 := hS.len
  have m2 := hL.len
  obtain ⟨-, A1, c1, rfl, -, -, -⟩ := id hS
  obtain ⟨-, A2, c2, rfl, -, -, -⟩ := id hL
  by_cases hok : okHires S L = true ∧ inB item 0 ((S.length : Int) - 1) = true
  case neg =>
    have HR := hd (show accR S L item = (0, hCode0 S L item) by
      unfold accR hCode0
      rcases h1 : okHires S L with _ | _
      · simp
      · rcases h2 : inB item 0 ((S.length : Int) - 1) with _ | _
        · simp
        · exact absurd ⟨h1, h2⟩ hok)
    have hne : hCode0 S L item ≠ 0 := by
      unfold hCode0
      rcases h1 : okHires S L with _ | _
      · simp
      · rcases h2 : inB item 0 ((S.length : Int) - 1) with _ | _
        · simp
        · exact absurd ⟨h1, h2⟩ hok
    go_enter Try.func36, Try.ntmps36
    go_wp2_with fail
    refine (hcode_spec _ _ _ hS _ _ hL _).mono ?_
    rintro e w1 ⟨rfl, hb1⟩
    generalize hCode0 S L item = code at HR hne
    have hne1 : (code != 0) = true := by simpa using hne
    go_wp2_with fail
    go_ret2
    exact ⟨by rw [HR.out]; rfl, hb1⟩
  obtain ⟨h1, h2⟩ := hok
  have hc0 : hCode0 S L item = 0 := by simp [hCode0, h1, h2]
  have HR := hd (show accR S L item = ((accA (S.getD item.toNat 0).toNat (srt keyTo (ownH L item))).2, 0) by simp [accR, h1, h2])
  have HSB := hd (okHires_stock h1)
  have hib := inB_true h2
  have HC0 := hd hc0
  have HL40 : Hid (L.length ≤ 40) := hd HSB.out.2.2.2
  obtain ⟨i0, hi, hz0, hz1, hz2⟩ := info_parts info_i64
  obtain ⟨it, rfl⟩ : ∃ it : Nat, item = (it : Int) := ⟨item.toNat, by omega⟩
  clear h1 h2 hc0
  go_enter Try.func36, Try.ntmps36
  go_wp2_with fail
  refine (hcode_spec _ _ _ hS _ _ hL _).mono ?_
  rintro e w1 ⟨rfl, hB⟩
  rw [HC0.out]
  replace hS := hS.below hB
  replace hL := hL.below hB
  have ho0 := Own.made0 w1 w1.heap.size 2 1 eI (Nat.le_refl _)
  have hb0 := (Below.refl w1.heap.size w1).alloc (Nat.le_refl _) (.cells #[] 2)
  go_wp2_with fail
  go_loopw [9, 10, 11, 12] (fun ov iv kv nv wr => ∃ (i : Nat) (O : List Nat) (gO cO : Nat), i ≤ L.length ∧ iv = .int .i64 i ∧ ov = .slice (some ⟨gO, 0, none⟩) O.length cO ∧ Own wr w1.heap.size 2 1 (.slice (some ⟨gO, 0, none⟩) O.length cO) eI (castN O) ∧ Below w1.heap.size w1 wr ∧ Hid (Ord L it i O)) (fun _ iv _ _ _ => L.length - (intOf iv).toNat)
  case atStart => exact ⟨0, [], _, _, Nat.zero_le _, rfl, rfl, ho0, hb0, hd ⟨by simp, by simp [ownH, srt_nil]⟩⟩
  case round =>
    obtain ⟨i, O, gO, co, hiL, rfl, rfl, hown, hbel, HORD⟩ := hrel
    clear ho0 hb0
    by_cases hlt : i < L.length
    · as_aux_lemma =>
      obtain ⟨bL, oL, rfl, hbL, p0, p1, p2⟩ := (hL.below hbel).Hire_at hlt
      have HXE := hd (show (L[i].1 != (it : Int)) = (L[i].1 != (it : Int)) from rfl)
      generalize hx : L[i] = x at p0 p1 p2 HXE
      obtain ⟨xa, xb, xc⟩ := x
      dsimp only at p0 p1 p2
      rcases q1 : (xa != (it : Int)) with _ | _
      case true =>
        have HO2 := hd (HORD.out.no hlt (by rw [hx]; exact q1))
        go_wp2_with fail
        go_roundw
        case rel => exact ⟨i + 1, O, gO, co, by omega, by go_num, rfl, hown, hbel, HO2⟩
        case measure => simp [intOf]; omega
      case false =>
        have q1f : (L[i].1 != (it : Int)) = false := by rw [hx]; exact q1
        have HKX := hd (show keyTo L[i] = xc by rw [hx]; rfl)
        replace hx := hd hx
        replace q1f := hd q1f
        go_wp2_with fail
        clear p0 p1
        as_aux_lemma =>
        go_loopw [11] (fun kv wq => ∃ k : Nat, k ≤ O.length ∧ kv = .int .i64 k ∧ Own wq w1.heap.size 2 1 (.slice (some ⟨gO, 0, none⟩) O.length co) eI (castN O) ∧ Below w1.heap.size w1 wq ∧ Hid (∀ t (ht : t < O.length), k ≤ t → keyTo L[i] < keyTo (atH L O[t]))) (fun kv _ => (intOf kv).toNat)
        case atStart => exact ⟨O.length, Nat.le_refl _, rfl, hown, hbel, hd (by omega)⟩
        case round =>
          obtain ⟨k, hk, rfl, hownq, hbelq, H1⟩ := hrel
          clear hown hbel p2
          obtain ⟨bL', oL', eL, hbL', r0, r1, r2⟩ := (hL.below hbelq).Hire_at hlt
          injection eL with eL
          injection eL with eL1 eL2 _
          subst eL1 eL2
          have r2' : wr.cell? ⟨bL, oL + i * 3 + 2, none⟩ = some (.int .i64 xc) := r2.trans (by rw [← HKX.out]; rfl)
          clear r0 r1 r2
          by_cases hk0 : 0 < k
          · obtain ⟨s, rfl⟩ : ∃ s, k = s + 1 := ⟨k - 1, by omega⟩
            have hsO : s < O.length := hk
            obtain ⟨cO, -⟩ := hownq.cell1 s (by rw [castN_len]; exact hsO)
            rw [castN_at O hsO] at cO
            have hjL : O[s] < L.length := HORD.out.1 _ (List.getElem_mem hsO)
            obtain ⟨bL', oL', eL, -, d0, d1, d2⟩ := (hL.below hbelq).Hire_at hjL
            injection eL with eL
            injection eL with eL1 eL2 _
            subst eL1 eL2
            have HYK := hd (show keyTo (atH L O[s]) = L[O[s]].2.2 by rw [atH_at hjL]; rfl)
            have HJ := hd (show ∀ t (ht : t < O.length), s ≤ t → s + 1 ≤ t ∨ t = s from fun t _ h => by omega)
            generalize L[O[s]].2.2 = yc at d2 HYK
            clear d0 d1
            generalize hj : O[s] = j at cO d2 HYK hjL
            replace hj := hd hj
            have hji : (j : Int) < (L.length : Int) := by omega
            have hs40 : s < 40 := by have := HORD.out.len; have := HL40.out; omega
            have dw1 : IntKind.i64.wrap (s : Int) = (s : Int) := by rw [IntKind.wrap_i64]; omega
            have dw2 : IntKind.i64.wrap ((s : Int) + 1 - 1) = (s : Int) := by rw [IntKind.wrap_i64]; omega
            have hsi : (s : Int) < (O.length : Int) := by omega
            by_cases hgt : xc < yc
            · go_wp2_with fail
              go_quiet (fail)
              have HO2 := hd (hownq.drewN nq)
              have HB2 := hd (below_drewN hbelq nq)
              have H12 := hd (show ∀ t (ht : t < O.length), s ≤ t → keyTo L[i] < keyTo (atH L O[t]) from fun t ht h => by
                rcases HJ.out t ht h with h | h
                · exact H1.out t ht h
                · subst h
                  rw [hj.out, HYK.out, HKX.out]; exact hgt)
              go_wp2_with fail
              go_roundw
              case rel => exact ⟨s, by omega, by go_num, HO2.out, HB2.out, H12⟩
              case measure => simp [intOf]
            · have H2 := hd (show ∀ (hp : 0 < s + 1), keyTo (atH L (O[s + 1 - 1]'(by omega))) ≤ keyTo L[i] from fun _ => by
                show keyTo (atH L O[s]) ≤ _
                rw [hj.out, HYK.out, HKX.out]; omega)
              go_wp2_with fail
              go_quiet (fail)
              replace hownq := hownq.drewN nq
              replace hbelq := below_drewN hbelq nq
              generalize wr.drewN nq = W2 at hownq hbelq ⊢
              clear r2' cO d2 hj HYK HJ
              as_aux_lemma =>
              have HPUT := hd (HORD.out.put hlt q1f.out hk H1.out H2.out)
              have hOl := HORD.out.len
              have hi40 := HL40.out
              have ST := (hownq.sl eI_len).takenM (s + 1) (by rw [castN_len]; exact hk)
              have SD := (hownq.sl eI_len).droppedM (s + 1) (by rw [castN_len]; exact hk)
              rw [castN_len] at SD
              obtain ⟨hco1, hco2⟩ := slcapM (hownq.sl eI_len)
              rw [castN_len] at hco1
              go_wp2_with fail
              refine (own_intsM _ _ _ ST (by first | (simp [castN_len]; done) | (simp [castN_len]; omega))).mono ?_
              rintro e w5 ⟨v5, rfl, O5, B5⟩
              have O5o := O5
              replace O5 := O5.base hbelq.size
              have B5s := below_step hbelq B5
              go_wp2_with (at_builtin; refine wpList_push _ rfl _ _ 25 rfl i0 (.int .i64 0) 8 Try.underlying25 hi hz0 hz1 hz2 rfl (by decide) _ _ (i : Int) rfl (O5.alloc _) w5.heap.size rfl #[.int .i64 (i : Int)] 2 (heap_alloc_new _ _) rfl rfl (by intro u hu; simp [eI] at hu; subst hu; rfl) (by unfold maxLen; first | (simp [castN_len]; done) | (simp [castN_len]; omega)) (by first | (simp [castN_len]; done) | (simp [castN_len]; omega)) (by have := B5s.size; simp; omega) ?_)
              intro v6 w6 O6 g6
              have B6 := (B5s.alloc B5s.size (.cells #[.int .i64 (i : Int)] 2)).grown g6 (by have := B5s.size; simp; omega) (fun g hg => (O5.lt g hg).1)
              have B62 := (B5.alloc B5.size (.cells #[.int .i64 (i : Int)] 2)).grown g6 (by have := B5.size; simp; omega) (fun g hg => (O5o.lt g hg).1)
              have SD6 := SD.below B62
              clear g6 O5 O5o B5 B5s ST hownq hbelq SD
              by_cases hck : co = (s + 1)
              · have hOk : O.length = (s + 1) := by omega
                have hdr : (castN O).drop (s + 1) = [] := List.drop_eq_nil_of_le (by rw [castN_len]; omega)
                have hdr2 := hd hdr
                clear hdr SD6
                go_wp2_with (at_builtin; refine wpList_append_sl _ rfl (.tmp 70) (.tmp 73) 25 rfl i0 (.int .i64 0) 8 Try.underlying25 hi hz0 hz1 hz2 rfl (by decide) eI_len (by intro y u hu; simp [eI] at hu; subst hu; rfl) _ _ rfl O6 _ ([] : List Int) rfl (slemptyM _ _ _ _ (by omega)) (by unfold maxLen; first | (simp [castN_len]; done) | (simp [castN_len]; omega)) (by first | (simp [castN_len]; done) | (simp [castN_len]; omega)) B6.size ?_)
                intro v7 w7 O7 g7
                have B7 := B6.grown g7 B6.size (fun g hg => (O6.lt g hg).1)
                replace O7 : Own w7 w1.heap.size 2 1 v7 eI (castN (O.take (s + 1) ++ i :: O.drop (s + 1))) := by first | (rw [castN_put] at O7; exact O7) | (rw [castN_put'] at O7; exact O7) | (rw [← castN_put, hdr2.out]; simpa using O7) | (simpa [castN] using O7)
                rcases O7.form with ⟨-, hnil⟩ | ⟨g7', c7, rfl, -⟩
                · exact absurd hnil (by simp [castN])
                rw [castN_len] at O7 ⊢
                clear g7 O6 B6
                go_wp2_with fail
                go_roundw
                case rel => exact ⟨i + 1, _, g7', c7, by omega, by go_num, rfl, O7, B7, HPUT⟩
                case measure => simp only [intOf]; omega
              · rw [if_neg hck] at SD6
                simp only [Option.map_some, Addr.add, Nat.mul_one, Nat.zero_add] at SD6
                go_wp2_with (at_builtin; refine wpList_append_sl _ rfl (.tmp 70) (.tmp 73) 25 rfl i0 (.int .i64 0) 8 Try.underlying25 hi hz0 hz1 hz2 rfl (by decide) eI_len (by intro y u hu; simp [eI] at hu; subst hu; rfl) _ _ rfl O6 _ _ rfl (by first | exact SD6 | (simpa using SD6)) (by unfold maxLen; first | (simp [castN_len]; done) | (simp [castN_len]; omega)) (by first | (simp [castN_len]; done) | (simp [castN_len]; omega)) B6.size ?_)
                intro v7 w7 O7 g7
                have B7 := B6.grown g7 B6.size (fun g hg => (O6.lt g hg).1)
                replace O7 : Own w7 w1.heap.size 2 1 v7 eI (castN (O.take (s + 1) ++ i :: O.drop (s + 1))) := by first | (rw [castN_put] at O7; exact O7) | (rw [castN_put'] at O7; exact O7) | (rw [← castN_put, hdr2.out]; simpa using O7) | (simpa [castN] using O7)
                rcases O7.form with ⟨-, hnil⟩ | ⟨g7', c7, rfl, -⟩
                · exact absurd hnil (by simp [castN])
                rw [castN_len] at O7 ⊢
                clear g7 SD6 O6 B6
                go_wp2_with fail
                go_roundw
                case rel => exact ⟨i + 1, _, g7', c7, by omega, by go_num, rfl, O7, B7, HPUT⟩
                case measure => simp only [intOf]; omega
          · obtain rfl : k = 0 := by omega
            have H2 := hd (show ∀ (hp : 0 < 0), keyTo (atH L (O[0 - 1]'(by omega))) ≤ keyTo L[i] from fun hp => absurd hp (by omega))
            go_wp2_with fail
            go_quiet (fail)
            replace hownq := hownq.drewN nq
            replace hbelq := below_drewN hbelq nq
            generalize wr.drewN nq = W2 at hownq hbelq ⊢
            clear r2'
            as_aux_lemma =>
            have HPUT := hd (HORD.out.put hlt q1f.out hk H1.out H2.out)
            have hOl := HORD.out.len
            have hi40 := HL40.out
            have ST := (hownq.sl eI_len).takenM 0 (by rw [castN_len]; exact hk)
            have SD := (hownq.sl eI_len).droppedM 0 (by rw [castN_len]; exact hk)
            rw [castN_len] at SD
            obtain ⟨hco1, hco2⟩ := slcapM (hownq.sl eI_len)
            rw [castN_len] at hco1
            go_wp2_with fail
            refine (own_intsM _ _ _ ST (by first | (simp [castN_len]; done) | (simp [castN_len]; omega))).mono ?_
            rintro e w5 ⟨v5, rfl, O5, B5⟩
            have O5o := O5
            replace O5 := O5.base hbelq.size
            have B5s := below_step hbelq B5
            go_wp2_with (at_builtin; refine wpList_push _ rfl _ _ 25 rfl i0 (.int .i64 0) 8 Try.underlying25 hi hz0 hz1 hz2 rfl (by decide) _ _ (i : Int) rfl (O5.alloc _) w5.heap.size rfl #[.int .i64 (i : Int)] 2 (heap_alloc_new _ _) rfl rfl (by intro u hu; simp [eI] at hu; subst hu; rfl) (by unfold maxLen; first | (simp [castN_len]; done) | (simp [castN_len]; omega)) (by first | (simp [castN_len]; done) | (simp [castN_len]; omega)) (by have := B5s.size; simp; omega) ?_)
            intro v6 w6 O6 g6
            have B6 := (B5s.alloc B5s.size (.cells #[.int .i64 (i : Int)] 2)).grown g6 (by have := B5s.size; simp; omega) (fun g hg => (O5.lt g hg).1)
            have B62 := (B5.alloc B5.size (.cells #[.int .i64 (i : Int)] 2)).grown g6 (by have := B5.size; simp; omega) (fun g hg => (O5o.lt g hg).1)
            have SD6 := SD.below B62
            clear g6 O5 O5o B5 B5s ST hownq hbelq SD
            by_cases hck : co = 0
            · have hOk : O.length = 0 := by omega
              have hdr : (castN O).drop 0 = [] := List.drop_eq_nil_of_le (by rw [castN_len]; omega)
              have hdr2 := hd hdr
              clear hdr SD6
              go_wp2_with (at_builtin; refine wpList_append_sl _ rfl (.tmp 70) (.tmp 73) 25 rfl i0 (.int .i64 0) 8 Try.underlying25 hi hz0 hz1 hz2 rfl (by decide) eI_len (by intro y u hu; simp [eI] at hu; subst hu; rfl) _ _ rfl O6 _ ([] : List Int) rfl (slemptyM _ _ _ _ (by omega)) (by unfold maxLen; first | (simp [castN_len]; done) | (simp [castN_len]; omega)) (by first | (simp [castN_len]; done) | (simp [castN_len]; omega)) B6.size ?_)
              intro v7 w7 O7 g7
              have B7 := B6.grown g7 B6.size (fun g hg => (O6.lt g hg).1)
              replace O7 : Own w7 w1.heap.size 2 1 v7 eI (castN (O.take 0 ++ i :: O.drop 0)) := by first | (rw [castN_put] at O7; exact O7) | (rw [castN_put'] at O7; exact O7) | (rw [← castN_put, hdr2.out]; simpa using O7) | (simpa [castN] using O7)
              rcases O7.form with ⟨-, hnil⟩ | ⟨g7', c7, rfl, -⟩
              · exact absurd hnil (by simp [castN])
              rw [castN_len] at O7 ⊢
              clear g7 O6 B6
              go_wp2_with fail
              go_roundw
              case rel => exact ⟨i + 1, _, g7', c7, by omega, by go_num, rfl, O7, B7, HPUT⟩
              case measure => simp only [intOf]; omega
            · rw [if_neg hck] at SD6
              simp only [Option.map_some, Addr.add, Nat.mul_one, Nat.zero_add] at SD6
              go_wp2_with (at_builtin; refine wpList_append_sl _ rfl (.tmp 70) (.tmp 73) 25 rfl i0 (.int .i64 0) 8 Try.underlying25 hi hz0 hz1 hz2 rfl (by decide) eI_len (by intro y u hu; simp [eI] at hu; subst hu; rfl) _ _ rfl O6 _ _ rfl (by first | exact SD6 | (simpa using SD6)) (by unfold maxLen; first | (simp [castN_len]; done) | (simp [castN_len]; omega)) (by first | (simp [castN_len]; done) | (simp [castN_len]; omega)) B6.size ?_)
              intro v7 w7 O7 g7
              have B7 := B6.grown g7 B6.size (fun g hg => (O6.lt g hg).1)
              replace O7 : Own w7 w1.heap.size 2 1 v7 eI (castN (O.take 0 ++ i :: O.drop 0)) := by first | (rw [castN_put] at O7; exact O7) | (rw [castN_put'] at O7; exact O7) | (rw [← castN_put, hdr2.out]; simpa using O7) | (simpa [castN] using O7)
              rcases O7.form with ⟨-, hnil⟩ | ⟨g7', c7, rfl, -⟩
              · exact absurd hnil (by simp [castN])
              rw [castN_len] at O7 ⊢
              clear g7 SD6 O6 B6
              go_wp2_with fail
              go_roundw
              case rel => exact ⟨i + 1, _, g7', c7, by omega, by go_num, rfl, O7, B7, HPUT⟩
              case measure => simp only [intOf]; omega
    · as_aux_lemma =>
      obtain rfl : i = L.length := by omega
      have HOM := hd (show O.map (atH L) = srt keyTo (ownH L it) by have := HORD.out.2; rwa [List.take_length] at this)
      have HOL := hd HORD.out.1
      have HOLEN := hd HORD.out.len
      generalize srt keyTo (ownH L it) = M at HR HOM
      have hS4 := hS.below hbel
      generalize wr = W4 at hown hbel hS4 ⊢
      have hsz := hbel.size
      have HB4 := hd (below_step hB hbel)
      have hL4 := hL.below hbel
      have HL4 := hd HB4.out.size
      have hil : it < S.length := by omega
      obtain ⟨bS, oS, rfl, hbS, cS⟩ := hS4.int_at hil
      have HGT := hd (show S.getD it 0 = S[it] by rw [List.getD_eq_getElem?_getD, List.getElem?_eq_getElem hil]; rfl)
      have hy := HSB.out.1 S[it] (List.getElem_mem _)
      generalize S[it] = y at cS HGT hy
      obtain ⟨m, rfl⟩ : ∃ m : Nat, y = (m : Int) := ⟨y.toNat, by omega⟩
      replace HR := hd (show accR S L it = ((accA m M).2, 0) by rw [HR.out, Int.toNat_natCast, HGT.out, Int.toNat_natCast])
      have hi40 := HL40.out
      clear HGT HSB HORD
      go_wp2_with (at_make; refine wpList_make_full _ rfl _ _ 25 rfl W4.heap.size 2 i0 (.int .i64 0) 1 Try.underlying25 hi hz0 hz1 .i64 .i64 _ _ m rfl rfl rfl rfl (by rw [hz2]; omega) (by unfold maxLen; omega) (Nat.le_refl _) ?_)
      intro w5 hown0 hgr
      have hown0 := made_ints _ _ _ _ _ hown0
      have hbel0 : Below W4.heap.size W4 w5 := below_of_grown hgr (Nat.le_refl _) (by simp)
      clear hgr hi hz0 hz1 hz2 cS
      have HML := hd (show O.length = M.length by rw [← HOM.out, List.length_map])
      have hO40 : O.length ≤ 40 := by have := HOLEN.out; omega
      go_wp2_with fail
      as_aux_lemma =>
      go_loopw [14, 15] (fun cv kv wr => ∃ k : Nat, k ≤ O.length ∧ kv = .int .i64 k ∧ cv = .int .i64 (accA m (M.take k)).2 ∧ Own wr W4.heap.size 2 1 (.slice (some ⟨W4.heap.size, 0, none⟩) m m) eI (accA m (M.take k)).1 ∧ Below W4.heap.size W4 wr) (fun _ kv _ => O.length - (intOf kv).toNat)
      case atStart => exact ⟨0, Nat.zero_le _, rfl, rfl, hown0, hbel0⟩
      case round =>
        obtain ⟨k, hk, rfl, rfl, hownk, hbelk⟩ := hrel
        clear hown0 hbel0
        by_cases hlt : k < O.length
        · as_aux_lemma =>
          have hkM : k < M.length := by rw [← HML.out]; exact hlt
          have HS := hd (accA_snoc m M hkM)
          have HBD := hd (accA_bd m M k (Nat.le_of_lt hkM))
          have hj : O[k] < L.length := HOL.out _ (List.getElem_mem hlt)
          have HX := hd (show L[O[k]] = M[k] by rw [← atH_at hj, List.getElem_of_eq HOM.out.symm, List.getElem_map])
          obtain ⟨cO0, -⟩ := hown.cell1 k (by rw [castN_len]; exact hlt)
          rw [castN_at O hlt] at cO0
          have cO := (hbelk.cell (p := ⟨gO, k, none⟩) (World.block_lt_of_cell? _ _ cO0)).trans cO0
          clear cO0
          obtain ⟨bL, oL, rfl, -, p0, p1, p2⟩ := (hL4.below hbelk).Hire_at hj
          rw [HX.out] at p0 p1 p2
          clear HX
          generalize O[k] = j at cO p0 p1 p2 hj
          have hji : (j : Int) < (L.length : Int) := by omega
          generalize M[k] = x at p0 p1 p2 HS
          obtain ⟨xa, xb, xc⟩ := x
          dsimp only at p0 p1 p2
          generalize accA m (M.take k) = st at hownk HS HBD ⊢
          obtain ⟨F, cnt⟩ := st
          have hFl : Hid (F.length = m) := hd HBD.out.1
          have hcn := HBD.out.2
          dsimp only at hownk hcn ⊢
          clear HBD
          have hbel' := hbelk.alloc hbelk.size (.cells #[.int .i64 xa, .int .i64 xb, .int .i64 xc] 76)
          have hxo := hownk.alloc (.cells #[.int .i64 xa, .int .i64 xb, .int .i64 xc] 76)
          have e1 := new_cell wr #[.int .i64 xa, .int .i64 xb, .int .i64 xc] 76 1 _ rfl
          have e2 := new_cell wr #[.int .i64 xa, .int .i64 xb, .int .i64 xc] 76 2 _ rfl
          clear hownk hbelk
          go_upto_region 20 with fail
          generalize wr.alloc (.cells #[.int .i64 xa, .int .i64 xb, .int .i64 xc] 76) = W1 at hbel' hxo e1 e2 ⊢
          generalize wr.heap.size = gx at e1 e2 ⊢
          go_wp2_with fail
          go_loopw [17, 18] (fun bv qv wr => ∃ q : Nat, q ≤ m ∧ qv = .int .i64 q ∧ bv = .int .i64 (bestA F xb q) ∧ Own wr W4.heap.size 2 1 (.slice (some ⟨W4.heap.size, 0, none⟩) m m) eI F ∧ Below W4.heap.size W4 wr ∧ wr.cell? ⟨gx, 1, none⟩ = some (.int .i64 xb) ∧ wr.cell? ⟨gx, 2, none⟩ = some (.int .i64 xc)) (fun _ qv _ => m - (intOf qv).toNat)
          case atStart => exact ⟨0, Nat.zero_le _, rfl, rfl, hxo, hbel', e1, e2⟩
          case round =>
            obtain ⟨q, hq, rfl, rfl, hxo, hbel', e1, e2⟩ := hrel
            have HO2 := hd (fun n => hxo.drewN n)
            have HB2 := hd (fun n => below_drewN hbel' n)
            by_cases hqm : q < m
            · as_aux_lemma =>
              have hqF : q < F.length := by rw [hFl.out]; exact hqm
              have HN := hd (show bestA F xb (q + 1) = if F.getD q 0 ≤ xb ∧ (bestA F xb q < 0 ∨ F.getD (bestA F xb q).toNat 0 < F.getD q 0) then (q : Int) else bestA F xb q from rfl)
              have HBB := bestA_bd F xb q
              obtain ⟨cq, -⟩ := hxo.cell1 q hqF
              have HGQ := hd (show F.getD q 0 = F[q] by rw [List.getD_eq_getElem?_getD, List.getElem?_eq_getElem hqF]; rfl)
              generalize F[q] = y at cq HGQ
              rw [HGQ.out] at HN
              generalize bestA F xb q = bb at HN HBB ⊢
              by_cases c1 : y ≤ xb
              · by_cases c2 : bb < 0
                · clear hxo hbel'
                  go_wp2_with fail
                  go_quiet (fail)
                  go_wp2_with fail
                  go_roundw
                  case rel => exact ⟨q + 1, by omega, by go_num, by rw [HN.out, if_pos ⟨c1, .inl c2⟩], HO2.out _, HB2.out _, e1, e2⟩
                  case measure => simp [intOf]; omega
                · obtain ⟨nb, rfl⟩ : ∃ nb : Nat, bb = (nb : Int) := ⟨bb.toNat, by omega⟩
                  have hnF : nb < F.length := by rw [hFl.out]; omega
                  have hnm : (nb : Int) < (m : Int) := by omega
                  obtain ⟨cn, -⟩ := hxo.cell1 nb hnF
                  have HGN := hd (show F.getD ((nb : Int)).toNat 0 = F[nb] by rw [Int.toNat_natCast, List.getD_eq_getElem?_getD, List.getElem?_eq_getElem hnF]; rfl)
                  generalize F[nb] = z at cn HGN
                  rw [HGN.out] at HN
                  clear hxo hbel'
                  by_cases c3 : z < y
                  · go_wp2_with fail
                    go_quiet (fail)
                    go_wp2_with fail
                    go_roundw
                    case rel => exact ⟨q + 1, by omega, by go_num, by rw [HN.out, if_pos ⟨c1, .inr c3⟩], HO2.out _, HB2.out _, e1, e2⟩
                    case measure => simp [intOf]; omega
                  · go_wp2_with fail
                    go_quiet (fail)
                    go_wp2_with fail
                    go_roundw
                    case rel => exact ⟨q + 1, by omega, by go_num, by rw [HN.out, if_neg (by rintro ⟨-, h | h⟩ <;> omega)], HO2.out _, HB2.out _, e1, e2⟩
                    case measure => simp [intOf]; omega
              · have c1' : decide (y ≤ xb) = false := by simpa using c1
                clear hxo hbel'
                go_wp2_with fail
                go_quiet (fail)
                go_wp2_with fail
                go_roundw
                case rel => exact ⟨q + 1, by omega, by go_num, by rw [HN.out, if_neg (by rintro ⟨h, -⟩; omega)], HO2.out _, HB2.out _, e1, e2⟩
                case measure => simp [intOf]; omega
            · as_aux_lemma =>
              obtain rfl : q = m := by omega
              have HST := hd (show stepA (F, cnt) (xa, xb, xc) = if 0 ≤ bestA F xb q then (F.set (bestA F xb q).toNat xc, cnt + 1) else (F, cnt) by unfold stepA; dsimp only; rw [hFl.out])
              have HBB := bestA_bd F xb q
              generalize bestA F xb q = bb at HST HBB ⊢
              by_cases c2 : 0 ≤ bb
              · obtain ⟨nb, rfl⟩ : ∃ nb : Nat, bb = (nb : Int) := ⟨bb.toNat, by omega⟩
                have hnF : nb < F.length := by rw [hFl.out]; omega
                have hnm : (nb : Int) < (q : Int) := by omega
                obtain ⟨cn, cf⟩ := hxo.cell1 nb hnF
                have HST2 := hd (show stepA (F, cnt) (xa, xb, xc) = (F.set nb xc, cnt + 1) by rw [HST.out, if_pos c2, Int.toNat_natCast])
                have HO := hd (hxo.set1 nb xc)
                have HB := hd (hbel'.setCell (p := ⟨W4.heap.size, nb, none⟩) (Nat.le_refl _) (.int .i64 xc))
                clear HST hxo hbel'
                go_wp2_with fail
                go_roundw
                case rel => exact ⟨k + 1, by omega, by go_num, by rw [HS.out, HST2.out], by rw [HS.out, HST2.out]; exact HO.out, HB.out⟩
                case measure => simp [intOf]; omega
              · have HST2 := hd (show stepA (F, cnt) (xa, xb, xc) = (F, cnt) by rw [HST.out, if_neg c2])
                go_wp2_with fail
                go_roundw
                case rel => exact ⟨k + 1, by omega, by go_num, by rw [HS.out, HST2.out], by rw [HS.out, HST2.out]; exact hxo, hbel'⟩
                case measure => simp [intOf]; omega
        · obtain rfl : k = O.length := by omega
          rw [HML.out, List.take_length] at hownk ⊢
          go_wp2_with fail
          go_ret2
          exact ⟨by rw [HR.out]; rfl, HB4.out.trans (hbelk.mono HL4.out)⟩
end Go.Proofs.Ytlgcehdklpbknaa
