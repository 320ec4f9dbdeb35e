/- symMerge at hires: the way with two long stretches, and the whole; over any program that bears these bodies. No condition but that the row is held. -/
import Derived.Test.YtlgcehdklpbknaaSym
namespace Go.Proofs.Ytlgcehdklpbknaa
open Go Go.RowKit Go.ChangeShapes Go.WideShapes Go.Shelf Go.Lib Go.Sort
set_option linter.unusedSimpArgs false
set_option linter.unusedVariables false
theorem sym_split {key : THire → Int} {kz : Nat → Int} {A U V C : List THire} (hk : ∀ i (hi : i < (A ++ (U ++ (V ++ C))).length), kz i = key (A ++ (U ++ (V ++ C)))[i]) (sU : sorted key U) (sV : sorted key V) {a m b mid p s en : Nat} (ha : a = A.length) (hm : m = a + U.length) (hb : b = m + V.length) (hp : p + 1 = mid + m) (hen : en + s = mid + m) (has : a ≤ s) (hsm : s ≤ m) (hsd : s ≤ mid) (heb : en ≤ b)
    (h1 : s = a ∨ mid + m - s = b ∨ kz (s - 1) ≤ kz (p + 1 - s)) (h2 : s = m ∨ s = mid ∨ kz (p - s) < kz s) :
    ∃ U1 U2 V1 V2, U = U1 ++ U2 ∧ V = V1 ++ V2 ∧ U1.length = s - a ∧ U2.length = m - s ∧ V1.length = mid - s ∧ V2.length = b - en ∧ mrg key U V = mrg key U1 V1 ++ mrg key U2 V2 := by
  have ku : ∀ t (ht : t < U.length), kz (a + t) = key U[t] := fun t ht => by
    rw [hk (a + t) (by simp; omega), row_u' A U (V ++ C) ht (by omega)]
  have kv : ∀ t (ht : t < V.length), kz (m + t) = key V[t] := fun t ht => by
    rw [hk (m + t) (by simp; omega)]
    congr 1
    have e : A ++ (U ++ (V ++ C)) = (A ++ U) ++ (V ++ C) := by simp
    rw [List.getElem_of_eq e]
    exact row_u' (A ++ U) V C ht (by simp; omega) _
  refine ⟨U.take (s - a), U.drop (s - a), V.take (en - m), V.drop (en - m), (List.take_append_drop _ _).symm, (List.take_append_drop _ _).symm, by simp; omega, by simp; omega, by simp; omega, by simp; omega, ?_⟩
  have p1 := parts_le sU sV (i := s - a) (j := en - m) (by
    rcases h1 with h1 | h1 | h1
    · exact .inl (by omega)
    · exact .inr (.inl (by omega))
    · by_cases q1 : s = a
      · exact .inl (by omega)
      · by_cases q2 : V.length ≤ en - m
        · exact .inr (.inl q2)
        · refine .inr (.inr ⟨by omega, by omega, ?_⟩)
          rw [← ku (s - a - 1) (by omega), ← kv (en - m) (by omega), show a + (s - a - 1) = s - 1 by omega, show m + (en - m) = p + 1 - s by omega]
          exact h1)
  have p2 := parts_lt sU sV (i := s - a) (j := en - m) (by
    rcases h2 with h2 | h2 | h2
    · exact .inr (.inl (by omega))
    · exact .inl (by omega)
    · by_cases q1 : s = mid
      · exact .inl (by omega)
      · by_cases q2 : U.length ≤ s - a
        · exact .inr (.inl q2)
        · refine .inr (.inr ⟨by omega, by omega, ?_⟩)
          rw [← kv (en - m - 1) (by omega), ← ku (s - a) (by omega), show m + (en - m - 1) = p - s by omega, show a + (s - a) = s by omega]
          exact h2)
  have := mrg_split key (U.take (s - a)) (V.take (en - m)) (U.drop (s - a)) (V.drop (en - m)) p1 p2
  rwa [List.take_append_drop, List.take_append_drop] at this
set_option maxRecDepth 1000000 in
set_option maxHeartbeats 16000000 in
theorem sym_main {Pr : Program} {z : Nat} (L : Lay Pr z) (key : THire → Int) (cf : THire → THire → Int) (hcf : ∀ x y, cf x y < 0 ↔ key x < key y) (g : Nat) (cb : Array Value) (eg : ∀ args w, (callFunc g args).run Pr w = .ok (.enter g args) w) {w : World} {blk off n : Nat} (R : Row z w blk off n) (HC : CmpSt Pr g cb cf z w blk off n) (cap : Nat) (A U V C : List THire) (hU : 1 < U.length) (hV : 1 < V.length) (sU : sorted key U) (sV : sorted key V)
    (IH : ∀ (A' U' V' C' : List THire), U'.length + V'.length < U.length + V.length → 0 < U'.length → 0 < V'.length → sorted key U' → sorted key V' → ∀ W', St z w blk off n (A' ++ (U' ++ (V' ++ C'))) W' → ∀ a' m' b' : Nat, a' = A'.length → m' = a' + U'.length → b' = m' + V'.length → Calls Pr 156 #[.slice (some ⟨blk, off, none⟩) n cap, .int .i64 a', .int .i64 m', .int .i64 b', .func (.func g) #[] cb] W' fun e w' => e = .returned (.tuple #[]) ∧ St z w blk off n (A' ++ (mrg key U' V' ++ C')) w')
    (W : World) (h : St z w blk off n (A ++ (U ++ (V ++ C))) W) (a m b : Nat) (ha : a = A.length) (hm : m = a + U.length) (hb : b = m + V.length) :
    Calls Pr 156 #[.slice (some ⟨blk, off, none⟩) n cap, .int .i64 a, .int .i64 m, .int .i64 b, .func (.func g) #[] cb] W fun e w' => e = .returned (.tuple #[]) ∧ St z w blk off n (A ++ (mrg key U V ++ C)) w' := by
  have mixed := L.mixed; have t0 := L.t0; have a0 := L.a0; have z0 := L.z0; have v0 := L.v0; have ti := L.ti; have ai := L.ai; have zi := L.zi; have vi := L.vi; have tb := L.tb; have ab := L.ab; have zb := L.zb; have vb := L.vb; have tu := L.tu; have au := L.au; have zu := L.zu; have vu := L.vu; have ts := L.ts; have asl := L.asl; have zs := L.zs; have vs := L.vs; have ah := L.ah; have zh := L.zh
  have us := run_underlying L.ts
  have HK := hd L.hk
  have HL := hd L
  have HS := hd h
  have hn := R.sm
  have HR := hd R
  have HCS := hd HC
  have HCF := hd hcf
  have HSU := hd sU
  have HSV := hd sV
  have HIH := hd IH
  have hbn : b ≤ n := by have := h.len; simp at this; omega
  have hnl : n ≤ 40 := hn
  have HN3 := hd ha
  have HN1 := hd hm
  have HN2 := hd hb
  have HF := L.fsm
  have esm : ∀ args w, (callFunc 156 args).run Pr w = .ok (.enter 156 args) w := enters_of L.fsm (by kernel_rfl) rfl
  have ero : ∀ args w, (callFunc 173 args).run Pr w = .ok (.enter 173 args) w := enters_of L.fro (by kernel_rfl) rfl
  have e0 : ((m : Int) - (a : Int) == 1) = false := by simp; omega
  have e1 : ((b : Int) - (m : Int) == 1) = false := by simp; omega
  obtain ⟨kz, hkz⟩ : ∃ kz : Nat → Int, ∀ i (hi : i < (A ++ (U ++ (V ++ C))).length), kz i = key (A ++ (U ++ (V ++ C)))[i] := ⟨fun i => key ((A ++ (U ++ (V ++ C))).getD i default), fun i hi => by
    show key ((A ++ (U ++ (V ++ C))).getD i default) = _
    rw [List.getD_eq_getElem?_getD, List.getElem?_eq_getElem hi]; rfl⟩
  have HKZ := hd hkz
  have hm1 : a + 1 < m := by omega
  have hm2 : m + 1 < b := by omega
  obtain ⟨mid, emid, d1, d2⟩ : ∃ mid : Nat, ((a : Int) + (b : Int)) / 2 = (mid : Int) ∧ 2 * mid ≤ a + b ∧ a + b ≤ 2 * mid + 1 := ⟨(a + b) / 2, by omega, by omega, by omega⟩
  obtain ⟨p, ep, hp1, hp2⟩ : ∃ p : Nat, (mid : Int) + (m : Int) - 1 = (p : Int) ∧ p + 1 ≤ mid + m ∧ mid + m ≤ p + 1 := ⟨mid + m - 1, by omega, by omega, by omega⟩
  clear h R L HC hcf sU sV ha hb hm IH hkz hn hU hV
  by_cases hmm : mid < m
  · obtain ⟨lo, elo, l1, l2⟩ : ∃ lo : Nat, (mid : Int) + (m : Int) - (b : Int) = (lo : Int) ∧ lo + b ≤ mid + m ∧ mid + m ≤ lo + b := ⟨mid + m - b, by omega, by omega, by omega⟩
    go_enter HF, Try.ntmps156
    clear HF
    go_wp2_with fail
    as_aux_lemma =>
    go_loopw [20, 21, 23] (fun sv rv cv wr => ∃ s r : Nat, sv = .int .i64 s ∧ rv = .int .i64 r ∧ a ≤ s ∧ mid + m ≤ b + s ∧ s ≤ r ∧ r ≤ m ∧ r ≤ mid ∧ Hid (St z w blk off n (A ++ (U ++ (V ++ C))) wr) ∧ Hid (s = a ∨ mid + m - s = b ∨ kz (s - 1) ≤ kz (p + 1 - s)) ∧ Hid (r = m ∨ r = mid ∨ kz (p - r) < kz r)) (fun sv rv _ _ => (intOf rv).toNat - (intOf sv).toNat)
    case atStart => exact ⟨lo, mid, rfl, rfl, by omega, by omega, by omega, by omega, Nat.le_refl _, HS, hd (.inr (.inl (by omega))), hd (.inr (.inl rfl))⟩
    case round =>
      obtain ⟨s, r, rfl, rfl, h1, h2, h3, h4, h5, HW, HJ, HK2⟩ := hrel
      clear HS
      by_cases hlt : s < r
      · as_aux_lemma =>
        have k1 : s ≤ (s + r) / 2 := by omega
        have k2 : (s + r) / 2 < r := by omega
        have k4 : (s + r) / 2 ≤ p := by omega
        have hwl := HW.out.len
        have lj := fun n' os' => HW.out.load_at Pr HK.out HR.out (i := p - (s + r) / 2) (by omega) rfl n' os'
        have lp := fun n' os' => HW.out.load_at Pr HK.out HR.out (i := (s + r) / 2) (by omega) rfl n' os'
        have K1 := hd (HKZ.out (p - (s + r) / 2) (by omega))
        have K2 := hd (HKZ.out ((s + r) / 2) (by omega))
        generalize (A ++ (U ++ (V ++ C)))[p - (s + r) / 2] = x at lj K1
        generalize (A ++ (U ++ (V ++ C)))[(s + r) / 2] = y at lp K2
        have hcg := fun n' os' => HCS.out _ _ (HW.out.class n' os') x y
        have HC1 := hd (HCF.out x y)
        have CLS := hd HW.out.class
        have c1 : ((s : Int) + (r : Int)) / 2 < (n : Int) := by omega
        have c3 : (0 : Int) ≤ ((s : Int) + (r : Int)) / 2 := by omega
        have c4 : (((s : Int) + (r : Int)) / 2).toNat = (s + r) / 2 := by omega
        have d1 : (p : Int) - ((s : Int) + (r : Int)) / 2 < (n : Int) := by omega
        have d3 : (0 : Int) ≤ (p : Int) - ((s : Int) + (r : Int)) / 2 := by omega
        have d4 : ((p : Int) - ((s : Int) + (r : Int)) / 2).toNat = p - (s + r) / 2 := by omega
        have d5 : ((s : Int) + (r : Int)) / 2 ≤ (p : Int) := by omega
        have d6 : (p : Int) < (n : Int) + ((s : Int) + (r : Int)) / 2 := by omega
        have dw : IntKind.i64.wrap ((p : Int) - ((s : Int) + (r : Int)) / 2) = (p : Int) - ((s : Int) + (r : Int)) / 2 := by rw [IntKind.wrap_i64]; omega
        clear hwl
        by_cases hlv : cf x y < 0
        · go_wp2_with fail
          go_quiet_grown (first | (go_at_fn g; refine Calls.grown_of (hcg _ _)))
          go_wp2_with fail
          go_roundw
          case rel => exact ⟨s, (s + r) / 2, rfl, by rw [show (((s + r) / 2 : Nat) : Int) = ((s : Int) + (r : Int)) / 2 by omega], h1, h2, k1, by omega, by omega, hd (CLS.out nq osq), HJ, hd (.inr (.inr (by rw [K1.out, K2.out]; exact HC1.out.1 hlv)))⟩
          case measure => simp only [intOf]; omega
        · have hlv' : 0 ≤ cf x y := by omega
          have hd1 : decide (cf x y < 0) = false := by simpa using hlv'
          go_wp2_with fail
          go_quiet_grown (first | (go_at_fn g; refine Calls.grown_of (hcg _ _)))
          go_wp2_with fail
          go_roundw
          case rel => exact ⟨(s + r) / 2 + 1, r, by rw [show (((s + r) / 2 + 1 : Nat) : Int) = ((s : Int) + (r : Int)) / 2 + 1 by omega], rfl, by omega, by omega, by omega, h4, h5, hd (CLS.out nq osq), hd (.inr (.inr (by rw [Nat.add_sub_cancel, show p + 1 - ((s + r) / 2 + 1) = p - (s + r) / 2 by omega, K1.out, K2.out]; exact Int.not_lt.1 (fun e => absurd (HC1.out.2 e) (Int.not_lt.2 hlv'))))), HK2⟩
          case measure => simp only [intOf]; omega
      · as_aux_lemma =>
        obtain rfl : s = r := by omega
        clear hlt h3
        obtain ⟨en, een⟩ : ∃ en : Nat, en + s = mid + m := ⟨mid + m - s, by omega⟩
        have e4 : (mid : Int) + (m : Int) - (s : Int) = (en : Int) := by omega
        have hen1 : m ≤ en := by omega
        have hen2 : en ≤ b := by omega
        have hen3 : en + s ≤ mid + m := by omega
        have hen4 : mid + m ≤ en + s := by omega
        obtain ⟨U1, U2, V1, V2, rfl, rfl, hu1, hu2, hv1, hv2, hsp⟩ := sym_split (key := key) HKZ.out HSU.out HSV.out HN3.out HN1.out HN2.out (by omega) een h1 h4 h5 hen2 HJ.out HK2.out
        have HSP := hd hsp
        have HLU := hd (And.intro hu1 hu2)
        have HLV := hd (And.intro hv1 hv2)
        have sU1 : sorted key U1 := (List.pairwise_append.1 HSU.out).1
        have sU2 : sorted key U2 := (List.pairwise_append.1 HSU.out).2.1
        have sV1 : sorted key V1 := (List.pairwise_append.1 HSV.out).1
        have sV2 : sorted key V2 := (List.pairwise_append.1 HSV.out).2.1
        have HSS := hd (And.intro (And.intro sU1 sU2) (And.intro sV1 sV2))
        clear hsp hu1 hu2 hv1 hv2 sU1 sU2 sV1 sV2 een HJ HK2 HKZ HCF HCS
        replace HW := hd (show St z w blk off n (A ++ (U1 ++ (U2 ++ (V1 ++ (V2 ++ C))))) wr by have := HW.out; simpa only [List.append_assoc] using this)
        have HI1 := hd (fun W' (hs : St z w blk off n (A ++ (U1 ++ (U2 ++ (V1 ++ (V2 ++ C))))) W') (hP : s < m) (hQ : s < mid) => show Calls Pr 173 #[.slice (some ⟨blk, off, none⟩) n cap, .int .i64 s, .int .i64 m, .int .i64 en, .func (.func g) #[] cb] W' (fun e w' => e = .returned (.tuple #[]) ∧ St z w blk off n (A ++ (U1 ++ (V1 ++ (U2 ++ (V2 ++ C))))) w') by
          have a1 := HLU.out; have a2 := HLV.out; have a3 := HN3.out; have a4 := HN1.out; have a5 := HN2.out
          have := rot_fn HL.out HR.out cap (.func (.func g) #[] cb) (A ++ U1) U2 V1 (V2 ++ C) (by omega) (by omega) W' (by simpa only [List.append_assoc] using hs) s m en (by simp; omega) (by simp; omega) (by simp; omega)
          simpa only [List.append_assoc] using this)
        have HM1 := hd (fun (h : ¬ s < m ∨ ¬ s < mid) => show A ++ (U1 ++ (V1 ++ (U2 ++ (V2 ++ C)))) = A ++ (U1 ++ (U2 ++ (V1 ++ (V2 ++ C)))) by
          have a1 := HLU.out; have a2 := HLV.out
          rcases h with h | h
          · have : U2 = [] := List.eq_nil_of_length_eq_zero (by omega)
            subst this; rfl
          · have : V1 = [] := List.eq_nil_of_length_eq_zero (by omega)
            subst this; rfl)
        have HI2 := hd (fun W' (hs : St z w blk off n (A ++ (U1 ++ (V1 ++ (U2 ++ (V2 ++ C))))) W') (hR : a < s) (hQ : s < mid) => show Calls Pr 156 #[.slice (some ⟨blk, off, none⟩) n cap, .int .i64 a, .int .i64 s, .int .i64 mid, .func (.func g) #[] cb] W' (fun e w' => e = .returned (.tuple #[]) ∧ St z w blk off n (A ++ (mrg key U1 V1 ++ (U2 ++ (V2 ++ C)))) w') by
          have a1 := HLU.out; have a2 := HLV.out; have a3 := HN3.out; have a4 := HN1.out; have a5 := HN2.out
          exact HIH.out A U1 V1 (U2 ++ (V2 ++ C)) (by simp; omega) (by omega) (by omega) HSS.out.1.1 HSS.out.2.1 W' hs a s mid a3 (by omega) (by omega))
        have HM2 := hd (fun (h : ¬ a < s ∨ ¬ s < mid) => show mrg key U1 V1 = U1 ++ V1 by
          have a1 := HLU.out; have a2 := HLV.out
          rcases h with h | h
          · have : U1 = [] := List.eq_nil_of_length_eq_zero (by omega)
            subst this; rw [mrg_nil_left]; rfl
          · have : V1 = [] := List.eq_nil_of_length_eq_zero (by omega)
            subst this; rw [mrg_nil_right, List.append_nil])
        have HI3 := hd (fun W' (hs : St z w blk off n (A ++ (mrg key U1 V1 ++ (U2 ++ (V2 ++ C)))) W') (hP : s < m) (hT : en < b) => show Calls Pr 156 #[.slice (some ⟨blk, off, none⟩) n cap, .int .i64 mid, .int .i64 en, .int .i64 b, .func (.func g) #[] cb] W' (fun e w' => e = .returned (.tuple #[]) ∧ St z w blk off n (A ++ (mrg key U1 V1 ++ (mrg key U2 V2 ++ C))) w') by
          have a1 := HLU.out; have a2 := HLV.out; have a3 := HN3.out; have a4 := HN1.out; have a5 := HN2.out
          have := HIH.out (A ++ mrg key U1 V1) U2 V2 C (by simp; omega) (by omega) (by simp at a5; omega) HSS.out.1.2 HSS.out.2.2 W' (by simpa only [List.append_assoc] using hs) mid en b (by rw [List.length_append, mrg_len]; omega) (by omega) (by simp at a5; omega)
          simpa only [List.append_assoc] using this)
        have HM3 := hd (fun (h : ¬ s < m ∨ ¬ en < b) => show mrg key U2 V2 = U2 ++ V2 by
          have a1 := HLU.out; have a2 := HLV.out; have a5 := HN2.out
          rcases h with h | h
          · have : U2 = [] := List.eq_nil_of_length_eq_zero (by omega)
            subst this; rw [mrg_nil_left]; rfl
          · have : V2 = [] := List.eq_nil_of_length_eq_zero (by simp at a5; omega)
            subst this; rw [mrg_nil_right, List.append_nil])
        have hP : s < m := by omega
        by_cases hQ : s < mid
        · as_aux_lemma =>
          have HC1 := HI1.out _ HW.out hP hQ
          clear HI1 HM1
          go_wp2_with fail
          refine HC1.mono ?_
          rintro e wx ⟨rfl, hs⟩
          replace HW := hd hs
          clear hs HC1
          by_cases hR : a < s
          · as_aux_lemma =>
            have HC2 := HI2.out _ HW.out hR hQ
            clear HI2 HM2
            go_wp2_with fail
            refine HC2.mono ?_
            rintro e wy ⟨rfl, hs⟩
            replace HW := hd hs
            clear hs HC2
            by_cases hT : en < b
            · as_aux_lemma =>
              have HC3 := HI3.out _ HW.out hP hT
              clear HI3 HM3
              go_wp2_with fail
              refine HC3.mono ?_
              rintro e wz ⟨rfl, hs⟩
              replace HW := hd hs
              clear hs HC3
              go_wp2_with fail
              go_end0
              exact ⟨rfl, by rw [HSP.out]; have := HW.out; simpa only [List.append_assoc] using this⟩
            · as_aux_lemma =>
              replace HW := hd (show St z w blk off n (A ++ (mrg key U1 V1 ++ (mrg key U2 V2 ++ C))) _ from by rw [HM3.out (.inr hT)]; have := HW.out; simpa only [List.append_assoc] using this)
              clear HM3 HI3
              go_wp2_with fail
              go_end0
              exact ⟨rfl, by rw [HSP.out]; have := HW.out; simpa only [List.append_assoc] using this⟩
          · as_aux_lemma =>
            replace HW := hd (show St z w blk off n (A ++ (mrg key U1 V1 ++ (U2 ++ (V2 ++ C)))) _ from by rw [HM2.out (.inl hR)]; have := HW.out; simpa only [List.append_assoc] using this)
            clear HM2 HI2
            have hT : ¬ en < b := by omega
            replace HW := hd (show St z w blk off n (A ++ (mrg key U1 V1 ++ (mrg key U2 V2 ++ C))) _ from by rw [HM3.out (.inr hT)]; have := HW.out; simpa only [List.append_assoc] using this)
            clear HM3 HI3
            go_wp2_with fail
            go_end0
            exact ⟨rfl, by rw [HSP.out]; have := HW.out; simpa only [List.append_assoc] using this⟩
        · as_aux_lemma =>
          replace HW := hd (show St z w blk off n (A ++ (U1 ++ (V1 ++ (U2 ++ (V2 ++ C))))) _ from by rw [HM1.out (.inr hQ)]; exact HW.out)
          clear HM1 HI1
          have hR : a < s := by omega
          replace HW := hd (show St z w blk off n (A ++ (mrg key U1 V1 ++ (U2 ++ (V2 ++ C)))) _ from by rw [HM2.out (.inr hQ)]; have := HW.out; simpa only [List.append_assoc] using this)
          clear HM2 HI2
          have hT : en < b := by omega
          have HC3 := HI3.out _ HW.out hP hT
          clear HI3 HM3
          go_wp2_with fail
          refine HC3.mono ?_
          rintro e wz ⟨rfl, hs⟩
          replace HW := hd hs
          clear hs HC3
          go_wp2_with fail
          go_end0
          exact ⟨rfl, by rw [HSP.out]; have := HW.out; simpa only [List.append_assoc] using this⟩
  · have hmm' : m ≤ mid := by omega
    go_enter HF, Try.ntmps156
    clear HF
    go_wp2_with fail
    as_aux_lemma =>
    go_loopw [20, 21, 23] (fun sv rv cv wr => ∃ s r : Nat, sv = .int .i64 s ∧ rv = .int .i64 r ∧ a ≤ s ∧ mid + m ≤ b + s ∧ s ≤ r ∧ r ≤ m ∧ r ≤ mid ∧ Hid (St z w blk off n (A ++ (U ++ (V ++ C))) wr) ∧ Hid (s = a ∨ mid + m - s = b ∨ kz (s - 1) ≤ kz (p + 1 - s)) ∧ Hid (r = m ∨ r = mid ∨ kz (p - r) < kz r)) (fun sv rv _ _ => (intOf rv).toNat - (intOf sv).toNat)
    case atStart => exact ⟨a, m, rfl, rfl, Nat.le_refl _, by omega, by omega, Nat.le_refl _, hmm', HS, hd (.inl rfl), hd (.inl rfl)⟩
    case round =>
      obtain ⟨s, r, rfl, rfl, h1, h2, h3, h4, h5, HW, HJ, HK2⟩ := hrel
      clear HS
      by_cases hlt : s < r
      · as_aux_lemma =>
        have k1 : s ≤ (s + r) / 2 := by omega
        have k2 : (s + r) / 2 < r := by omega
        have k4 : (s + r) / 2 ≤ p := by omega
        have hwl := HW.out.len
        have lj := fun n' os' => HW.out.load_at Pr HK.out HR.out (i := p - (s + r) / 2) (by omega) rfl n' os'
        have lp := fun n' os' => HW.out.load_at Pr HK.out HR.out (i := (s + r) / 2) (by omega) rfl n' os'
        have K1 := hd (HKZ.out (p - (s + r) / 2) (by omega))
        have K2 := hd (HKZ.out ((s + r) / 2) (by omega))
        generalize (A ++ (U ++ (V ++ C)))[p - (s + r) / 2] = x at lj K1
        generalize (A ++ (U ++ (V ++ C)))[(s + r) / 2] = y at lp K2
        have hcg := fun n' os' => HCS.out _ _ (HW.out.class n' os') x y
        have HC1 := hd (HCF.out x y)
        have CLS := hd HW.out.class
        have c1 : ((s : Int) + (r : Int)) / 2 < (n : Int) := by omega
        have c3 : (0 : Int) ≤ ((s : Int) + (r : Int)) / 2 := by omega
        have c4 : (((s : Int) + (r : Int)) / 2).toNat = (s + r) / 2 := by omega
        have d1 : (p : Int) - ((s : Int) + (r : Int)) / 2 < (n : Int) := by omega
        have d3 : (0 : Int) ≤ (p : Int) - ((s : Int) + (r : Int)) / 2 := by omega
        have d4 : ((p : Int) - ((s : Int) + (r : Int)) / 2).toNat = p - (s + r) / 2 := by omega
        have d5 : ((s : Int) + (r : Int)) / 2 ≤ (p : Int) := by omega
        have d6 : (p : Int) < (n : Int) + ((s : Int) + (r : Int)) / 2 := by omega
        have dw : IntKind.i64.wrap ((p : Int) - ((s : Int) + (r : Int)) / 2) = (p : Int) - ((s : Int) + (r : Int)) / 2 := by rw [IntKind.wrap_i64]; omega
        clear hwl
        by_cases hlv : cf x y < 0
        · go_wp2_with fail
          go_quiet_grown (first | (go_at_fn g; refine Calls.grown_of (hcg _ _)))
          go_wp2_with fail
          go_roundw
          case rel => exact ⟨s, (s + r) / 2, rfl, by rw [show (((s + r) / 2 : Nat) : Int) = ((s : Int) + (r : Int)) / 2 by omega], h1, h2, k1, by omega, by omega, hd (CLS.out nq osq), HJ, hd (.inr (.inr (by rw [K1.out, K2.out]; exact HC1.out.1 hlv)))⟩
          case measure => simp only [intOf]; omega
        · have hlv' : 0 ≤ cf x y := by omega
          have hd1 : decide (cf x y < 0) = false := by simpa using hlv'
          go_wp2_with fail
          go_quiet_grown (first | (go_at_fn g; refine Calls.grown_of (hcg _ _)))
          go_wp2_with fail
          go_roundw
          case rel => exact ⟨(s + r) / 2 + 1, r, by rw [show (((s + r) / 2 + 1 : Nat) : Int) = ((s : Int) + (r : Int)) / 2 + 1 by omega], rfl, by omega, by omega, by omega, h4, h5, hd (CLS.out nq osq), hd (.inr (.inr (by rw [Nat.add_sub_cancel, show p + 1 - ((s + r) / 2 + 1) = p - (s + r) / 2 by omega, K1.out, K2.out]; exact Int.not_lt.1 (fun e => absurd (HC1.out.2 e) (Int.not_lt.2 hlv'))))), HK2⟩
          case measure => simp only [intOf]; omega
      · as_aux_lemma =>
        obtain rfl : s = r := by omega
        clear hlt h3
        obtain ⟨en, een⟩ : ∃ en : Nat, en + s = mid + m := ⟨mid + m - s, by omega⟩
        have e4 : (mid : Int) + (m : Int) - (s : Int) = (en : Int) := by omega
        have hen1 : m ≤ en := by omega
        have hen2 : en ≤ b := by omega
        have hen3 : en + s ≤ mid + m := by omega
        have hen4 : mid + m ≤ en + s := by omega
        obtain ⟨U1, U2, V1, V2, rfl, rfl, hu1, hu2, hv1, hv2, hsp⟩ := sym_split (key := key) HKZ.out HSU.out HSV.out HN3.out HN1.out HN2.out (by omega) een h1 h4 h5 hen2 HJ.out HK2.out
        have HSP := hd hsp
        have HLU := hd (And.intro hu1 hu2)
        have HLV := hd (And.intro hv1 hv2)
        have sU1 : sorted key U1 := (List.pairwise_append.1 HSU.out).1
        have sU2 : sorted key U2 := (List.pairwise_append.1 HSU.out).2.1
        have sV1 : sorted key V1 := (List.pairwise_append.1 HSV.out).1
        have sV2 : sorted key V2 := (List.pairwise_append.1 HSV.out).2.1
        have HSS := hd (And.intro (And.intro sU1 sU2) (And.intro sV1 sV2))
        clear hsp hu1 hu2 hv1 hv2 sU1 sU2 sV1 sV2 een HJ HK2 HKZ HCF HCS
        replace HW := hd (show St z w blk off n (A ++ (U1 ++ (U2 ++ (V1 ++ (V2 ++ C))))) wr by have := HW.out; simpa only [List.append_assoc] using this)
        have HI1 := hd (fun W' (hs : St z w blk off n (A ++ (U1 ++ (U2 ++ (V1 ++ (V2 ++ C))))) W') (hP : s < m) (hQ : s < mid) => show Calls Pr 173 #[.slice (some ⟨blk, off, none⟩) n cap, .int .i64 s, .int .i64 m, .int .i64 en, .func (.func g) #[] cb] W' (fun e w' => e = .returned (.tuple #[]) ∧ St z w blk off n (A ++ (U1 ++ (V1 ++ (U2 ++ (V2 ++ C))))) w') by
          have a1 := HLU.out; have a2 := HLV.out; have a3 := HN3.out; have a4 := HN1.out; have a5 := HN2.out
          have := rot_fn HL.out HR.out cap (.func (.func g) #[] cb) (A ++ U1) U2 V1 (V2 ++ C) (by omega) (by omega) W' (by simpa only [List.append_assoc] using hs) s m en (by simp; omega) (by simp; omega) (by simp; omega)
          simpa only [List.append_assoc] using this)
        have HM1 := hd (fun (h : ¬ s < m ∨ ¬ s < mid) => show A ++ (U1 ++ (V1 ++ (U2 ++ (V2 ++ C)))) = A ++ (U1 ++ (U2 ++ (V1 ++ (V2 ++ C)))) by
          have a1 := HLU.out; have a2 := HLV.out
          rcases h with h | h
          · have : U2 = [] := List.eq_nil_of_length_eq_zero (by omega)
            subst this; rfl
          · have : V1 = [] := List.eq_nil_of_length_eq_zero (by omega)
            subst this; rfl)
        have HI2 := hd (fun W' (hs : St z w blk off n (A ++ (U1 ++ (V1 ++ (U2 ++ (V2 ++ C))))) W') (hR : a < s) (hQ : s < mid) => show Calls Pr 156 #[.slice (some ⟨blk, off, none⟩) n cap, .int .i64 a, .int .i64 s, .int .i64 mid, .func (.func g) #[] cb] W' (fun e w' => e = .returned (.tuple #[]) ∧ St z w blk off n (A ++ (mrg key U1 V1 ++ (U2 ++ (V2 ++ C)))) w') by
          have a1 := HLU.out; have a2 := HLV.out; have a3 := HN3.out; have a4 := HN1.out; have a5 := HN2.out
          exact HIH.out A U1 V1 (U2 ++ (V2 ++ C)) (by simp; omega) (by omega) (by omega) HSS.out.1.1 HSS.out.2.1 W' hs a s mid a3 (by omega) (by omega))
        have HM2 := hd (fun (h : ¬ a < s ∨ ¬ s < mid) => show mrg key U1 V1 = U1 ++ V1 by
          have a1 := HLU.out; have a2 := HLV.out
          rcases h with h | h
          · have : U1 = [] := List.eq_nil_of_length_eq_zero (by omega)
            subst this; rw [mrg_nil_left]; rfl
          · have : V1 = [] := List.eq_nil_of_length_eq_zero (by omega)
            subst this; rw [mrg_nil_right, List.append_nil])
        have HI3 := hd (fun W' (hs : St z w blk off n (A ++ (mrg key U1 V1 ++ (U2 ++ (V2 ++ C)))) W') (hP : s < m) (hT : en < b) => show Calls Pr 156 #[.slice (some ⟨blk, off, none⟩) n cap, .int .i64 mid, .int .i64 en, .int .i64 b, .func (.func g) #[] cb] W' (fun e w' => e = .returned (.tuple #[]) ∧ St z w blk off n (A ++ (mrg key U1 V1 ++ (mrg key U2 V2 ++ C))) w') by
          have a1 := HLU.out; have a2 := HLV.out; have a3 := HN3.out; have a4 := HN1.out; have a5 := HN2.out
          have := HIH.out (A ++ mrg key U1 V1) U2 V2 C (by simp; omega) (by omega) (by simp at a5; omega) HSS.out.1.2 HSS.out.2.2 W' (by simpa only [List.append_assoc] using hs) mid en b (by rw [List.length_append, mrg_len]; omega) (by omega) (by simp at a5; omega)
          simpa only [List.append_assoc] using this)
        have HM3 := hd (fun (h : ¬ s < m ∨ ¬ en < b) => show mrg key U2 V2 = U2 ++ V2 by
          have a1 := HLU.out; have a2 := HLV.out; have a5 := HN2.out
          rcases h with h | h
          · have : U2 = [] := List.eq_nil_of_length_eq_zero (by omega)
            subst this; rw [mrg_nil_left]; rfl
          · have : V2 = [] := List.eq_nil_of_length_eq_zero (by simp at a5; omega)
            subst this; rw [mrg_nil_right, List.append_nil])
        by_cases hP : s < m
        · as_aux_lemma =>
          have hQ : s < mid := by omega
          have HC1 := HI1.out _ HW.out hP hQ
          clear HI1 HM1
          go_wp2_with fail
          refine HC1.mono ?_
          rintro e wx ⟨rfl, hs⟩
          replace HW := hd hs
          clear hs HC1
          by_cases hR : a < s
          · as_aux_lemma =>
            have HC2 := HI2.out _ HW.out hR hQ
            clear HI2 HM2
            go_wp2_with fail
            refine HC2.mono ?_
            rintro e wy ⟨rfl, hs⟩
            replace HW := hd hs
            clear hs HC2
            have hT : en < b := by omega
            have HC3 := HI3.out _ HW.out hP hT
            clear HI3 HM3
            go_wp2_with fail
            refine HC3.mono ?_
            rintro e wz ⟨rfl, hs⟩
            replace HW := hd hs
            clear hs HC3
            go_wp2_with fail
            go_end0
            exact ⟨rfl, by rw [HSP.out]; have := HW.out; simpa only [List.append_assoc] using this⟩
          · as_aux_lemma =>
            replace HW := hd (show St z w blk off n (A ++ (mrg key U1 V1 ++ (U2 ++ (V2 ++ C)))) _ from by rw [HM2.out (.inl hR)]; have := HW.out; simpa only [List.append_assoc] using this)
            clear HM2 HI2
            by_cases hT : en < b
            · as_aux_lemma =>
              have HC3 := HI3.out _ HW.out hP hT
              clear HI3 HM3
              go_wp2_with fail
              refine HC3.mono ?_
              rintro e wz ⟨rfl, hs⟩
              replace HW := hd hs
              clear hs HC3
              go_wp2_with fail
              go_end0
              exact ⟨rfl, by rw [HSP.out]; have := HW.out; simpa only [List.append_assoc] using this⟩
            · as_aux_lemma =>
              replace HW := hd (show St z w blk off n (A ++ (mrg key U1 V1 ++ (mrg key U2 V2 ++ C))) _ from by rw [HM3.out (.inr hT)]; have := HW.out; simpa only [List.append_assoc] using this)
              clear HM3 HI3
              go_wp2_with fail
              go_end0
              exact ⟨rfl, by rw [HSP.out]; have := HW.out; simpa only [List.append_assoc] using this⟩
        · as_aux_lemma =>
          replace HW := hd (show St z w blk off n (A ++ (U1 ++ (V1 ++ (U2 ++ (V2 ++ C))))) _ from by rw [HM1.out (.inl hP)]; exact HW.out)
          clear HM1 HI1
          have hR : a < s := by omega
          by_cases hQ : s < mid
          · as_aux_lemma =>
            have HC2 := HI2.out _ HW.out hR hQ
            clear HI2 HM2
            go_wp2_with fail
            refine HC2.mono ?_
            rintro e wy ⟨rfl, hs⟩
            replace HW := hd hs
            clear hs HC2
            replace HW := hd (show St z w blk off n (A ++ (mrg key U1 V1 ++ (mrg key U2 V2 ++ C))) _ from by rw [HM3.out (.inl hP)]; have := HW.out; simpa only [List.append_assoc] using this)
            clear HM3 HI3
            go_wp2_with fail
            go_end0
            exact ⟨rfl, by rw [HSP.out]; have := HW.out; simpa only [List.append_assoc] using this⟩
          · as_aux_lemma =>
            replace HW := hd (show St z w blk off n (A ++ (mrg key U1 V1 ++ (U2 ++ (V2 ++ C)))) _ from by rw [HM2.out (.inr hQ)]; have := HW.out; simpa only [List.append_assoc] using this)
            clear HM2 HI2
            replace HW := hd (show St z w blk off n (A ++ (mrg key U1 V1 ++ (mrg key U2 V2 ++ C))) _ from by rw [HM3.out (.inl hP)]; have := HW.out; simpa only [List.append_assoc] using this)
            clear HM3 HI3
            go_wp2_with fail
            go_end0
            exact ⟨rfl, by rw [HSP.out]; have := HW.out; simpa only [List.append_assoc] using this⟩
end Go.Proofs.Ytlgcehdklpbknaa
