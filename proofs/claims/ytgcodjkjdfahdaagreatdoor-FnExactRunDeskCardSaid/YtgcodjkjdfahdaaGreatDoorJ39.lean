/- Texts of the claim, joined: each says at its head what it proves. No condition. -/
import Derived.Test.YtgcodjkjdfahdaaGreatDoorJ38
import Derived.Test.YtgcodjkjdfahdaaGreatDoorJ16
import Derived.Test.YtgcodjkjdfahdaaGreatDoorJ12
import Derived.Test.YtgcodjkjdfahdaaGreatDoorJ33
/- What the reference's record of the console gives out: lines, errors, numbers, texts. No condition but bounds. -/
namespace Go.Proofs.YtgcodjkjdfahdaaGreatDoor
open Go Go.RowKit Go.ChangeShapes Go.WideShapes
set_option linter.unusedSimpArgs false
set_option linter.unusedVariables false
theorem decS_ne (n : Int) : ¬ decS n = ⟨#[]⟩ := fun e => by
  have h : (decS n).data.toList = [] := by rw [e]
  rw [decS_list] at h
  unfold Lib.itoa at h
  split at h
  · cases h
  · unfold Lib.decDigits at h
    split at h <;> simp at h
theorem orS_dec (n : Int) : orS (decS n) = decS n := orS_some (decS_ne n)
/-- a line or an error's -/
def lineC (c : Int) (s : ByteArray) : ByteArray := if c = 0 then s else errS c
theorem lineC_ok (s : ByteArray) : lineC 0 s = s := if_pos rfl
theorem lineC_err {c : Int} (h : ¬ c = 0) (s : ByteArray) : lineC c s = errS c := if_neg h
theorem sres_eq {B g : Nat} {vo : Value} {W W' : World} {d : TDk} {L L' : List ByteArray} (h : SRes B g vo W d L W') (e : L = L') : SRes B g vo W d L' W' := e ▸ h
/-- the lines of a row -/
def rowTo (l : List Int) (k : Nat) : ByteArray := if k = 0 then ⟨#[45]⟩ else restTo (l.map decS) k
theorem rowTo_zero (l : List Int) : rowTo l 0 = ⟨#[45]⟩ := rfl
theorem rowTo_one {l : List Int} (h : 0 < l.length) : rowTo l 1 = decS l[0] := by
  cases l with
  | nil => simp at h
  | cons x r => exact restTo_one _ _
theorem rowTo_succ {l : List Int} {k : Nat} (h0 : 1 ≤ k) (h : k < l.length) : rowTo l (k + 1) = rowTo l k ++ (⟨#[32]⟩ ++ decS l[k]) := by
  unfold rowTo
  rw [if_neg (by omega), if_neg (by omega), restTo_succ h0 (by rw [List.length_map]; exact h), List.getElem_map]
theorem rowTo_all (l : List Int) : rowTo l l.length = orS (numsS ⟨#[32]⟩ l) := by
  cases l with
  | nil => rfl
  | cons x r =>
    unfold rowTo
    rw [if_neg (by simp), restTo_all (by rw [List.length_map]; exact Nat.le_refl _)]
    refine (orS_some (s := numsS ⟨#[32]⟩ (x :: r)) fun e => ?_).symm
    have h : (numsS ⟨#[32]⟩ (x :: r)).data.toList = [] := by rw [e]
    have h1 : Lib.join (((x :: r).map decS).map (·.data.toList)) (⟨#[32]⟩ : ByteArray).data.toList = [] := (joinS_list _ _).symm.trans h
    rw [List.map_cons, List.map_cons, Lib.join_cons] at h1
    have h2 := (List.append_eq_nil_iff.1 h1).1
    exact decS_ne x (ba_ext h2)
theorem rowTo_size {l : List Int} (hl : l.length ≤ 1000) (hr : ∀ x ∈ l, -9223372036854775808 ≤ x ∧ x ≤ 9223372036854775807) (k : Nat) : (rowTo l k).size ≤ 22000 := by
  unfold rowTo
  split
  · decide
  · exact Nat.le_trans (restTo_le _ _) (numsS_size hl hr)
set_option maxRecDepth 100000 in
set_option maxHeartbeats 4000000 in
theorem say_spec (W : World) (B g : Nat) (d : TDk) (vo : Value) (L : List ByteArray) (t : ByteArray) (hS : SAt W B g d vo L) (hL : L.length ≤ 1000000) :
    Calls Tryz.prog 41 #[.pointer (some ⟨g, 0, none⟩), .string t] W fun e W' => e = .returned (.tuple #[]) ∧ SRes B g vo W d (L ++ [t]) W' := by
  obtain ⟨i0, hi, hz0, hz1, hz2⟩ := info_parts info_str
  have H := hd hS
  obtain ⟨A, c, rfl⟩ := hS.out.isSlice
  have c4 := hS.c4
  have f4 := hS.fr 4
  have hlt := hS.lt
  have hbs := hS.base
  have own1 := hS.out.alloc (.cells #[.string t] 9)
  have K1 := (Below.refl W.heap.size W).alloc (Nat.le_refl _) (.cells #[.string t] 9)
  have hBW : B ≤ W.heap.size := by omega
  have HNO := hd hS.no
  clear hS
  go_enter Tryz.func41, Tryz.ntmps41
  go_wp2_with (at_builtin; refine wpList_push_at _ rfl _ _ 24 rfl i0 (.string ByteArray.empty) 16 Tryz.underlying24 hi hz0 hz1 hz2 rfl (by decide) _ L t rfl own1 W.heap.size rfl #[.string t] 9 (heap_alloc_new _ _) rfl rfl (by intro u hu; simp [eS] at hu; subst hu; rfl) (by unfold maxLen; omega) (by omega) (by simp; omega) ?_)
  intro v' w3 hown2 hgr2 hat
  have hblk : w3.heap[g]? = W.heap[g]? := (hgr2.block g (Nat.lt_of_lt_of_le hlt K1.size) (fun e => HNO.out g e.symm rfl)).trans (K1.block g hlt)
  have e4 := cell_blk hblk c4
  have h4 : w3.frozen? ⟨g, 4, none⟩ = false := (World.frozen?_of_block (w := W) (a := ⟨g, 4, none⟩) hblk).trans f4
  obtain ⟨A', c', hv'⟩ := hown2.isSlice
  rw [List.length_append, List.length_singleton] at hv'
  subst hv'
  have HR := hd (H.out.put4 K1 hgr2 hown2 (hat.imp id fun e k hk => by rw [e] at hk; injection hk with hk; have := K1.size; omega) rfl)
  clear hgr2 hat own1 K1 c4 f4 hown2
  go_wp2_with fail
  go_end0
  exact ⟨rfl, HR.out⟩
set_option maxRecDepth 100000 in
theorem report_ok (W : World) (g : Nat) : Calls Tryz.prog 39 #[.pointer (some ⟨g, 0, none⟩), .int .i64 0] W fun e W' => e = .returned (.bool false) ∧ W' = W := by
  go_enter Tryz.func39, Tryz.ntmps39
  go_wp2_with fail
  go_ret
  exact ⟨rfl, rfl⟩
set_option maxRecDepth 100000 in
set_option maxHeartbeats 4000000 in
theorem report_err (W : World) (B g : Nat) (d : TDk) (vo : Value) (L : List ByteArray) (hS : SAt W B g d vo L) (hL : L.length ≤ 1000000) (c : Int) (hc : ¬ c = 0) :
    Calls Tryz.prog 39 #[.pointer (some ⟨g, 0, none⟩), .int .i64 c] W fun e W' => e = .returned (.bool true) ∧ SRes B g vo W d (L ++ [errS c]) W' := by
  have hcz := codeS_size c
  have HR := hd (show errS c = ⟨#[101, 114, 114, 111, 114, 32]⟩ ++ codeS c from rfl)
  have HCN := hd (cname_spec W c)
  have kc : (c == 0) = false := by simpa using hc
  obtain ⟨cs, hcs⟩ : ∃ cs, codeS c = cs := ⟨_, rfl⟩
  rw [hcs] at hcz HR HCN
  clear hc hcs
  go_enter Tryz.func39, Tryz.ntmps39
  go_wp2_with fail
  refine HCN.out.mono ?_
  rintro e w1 ⟨rfl, hb1⟩
  have HS := hd (fun t => say_spec w1 B g d vo L t (hS.below hb1) hL)
  clear HCN
  go_wp2_with fail
  refine (HS.out _).mono ?_
  rintro e w2 ⟨rfl, hr⟩
  go_wp2_with fail
  go_ret
  exact ⟨rfl, sres_eq (hr.pre hb1) (by rw [HR.out])⟩
set_option maxRecDepth 100000 in
set_option maxHeartbeats 4000000 in
theorem list_spec (W : World) (B g : Nat) (d : TDk) (vo : Value) (L : List ByteArray) (hS : SAt W B g d vo L) (hL : L.length ≤ 900000) (v : Value) (l : List ByteArray) (h : Sl W 1 v eS l) (hl : l.length ≤ 10000) :
    Calls Tryz.prog 176 #[.pointer (some ⟨g, 0, none⟩), v] W fun e W' => e = .returned (.tuple #[]) ∧ SRes B g vo W d (L ++ (l ++ [okS l.length])) W' := by
  obtain ⟨i0, hi, hz0, hz1, hz2⟩ := info_parts info_str
  have H := hd hS
  obtain ⟨A, c, rfl⟩ := hS.out.isSlice
  have c4 := hS.c4
  have f4 := hS.fr 4
  have hlt := hS.lt
  have hbs := hS.base
  have own1 := hS.out
  have hBW : B ≤ W.heap.size := by omega
  have HNO := hd hS.no
  have HV := hd h
  obtain ⟨A2, c2, rfl⟩ := h.isSlice
  have s1 := decS_size (n := (l.length : Int)) (by omega)
  have HOK := hd (show okS l.length = ⟨#[111, 107, 32]⟩ ++ decS (l.length : Int) from rfl)
  clear hS h
  go_enter Tryz.func176, Tryz.ntmps176
  go_wp2_with (at_builtin; refine wpList_append_sl_at _ rfl _ _ 24 rfl i0 (.string ByteArray.empty) 16 Tryz.underlying24 hi hz0 hz1 hz2 rfl (by decide) eS_len (by intro y u hu; simp [eS] at hu; subst hu; rfl) _ L rfl own1 _ l rfl HV.out (by unfold maxLen; omega) (by omega) hBW ?_)
  intro v' w3 hown2 hgr2 hat
  have hblk : w3.heap[g]? = W.heap[g]? := hgr2.block g hlt (fun e => HNO.out g e.symm rfl)
  have e4 := cell_blk hblk c4
  have h4 : w3.frozen? ⟨g, 4, none⟩ = false := (World.frozen?_of_block (w := W) (a := ⟨g, 4, none⟩) hblk).trans f4
  obtain ⟨A', c', hv'⟩ := hown2.isSlice
  rw [List.length_append] at hv'
  subst hv'
  have HR := hd (H.out.put4 (Below.refl _ _) hgr2 hown2 (hat.imp id fun e k hk => by rw [e] at hk; injection hk with hk; omega) rfl)
  clear hgr2 hat own1 c4 f4 hown2 HV
  go_wp2_with fail
  generalize (w3.setCell ⟨g, 4, none⟩ (.slice A' (L.length + l.length) c')) = W4 at HR ⊢
  obtain ⟨vo', hS4, hf4⟩ := HR.out
  have HDC := hd (dec_spec W4 (l.length : Int) (by omega))
  obtain ⟨ds, hds⟩ : ∃ ds, decS (l.length : Int) = ds := ⟨_, rfl⟩
  rw [hds] at s1 HOK HDC
  clear hds
  refine HDC.out.mono ?_
  rintro e w5 ⟨rfl, hb5⟩
  have HS := hd (fun t => say_spec w5 B g d vo' (L ++ l) t (hS4.below hb5) (by rw [List.length_append]; omega))
  clear HDC
  go_wp2_with fail
  refine (HS.out _).mono ?_
  rintro e w6 ⟨rfl, hr⟩
  go_wp2_with fail
  go_end0
  exact ⟨rfl, sres_eq ((hr.pre hb5).after hf4) (by rw [HOK.out, List.append_assoc])⟩
set_option maxRecDepth 100000 in
set_option maxHeartbeats 4000000 in
theorem row_spec (W : World) (B g : Nat) (d : TDk) (vo : Value) (L : List ByteArray) (hS : SAt W B g d vo L) (hL : L.length ≤ 1000000) (v : Value) (l : List Int) (h : Sl W 1 v eI l) (hl : l.length ≤ 1000) (hr : ∀ x ∈ l, -9223372036854775808 ≤ x ∧ x ≤ 9223372036854775807) :
    Calls Tryz.prog 178 #[.pointer (some ⟨g, 0, none⟩), v] W fun e W' => e = .returned (.tuple #[]) ∧ SRes B g vo W d (L ++ [orS (numsS ⟨#[32]⟩ l)]) W' := by
  have HSZ := hd (rowTo_size hl hr)
  have HRB := hd hr
  have HV := hd h
  obtain ⟨A, c, rfl⟩ := h.isSlice
  clear h hr
  go_enter Tryz.func178, Tryz.ntmps178
  go_wp2_with fail
  go_loopw [4, 5] (fun sv iv wr => ∃ k : Nat, k ≤ l.length ∧ iv = .int .i64 k ∧ sv = .string (rowTo l k) ∧ Below W.heap.size W wr) (fun _ iv _ => l.length - (intOf iv).toNat)
  case atStart => exact ⟨0, Nat.zero_le _, rfl, by rw [rowTo_zero], Below.refl _ _⟩
  case round =>
    obtain ⟨k, hk, rfl, rfl, hbel⟩ := hrel
    by_cases hlt : k < l.length
    · obtain ⟨b, o, hA, hb, hcell⟩ := (HV.out.below hbel).int_at hlt
      subst hA
      have hbx := HRB.out _ (List.getElem_mem hlt)
      have hrs := HSZ.out k
      have HDC := hd (dec_spec wr l[k] hbx)
      have s1 := decS_size hbx
      by_cases h0 : k = 0
      · subst h0
        have HE := hd (rowTo_one hlt)
        rw [Nat.add_zero] at hcell
        generalize l[0] = x at hcell HE HDC s1
        generalize decS x = t at HE HDC s1
        clear hrs hbx
        go_wp2_with fail
        refine HDC.out.mono ?_
        rintro e w1 ⟨rfl, hb1⟩
        go_wp2_with fail
        go_roundw
        case rel => exact ⟨1, by omega, by go_num, by rw [HE.out], below_step hbel hb1⟩
        case measure => simp [intOf]; omega
      · have HE := hd (rowTo_succ (by omega) hlt)
        have k0 : (((k : Nat) : Int) == 0) = false := by simpa using h0
        generalize l[k] = x at hcell HE HDC s1 hbx
        generalize decS x = t at HE HDC s1
        generalize rowTo l k = s at hrs HE ⊢
        clear hbx
        go_wp2_with fail
        refine HDC.out.mono ?_
        rintro e w1 ⟨rfl, hb1⟩
        go_wp2_with fail
        go_roundw
        case rel => exact ⟨k + 1, by omega, by go_num, by rw [HE.out], below_step hbel hb1⟩
        case measure => simp [intOf]; omega
    · obtain rfl : k = l.length := by omega
      rw [rowTo_all]
      have HS := hd (fun t => say_spec wr B g d vo L t (hS.below hbel) hL)
      go_wp2_with fail
      refine (HS.out _).mono ?_
      rintro e w6 ⟨rfl, hr⟩
      go_wp2_with fail
      go_end0
      exact ⟨rfl, hr.pre hbel⟩
set_option maxRecDepth 100000 in
set_option maxHeartbeats 4000000 in
theorem number_spec28 (W : World) (B g : Nat) (d : TDk) (vo : Value) (L : List ByteArray) (hS : SAt W B g d vo L) (hL : L.length ≤ 1000000) (n c : Int) (hn : -9223372036854775808 ≤ n ∧ n ≤ 9223372036854775807) :
    Calls Tryz.prog 170 #[.pointer (some ⟨g, 0, none⟩), .int .i64 n, .int .i64 c] W fun e W' => e = .returned (.tuple #[]) ∧ SRes B g vo W d (L ++ [lineC c (decS n)]) W' := by
  by_cases hc : c = 0
  · subst hc
    rw [lineC_ok]
    go_enter Tryz.func170, Tryz.ntmps170
    go_wp2_with fail
    refine (report_ok W g).mono ?_
    rintro e ww ⟨rfl, hw⟩
    have hw := hw.symm
    subst hw
    go_wp2_with fail
    refine (dec_spec W n hn).mono ?_
    rintro e w1 ⟨rfl, hb1⟩
    go_wp2_with fail
    refine (say_spec w1 B g d vo L _ (hS.below hb1) hL).mono ?_
    rintro e w2 ⟨rfl, hr⟩
    go_wp2_with fail
    go_end0
    exact ⟨rfl, hr.pre hb1⟩
  · rw [lineC_err hc]
    have HE := hd (report_err W B g d vo L hS hL c hc)
    clear hc
    go_enter Tryz.func170, Tryz.ntmps170
    go_wp2_with fail
    refine HE.out.mono ?_
    rintro e w1 ⟨rfl, hr⟩
    go_wp2_with fail
    go_end0
    exact ⟨rfl, hr⟩
set_option maxRecDepth 100000 in
set_option maxHeartbeats 4000000 in
theorem text_spec28 (W : World) (B g : Nat) (d : TDk) (vo : Value) (L : List ByteArray) (hS : SAt W B g d vo L) (hL : L.length ≤ 1000000) (t : ByteArray) (c : Int) :
    Calls Tryz.prog 163 #[.pointer (some ⟨g, 0, none⟩), .string t, .int .i64 c] W fun e W' => e = .returned (.tuple #[]) ∧ SRes B g vo W d (L ++ [lineC c (orS t)]) W' := by
  by_cases hc : c = 0
  · subst hc
    rw [lineC_ok]
    by_cases h : t = ⟨#[]⟩
    · rw [orS_empty h]
      subst h
      go_enter Tryz.func163, Tryz.ntmps163
      go_wp2_with fail
      refine (report_ok W g).mono ?_
      rintro e ww ⟨rfl, hw⟩
      have hw := hw.symm
      subst hw
      go_wp2_with fail
      refine (say_spec W B g d vo L _ hS hL).mono ?_
      rintro e w2 ⟨rfl, hr⟩
      go_wp2_with fail
      go_end0
      exact ⟨rfl, hr⟩
    · rw [orS_some h]
      have k1 : t.data.toList.isEmpty = false := by
        rcases hq : t.data.toList with _ | ⟨a, b⟩
        · exact absurd (toList_empty hq) h
        · rfl
      have k2 : t.toList.isEmpty = false := by rw [ByteArray.toList_eq]; exact k1
      clear h k1
      go_enter Tryz.func163, Tryz.ntmps163
      go_wp2_with fail
      refine (report_ok W g).mono ?_
      rintro e ww ⟨rfl, hw⟩
      have hw := hw.symm
      subst hw
      go_wp2_with fail
      refine (say_spec W B g d vo L _ hS hL).mono ?_
      rintro e w2 ⟨rfl, hr⟩
      go_wp2_with fail
      go_end0
      exact ⟨rfl, hr⟩
  · rw [lineC_err hc]
    have HE := hd (report_err W B g d vo L hS hL c hc)
    clear hc
    go_enter Tryz.func163, Tryz.ntmps163
    go_wp2_with fail
    refine HE.out.mono ?_
    rintro e w1 ⟨rfl, hr⟩
    go_wp2_with fail
    refine bodyPost_ret (results_none rfl _ _ _) rfl ?_
    exact ⟨rfl, hr⟩
set_option maxRecDepth 100000 in
set_option maxHeartbeats 4000000 in
theorem state_spec (W : World) (B g : Nat) (d : TDk) (vo : Value) (L : List ByteArray) (hS : SAt W B g d vo L) (hL : L.length ≤ 1000000) (c : Int) (hb : c = 0 → d.1.size ≤ 24 ∧ d.2.1.length ≤ 6 ∧ d.2.2.1.length ≤ 20) :
    Calls Tryz.prog 164 #[.pointer (some ⟨g, 0, none⟩), .int .i64 c] W fun e W' => e = .returned (.tuple #[]) ∧ SRes B g vo W d (L ++ [lineC c (deskS d.1 d.2.1 d.2.2.1)]) W' := by
  by_cases hc : c = 0
  · subst hc
    rw [lineC_ok]
    obtain ⟨v1, v2, D, O1, O2, -⟩ := hS.desk
    have HT := hd (l28Text_spec W g d.1 d.2.2.2 v1 v2 d.2.1 d.2.2.1 D (O1.sl eCue_len) (O2.sl eTitle_len) (hb rfl))
    clear hb D O1 O2
    go_enter Tryz.func164, Tryz.ntmps164
    go_wp2_with fail
    refine (report_ok W g).mono ?_
    rintro e ww ⟨rfl, hw⟩
    have hw := hw.symm
    subst hw
    go_wp2_with fail
    refine HT.out.mono ?_
    rintro e w1 ⟨rfl, hb1⟩
    go_wp2_with fail
    refine (say_spec w1 B g d vo L _ (hS.below hb1) hL).mono ?_
    rintro e w2 ⟨rfl, hr⟩
    go_wp2_with fail
    go_end0
    exact ⟨rfl, hr.pre hb1⟩
  · rw [lineC_err hc]
    have HE := hd (report_err W B g d vo L hS hL c hc)
    clear hc hb
    go_enter Tryz.func164, Tryz.ntmps164
    go_wp2_with fail
    refine HE.out.mono ?_
    rintro e w1 ⟨rfl, hr⟩
    go_wp2_with fail
    go_end0
    exact ⟨rfl, hr⟩
end Go.Proofs.YtgcodjkjdfahdaaGreatDoor

/- The reference's command 'image' and the text of a fraction. No condition but bounds. -/
namespace Go.Proofs.YtgcodjkjdfahdaaGreatDoor
open Go Go.RowKit Go.ChangeShapes Go.WideShapes
set_option linter.unusedSimpArgs false
set_option linter.unusedVariables false
set_option maxRecDepth 100000 in
set_option maxHeartbeats 4000000 in
theorem ftextS_spec (w : World) (n d : Int) (hn : -9223372036854775808 ≤ n ∧ n ≤ 9223372036854775807) (hd1 : -9223372036854775808 ≤ d ∧ d ≤ 9223372036854775807) :
    Calls Tryz.prog 173 #[.agg #[.int .i64 n, .int .i64 d]] w fun e w' => e = .returned (.string (fracS n d)) ∧ Below w.heap.size w w' := by
  have hF := frac_new w n d 112
  have hb : Below w.heap.size w (w.alloc (.cells #[.int .i64 n, .int .i64 d] 112)) := (Below.refl w.heap.size w).alloc (Nat.le_refl _) _
  obtain ⟨-, c0, c1, -, -⟩ := id hF
  have s1 := decS_size hn
  have s2 := decS_size hd1
  have HN := hd hn
  have HD1 := hd hd1
  by_cases h1 : d = 1
  · have HR2 := hd (show fracS n d = decS n by rw [h1]; exact fracS_one _)
    subst h1
    go_enter Tryz.func173, Tryz.ntmps173
    go_wp2_with fail
    generalize w.alloc (.cells #[.int .i64 n, .int .i64 1] 112) = W at hb c0 c1 ⊢
    refine (dec_spec W n HN.out).mono ?_
    rintro e w2 ⟨rfl, hb2⟩
    clear c0 c1
    go_wp2_with fail
    go_ret
    exact ⟨by rw [HR2.out]; rfl, below_step hb hb2⟩
  have HR2 := hd (show fracS n d = decS n ++ ⟨#[47]⟩ ++ decS d from fracS_two h1)
  have kd : (d == 1) = false := by simpa using h1
  clear hn hd1 h1
  go_enter Tryz.func173, Tryz.ntmps173
  go_wp2_with fail
  generalize w.alloc (.cells #[.int .i64 n, .int .i64 d] 112) = W at hb c0 c1 ⊢
  have g0 := gro_cell c0
  have g1 := gro_cell c1
  clear c0 c1 hF
  refine wp_region_calm (by kernel_rfl) (by kernel_rfl) ?_
  repeat (first | go_big_quiet_step ((go_at_call 167; exact calm_of (dec_spec _ _ (by first | exact HN.out | exact HD1.out)))) | quiet_step ((go_at_call 167; exact calm_of (dec_spec _ _ (by first | exact HN.out | exact HD1.out)))))
  refine wpQuiet_nil ?_
  rintro w2 ⟨x, rfl⟩
  have hb3 := gro_below x
  clear g0 g1
  go_wp2_with fail
  go_ret
  exact ⟨by rw [HR2.out]; rfl, below_step hb hb3⟩
theorem chkR_frac {n d : Nat} (h : (chkR n d).2.2 = 0) : fracB (chkR n d).1 (chkR n d).2.1 = true := by
  unfold chkR at h ⊢
  rcases hf : fracB (n : Int) (d : Int) with _ | _
  · rw [hf] at h; cases h
  · exact hf
theorem img_frac {a b : Int} (h : (imgC a b).2.2 = 0) : fracB (imgC a b).1 (imgC a b).2.1 = true := by
  unfold imgC at h ⊢
  split at h
  · rename_i h1
    rw [if_pos h1]
    split at h
    · cases h
    · rename_i h2
      rw [if_neg h2]
      exact chkR_frac h
  · cases h
theorem img_line (a b : Int) : lineC (imgC a b).2.2 (orS (fracT (imgC a b).1 (imgC a b).2.1)) = lineC (imgC a b).2.2 (orS (fracS (imgC a b).1 (imgC a b).2.1)) := by
  by_cases h : (imgC a b).2.2 = 0
  · unfold fracT
    rw [if_pos (img_frac h)]
  · rw [lineC_err h, lineC_err h]
set_option maxRecDepth 100000 in
set_option maxHeartbeats 8000000 in
theorem q_image (W : World) (B g : Nat) (d : TDk) (vo : Value) (L : List ByteArray) (a b : Int) (ts : List ByteArray) (hS : SAt W B g d vo L) (hN : NT W B g [a, b] ts) (hL : L.length ≤ 1000000) :
    Calls Tryz.prog 104 #[.pointer (some ⟨g, 0, none⟩)] W fun e W' => e = .returned (.tuple #[]) ∧ SRes B g vo W d (L ++ [lineC (imgC a b).2.2 (orS (fracT (imgC a b).1 (imgC a b).2.1))]) W' := by
  have HD := hd hS
  obtain ⟨vn, vt, c5, c6, O5, O6, -, -⟩ := id hN
  obtain ⟨bn, on, cn, rfl, -, hn⟩ := (O5.sl eI_len).ints (Nat.succ_pos _)
  replace c5 : W.cell? ⟨g, 5, none⟩ = some (.slice (some ⟨bn, on, none⟩) 2 cn) := c5
  have k0 := hn 0 _ rfl
  rw [Nat.add_zero] at k0
  have k1 := hn 1 _ rfl
  have HS := hd (show ∀ ww, Below W.heap.size W ww → ww.cell? ⟨g, 5, none⟩ = some (.slice (some ⟨bn, on, none⟩) 2 cn) ∧ ww.cell? ⟨bn, on, none⟩ = some (.int .i64 a) ∧ ww.cell? ⟨bn, on + 1, none⟩ = some (.int .i64 b) from fun V hb => ⟨cell_below c5 V hb, cell_below k0 V hb, cell_below k1 V hb⟩)
  have K := Below.refl W.heap.size W
  clear hN O5 O6 hS hn c6
  obtain ⟨x, y, c, hx, hx1, hy1, -⟩ := imgC_shape a b
  have HR := hd (show L ++ [lineC (imgC a b).2.2 (orS (fracT (imgC a b).1 (imgC a b).2.1))] = L ++ [lineC c (orS (fracS x y))] by rw [img_line, hx])
  have HC := hd (show fracV (imgC a b) = .tuple #[.agg #[.int .i64 (x : Int), .int .i64 (y : Int)], .int .i64 c] by rw [hx]; rfl)
  have HFT := hd (fun Z => ftextS_spec Z (x : Int) (y : Int) (by omega) (by omega))
  clear hx
  go_enter Tryz.func104, Tryz.ntmps104
  go_wp2_with fail
  (go_region_held3 (fun ww => ww.cell? ⟨g, 5, none⟩ = some (.slice (some ⟨bn, on, none⟩) 2 cn) ∧ ww.cell? ⟨bn, on, none⟩ = some (.int .i64 a) ∧ ww.cell? ⟨bn, on + 1, none⟩ = some (.int .i64 b)) (first | with_reducible exact HS.out _ K | with_reducible exact HS.out _ (Below.drew K) | with_reducible exact HS.out _ (frac_below K (Nat.le_refl _) _ _) | with_reducible exact HS.out _ (frac_below (Below.drew K) (Nat.le_refl _) _ _) | exact HS.out _ (K.alloc K.size _) | exact HS.out _ (K.drew.alloc K.size _)) (first | (go_at_call 172; (first | (refine (image_spec W.drew a b).mono ?_; rintro e w2 ⟨rfl, hb2⟩; replace K := below_step K.drew hb2) | (refine (image_spec (W.drew.alloc (.cells #[.int .i64 0, .int .i64 0] 112)) a b).mono ?_; rintro e w2 ⟨rfl, hb2⟩; obtain ⟨hgz, q0, q1, q2, q3⟩ := frac_at W ((frac_new W.drew 0 0 112).below hb2); replace K := below_step (K.drew.alloc K.size (.cells #[.int .i64 0, .int .i64 0] 112)) hb2)); rw [HC.out]; clear hb2)))
  · clear c5 k0 k1
    obtain ⟨-, e0, e1, -, -⟩ := frac_new w2 x y 112
    have KZ := K.alloc K.size (.cells #[.int .i64 (x : Int), .int .i64 (y : Int)] 112)
    generalize w2.alloc (.cells #[.int .i64 (x : Int), .int .i64 (y : Int)] 112) = Z at e0 e1 KZ ⊢
    have HD2 := hd (HD.out.below KZ)
    go_wp2_with fail
    refine (HFT.out Z).mono ?_
    rintro e w3 ⟨rfl, hb3⟩
    clear e0 e1
    go_wp2_with fail
    refine (text_spec28 w3 B g d vo L (HD2.out.below hb3) hL _ c).mono ?_
    rintro e w4 ⟨rfl, hr⟩
    go_wp2_with fail
    go_end0
    exact ⟨rfl, sres_eq ((hr.pre hb3).pre KZ) HR.out.symm⟩
  · clear c5 k0 k1
    obtain ⟨e0, e1⟩ := frac_set (frac_mk hgz q0 q1 q2 q3) x y
    have KZ := frac_below K (Nat.le_refl _) (.int .i64 (x : Int)) (.int .i64 (y : Int))
    clear hgz q0 q1 q2 q3
    generalize ((w2.setCell ⟨W.heap.size, 0, none⟩ (.int .i64 (x : Int))).setCell ⟨W.heap.size, 1, none⟩ (.int .i64 (y : Int))) = Z at e0 e1 KZ ⊢
    have HD2 := hd (HD.out.below KZ)
    go_wp2_with fail
    refine (HFT.out Z).mono ?_
    rintro e w3 ⟨rfl, hb3⟩
    clear e0 e1
    go_wp2_with fail
    refine (text_spec28 w3 B g d vo L (HD2.out.below hb3) hL _ c).mono ?_
    rintro e w4 ⟨rfl, hr⟩
    go_wp2_with fail
    go_end0
    exact ⟨rfl, sres_eq ((hr.pre hb3).pre KZ) HR.out.symm⟩
end Go.Proofs.YtgcodjkjdfahdaaGreatDoor

/- The form of a command and whether words fit to it: the reference's functions. No condition. -/
namespace Go.Proofs.YtgcodjkjdfahdaaGreatDoor
open Go Go.RowKit Go.ChangeShapes Go.WideShapes
set_option linter.unusedSimpArgs false
set_option linter.unusedVariables false
set_option maxRecDepth 100000 in
set_option maxHeartbeats 2000000 in
theorem form_spec (w : World) (s : ByteArray) : Calls Tryz.prog 95 #[.string s] w fun e w' => e = .returned (.string (formS s)) ∧ w' = w := by
  by_cases h0 : s = ⟨#[116, 105, 116, 108, 101]⟩
  · subst h0
    rw [formS_title]
    go_enter Tryz.func95, Tryz.ntmps95
    go_wp2_with fail
    go_ret
    exact ⟨rfl, rfl⟩
  by_cases h1 : s = ⟨#[100, 105, 115, 99]⟩
  · subst h1
    rw [formS_disc]
    clear h0
    go_enter Tryz.func95, Tryz.ntmps95
    go_wp2_with fail
    go_ret
    exact ⟨rfl, rfl⟩
  by_cases h2 : s = ⟨#[102, 101, 119, 101, 115, 116]⟩
  · subst h2
    rw [formS_fewest]
    clear h0 h1
    go_enter Tryz.func95, Tryz.ntmps95
    go_wp2_with fail
    go_ret
    exact ⟨rfl, rfl⟩
  by_cases h3 : s = ⟨#[115, 104, 111, 119, 115]⟩
  · subst h3
    rw [formS_shows]
    clear h0 h1 h2
    go_enter Tryz.func95, Tryz.ntmps95
    go_wp2_with fail
    go_ret
    exact ⟨rfl, rfl⟩
  by_cases h4 : s = ⟨#[115, 104, 105, 102, 116, 115]⟩
  · subst h4
    rw [formS_shifts]
    clear h0 h1 h2 h3
    go_enter Tryz.func95, Tryz.ntmps95
    go_wp2_with fail
    go_ret
    exact ⟨rfl, rfl⟩
  by_cases h5 : s = ⟨#[115, 101, 101, 110]⟩
  · subst h5
    rw [formS_seen]
    clear h0 h1 h2 h3 h4
    go_enter Tryz.func95, Tryz.ntmps95
    go_wp2_with fail
    go_ret
    exact ⟨rfl, rfl⟩
  by_cases h6 : s = ⟨#[105, 109, 97, 103, 101]⟩
  · subst h6
    rw [formS_image]
    clear h0 h1 h2 h3 h4 h5
    go_enter Tryz.func95, Tryz.ntmps95
    go_wp2_with fail
    go_ret
    exact ⟨rfl, rfl⟩
  by_cases h7 : s = ⟨#[99, 117, 101]⟩
  · subst h7
    rw [formS_cue]
    clear h0 h1 h2 h3 h4 h5 h6
    go_enter Tryz.func95, Tryz.ntmps95
    go_wp2_with fail
    go_ret
    exact ⟨rfl, rfl⟩
  by_cases h8 : s = ⟨#[98, 117, 114, 110]⟩
  · subst h8
    rw [formS_burn]
    clear h0 h1 h2 h3 h4 h5 h6 h7
    go_enter Tryz.func95, Tryz.ntmps95
    go_wp2_with fail
    go_ret
    exact ⟨rfl, rfl⟩
  by_cases h9 : s = ⟨#[102, 111, 114]⟩
  · subst h9
    rw [formS_for]
    clear h0 h1 h2 h3 h4 h5 h6 h7 h8
    go_enter Tryz.func95, Tryz.ntmps95
    go_wp2_with fail
    go_ret
    exact ⟨rfl, rfl⟩
  by_cases h10 : s = ⟨#[108, 111, 97, 100, 115]⟩
  · subst h10
    rw [formS_loads]
    clear h0 h1 h2 h3 h4 h5 h6 h7 h8 h9
    go_enter Tryz.func95, Tryz.ntmps95
    go_wp2_with fail
    go_ret
    exact ⟨rfl, rfl⟩
  by_cases h11 : s = ⟨#[101, 110, 116, 101, 114]⟩
  · subst h11
    rw [formS_enter]
    clear h0 h1 h2 h3 h4 h5 h6 h7 h8 h9 h10
    go_enter Tryz.func95, Tryz.ntmps95
    go_wp2_with fail
    go_ret
    exact ⟨rfl, rfl⟩
  by_cases h12 : s = ⟨#[116, 105, 116, 108, 101, 115]⟩
  · subst h12
    rw [formS_titles]
    clear h0 h1 h2 h3 h4 h5 h6 h7 h8 h9 h10 h11
    go_enter Tryz.func95, Tryz.ntmps95
    go_wp2_with fail
    go_ret
    exact ⟨rfl, rfl⟩
  by_cases h13 : s = ⟨#[108, 111, 103]⟩
  · subst h13
    rw [formS_log]
    clear h0 h1 h2 h3 h4 h5 h6 h7 h8 h9 h10 h11 h12
    go_enter Tryz.func95, Tryz.ntmps95
    go_wp2_with fail
    go_ret
    exact ⟨rfl, rfl⟩
  rw [formS_none h0 h1 h2 h3 h4 h5 h6 h7 h8 h9 h10 h11 h12 h13]
  have k0 : (s.toList == [116, 105, 116, 108, 101]) = false := lit_ne h0
  have k1 : (s.toList == [100, 105, 115, 99]) = false := lit_ne h1
  have k2 : (s.toList == [102, 101, 119, 101, 115, 116]) = false := lit_ne h2
  have k3 : (s.toList == [115, 104, 111, 119, 115]) = false := lit_ne h3
  have k4 : (s.toList == [115, 104, 105, 102, 116, 115]) = false := lit_ne h4
  have k5 : (s.toList == [115, 101, 101, 110]) = false := lit_ne h5
  have k6 : (s.toList == [105, 109, 97, 103, 101]) = false := lit_ne h6
  have k7 : (s.toList == [99, 117, 101]) = false := lit_ne h7
  have k8 : (s.toList == [98, 117, 114, 110]) = false := lit_ne h8
  have k9 : (s.toList == [102, 111, 114]) = false := lit_ne h9
  have k10 : (s.toList == [108, 111, 97, 100, 115]) = false := lit_ne h10
  have k11 : (s.toList == [101, 110, 116, 101, 114]) = false := lit_ne h11
  have k12 : (s.toList == [116, 105, 116, 108, 101, 115]) = false := lit_ne h12
  have k13 : (s.toList == [108, 111, 103]) = false := lit_ne h13
  clear h0 h1 h2 h3 h4 h5 h6 h7 h8 h9 h10 h11 h12 h13
  go_enter Tryz.func95, Tryz.ntmps95
  go_wp2_with fail
  go_ret
  exact ⟨rfl, rfl⟩
set_option maxRecDepth 100000 in
set_option maxHeartbeats 2000000 in
theorem fits_spec (w : World) (fm : ByteArray) (hm : fm ∈ formL) (n : Nat) (hn : n ≤ 1048577) : Calls Tryz.prog 96 #[.string fm, .int .i64 (n : Int)] w fun e w' => e = .returned (.bool (fitF fm n)) ∧ w' = w := by
  unfold formL at hm
  simp only [List.mem_cons, List.not_mem_nil, or_false] at hm
  rcases hm with rfl | rfl | rfl | rfl | rfl | rfl | rfl | rfl
  · have HR := hd (show fitF ⟨#[114]⟩ n = decide (1 ≤ n) by unfold fitF; rw [if_pos rfl])
    go_enter Tryz.func96, Tryz.ntmps96
    go_wp2_with fail
    go_ret
    refine ⟨?_, rfl⟩
    show Ending.returned (.bool (decide ((1 : Int) ≤ (n : Int)))) = _
    rw [HR.out, show (decide ((1 : Int) ≤ (n : Int))) = decide (1 ≤ n) by rw [Bool.eq_iff_iff]; simp; try omega]
  · have HR := hd (show fitF ⟨#[120]⟩ n = decide (n = 1) by unfold fitF; rw [if_neg (by simp)]; rfl)
    go_enter Tryz.func96, Tryz.ntmps96
    go_wp2_with fail
    go_ret
    refine ⟨?_, rfl⟩
    show Ending.returned (.bool (((n : Int)) == (1 : Int))) = _
    rw [HR.out, show (((n : Int)) == (1 : Int)) = decide (n = 1) by rw [Bool.eq_iff_iff]; simp; try omega]
  · have HR := hd (show fitF ⟨#[110]⟩ n = decide (n = 1) by unfold fitF; rw [if_neg (by simp)]; rfl)
    go_enter Tryz.func96, Tryz.ntmps96
    go_wp2_with fail
    go_ret
    refine ⟨?_, rfl⟩
    show Ending.returned (.bool (((n : Int)) == (1 : Int))) = _
    rw [HR.out, show (((n : Int)) == (1 : Int)) = decide (n = 1) by rw [Bool.eq_iff_iff]; simp; try omega]
  · have HR := hd (show fitF ⟨#[110, 110]⟩ n = decide (n = 2) by unfold fitF; rw [if_neg (by simp)]; rfl)
    go_enter Tryz.func96, Tryz.ntmps96
    go_wp2_with fail
    go_ret
    refine ⟨?_, rfl⟩
    show Ending.returned (.bool (((n : Int)) == (2 : Int))) = _
    rw [HR.out, show (((n : Int)) == (2 : Int)) = decide (n = 2) by rw [Bool.eq_iff_iff]; simp; try omega]
  · have HR := hd (show fitF ⟨#[110, 110, 110, 110]⟩ n = decide (n = 4) by unfold fitF; rw [if_neg (by simp)]; rfl)
    go_enter Tryz.func96, Tryz.ntmps96
    go_wp2_with fail
    go_ret
    refine ⟨?_, rfl⟩
    show Ending.returned (.bool (((n : Int)) == (4 : Int))) = _
    rw [HR.out, show (((n : Int)) == (4 : Int)) = decide (n = 4) by rw [Bool.eq_iff_iff]; simp; try omega]
  · have HR := hd (show fitF ⟨#[120, 110]⟩ n = decide (n = 2) by unfold fitF; rw [if_neg (by simp)]; rfl)
    go_enter Tryz.func96, Tryz.ntmps96
    go_wp2_with fail
    go_ret
    refine ⟨?_, rfl⟩
    show Ending.returned (.bool (((n : Int)) == (2 : Int))) = _
    rw [HR.out, show (((n : Int)) == (2 : Int)) = decide (n = 2) by rw [Bool.eq_iff_iff]; simp; try omega]
  · have HR := hd (show fitF ⟨#[110, 120, 110]⟩ n = decide (n = 3) by unfold fitF; rw [if_neg (by simp)]; rfl)
    go_enter Tryz.func96, Tryz.ntmps96
    go_wp2_with fail
    go_ret
    refine ⟨?_, rfl⟩
    show Ending.returned (.bool (((n : Int)) == (3 : Int))) = _
    rw [HR.out, show (((n : Int)) == (3 : Int)) = decide (n = 3) by rw [Bool.eq_iff_iff]; simp; try omega]
  · have HR := hd (show fitF ⟨#[]⟩ n = decide (n = 0) by unfold fitF; rw [if_neg (by simp)]; rfl)
    go_enter Tryz.func96, Tryz.ntmps96
    go_wp2_with fail
    go_ret
    refine ⟨?_, rfl⟩
    show Ending.returned (.bool (((n : Int)) == (0 : Int))) = _
    rw [HR.out, show (((n : Int)) == (0 : Int)) = decide (n = 0) by rw [Bool.eq_iff_iff]; simp; try omega]
end Go.Proofs.YtgcodjkjdfahdaaGreatDoor
