/- Lemmas for the claim (the walks of its functions and their plain laws), joined. No condition. -/
import Derived.Test.YtgcodjkjdfahdaaGreatDoorJ5
import Derived.Test.YtgcodjkjdfahdaaGreatDoorJ26
namespace Go.Proofs.YtgcodjkjdfahdaaGreatDoor
open Go Go.RowKit Go.ChangeShapes Go.WideShapes
set_option linter.unusedSimpArgs false
set_option linter.unusedVariables false
theorem flatMap_set_one {α : Type} {enc : α → List Value} (hk : ∀ x, (enc x).length = 1) (l : List α) (i : Nat) (x : α) {u : Value} (hu : enc x = [u]) : (l.set i x).flatMap enc = (l.flatMap enc).set i u := by
  induction l generalizing i with
  | nil => simp
  | cons y l ih =>
    obtain ⟨z, hz⟩ : ∃ z, enc y = [z] := List.length_eq_one_iff.1 (hk y)
    cases i with
    | zero => simp [hu, hz]
    | succ i => simp [List.flatMap_cons, hz, ih]
theorem Own.set_one {α : Type} {enc : α → List Value} {w : World} {B E g n cap : Nat} {l : List α} (hk : ∀ x, (enc x).length = 1) (h : Own w B E 1 (.slice (some ⟨g, 0, none⟩) n cap) enc l) (i : Nat) (x : α) {u : Value} (hu : enc x = [u]) :
    Own (w.setCell ⟨g, i, none⟩ u) B E 1 (.slice (some ⟨g, 0, none⟩) n cap) enc (l.set i x) := by
  have hn : n = l.length := by
    rcases h.form with ⟨hv, -⟩ | ⟨g', cap', hv, -⟩
    · cases hv
    · injection hv
  subst hn
  have h1 := (World.ownsRow.stored h i u).1
  unfold Own
  rw [flatMap_set_one hk l i x hu, List.length_set]
  exact h1
theorem Own.cell_one {α : Type} {enc : α → List Value} {w : World} {B E g n cap : Nat} {l : List α} (hk : ∀ x, (enc x).length = 1) (h : Own w B E 1 (.slice (some ⟨g, 0, none⟩) n cap) enc l) (i : Nat) (hi : i < l.length) {u : Value} (hu : enc l[i] = [u]) :
    w.cell? ⟨g, i, none⟩ = some u ∧ w.frozen? ⟨g, i, none⟩ = false := by
  have hn : n = l.length := by
    rcases h.form with ⟨hv, -⟩ | ⟨g', cap', hv, -⟩
    · cases hv
    · injection hv
  subst hn
  refine ⟨?_, World.ownsRow.frozenAt h i⟩
  rw [World.ownsRow.cellAt h i (by omega)]
  have := flatMap_at enc 1 hk l i l[i] (List.getElem?_eq_getElem hi) 0 (by omega)
  simpa [hu] using this
theorem made_bytes (w : World) (B : Nat) (E : TypeId) (v : Value) (n : Nat) (h : w.ownsRow B E 1 v n (madeCells #[Value.int .u8 0] n).toList) : Own w B E 1 v eU (List.replicate n 0) := by
  rw [toList_madeCells_one] at h
  have e : List.replicate n (Value.int .u8 0) = (List.replicate n (0 : UInt8)).flatMap eU := by
    clear h
    induction n with
    | zero => rfl
    | succ n ih => simp [List.replicate_succ, eU, List.flatMap_cons] at ih ⊢; exact ih
  unfold Own
  rw [List.length_replicate, ← e]
  exact h
theorem get_listK (s : ByteArray) (k : Nat) (h : k < s.size) : s.data.toList.getD k 0 = s[k] := by
  have h2 : k < s.data.toList.length := by rw [Array.length_toList]; exact h
  rw [List.getD_eq_getElem?_getD, List.getElem?_eq_getElem h2]
  rfl
theorem list_size (s : ByteArray) : s.data.toList.length = s.size := Array.length_toList
theorem byte_ne {x c : UInt8} (h : ¬ x = c) : (((x.toNat : Nat) : Int) != ((c.toNat : Nat) : Int)) = true := by
  simp only [bne_iff_ne, ne_eq]
  intro e
  exact h (UInt8.toNat_inj.1 (by omega))
theorem byte_same {x c : UInt8} (h : x = c) : (((x.toNat : Nat) : Int) != ((c.toNat : Nat) : Int)) = false := by subst h; simp
theorem byte_ne0 {x : UInt8} (h : ¬ x = 0) : (((x.toNat : Nat) : Int) != 0) = true := byte_ne (c := 0) h
theorem byte_zero {x : UInt8} (h : x = 0) : (((x.toNat : Nat) : Int) != 0) = false := by subst h; rfl
theorem byte_eq0 {x : UInt8} (h : x = 0) : (((x.toNat : Nat) : Int) == 0) = true := by subst h; rfl
theorem byte_neq0 {x : UInt8} (h : ¬ x = 0) : (((x.toNat : Nat) : Int) == 0) = false := by
  simp only [beq_eq_false_iff_ne, ne_eq]
  intro e
  exact h (UInt8.toNat_inj.1 (by simpa using e))
theorem okMot_bd {s : ByteArray} (h : okMotB s = true) : 1 ≤ s.size ∧ s.size ≤ 24 := by
  unfold okMotB at h
  rw [Bool.and_eq_true] at h
  have := inB_true h.2
  omega
def motC (s : ByteArray) (n : Int) : Int := if okMotB s then (if inB n 1 24 then 0 else 2) else 1
def motR (s : ByteArray) (n : Int) : ByteArray × Int := if motC s n = 0 then (⟨(motTo s.data.toList n.toNat n.toNat).toArray⟩, 0) else (⟨#[]⟩, motC s n)
theorem motC_bad {s : ByteArray} {n : Int} (h : okMotB s = false) : motC s n = 1 := by unfold motC; rw [h]; rfl
theorem motC_range {s : ByteArray} {n : Int} (h : okMotB s = true) (h2 : inB n 1 24 = false) : motC s n = 2 := by unfold motC; rw [h, h2]; rfl
theorem motC_good {s : ByteArray} {n : Int} (h : okMotB s = true) (h2 : inB n 1 24 = true) : motC s n = 0 := by unfold motC; rw [h, h2]; rfl
theorem motR_bad {s : ByteArray} {n c : Int} (h : motC s n = c) (hc : c ≠ 0) : motR s n = (⟨#[]⟩, c) := by unfold motR; rw [h, if_neg hc]
theorem motR_good {s : ByteArray} {n : Int} (h : motC s n = 0) : motR s n = (⟨(motTo s.data.toList n.toNat n.toNat).toArray⟩, 0) := by unfold motR; rw [if_pos h]
def dforR (s : ByteArray) (n : Int) : ByteArray × Int := if motC s n = 0 then (match discB s.data.toList n.toNat with | some b => (b, 0) | none => (⟨#[]⟩, 9)) else (⟨#[]⟩, motC s n)
theorem dforR_bad {s : ByteArray} {n c : Int} (h : motC s n = c) (hc : c ≠ 0) : dforR s n = (⟨#[]⟩, c) := by unfold dforR; rw [h, if_neg hc]
theorem dforR_none {s : ByteArray} {n : Int} (h : motC s n = 0) (h2 : discB s.data.toList n.toNat = none) : dforR s n = (⟨#[]⟩, 9) := by unfold dforR; rw [if_pos h, h2]
theorem dforR_some {s : ByteArray} {n : Int} {b : ByteArray} (h : motC s n = 0) (h2 : discB s.data.toList n.toNat = some b) : dforR s n = (b, 0) := by unfold dforR; rw [if_pos h, h2]
def fewR (s : ByteArray) : Int × Int := if okMotB s then ((fewFrom s.data.toList 1 : Nat), 0) else (0, 1)
def discV (b : Option ByteArray) : Value := match b with | some b => .tuple #[.string b, .bool true] | none => .tuple #[.string ⟨#[]⟩, .bool false]
theorem discV_none {b : Option ByteArray} (h : b = none) : discV b = .tuple #[.string ⟨#[]⟩, .bool false] := by subst h; rfl
theorem discV_some {b : Option ByteArray} {x : ByteArray} (h : b = some x) : discV b = .tuple #[.string x, .bool true] := by subst h; rfl
theorem dforR_size (s : ByteArray) (n : Int) : (dforR s n).1.size ≤ 24 := by
  unfold dforR motC
  rcases h1 : okMotB s with _ | _
  · simp; exact Nat.zero_le _
  rcases h2 : inB n 1 24 with _ | _
  · simp; exact Nat.zero_le _
  have := inB_true h2
  simp only [if_true]
  rcases h : discB s.data.toList n.toNat with _ | b
  · simp; exact Nat.zero_le _
  · have := discB_size h
    simp only
    omega
theorem motR_size (s : ByteArray) (n : Int) : (motR s n).1.size ≤ 24 := by
  unfold motR motC
  rcases h1 : okMotB s with _ | _
  · simp; exact Nat.zero_le _
  rcases h2 : inB n 1 24 with _ | _
  · simp; exact Nat.zero_le _
  have := inB_true h2
  simp only [if_true]
  have h3 := motTo_len s.data.toList n.toNat n.toNat
  have : (⟨(motTo s.data.toList n.toNat n.toNat).toArray⟩ : ByteArray).size = n.toNat := (List.size_toArray ..).trans h3
  omega
theorem fewR_bd (s : ByteArray) : 0 ≤ (fewR s).1 ∧ (fewR s).1 ≤ 24 := by
  unfold fewR
  rcases h1 : okMotB s with _ | _
  · simp
  · have h2 := okMot_bd h1
    have h3 := fewFrom_bd s.data.toList 1 (by rw [list_size]; omega)
    rw [list_size] at h3
    simp only [if_true]
    omega
theorem many6_spec (w : World) (n : Int) : Calls Tryz.prog 264 #[.int .i64 n] w fun e w' => e = .returned (.bool (inB n 1 24)) ∧ w' = w := by
  go_enter Tryz.func264, Tryz.ntmps264
  go_wp2_with (go_at_call 158; refine (in_spec _ _ _ _).mono ?_; rintro e w1 ⟨rfl, hw⟩; have hw := hw.symm; subst hw)
  go_ret
  exact ⟨rfl, rfl⟩
theorem motC_spec (w : World) (s : ByteArray) (hs : s.size ≤ 1048576) (n : Int) : Calls Tryz.prog 229 #[.string s, .int .i64 n] w fun e w' => e = .returned (.int .i64 (motC s n)) ∧ w' = w := by
  rcases h1 : okMotB s with _ | _
  · have HR := hd (motC_bad (n := n) h1)
    go_enter Tryz.func229, Tryz.ntmps229
    go_wp2_with fail
    refine (mot_spec _ _ hs).mono ?_
    rintro e ww ⟨rfl, hw⟩
    have hw := hw.symm
    subst hw
    rw [h1]
    go_wp2_with fail
    go_ret
    exact ⟨by rw [HR.out]; rfl, rfl⟩
  rcases h2 : inB n 1 24 with _ | _
  all_goals
    have HR := hd (show motC s n = _ by first | exact motC_range h1 h2 | exact motC_good h1 h2)
    go_enter Tryz.func229, Tryz.ntmps229
    go_wp2_with fail
    refine (mot_spec _ _ hs).mono ?_
    rintro e ww ⟨rfl, hw⟩
    have hw := hw.symm
    subst hw
    rw [h1]
    go_wp2_with fail
    refine (many6_spec _ _).mono ?_
    rintro e ww ⟨rfl, hw⟩
    have hw := hw.symm
    subst hw
    rw [h2]
    go_wp2_with fail
    go_ret
    exact ⟨by rw [HR.out]; rfl, rfl⟩
set_option maxRecDepth 100000 in
set_option maxHeartbeats 4000000 in
theorem motion_spec (w : World) (s : ByteArray) (n : Nat) (hs : 1 ≤ s.size ∧ s.size ≤ 24) (hn : 1 ≤ n ∧ n ≤ 24) :
    Calls Tryz.prog 238 #[.string s, .int .i64 (n : Int)] w fun e w' => e = .returned (.string ⟨(motTo s.data.toList n n).toArray⟩) ∧ Below w.heap.size w w' := by
  obtain ⟨i0, hi, hz0, hz1, hz2⟩ := info_parts info_u8
  have HCV := hd (fun (w : World) (v : Value) (l : List UInt8) (hv : Sl w 1 v eU l) => conv_bytes (P := Tryz.prog) w 22 9 5 Tryz.underlying22 Tryz.underlying5 Tryz.underlying9 hv)
  have own0 := Own.made0 w w.heap.size 5 1 eU (Nat.le_refl _)
  have bel0 := (Below.refl w.heap.size w).alloc (Nat.le_refl _) (.cells #[] 5)
  go_enter Tryz.func238, Tryz.ntmps238
  go_wp2_with fail
  go_loopw [5, 6] (fun ov iv wr => ∃ k : Nat, k ≤ n ∧ iv = .int .i64 k ∧ Own wr w.heap.size 5 1 ov eU (motTo s.data.toList n k) ∧ Below w.heap.size w wr) (fun _ iv _ => n - (intOf iv).toNat)
  case atStart => exact ⟨0, Nat.zero_le _, rfl, own0, bel0⟩
  case round =>
    obtain ⟨k, hk, rfl, hown, hbel⟩ := hrel
    clear own0 bel0
    have hlen := motTo_len s.data.toList n k
    by_cases hlt : k < n
    · have hq : seenN s.size n k < s.size := seenN_lt hs.1
      have HS := hd (show motTo s.data.toList n (k + 1) = motTo s.data.toList n k ++ [s[seenN s.size n k]] by rw [motTo_snoc, list_size, get_listK s _ hq])
      have hlk : (motTo s.data.toList n k).length ≤ 48 := by omega
      have HL := hd hlen
      clear hlen
      generalize motTo s.data.toList n k = L at hown hlk HS HL ⊢
      go_wp2_with fail
      refine (seenN_spec _ _ _ _ (by omega) (by omega) (by omega)).mono ?_
      rintro e w1 ⟨rfl, hw⟩
      have hw := hw.symm
      subst hw
      generalize seenN s.size n k = q at hq HS ⊢
      go_wp2_with (at_builtin; refine wpList_push _ rfl _ _ 22 rfl i0 (.int .u8 0) 1 Tryz.underlying22 hi hz0 hz1 hz2 rfl (by decide) _ _ (s[q]) rfl (hown.alloc _) wr.heap.size rfl #[.int .u8 (s[q].toNat : Int)] 5 (heap_alloc_new _ _) rfl rfl (by intro u hu; simp [eU] at hu; subst hu; rfl) (by unfold maxLen; omega) (by omega) (by have := hbel.size; simp; omega) ?_)
      intro v' w3 hown2 hgr2
      have hbel2 := (hbel.alloc hbel.size (.cells #[.int .u8 (s[q].toNat : Int)] 5)).grown hgr2 (by have := hbel.size; simp; omega) (fun g hg => (hown.lt g hg).1)
      clear hown hgr2 hbel
      go_wp2_with fail
      go_roundw
      case rel => exact ⟨k + 1, by omega, by go_num, by rw [HS.out]; exact hown2, hbel2⟩
      case measure => simp [intOf]; omega
    · obtain rfl : k = n := by omega
      clear hlen
      have hc := HCV.out wr _ _ (hown.sl eU_len)
      obtain ⟨A, cc, rfl⟩ := hown.isSlice
      go_wp2_with fail
      go_ret
      exact ⟨rfl, hbel⟩
set_option maxRecDepth 100000 in
set_option maxHeartbeats 4000000 in
theorem mof_spec (w : World) (s : ByteArray) (hs : s.size ≤ 1048576) (n : Int) :
    Calls Tryz.prog 180 #[.string s, .int .i64 n] w fun e w' => e = .returned (.tuple #[.string (motR s n).1, .int .i64 (motR s n).2]) ∧ Below w.heap.size w w' := by
  by_cases hc : motC s n = 0
  case neg =>
    obtain ⟨c, hcc⟩ : ∃ c, motC s n = c := ⟨_, rfl⟩
    have HR := hd (motR_bad hcc (by rw [← hcc]; exact hc))
    have kc : (c != 0) = true := by rw [← hcc]; simpa using hc
    have HC := hd hcc
    clear hc hcc
    go_enter Tryz.func180, Tryz.ntmps180
    go_wp2_with fail
    refine (motC_spec _ _ hs _).mono ?_
    rintro e ww ⟨rfl, hw⟩
    have hw := hw.symm
    subst hw
    rw [HC.out]
    go_wp2_with fail
    go_ret2
    exact ⟨by rw [HR.out]; rfl, Below.refl _ _⟩
  have HR := motR_good hc
  have h1 : okMotB s = true := by
    rcases h : okMotB s with _ | _
    · rw [motC_bad h] at hc; cases hc
    · rfl
  have h2 : inB n 1 24 = true := by
    rcases h : inB n 1 24 with _ | _
    · rw [motC_range h1 h] at hc; cases hc
    · rfl
  have hz := okMot_bd h1
  have hn := inB_true h2
  obtain ⟨m, rfl⟩ := Int.eq_ofNat_of_zero_le (show 0 ≤ n by omega)
  rw [Int.toNat_natCast] at HR
  have HR := hd HR
  have HC := hd hc
  clear hc h1 h2
  go_enter Tryz.func180, Tryz.ntmps180
  go_wp2_with fail
  refine (motC_spec _ _ hs _).mono ?_
  rintro e ww ⟨rfl, hw⟩
  have hw := hw.symm
  subst hw
  rw [HC.out]
  go_wp2_with fail
  refine (motion_spec _ _ _ hz (by omega)).mono ?_
  rintro e w1 ⟨rfl, hb⟩
  go_wp2_with fail
  go_ret2
  exact ⟨by rw [HR.out]; rfl, hb⟩
set_option maxRecDepth 100000 in
set_option maxHeartbeats 4000000 in
theorem mof_impl (w : World) (s : ByteArray) (hs : s.size ≤ 1048576) (n : Int) :
    Calls Tryz.prog 71 #[.string s, .int .i64 n] w fun e w' => e = .returned (.tuple #[.string (motR s n).1, .int .i64 (motR s n).2]) ∧ Below w.heap.size w w' := by
  rcases h1 : okMotB s with _ | _
  · have HR := hd (motR_bad (motC_bad (n := n) h1) (by decide))
    go_enter Tryz.func71, Tryz.ntmps71
    go_wp2_with fail
    refine (mot_impl _ _ hs).mono ?_
    rintro e ww ⟨rfl, hw⟩
    have hw := hw.symm
    subst hw
    rw [h1]
    go_wp2_with fail
    go_ret2
    exact ⟨by rw [HR.out]; rfl, Below.refl _ _⟩
  rcases h2 : inB n 1 24 with _ | _
  · have HR := hd (motR_bad (motC_range h1 h2) (by decide))
    go_enter Tryz.func71, Tryz.ntmps71
    go_wp2_with fail
    refine (mot_impl _ _ hs).mono ?_
    rintro e ww ⟨rfl, hw⟩
    have hw := hw.symm
    subst hw
    rw [h1]
    go_wp2_with fail
    refine (in_impl _ _ _ _).mono ?_
    rintro e ww ⟨rfl, hw⟩
    have hw := hw.symm
    subst hw
    rw [h2]
    go_wp2_with fail
    go_ret2
    exact ⟨by rw [HR.out]; rfl, Below.refl _ _⟩
  have HR := motR_good (motC_good h1 h2)
  have hz := okMot_bd h1
  have hn := inB_true h2
  obtain ⟨m, rfl⟩ := Int.eq_ofNat_of_zero_le (show 0 ≤ n by omega)
  rw [Int.toNat_natCast] at HR
  have HR := hd HR
  obtain ⟨i0, hi, hz0, hz1, hz2⟩ := info_parts info_u8
  have HCV := hd (fun (w : World) (v : Value) (l : List UInt8) (hv : Sl w 1 v eU l) => conv_bytes (P := Tryz.prog) w 22 9 5 Tryz.underlying22 Tryz.underlying5 Tryz.underlying9 hv)
  go_enter Tryz.func71, Tryz.ntmps71
  go_wp2_with fail
  refine (mot_impl _ _ hs).mono ?_
  rintro e ww ⟨rfl, hw⟩
  have hw := hw.symm
  subst hw
  rw [h1]
  go_wp2_with fail
  refine (in_impl _ _ _ _).mono ?_
  rintro e ww ⟨rfl, hw⟩
  have hw := hw.symm
  subst hw
  rw [h2]
  clear h1 h2
  have own0 := Own.made0 w w.heap.size 5 1 eU (Nat.le_refl _)
  have bel0 := (Below.refl w.heap.size w).alloc (Nat.le_refl _) (.cells #[] 5)
  go_wp2_with fail
  refine (seenO_impl _ _ _ (by omega) (by omega)).mono ?_
  rintro e w2 ⟨v, rfl, O, B⟩
  have hls := seenTo_len s.size m m
  have own1 := own0.below B (Nat.le_refl _)
  have bel1 := bel0.trans (B.mono (by simp))
  have ap1 : apart (Value.slice (some ⟨w.heap.size, 0, none⟩) 0 0).ownBlock v.ownBlock := own_ne own0 O
  have HLS := hd hls
  clear own0 bel0 hls B
  obtain ⟨A, cc, rfl⟩ := O.isSlice
  rw [HLS.out] at ap1 ⊢
  go_wp2_with fail
  go_loopw [6, 23] (fun ov iv wr => ∃ k : Nat, k ≤ m ∧ iv = .int .i64 k ∧ Own wr w.heap.size 5 1 ov eU (motTo s.data.toList m k) ∧ Below w.heap.size w wr ∧ Own wr (w.heap.size + 1) 2 1 (.slice A (seenTo s.size m m).length cc) eI (seenTo s.size m m) ∧ apart ov.ownBlock (Value.slice A m cc).ownBlock) (fun _ iv _ => m - (intOf iv).toNat)
  case atStart => exact ⟨0, Nat.zero_le _, rfl, own1, bel1, O.base (by simp), ap1⟩
  case round =>
    obtain ⟨k, hk, rfl, hown, hbel, OS, ap⟩ := hrel
    clear own1 bel1 O ap1
    have hlen := motTo_len s.data.toList m k
    by_cases hlt : k < m
    · have hq : seenN s.size m k < s.size := seenN_lt hz.1
      have HS := hd (show motTo s.data.toList m (k + 1) = motTo s.data.toList m k ++ [s[seenN s.size m k]] by rw [motTo_snoc, list_size, get_listK s _ hq])
      have hlk : (motTo s.data.toList m k).length ≤ 48 := by omega
      obtain ⟨bb, oo, rfl, hbb, hcc⟩ := (OS.sl eI_len).int_at (i := k) (by rw [HLS.out]; exact hlt)
      rw [seenTo_get] at hcc
      have HOS := hd OS
      have HAP := hd ap
      have HL := hd hlen
      clear hlen OS ap
      generalize motTo s.data.toList m k = L at hown hlk HS HL ⊢
      generalize seenN s.size m k = q at hq HS hcc ⊢
      go_wp2_with (at_builtin; refine wpList_push_at _ rfl _ _ 22 rfl i0 (.int .u8 0) 1 Tryz.underlying22 hi hz0 hz1 hz2 rfl (by decide) _ _ (s[q]) rfl (hown.alloc _) wr.heap.size rfl #[.int .u8 (s[q].toNat : Int)] 5 (heap_alloc_new _ _) rfl rfl (by intro u hu; simp [eU] at hu; subst hu; rfl) (by unfold maxLen; omega) (by omega) (by have := hbel.size; simp; omega) ?_)
      intro v' w3 hown2 hgr2 hat
      have hbel2 := (hbel.alloc hbel.size (.cells #[.int .u8 (s[q].toNat : Int)] 5)).grown hgr2 (by have := hbel.size; simp; omega) (fun g hg => (hown.lt g hg).1)
      have OS2 := (HOS.out.alloc (.cells #[.int .u8 (s[q].toNat : Int)] 5)).grown hgr2 (by have := apart_symm HAP.out; rw [← HLS.out] at this; exact this)
      have ap2 := apart_push (N := wr.heap.size) HAP.out (by simpa using hat) (fun g hg => by have := (HOS.out.lt g (by rw [HLS.out]; exact hg)).2; omega)
      have HO2 := hd OS2
      have HAP2 := hd ap2
      clear hown hgr2 hbel HOS HAP OS2 ap2 hat
      go_wp2_with fail
      go_roundw
      case rel => exact ⟨k + 1, by omega, by go_num, by rw [HS.out]; exact hown2, hbel2, HO2.out, HAP2.out⟩
      case measure => simp [intOf]; omega
    · obtain rfl : k = m := by omega
      clear hlen
      have hc := HCV.out wr _ _ (hown.sl eU_len)
      obtain ⟨A2, cc2, rfl⟩ := hown.isSlice
      clear OS ap
      go_wp2_with fail
      go_ret2
      exact ⟨by rw [HR.out]; rfl, hbel⟩
set_option maxRecDepth 100000 in
set_option maxHeartbeats 8000000 in
theorem l06Disc_spec (w : World) (s : ByteArray) (p : Nat) (hs : 1 ≤ s.size ∧ s.size ≤ 24) (hp : 1 ≤ p ∧ p ≤ 24) :
    Calls Tryz.prog 228 #[.string s, .int .i64 (p : Int)] w fun e w' => e = .returned (discV (discB s.data.toList p)) ∧ Below w.heap.size w w' := by
  obtain ⟨i0, hi, hz0, hz1, hz2⟩ := info_parts info_u8
  have HCV := hd (fun (w : World) (v : Value) (l : List UInt8) (hv : Sl w 1 v eU l) => conv_bytes (P := Tryz.prog) w 22 9 5 Tryz.underlying22 Tryz.underlying5 Tryz.underlying9 hv)
  have HSZ := hd (list_size s)
  go_enter Tryz.func228, Tryz.ntmps228
  go_wp2_with (at_make; refine wpList_make_full _ rfl _ _ 22 rfl w.heap.size 5 i0 (.int .u8 0) 1 Tryz.underlying22 hi hz0 hz1 .i64 .i64 _ _ p rfl rfl rfl rfl (by rw [hz2]; omega) (by unfold maxLen; omega) (Nat.le_refl _) ?_)
  intro w1 hown0 hgr
  have hown0 := made_bytes _ _ _ _ _ hown0
  have hbel0 : Below w.heap.size w w1 := below_of_grown hgr (Nat.le_refl _) (by simp)
  clear hgr hi hz0 hz1 hz2
  have HF0 := hd (show fillTo s.data.toList p 0 = some (List.replicate p 0) from rfl)
  go_wp2_with fail
  as_aux_lemma =>
  go_loopw [8] (fun iv wr => ∃ (k : Nat) (l : List UInt8), k ≤ s.size ∧ iv = .int .i64 k ∧ Hid (fillTo s.data.toList p k = some l) ∧ Own wr w.heap.size 5 1 (.slice (some ⟨w.heap.size, 0, none⟩) p p) eU l ∧ Below w.heap.size w wr) (fun iv _ => s.size - (intOf iv).toNat)
  case atStart => exact ⟨0, _, Nat.zero_le _, rfl, HF0, hown0, hbel0⟩
  case round =>
    obtain ⟨k, l, hk, rfl, HF, hown, hbel⟩ := hrel
    clear hown0 hbel0 HF0
    have hll := fillTo_len HF.out
    by_cases hlt : k < s.size
    · have hq : seenN p s.size k < p := seenN_lt hp.1
      have HSK := hd (get_listK s k hlt)
      have HBAD := hd (fun h1 h2 => fillTo_bad HF.out (by rw [HSZ.out]; exact h1) (by rw [HSZ.out, HSK.out]; exact h2) (by rw [HSZ.out]; exact hlt))
      have HGOOD := hd (fun h => by have := fillTo_good HF.out (by rw [HSZ.out, HSK.out]; exact h); rwa [HSZ.out, HSK.out] at this)
      have hql : seenN p s.size k < l.length := by omega
      have HX := hd (show l.getD (seenN p s.size k) 0 = l[seenN p s.size k] by rw [List.getD_eq_getElem?_getD, List.getElem?_eq_getElem hql]; rfl)
      rw [HX.out] at HBAD HGOOD
      obtain ⟨hcell, hfr⟩ := hown.cell_one eU_len (seenN p s.size k) hql (u := .int .u8 (l[seenN p s.size k].toNat : Int)) rfl
      have HST := hd (fun (x : UInt8) => hown.set_one eU_len (seenN p s.size k) x (u := .int .u8 (x.toNat : Int)) rfl)
      have HL := hd hll
      clear hll
      by_cases h1 : l[seenN p s.size k] = 0
      · go_wp2_with fail
        refine (seenN_spec _ _ _ _ (by omega) (by omega) (by omega)).mono ?_
        rintro e ww ⟨rfl, hw⟩
        have hw := hw.symm
        subst hw
        generalize seenN p s.size k = q at hq hql h1 HBAD HGOOD HX hcell hfr HST ⊢
        generalize l[q] = x at HBAD HGOOD HX hcell h1
        have k0 := byte_zero h1
        have HN := hd (HGOOD.out (.inl h1))
        clear h1 HBAD HGOOD
        go_wp2_with fail
        go_quiet (fail)
        go_wp2_with fail
        go_roundw
        case rel => exact ⟨k + 1, l.set q (s[k]), by omega, by go_num, HN, (HST.out (s[k])).drewN _, below_drewN (hbel.setCell (p := ⟨w.heap.size, q, none⟩) (Nat.le_refl _) _) _⟩
        case measure => simp [intOf]; omega
      by_cases h2 : l[seenN p s.size k] = s[k]
      · go_wp2_with fail
        refine (seenN_spec _ _ _ _ (by omega) (by omega) (by omega)).mono ?_
        rintro e ww ⟨rfl, hw⟩
        have hw := hw.symm
        subst hw
        generalize seenN p s.size k = q at hq hql h1 h2 HBAD HGOOD HX hcell hfr HST ⊢
        generalize l[q] = x at HBAD HGOOD HX hcell h1 h2
        have k0 := byte_ne0 h1
        have k1 := byte_same h2
        have HN := hd (HGOOD.out (.inr h2))
        clear h1 h2 HBAD HGOOD
        go_wp2_with fail
        go_quiet (fail)
        go_wp2_with fail
        go_roundw
        case rel => exact ⟨k + 1, l.set q (s[k]), by omega, by go_num, HN, (HST.out (s[k])).drewN _, below_drewN (hbel.setCell (p := ⟨w.heap.size, q, none⟩) (Nat.le_refl _) _) _⟩
        case measure => simp [intOf]; omega
      · go_wp2_with fail
        refine (seenN_spec _ _ _ _ (by omega) (by omega) (by omega)).mono ?_
        rintro e ww ⟨rfl, hw⟩
        have hw := hw.symm
        subst hw
        generalize seenN p s.size k = q at hq hql h1 h2 HBAD HGOOD HX hcell hfr HST ⊢
        generalize l[q] = x at HBAD HGOOD HX hcell h1 h2
        have k0 := byte_ne0 h1
        have k1 := byte_ne h2
        have HR := hd (discV_none (discB_none (HBAD.out h1 h2)))
        clear h1 h2 HBAD HGOOD
        go_wp2_with fail
        go_quiet (fail)
        go_wp2_with fail
        go_ret2
        exact ⟨by rw [HR.out]; rfl, below_drewN hbel _⟩
    · obtain rfl : k = s.size := by omega
      have HFD := hd (discB_some (show fillTo s.data.toList p s.data.toList.length = some l by rw [HSZ.out]; exact HF.out))
      have H0 : Own wr w.heap.size 5 1 (.slice (some ⟨w.heap.size, 0, none⟩) p p) eU (sprTo l 0) := hown
      have hb0 := hbel
      have HL := hd hll
      clear hll hown hbel
      go_wp2_with fail
      as_aux_lemma =>
      go_loopw [10] (fun jv wq => ∃ i : Nat, i + 1 ≤ p ∧ jv = .int .i64 ((i : Int) + 1) ∧ Own wq w.heap.size 5 1 (.slice (some ⟨w.heap.size, 0, none⟩) p p) eU (sprTo l i) ∧ Below w.heap.size w wq) (fun jv _ => p - (intOf jv).toNat)
      case atStart => exact ⟨0, by omega, rfl, H0, hb0⟩
      case round =>
        obtain ⟨i, hi1, rfl, hown, hbel⟩ := hrel
        clear H0 hb0
        have hsl := (sprTo_len l i).trans HL.out
        by_cases hlt : i + 1 < p
        · obtain ⟨c1, f1⟩ := hown.cell_one eU_len (i + 1) (by omega) (u := .int .u8 ((sprTo l i)[i + 1].toNat : Int)) rfl
          obtain ⟨c0, f0⟩ := hown.cell_one eU_len i (by omega) (u := .int .u8 ((sprTo l i)[i].toNat : Int)) rfl
          have HST := hd (fun (x : UInt8) => hown.set_one eU_len (i + 1) x (u := .int .u8 (x.toNat : Int)) rfl)
          have HX1 := hd (show (sprTo l i).getD (i + 1) 0 = (sprTo l i)[i + 1] by rw [List.getD_eq_getElem?_getD, List.getElem?_eq_getElem (by omega)]; rfl)
          have HX0 := hd (show (sprTo l i).getD i 0 = (sprTo l i)[i] by rw [List.getD_eq_getElem?_getD, List.getElem?_eq_getElem (by omega)]; rfl)
          have HY := hd (fun h => (sprTo_set (l := l) (j := i) h).trans (by rw [HX0.out]))
          have HN := hd (fun h => sprTo_same (l := l) (j := i) h)
          rw [HX1.out] at HY HN
          have hq : ((i : Int) + 1).toNat = i + 1 := by omega
          have hlt' : (i : Int) + 1 < (p : Int) := by omega
          have HSL := hd hsl
          generalize (sprTo l i)[i + 1] = x1 at c1 HY HN HX1
          generalize (sprTo l i)[i] = x0 at c0 HY HX0
          clear hsl HX0 HX1
          by_cases hz : x1 = 0
          · have k0 := byte_eq0 hz
            have HE := hd (HY.out hz)
            clear hz HY HN
            go_wp2_with fail
            go_roundw
            case rel => exact ⟨i + 1, by omega, by go_num, by rw [HE.out]; exact HST.out _, hbel.setCell (p := ⟨w.heap.size, i + 1, none⟩) (Nat.le_refl _) _⟩
            case measure => simp [intOf]; omega
          · have k0 := byte_neq0 hz
            have HE := hd (HN.out hz)
            clear hz HY HN HST
            go_wp2_with fail
            go_roundw
            case rel => exact ⟨i + 1, by omega, by go_num, by rw [HE.out]; exact hown, hbel⟩
            case measure => simp [intOf]; omega
        · have hip : i = p - 1 := by omega
          subst hip
          have HR := hd (discV_some HFD.out)
          have hlt' : ¬ (((p - 1 : Nat) : Int) + 1 < (p : Int)) := by omega
          have hc := HCV.out wr _ _ (hown.sl eU_len)
          clear hsl
          go_wp2_with fail
          go_ret2
          exact ⟨by rw [HR.out]; rfl, hbel⟩
set_option maxRecDepth 100000 in
set_option maxHeartbeats 8000000 in
theorem discFor_impl (w : World) (s : ByteArray) (p : Nat) (hs : 1 ≤ s.size ∧ s.size ≤ 24) (hp : 1 ≤ p ∧ p ≤ 24) :
    Calls Tryz.prog 130 #[.string s, .int .i64 (p : Int)] w fun e w' => e = .returned (discV (discB s.data.toList p)) ∧ Below w.heap.size w w' := by
  obtain ⟨i0, hi, hz0, hz1, hz2⟩ := info_parts info_u8
  have HCV := hd (fun (w : World) (v : Value) (l : List UInt8) (hv : Sl w 1 v eU l) => conv_bytes (P := Tryz.prog) w 22 9 5 Tryz.underlying22 Tryz.underlying5 Tryz.underlying9 hv)
  have HSZ := hd (list_size s)
  go_enter Tryz.func130, Tryz.ntmps130
  go_wp2_with (at_make; refine wpList_make_full _ rfl _ _ 22 rfl w.heap.size 5 i0 (.int .u8 0) 1 Tryz.underlying22 hi hz0 hz1 .i64 .i64 _ _ p rfl rfl rfl rfl (by rw [hz2]; omega) (by unfold maxLen; omega) (Nat.le_refl _) ?_)
  intro w1 hown0 hgr
  have hown0 := made_bytes _ _ _ _ _ hown0
  have hbel0 : Below w.heap.size w w1 := below_of_grown hgr (Nat.le_refl _) (by simp)
  clear hgr hi hz0 hz1 hz2
  have HF0 := hd (show fillTo s.data.toList p 0 = some (List.replicate p 0) from rfl)
  go_wp2_with fail
  refine (seenO_impl _ _ _ (by omega) (by omega)).mono ?_
  rintro e w2 ⟨v, rfl, O, B⟩
  have hls := seenTo_len p s.size s.size
  have own1 := hown0.below B (Nat.le_refl _)
  have bel1 := hbel0.trans (B.mono hbel0.size)
  have HAP := hd (show apart (some w.heap.size) v.ownBlock from own_ne (v := .slice (some ⟨w.heap.size, 0, none⟩) p p) hown0 O)
  have HLS := hd hls
  have hlt0 := hown0.lt w.heap.size rfl
  clear hown0 hbel0 hls B
  obtain ⟨A, cc, rfl⟩ := O.isSlice
  rw [HLS.out]
  go_wp2_with fail
  as_aux_lemma =>
  go_loopw [17] (fun iv wr => ∃ (k : Nat) (l : List UInt8), k ≤ s.size ∧ iv = .int .i64 k ∧ Hid (fillTo s.data.toList p k = some l) ∧ Own wr w.heap.size 5 1 (.slice (some ⟨w.heap.size, 0, none⟩) p p) eU l ∧ Below w.heap.size w wr ∧ Own wr w1.heap.size 2 1 (.slice A (seenTo p s.size s.size).length cc) eI (seenTo p s.size s.size)) (fun iv _ => s.size - (intOf iv).toNat)
  case atStart => exact ⟨0, _, Nat.zero_le _, rfl, HF0, own1, bel1, O⟩
  case round =>
    obtain ⟨k, l, hk, rfl, HF, hown, hbel, OS⟩ := hrel
    clear own1 bel1 HF0 O
    have hll := fillTo_len HF.out
    by_cases hlt : k < s.size
    · have hq : seenN p s.size k < p := seenN_lt hp.1
      have HSK := hd (get_listK s k hlt)
      have HBAD := hd (fun h1 h2 => fillTo_bad HF.out (by rw [HSZ.out]; exact h1) (by rw [HSZ.out, HSK.out]; exact h2) (by rw [HSZ.out]; exact hlt))
      have HGOOD := hd (fun h => by have := fillTo_good HF.out (by rw [HSZ.out, HSK.out]; exact h); rwa [HSZ.out, HSK.out] at this)
      have hql : seenN p s.size k < l.length := by omega
      have HX := hd (show l.getD (seenN p s.size k) 0 = l[seenN p s.size k] by rw [List.getD_eq_getElem?_getD, List.getElem?_eq_getElem hql]; rfl)
      rw [HX.out] at HBAD HGOOD
      obtain ⟨bb, oo, rfl, hbb, hcc⟩ := (OS.sl eI_len).int_at (i := k) (by rw [HLS.out]; exact hlt)
      rw [seenTo_get] at hcc
      have HSO := hd (fun x => (ownsRow_setCell_below OS (a := ⟨w.heap.size, seenN p s.size k, none⟩) hlt0.2 x : Own (wr.setCell ⟨w.heap.size, seenN p s.size k, none⟩ x) w1.heap.size 2 1 (.slice (some ⟨bb, oo, none⟩) (seenTo p s.size s.size).length cc) eI (seenTo p s.size s.size)))
      clear OS
      obtain ⟨hcell, hfr⟩ := hown.cell_one eU_len (seenN p s.size k) hql (u := .int .u8 (l[seenN p s.size k].toNat : Int)) rfl
      have HST := hd (fun (x : UInt8) => hown.set_one eU_len (seenN p s.size k) x (u := .int .u8 (x.toNat : Int)) rfl)
      have HL := hd hll
      clear hll
      by_cases h1 : l[seenN p s.size k] = 0
      · generalize seenN p s.size k = q at hq hql h1 HBAD HGOOD HX hcell hfr HST hcc HSO ⊢
        generalize l[q] = x at HBAD HGOOD HX hcell h1
        have k0 := byte_zero h1
        have HN := hd (HGOOD.out (.inl h1))
        clear h1 HBAD HGOOD
        go_wp2_with fail
        go_quiet (fail)
        go_wp2_with fail
        go_roundw
        case rel => exact ⟨k + 1, l.set q (s[k]), by omega, by go_num, HN, (HST.out (s[k])).drewN _, below_drewN (hbel.setCell (p := ⟨w.heap.size, q, none⟩) (Nat.le_refl _) _) _, Own.drewN (HSO.out _) _⟩
        case measure => simp [intOf]; omega
      by_cases h2 : l[seenN p s.size k] = s[k]
      · generalize seenN p s.size k = q at hq hql h1 h2 HBAD HGOOD HX hcell hfr HST hcc HSO ⊢
        generalize l[q] = x at HBAD HGOOD HX hcell h1 h2
        have k0 := byte_ne0 h1
        have k1 := byte_same h2
        have HN := hd (HGOOD.out (.inr h2))
        clear h1 h2 HBAD HGOOD
        go_wp2_with fail
        go_quiet (fail)
        go_wp2_with fail
        go_roundw
        case rel => exact ⟨k + 1, l.set q (s[k]), by omega, by go_num, HN, (HST.out (s[k])).drewN _, below_drewN (hbel.setCell (p := ⟨w.heap.size, q, none⟩) (Nat.le_refl _) _) _, Own.drewN (HSO.out _) _⟩
        case measure => simp [intOf]; omega
      · generalize seenN p s.size k = q at hq hql h1 h2 HBAD HGOOD HX hcell hfr HST hcc HSO ⊢
        generalize l[q] = x at HBAD HGOOD HX hcell h1 h2
        have k0 := byte_ne0 h1
        have k1 := byte_ne h2
        have HR := hd (discV_none (discB_none (HBAD.out h1 h2)))
        clear h1 h2 HBAD HGOOD
        go_wp2_with fail
        go_quiet (fail)
        go_wp2_with fail
        go_ret2
        exact ⟨by rw [HR.out]; rfl, below_drewN hbel _⟩
    · obtain rfl : k = s.size := by omega
      have HFD := hd (discB_some (show fillTo s.data.toList p s.data.toList.length = some l by rw [HSZ.out]; exact HF.out))
      have H0 : Own wr w.heap.size 5 1 (.slice (some ⟨w.heap.size, 0, none⟩) p p) eU (sprTo l 0) := hown
      have hb0 := hbel
      have HL := hd hll
      clear hll hown hbel OS
      go_wp2_with fail
      as_aux_lemma =>
      go_loopw [9] (fun jv wq => ∃ i : Nat, i + 1 ≤ p ∧ jv = .int .i64 ((i : Int) + 1) ∧ Own wq w.heap.size 5 1 (.slice (some ⟨w.heap.size, 0, none⟩) p p) eU (sprTo l i) ∧ Below w.heap.size w wq) (fun jv _ => p - (intOf jv).toNat)
      case atStart => exact ⟨0, by omega, rfl, H0, hb0⟩
      case round =>
        obtain ⟨i, hi1, rfl, hown, hbel⟩ := hrel
        clear H0 hb0
        have hsl := (sprTo_len l i).trans HL.out
        by_cases hlt : i + 1 < p
        · obtain ⟨c1, f1⟩ := hown.cell_one eU_len (i + 1) (by omega) (u := .int .u8 ((sprTo l i)[i + 1].toNat : Int)) rfl
          obtain ⟨c0, f0⟩ := hown.cell_one eU_len i (by omega) (u := .int .u8 ((sprTo l i)[i].toNat : Int)) rfl
          have HST := hd (fun (x : UInt8) => hown.set_one eU_len (i + 1) x (u := .int .u8 (x.toNat : Int)) rfl)
          have HX1 := hd (show (sprTo l i).getD (i + 1) 0 = (sprTo l i)[i + 1] by rw [List.getD_eq_getElem?_getD, List.getElem?_eq_getElem (by omega)]; rfl)
          have HX0 := hd (show (sprTo l i).getD i 0 = (sprTo l i)[i] by rw [List.getD_eq_getElem?_getD, List.getElem?_eq_getElem (by omega)]; rfl)
          have HY := hd (fun h => (sprTo_set (l := l) (j := i) h).trans (by rw [HX0.out]))
          have HN := hd (fun h => sprTo_same (l := l) (j := i) h)
          rw [HX1.out] at HY HN
          have hq : ((i : Int) + 1).toNat = i + 1 := by omega
          have hlt' : (i : Int) + 1 < (p : Int) := by omega
          have HSL := hd hsl
          generalize (sprTo l i)[i + 1] = x1 at c1 HY HN HX1
          generalize (sprTo l i)[i] = x0 at c0 HY HX0
          clear hsl HX0 HX1
          by_cases hz : x1 = 0
          · have k0 := byte_eq0 hz
            have HE := hd (HY.out hz)
            clear hz HY HN
            go_wp2_with fail
            go_roundw
            case rel => exact ⟨i + 1, by omega, by go_num, by rw [HE.out]; exact HST.out _, hbel.setCell (p := ⟨w.heap.size, i + 1, none⟩) (Nat.le_refl _) _⟩
            case measure => simp [intOf]; omega
          · have k0 := byte_neq0 hz
            have HE := hd (HN.out hz)
            clear hz HY HN HST
            go_wp2_with fail
            go_roundw
            case rel => exact ⟨i + 1, by omega, by go_num, by rw [HE.out]; exact hown, hbel⟩
            case measure => simp [intOf]; omega
        · have hip : i = p - 1 := by omega
          subst hip
          have HR := hd (discV_some HFD.out)
          have hlt' : ¬ (((p - 1 : Nat) : Int) + 1 < (p : Int)) := by omega
          have hc := HCV.out wr _ _ (hown.sl eU_len)
          clear hsl
          go_wp2_with fail
          go_ret2
          exact ⟨by rw [HR.out]; rfl, hbel⟩
set_option maxRecDepth 100000 in
set_option maxHeartbeats 4000000 in
theorem dfor_spec (w : World) (s : ByteArray) (hs : s.size ≤ 1048576) (n : Int) :
    Calls Tryz.prog 171 #[.string s, .int .i64 n] w fun e w' => e = .returned (.tuple #[.string (dforR s n).1, .int .i64 (dforR s n).2]) ∧ Below w.heap.size w w' := by
  by_cases hc : motC s n = 0
  case neg =>
    obtain ⟨c, hcc⟩ : ∃ c, motC s n = c := ⟨_, rfl⟩
    have HR := hd (dforR_bad hcc (by rw [← hcc]; exact hc))
    have kc : (c != 0) = true := by rw [← hcc]; simpa using hc
    have HC := hd hcc
    clear hc hcc
    go_enter Tryz.func171, Tryz.ntmps171
    go_wp2_with fail
    refine (motC_spec _ _ hs _).mono ?_
    rintro e ww ⟨rfl, hw⟩
    have hw := hw.symm
    subst hw
    rw [HC.out]
    go_wp2_with fail
    go_ret2
    exact ⟨by rw [HR.out]; rfl, Below.refl _ _⟩
  have h1 : okMotB s = true := by
    rcases h : okMotB s with _ | _
    · rw [motC_bad h] at hc; cases hc
    · rfl
  have h2 : inB n 1 24 = true := by
    rcases h : inB n 1 24 with _ | _
    · rw [motC_range h1 h] at hc; cases hc
    · rfl
  have hz := okMot_bd h1
  have hn := inB_true h2
  obtain ⟨m, rfl⟩ := Int.eq_ofNat_of_zero_le (show 0 ≤ n by omega)
  have HC := hd hc
  rcases hq : discB s.data.toList m with _ | b
  · have HR := hd (dforR_none hc (by rw [Int.toNat_natCast]; exact hq))
    have HV := hd (discV_none hq)
    clear hc h1 h2 hq
    go_enter Tryz.func171, Tryz.ntmps171
    go_wp2_with fail
    refine (motC_spec _ _ hs _).mono ?_
    rintro e ww ⟨rfl, hw⟩
    have hw := hw.symm
    subst hw
    rw [HC.out]
    go_wp2_with fail
    refine (l06Disc_spec _ _ _ hz (by omega)).mono ?_
    rintro e w1 ⟨rfl, hb⟩
    rw [HV.out]
    go_wp2_with fail
    go_ret2
    exact ⟨by rw [HR.out]; rfl, hb⟩
  · have HR := hd (dforR_some hc (by rw [Int.toNat_natCast]; exact hq))
    have HV := hd (discV_some hq)
    clear hc h1 h2 hq
    go_enter Tryz.func171, Tryz.ntmps171
    go_wp2_with fail
    refine (motC_spec _ _ hs _).mono ?_
    rintro e ww ⟨rfl, hw⟩
    have hw := hw.symm
    subst hw
    rw [HC.out]
    go_wp2_with fail
    refine (l06Disc_spec _ _ _ hz (by omega)).mono ?_
    rintro e w1 ⟨rfl, hb⟩
    rw [HV.out]
    go_wp2_with fail
    go_ret2
    exact ⟨by rw [HR.out]; rfl, hb⟩
set_option maxRecDepth 100000 in
set_option maxHeartbeats 4000000 in
theorem dfor_impl (w : World) (s : ByteArray) (hs : s.size ≤ 1048576) (n : Int) :
    Calls Tryz.prog 73 #[.string s, .int .i64 n] w fun e w' => e = .returned (.tuple #[.string (dforR s n).1, .int .i64 (dforR s n).2]) ∧ Below w.heap.size w w' := by
  rcases h1 : okMotB s with _ | _
  · have HR := hd (dforR_bad (motC_bad (n := n) h1) (by decide))
    go_enter Tryz.func73, Tryz.ntmps73
    go_wp2_with fail
    refine (mot_impl _ _ hs).mono ?_
    rintro e ww ⟨rfl, hw⟩
    have hw := hw.symm
    subst hw
    rw [h1]
    go_wp2_with fail
    go_ret2
    exact ⟨by rw [HR.out]; rfl, Below.refl _ _⟩
  rcases h2 : inB n 1 24 with _ | _
  · have HR := hd (dforR_bad (motC_range h1 h2) (by decide))
    go_enter Tryz.func73, Tryz.ntmps73
    go_wp2_with fail
    refine (mot_impl _ _ hs).mono ?_
    rintro e ww ⟨rfl, hw⟩
    have hw := hw.symm
    subst hw
    rw [h1]
    go_wp2_with fail
    refine (in_impl _ _ _ _).mono ?_
    rintro e ww ⟨rfl, hw⟩
    have hw := hw.symm
    subst hw
    rw [h2]
    go_wp2_with fail
    go_ret2
    exact ⟨by rw [HR.out]; rfl, Below.refl _ _⟩
  have hc := motC_good h1 h2
  have hz := okMot_bd h1
  have hn := inB_true h2
  obtain ⟨m, rfl⟩ := Int.eq_ofNat_of_zero_le (show 0 ≤ n by omega)
  have H1 := hd h1
  have H2 := hd h2
  rcases hq : discB s.data.toList m with _ | b
  · have HR := hd (dforR_none hc (by rw [Int.toNat_natCast]; exact hq))
    have HV := hd (discV_none hq)
    clear hc h1 h2 hq
    go_enter Tryz.func73, Tryz.ntmps73
    go_wp2_with fail
    refine (mot_impl _ _ hs).mono ?_
    rintro e ww ⟨rfl, hw⟩
    have hw := hw.symm
    subst hw
    rw [H1.out]
    go_wp2_with fail
    refine (in_impl _ _ _ _).mono ?_
    rintro e ww ⟨rfl, hw⟩
    have hw := hw.symm
    subst hw
    rw [H2.out]
    go_wp2_with fail
    refine (discFor_impl _ _ _ hz (by omega)).mono ?_
    rintro e w1 ⟨rfl, hb⟩
    rw [HV.out]
    go_wp2_with fail
    go_ret2
    exact ⟨by rw [HR.out]; rfl, hb⟩
  · have HR := hd (dforR_some hc (by rw [Int.toNat_natCast]; exact hq))
    have HV := hd (discV_some hq)
    clear hc h1 h2 hq
    go_enter Tryz.func73, Tryz.ntmps73
    go_wp2_with fail
    refine (mot_impl _ _ hs).mono ?_
    rintro e ww ⟨rfl, hw⟩
    have hw := hw.symm
    subst hw
    rw [H1.out]
    go_wp2_with fail
    refine (in_impl _ _ _ _).mono ?_
    rintro e ww ⟨rfl, hw⟩
    have hw := hw.symm
    subst hw
    rw [H2.out]
    go_wp2_with fail
    refine (discFor_impl _ _ _ hz (by omega)).mono ?_
    rintro e w1 ⟨rfl, hb⟩
    rw [HV.out]
    go_wp2_with fail
    go_ret2
    exact ⟨by rw [HR.out]; rfl, hb⟩
set_option maxRecDepth 100000 in
set_option maxHeartbeats 4000000 in
theorem few_spec (w : World) (s : ByteArray) (hs : s.size ≤ 1048576) :
    Calls Tryz.prog 169 #[.string s] w fun e w' => e = .returned (.tuple #[.int .i64 (fewR s).1, .int .i64 (fewR s).2]) ∧ Below w.heap.size w w' := by
  rcases h1 : okMotB s with _ | _
  · have HR := hd (show fewR s = (0, 1) by unfold fewR; rw [h1]; rfl)
    go_enter Tryz.func169, Tryz.ntmps169
    go_wp2_with fail
    refine (mot_spec _ _ hs).mono ?_
    rintro e ww ⟨rfl, hw⟩
    have hw := hw.symm
    subst hw
    rw [h1]
    go_wp2_with fail
    go_ret2
    exact ⟨by rw [HR.out]; rfl, Below.refl _ _⟩
  have HR := hd (show fewR s = (((fewFrom s.data.toList 1 : Nat) : Int), 0) by unfold fewR; rw [h1]; rfl)
  have hz := okMot_bd h1
  have HSZ := hd (list_size s)
  go_enter Tryz.func169, Tryz.ntmps169
  go_wp2_with fail
  refine (mot_spec _ _ hs).mono ?_
  rintro e ww ⟨rfl, hw⟩
  have hw := hw.symm
  subst hw
  rw [h1]
  clear h1
  go_wp2_with fail
  go_loopw [4] (fun pv wr => ∃ p : Nat, 1 ≤ p ∧ p ≤ s.size ∧ pv = .int .i64 (p : Int) ∧ Hid (fewFrom s.data.toList 1 = fewFrom s.data.toList p) ∧ Below w.heap.size w wr) (fun pv _ => s.size - (intOf pv).toNat)
  case atStart => exact ⟨1, by omega, by omega, rfl, hd rfl, Below.refl _ _⟩
  case round =>
    obtain ⟨p, hp1, hp2, rfl, HF, hbel⟩ := hrel
    by_cases hlt : p < s.size
    · rcases hq : discB s.data.toList p with _ | b
      · have HN := hd (HF.out.trans (fewFrom_next (by rw [HSZ.out]; exact hlt) (by rw [hq]; rfl)))
        have HV := hd (discV_none hq)
        clear hq
        go_wp2_with fail
        refine (l06Disc_spec _ _ _ hz (by omega)).mono ?_
        rintro e w1 ⟨rfl, hb⟩
        have hb2 := below_step hbel hb
        rw [HV.out]
        clear hb
        go_wp2_with fail
        go_roundw
        case rel => exact ⟨p + 1, by omega, by omega, by go_num, HN, hb2⟩
        case measure => simp [intOf]; omega
      · have HN := hd (HF.out.trans (fewFrom_hit (by rw [HSZ.out]; exact hlt) (by rw [hq]; rfl)))
        have HV := hd (discV_some hq)
        clear hq
        go_wp2_with fail
        refine (l06Disc_spec _ _ _ hz (by omega)).mono ?_
        rintro e w1 ⟨rfl, hb⟩
        have hb2 := below_step hbel hb
        rw [HV.out]
        clear hb
        go_wp2_with fail
        go_ret2
        exact ⟨by rw [HR.out, HN.out]; rfl, hb2⟩
    · obtain rfl : p = s.size := by omega
      have HN := hd (HF.out.trans (fewFrom_end (by rw [HSZ.out]; omega)))
      go_wp2_with fail
      go_ret2
      exact ⟨by rw [HR.out, HN.out]; rfl, hbel⟩
set_option maxRecDepth 100000 in
set_option maxHeartbeats 4000000 in
theorem few_impl (w : World) (s : ByteArray) (hs : s.size ≤ 1048576) :
    Calls Tryz.prog 72 #[.string s] w fun e w' => e = .returned (.tuple #[.int .i64 (fewR s).1, .int .i64 (fewR s).2]) ∧ Below w.heap.size w w' := by
  rcases h1 : okMotB s with _ | _
  · have HR := hd (show fewR s = (0, 1) by unfold fewR; rw [h1]; rfl)
    go_enter Tryz.func72, Tryz.ntmps72
    go_wp2_with fail
    refine (mot_impl _ _ hs).mono ?_
    rintro e ww ⟨rfl, hw⟩
    have hw := hw.symm
    subst hw
    rw [h1]
    go_wp2_with fail
    go_ret2
    exact ⟨by rw [HR.out]; rfl, Below.refl _ _⟩
  have HR := hd (show fewR s = (((fewFrom s.data.toList 1 : Nat) : Int), 0) by unfold fewR; rw [h1]; rfl)
  have hz := okMot_bd h1
  have HSZ := hd (list_size s)
  go_enter Tryz.func72, Tryz.ntmps72
  go_wp2_with fail
  refine (mot_impl _ _ hs).mono ?_
  rintro e ww ⟨rfl, hw⟩
  have hw := hw.symm
  subst hw
  rw [h1]
  clear h1
  go_wp2_with fail
  go_loopw [4] (fun pv wr => ∃ p : Nat, 1 ≤ p ∧ p ≤ s.size ∧ pv = .int .i64 (p : Int) ∧ Hid (fewFrom s.data.toList 1 = fewFrom s.data.toList p) ∧ Below w.heap.size w wr) (fun pv _ => s.size - (intOf pv).toNat)
  case atStart => exact ⟨1, by omega, by omega, rfl, hd rfl, Below.refl _ _⟩
  case round =>
    obtain ⟨p, hp1, hp2, rfl, HF, hbel⟩ := hrel
    by_cases hlt : p < s.size
    · rcases hq : discB s.data.toList p with _ | b
      · have HN := hd (HF.out.trans (fewFrom_next (by rw [HSZ.out]; exact hlt) (by rw [hq]; rfl)))
        have HV := hd (discV_none hq)
        clear hq
        go_wp2_with fail
        refine (discFor_impl _ _ _ hz (by omega)).mono ?_
        rintro e w1 ⟨rfl, hb⟩
        have hb2 := below_step hbel hb
        rw [HV.out]
        clear hb
        go_wp2_with fail
        go_roundw
        case rel => exact ⟨p + 1, by omega, by omega, by go_num, HN, hb2⟩
        case measure => simp [intOf]; omega
      · have HN := hd (HF.out.trans (fewFrom_hit (by rw [HSZ.out]; exact hlt) (by rw [hq]; rfl)))
        have HV := hd (discV_some hq)
        clear hq
        go_wp2_with fail
        refine (discFor_impl _ _ _ hz (by omega)).mono ?_
        rintro e w1 ⟨rfl, hb⟩
        have hb2 := below_step hbel hb
        rw [HV.out]
        clear hb
        go_wp2_with fail
        go_ret2
        exact ⟨by rw [HR.out, HN.out]; rfl, hb2⟩
    · obtain rfl : p = s.size := by omega
      have HN := hd (HF.out.trans (fewFrom_end (by rw [HSZ.out]; omega)))
      go_wp2_with fail
      go_ret2
      exact ⟨by rw [HR.out, HN.out]; rfl, hbel⟩
end Go.Proofs.YtgcodjkjdfahdaaGreatDoor
