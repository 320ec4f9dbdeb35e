/- What the reference draws for titles: valid titles with rising numbers. No condition but that the bytes read. -/
import Derived.Test.YtlgcehdklpbknaaRec
import Derived.Test.YtlgcehdklpbknaaTtP
import Derived.Deep.Cut
namespace Go.Proofs.Ytlgcehdklpbknaa
open Go Go.RowKit Go.ChangeShapes Go.WideShapes
set_option linter.unusedSimpArgs false
set_option linter.unusedVariables false
def drawnName (t : ByteArray) : Prop := t ∈ ([⟨#[97, 108, 112, 115]⟩, ⟨#[97, 108, 112, 105, 110, 101, 45, 50]⟩, ⟨#[97, 114, 99, 116, 105, 99]⟩, ⟨#[109, 111, 111, 110]⟩, ⟨#[116, 97, 108, 101, 115]⟩] : List ByteArray)
theorem drawn_name {t : ByteArray} (h : drawnName t) : isNameB t = true ∧ t.size ≤ 100 := by
  simp only [drawnName, List.mem_cons, List.not_mem_nil, or_false] at h
  rcases h with rfl | rfl | rfl | rfl | rfl <;> exact ⟨by decide, by decide⟩
theorem load_titleO (Z : World) (b : Nat) (x0 : Int) (x1 : ByteArray) (x2 x3 : Int) (e0 : Z.cell? ⟨b, 0, none⟩ = some (.int .i64 x0)) (e1 : Z.cell? ⟨b, 1, none⟩ = some (.string x1)) (e2 : Z.cell? ⟨b, 2, none⟩ = some (.int .i64 x2)) (e3 : Z.cell? ⟨b, 3, none⟩ = some (.int .i64 x3)) :
    (loadVar 55 ⟨b, 0, none⟩).run Try.prog Z = .ok (.agg #[.int .i64 x0, .string x1, .int .i64 x2, .int .i64 x3]) Z := by
  simp [loadVar, go_sem, e0, e1, e2, e3]
set_option maxRecDepth 100000 in
set_option maxHeartbeats 8000000 in
theorem new_title (w0 : World) (v : Value) (l : List UInt8) (hS : Sl w0 1 v eU l) (hl : l.length ≤ 1048576) (w : World) (g n : Nat) (h : Src w0 v g n w) (hn : n ≤ 700000000) (no : Int) (hn1 : -1000000 ≤ no) (hn2 : no ≤ 1000000) :
    Calls Try.prog 144 #[.pointer (some ⟨g, 0, none⟩), .int .i64 no] w fun e w' => ∃ (t : ByteArray) (gl br : Int), e = .returned (.agg #[.int .i64 no, .string t, .int .i64 gl, .int .i64 br]) ∧ drawnName t ∧ (1 ≤ gl ∧ gl ≤ 14) ∧ (0 ≤ br ∧ br ≤ gl) ∧ Src w0 v g (n + 20) w' ∧ w.grownBy w' (some g) := by
  have hgB : g < w.heap.size := h.1
  have R_r0 := rec_new w w.heap.size 55 [.int .i64 0, .string ⟨#[]⟩, .int .i64 0, .int .i64 0] (Nat.le_refl _)
  have hz0 : (w.alloc (.cells #[.int .i64 0, .string ⟨#[]⟩, .int .i64 0, .int .i64 0] 55)).heap.size = w.heap.size + 1 := by simp
  have L2 := texts_stay (W := w.alloc (.cells #[.int .i64 0, .string ⟨#[]⟩, .int .i64 0, .int .i64 0] 55)) (g := g) (by omega) 9 ([⟨#[97, 108, 112, 115]⟩, ⟨#[97, 108, 112, 105, 110, 101, 45, 50]⟩, ⟨#[97, 114, 99, 116, 105, 99]⟩, ⟨#[109, 111, 111, 110]⟩, ⟨#[116, 97, 108, 101, 115]⟩] : List ByteArray) (by decide)
  rw [hz0] at L2
  have S := hd ((h.more (.cells #[.int .i64 0, .string ⟨#[]⟩, .int .i64 0, .int .i64 0] 55)).more (.cells (([⟨#[97, 108, 112, 115]⟩, ⟨#[97, 108, 112, 105, 110, 101, 45, 50]⟩, ⟨#[97, 114, 99, 116, 105, 99]⟩, ⟨#[109, 111, 111, 110]⟩, ⟨#[116, 97, 108, 101, 115]⟩] : List ByteArray).map Value.string).toArray 9))
  have G := hd (grow_alloc (grow_alloc (World.grownBy.refl w (some g)) (.cells #[.int .i64 0, .string ⟨#[]⟩, .int .i64 0, .int .i64 0] 55)) (.cells (([⟨#[97, 108, 112, 115]⟩, ⟨#[97, 108, 112, 105, 110, 101, 45, 50]⟩, ⟨#[97, 114, 99, 116, 105, 99]⟩, ⟨#[109, 111, 111, 110]⟩, ⟨#[116, 97, 108, 101, 115]⟩] : List ByteArray).map Value.string).toArray 9))
  have R_r := hd (R_r0.alloc (.cells (([⟨#[97, 108, 112, 115]⟩, ⟨#[97, 108, 112, 105, 110, 101, 45, 50]⟩, ⟨#[97, 114, 99, 116, 105, 99]⟩, ⟨#[109, 111, 111, 110]⟩, ⟨#[116, 97, 108, 101, 115]⟩] : List ByteArray).map Value.string).toArray 9))
  have hE_r : g < w.heap.size := hgB
  clear h R_r0 hz0
  go_enter Try.func144, Try.ntmps144
  go_wp2_with fail
  refine (text_src w0 v l hS hl _ g n S.out (by omega) _ ([⟨#[97, 108, 112, 115]⟩, ⟨#[97, 108, 112, 105, 110, 101, 45, 50]⟩, ⟨#[97, 114, 99, 116, 105, 99]⟩, ⟨#[109, 111, 111, 110]⟩, ⟨#[116, 97, 108, 101, 115]⟩] : List ByteArray) L2 (by decide) (by decide)).mono ?_
  rintro e w1 ⟨t, ht, rfl, S', G'⟩
  replace ht : drawnName t := ht
  have htz := (drawn_name ht).2
  replace R_r := hd (R_r.out.keep G' (some_ne hE_r))
  replace G := hd (grownBy_trans G.out G')
  replace S := hd S'
  clear S' G' L2
  have hwr := R_r.out.lt.2
  have hsz := G.out.size
  have R_x0 := rec_new w1 w.heap.size 55 [.int .i64 no, .string t, .int .i64 0, .int .i64 0] hsz
  have hE_x : g < w1.heap.size := S.out.1
  replace R_r := hd (R_r.out.alloc (.cells #[.int .i64 no, .string t, .int .i64 0, .int .i64 0] 55))
  replace G := hd (grow_alloc G.out (.cells #[.int .i64 no, .string t, .int .i64 0, .int .i64 0] 55))
  replace S := hd (S.out.more (.cells #[.int .i64 no, .string t, .int .i64 0, .int .i64 0] 55))
  have R_x := hd R_x0
  clear R_x0
  have HRX : w.heap.size ≠ w1.heap.size := by omega
  have hwE : w.heap.size ≤ w1.heap.size := hsz
  have hz1 : (w1.alloc (.cells #[.int .i64 no, .string t, .int .i64 0, .int .i64 0] 55)).heap.size = w1.heap.size + 1 := by simp
  go_upto_region 2 with fail
  generalize hW3 : w1.alloc (.cells #[.int .i64 no, .string t, .int .i64 0, .int .i64 0] 55) = W3 at S G R_r R_x ⊢
  generalize w1.heap.size = E at hE_x HRX hwE R_x ⊢
  clear hW3 hz1 hsz hwr
  go_wp2_with fail
  refine (pick_src w0 v l hS hl _ g _ S.out (by omega) 14 (by omega)).mono ?_
  rintro e w2 ⟨y, ⟨y1, y2⟩, rfl, S', G'⟩
  replace R_r := hd (R_r.out.keep G' (some_ne hE_r))
  replace R_x := hd (R_x.out.keep G' (some_ne hE_x))
  replace G := hd (grownBy_trans G.out G')
  replace S := hd S'
  clear S' G'
  have c2 := R_x.out.cell 2 _ rfl
  have f2 := R_x.out.free 2
  have hgl : 1 ≤ 1 + y ∧ 1 + y ≤ 14 := by omega
  replace R_x := hd (R_x.out.set 2 (.int .i64 (1 + y)))
  replace R_r := hd (R_r.out.other 2 (.int .i64 (1 + y)) HRX)
  replace S := hd (S.out.put hE_x 2 (.int .i64 (1 + y)))
  replace G := hd (grow_new G.out hwE 2 (.int .i64 (1 + y)))
  go_upto_region 3 with fail
  generalize w2.setCell ⟨E, 2, none⟩ (.int .i64 (1 + y)) = W4 at S G R_r R_x ⊢
  clear c2 f2 y1 y2
  generalize 1 + y = gl at hgl R_x ⊢
  obtain ⟨hgl1, hgl2⟩ := hgl
  go_wp2_with fail
  refine (one_src w0 v l hS hl _ g _ S.out (by omega) 2 (by omega)).mono ?_
  rintro e w5 ⟨b, rfl, S', G'⟩
  replace R_r := hd (R_r.out.keep G' (some_ne hE_r))
  replace R_x := hd (R_x.out.keep G' (some_ne hE_x))
  replace G := hd (grownBy_trans G.out G')
  replace S := hd S'
  clear S' G'
  rcases b with _ | _
  · skip
    have c0 := R_x.out.cell 0 _ rfl
    have c1 := R_x.out.cell 1 _ rfl
    have c2 := R_x.out.cell 2 _ rfl
    have c3 := R_x.out.cell 3 _ rfl
    have r0 := R_r.out.cell 0 _ rfl
    have r1 := R_r.out.cell 1 _ rfl
    have r2 := R_r.out.cell 2 _ rfl
    have r3 := R_r.out.cell 3 _ rfl
    have q0 := R_r.out.free 0
    have q1 := R_r.out.free 1
    have q2 := R_r.out.free 2
    have q3 := R_r.out.free 3
    go_wp2_with fail
    have Z := ((((R_r.out.set 0 (.int .i64 no)).set 1 (.string t)).set 2 (.int .i64 gl)).set 3 (.int .i64 0))
    have SZ := ((((S.out.put hE_r 0 (.int .i64 no)).put hE_r 1 (.string t)).put hE_r 2 (.int .i64 gl)).put hE_r 3 (.int .i64 0))
    have GZ := (grow_new (grow_new (grow_new (grow_new G.out (Nat.le_refl _) 0 (.int .i64 no)) (Nat.le_refl _) 1 (.string t)) (Nat.le_refl _) 2 (.int .i64 gl)) (Nat.le_refl _) 3 (.int .i64 0))
    generalize ((((w5.setCell ⟨w.heap.size, 0, none⟩ (.int .i64 no)).setCell ⟨w.heap.size, 1, none⟩ (.string t)).setCell ⟨w.heap.size, 2, none⟩ (.int .i64 gl)).setCell ⟨w.heap.size, 3, none⟩ (.int .i64 0)) = WZ at Z SZ GZ ⊢
    refine bodyPost_ret (v := .agg #[.int .i64 no, .string t, .int .i64 gl, .int .i64 0]) ?_ rfl ?_
    · refine (results_one Try.results144 _ _ _).trans ?_
      exact load_titleO WZ _ _ _ _ _ (Z.cell 0 _ rfl) (Z.cell 1 _ rfl) (Z.cell 2 _ rfl) (Z.cell 3 _ rfl)
    · exact ⟨t, gl, 0, rfl, ht, by omega, by omega, SZ.le (by omega), GZ⟩
  · have c2 := R_x.out.cell 2 _ rfl
    go_wp2_with fail
    refine (pick_src w0 v l hS hl _ g _ S.out (by omega) (gl + 1) (by omega)).mono ?_
    rintro e w6 ⟨z, ⟨z1, z2⟩, rfl, S', G'⟩
    replace R_r := hd (R_r.out.keep G' (some_ne hE_r))
    replace R_x := hd (R_x.out.keep G' (some_ne hE_x))
    replace G := hd (grownBy_trans G.out G')
    replace S := hd S'
    clear S' G' c2
    have hz : 0 ≤ z ∧ z ≤ gl := by omega
    have c3 := R_x.out.cell 3 _ rfl
    have f3 := R_x.out.free 3
    replace R_x := hd (R_x.out.set 3 (.int .i64 z))
    replace R_r := hd (R_r.out.other 3 (.int .i64 z) HRX)
    replace S := hd (S.out.put hE_x 3 (.int .i64 z))
    replace G := hd (grow_new G.out hwE 3 (.int .i64 z))
    go_upto_region 5 with fail
    generalize w6.setCell ⟨E, 3, none⟩ (.int .i64 z) = W7 at S G R_r R_x ⊢
    clear c3 f3 z1 z2
    have c0 := R_x.out.cell 0 _ rfl
    have c1 := R_x.out.cell 1 _ rfl
    have c2 := R_x.out.cell 2 _ rfl
    have c3 := R_x.out.cell 3 _ rfl
    have r0 := R_r.out.cell 0 _ rfl
    have r1 := R_r.out.cell 1 _ rfl
    have r2 := R_r.out.cell 2 _ rfl
    have r3 := R_r.out.cell 3 _ rfl
    have q0 := R_r.out.free 0
    have q1 := R_r.out.free 1
    have q2 := R_r.out.free 2
    have q3 := R_r.out.free 3
    go_wp2_with fail
    have Z := ((((R_r.out.set 0 (.int .i64 no)).set 1 (.string t)).set 2 (.int .i64 gl)).set 3 (.int .i64 z))
    have SZ := ((((S.out.put hE_r 0 (.int .i64 no)).put hE_r 1 (.string t)).put hE_r 2 (.int .i64 gl)).put hE_r 3 (.int .i64 z))
    have GZ := (grow_new (grow_new (grow_new (grow_new G.out (Nat.le_refl _) 0 (.int .i64 no)) (Nat.le_refl _) 1 (.string t)) (Nat.le_refl _) 2 (.int .i64 gl)) (Nat.le_refl _) 3 (.int .i64 z))
    generalize ((((W7.setCell ⟨w.heap.size, 0, none⟩ (.int .i64 no)).setCell ⟨w.heap.size, 1, none⟩ (.string t)).setCell ⟨w.heap.size, 2, none⟩ (.int .i64 gl)).setCell ⟨w.heap.size, 3, none⟩ (.int .i64 z)) = WZ at Z SZ GZ ⊢
    refine bodyPost_ret (v := .agg #[.int .i64 no, .string t, .int .i64 gl, .int .i64 z]) ?_ rfl ?_
    · refine (results_one Try.results144 _ _ _).trans ?_
      exact load_titleO WZ _ _ _ _ _ (Z.cell 0 _ rfl) (Z.cell 1 _ rfl) (Z.cell 2 _ rfl) (Z.cell 3 _ rfl)
    · exact ⟨t, gl, z, rfl, ht, by omega, by omega, SZ.le (by omega), GZ⟩
set_option maxRecDepth 100000 in
set_option maxHeartbeats 8000000 in
theorem draw_titles (w0 : World) (v : Value) (l : List UInt8) (hS : Sl w0 1 v eU l) (hl : l.length ≤ 1048576) (w : World) (g : Nat) (h : Src w0 v g 0 w) :
    Calls Try.prog 110 #[.pointer (some ⟨g, 0, none⟩)] w fun e w' => ∃ (u : Value) (L : List TTitle), e = .returned u ∧ Own w' w.heap.size 55 4 u eTitle L ∧ okTitles L = true ∧ L.length ≤ 6 ∧ w.grownBy w' (some g) := by
  have hgB : g < w.heap.size := h.1
  obtain ⟨i0, hi, hz0, hz1, hz2⟩ := info_parts info_Title
  have O0 := hd (Own.made0 w w.heap.size 55 4 eTitle (Nat.le_refl _))
  have S := hd (h.more (.cells #[] 55))
  have G := hd (grow_alloc (World.grownBy.refl w (some g)) (.cells #[] 55))
  clear h
  go_enter Try.func110, Try.ntmps110
  go_wp2_with fail
  generalize w.alloc (.cells #[] 55) = W0 at S G O0 ⊢
  refine (pick_src w0 v l hS hl _ g _ S.out (by omega) 3 (by omega)).mono ?_
  rintro e w1 ⟨y, ⟨y1, y2⟩, rfl, S', G'⟩
  replace O0 := hd (O0.out.src2 hgB G')
  replace G := hd (grownBy_trans G.out G')
  replace S := hd S'
  clear S' G'
  go_wp2_with fail
  refine (pick_src w0 v l hS hl _ g _ S.out (by omega) 7 (by omega)).mono ?_
  rintro e w2 ⟨z, ⟨z1, z2⟩, rfl, S', G'⟩
  replace O0 := hd (O0.out.src2 hgB G')
  replace G := hd (grownBy_trans G.out G')
  replace S := hd S'
  clear S' G'
  obtain ⟨q, rfl⟩ : ∃ q : Nat, z = (q : Int) := ⟨z.toNat, by omega⟩
  have hq : q ≤ 6 := by omega
  clear z1 z2
  go_wp2_with fail
  go_loopw [3, 4, 5] (fun ov nv kv wr => ∃ (k : Nat) (no : Int) (L : List TTitle), k ≤ q ∧ kv = .int .i64 (q - k : Nat) ∧ nv = .int .i64 no ∧ (1 ≤ no ∧ no ≤ 3 + 3 * k) ∧ Hid (L.length = k ∧ okTitles L = true ∧ ∀ y ∈ L, y.1 < no) ∧ Hid (Own wr w.heap.size 55 4 ov eTitle L) ∧ Hid (Src w0 v g (4 + 22 * k) wr) ∧ Hid (w.grownBy wr (some g))) (fun _ _ kv _ => (intOf kv).toNat)
  case atStart => exact ⟨0, 1 + y, [], Nat.zero_le _, by rfl, by rfl, by omega, hd ⟨rfl, rfl, by simp⟩, O0, S, G⟩
  case round =>
    obtain ⟨k, no, L, hk, rfl, rfl, ⟨n1, n2⟩, HL, OW, SW, GW⟩ := hrel
    clear O0 S G y1 y2
    by_cases hlt : k < q
    · have hpos : 0 < q - k := by omega
      have hL6 : L.length ≤ 6 := by have := HL.out.1; omega
      go_wp2_with fail
      refine (new_title w0 v l hS hl _ g _ SW.out (by omega) no (by omega) (by omega)).mono ?_
      rintro e w3 ⟨t, gl, br, rfl, ht, hgl, hbr, S', G'⟩
      have htz := (drawn_name ht).2
      have HX := hd (okTitles_snoc (x := (no, t, gl, br)) HL.out.2.1 (by
        simp only [okTitleB, Bool.and_eq_true]
        exact ⟨inB_mk ⟨by show 1 ≤ no; omega, by show no ≤ 9999; omega⟩, (drawn_name ht).1, inB_mk ⟨by show 1 ≤ gl; omega, by show gl ≤ 30; omega⟩, inB_mk ⟨by show 0 ≤ br; omega, by show br ≤ gl; omega⟩⟩) HL.out.2.2 (by omega))
      replace OW := hd (OW.out.src2 hgB G')
      replace GW := hd (grownBy_trans GW.out G')
      replace SW := hd S'
      clear S' G' hgl hbr ht
      have hsz := GW.out.size
      go_wp2_with (at_builtin; refine wpList_push _ rfl _ _ 51 rfl i0 (.agg #[.int .i64 0, .string ByteArray.empty, .int .i64 0, .int .i64 0]) 40 Try.underlying51 hi hz0 hz1 hz2 rfl (by decide) _ _ (no, t, gl, br) rfl (OW.out.alloc _) w3.heap.size rfl #[.int .i64 no, .string t, .int .i64 gl, .int .i64 br] 55 (heap_alloc_new _ _) rfl rfl (one_Title _) (by unfold maxLen; omega) (by omega) (by simp; omega) ?_)
      intro v' w4 O' hg'
      have E' := ((Below.refl w.heap.size w3).alloc hsz (.cells #[.int .i64 no, .string t, .int .i64 gl, .int .i64 br] 55)).grown hg' (by simp; omega) (fun b hb => (OW.out.lt b hb).1)
      replace OW := hd O'
      replace SW := hd (SW.out.below2 hgB E')
      replace GW := hd (grow_below GW.out E')
      clear hg' E' hsz O'
      go_wp2_with fail
      refine (pick_src w0 v l hS hl _ g _ SW.out (by omega) 3 (by omega)).mono ?_
      rintro e w5 ⟨y, ⟨y1, y2⟩, rfl, S', G'⟩
      replace OW := hd (OW.out.src2 hgB G')
      replace GW := hd (grownBy_trans GW.out G')
      replace SW := hd (S'.le (show 4 + 22 * k + 20 + 2 ≤ 4 + 22 * (k + 1) by omega))
      clear S' G'
      have HL2 : Hid ((L ++ [((no, t, gl, br) : TTitle)]).length = k + 1 ∧ okTitles (L ++ [((no, t, gl, br) : TTitle)]) = true ∧ ∀ x ∈ L ++ [((no, t, gl, br) : TTitle)], x.1 < no + (1 + y)) := hd ⟨by have := HL.out.1; simp; omega, HX.out, fun x hx => by
        rcases List.mem_append.1 hx with hx | hx
        · have := HL.out.2.2 x hx; omega
        · rw [List.mem_singleton] at hx; subst hx; show no < no + (1 + y); omega⟩
      go_wp2_with fail
      go_roundw
      case rel => exact ⟨k + 1, no + (1 + y), _, by omega, by congr 1; omega, rfl, by omega, HL2, OW, SW, GW⟩
      case measure => simp [intOf]; omega
    · obtain rfl : k = q := by omega
      have hz : k - k = 0 := by omega
      rw [hz]
      go_wp2_with fail
      go_ret
      exact ⟨_, L, rfl, OW.out, HL.out.2.1, by have := HL.out.1; omega, GW.out⟩
set_option maxHeartbeats 4000000 in
theorem draw_a2titles (w0 : World) (v : Value) (l : List UInt8) (hS : Sl w0 1 v eU l) (hl : l.length ≤ 1048576) :
    Calls Try.prog 53 #[v] w0 fun e w' => ∃ (u : Value) (L : List TTitle), e = .returned u ∧ Own w' w0.heap.size 55 4 u eTitle L ∧ okTitles L = true ∧ L.length ≤ 6 ∧ Below w0.heap.size w0 w' := by
  have hv : ∃ A n c, v = .slice A n c := by obtain ⟨A, c, h⟩ := hS.isSlice; exact ⟨A, _, c, h⟩
  go_enter Try.func53, Try.ntmps53
  go_wp2_with fail
  refine (from_src w0 v hv).mono ?_
  rintro e w ⟨rfl, S', K, hz⟩
  go_wp2_with fail
  refine (draw_titles w0 v l hS hl w w0.heap.size S').mono ?_
  rintro e w2 ⟨u, L, rfl, O, hok, hL, G⟩
  have B2 := K.grown G K.size (fun k hk => by injection hk with hk; omega)
  go_wp2_with fail
  go_ret
  exact ⟨_, L, rfl, O.base K.size, hok, hL, B2⟩
end Go.Proofs.Ytlgcehdklpbknaa
