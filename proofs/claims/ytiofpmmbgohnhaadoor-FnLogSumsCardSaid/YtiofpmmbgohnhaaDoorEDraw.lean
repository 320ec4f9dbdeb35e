/- What the reference draws for a log: valid entries in order. No condition but that the bytes read. -/
import Derived.Test.YtiofpmmbgohnhaaDoorRec
import Derived.Test.YtiofpmmbgohnhaaDoorLRound
namespace Go.Proofs.YtiofpmmbgohnhaaDoor
open Go Go.RowKit Go.ChangeShapes Go.WideShapes
set_option linter.unusedSimpArgs false
set_option linter.unusedVariables false
set_option maxRecDepth 100000 in
set_option maxHeartbeats 8000000 in
theorem draw_entry (w0 : World) (v : Value) (l : List UInt8) (hS : Sl w0 1 v eU l) (hl : l.length ≤ 1048576) (w : World) (g n : Nat) (h : Src w0 v g n w) (hn : n ≤ 800000000) (day : Int) (hd1 : 0 ≤ day) (hd2 : day ≤ 100000) :
    Calls Tryd.prog 106 #[.pointer (some ⟨g, 0, none⟩), .int .i64 day] w fun e w' => ∃ (a : Int) (b : ByteArray) (c : Int), e = .returned (.agg #[.int .i64 a, .string b, .int .i64 c]) ∧ b.size ≤ 100 ∧ Src w0 v g (n + 20) w' ∧ w.grownBy w' (some g) := by
  have hg : g < w.heap.size := h.1
  have G0 := grow_alloc (World.grownBy.refl w (some g)) (.cells #[.int .i64 0, .string ⟨#[]⟩, .int .i64 0] 38)
  have S0 := h.more (.cells #[.int .i64 0, .string ⟨#[]⟩, .int .i64 0] 38)
  have R0 := rec_new w w.heap.size 38 [.int .i64 0, .string ⟨#[]⟩, .int .i64 0] (Nat.le_refl _)
  go_enter Tryd.func106, Tryd.ntmps106
  go_wp2_with fail
  generalize w.alloc (.cells #[.int .i64 0, .string ⟨#[]⟩, .int .i64 0] 38) = W0 at G0 S0 R0 ⊢
  refine (pick_src w0 v l hS hl _ g n S0 (by omega) 4 (by omega)).mono ?_
  rintro e w1 ⟨x, ⟨x1, x2⟩, rfl, S1, G1⟩
  have R1 := R0.keep G1 (by simp; omega)
  have G01 := grownBy_trans G0 G1
  have hR1 : w.heap.size < w1.heap.size := R1.lt.2
  have hwE : w.heap.size ≤ w1.heap.size := by omega
  have hgE : g < w1.heap.size := by omega
  have hRE : w.heap.size ≠ w1.heap.size := by omega
  have X := rec_new w1 w.heap.size 38 [.int .i64 (day + x), .string ⟨#[]⟩, .int .i64 0] (by omega)
  have hz1 : (w1.alloc (.cells #[.int .i64 (day + x), .string ⟨#[]⟩, .int .i64 0] 38)).heap.size = w1.heap.size + 1 := by simp
  have L2 := texts_stay (W := w1.alloc (.cells #[.int .i64 (day + x), .string ⟨#[]⟩, .int .i64 0] 38)) (g := g) (by omega) 9 ([⟨#[115, 101, 101, 110]⟩, ⟨#[115, 104, 111, 119, 115]⟩, ⟨#[115, 116, 97, 114, 45, 51]⟩, ⟨#[104, 105, 114, 101, 115]⟩] : List ByteArray) (by decide)
  rw [hz1] at L2
  have S2 := (S1.more (.cells #[.int .i64 (day + x), .string ⟨#[]⟩, .int .i64 0] 38)).more (.cells (([⟨#[115, 101, 101, 110]⟩, ⟨#[115, 104, 111, 119, 115]⟩, ⟨#[115, 116, 97, 114, 45, 51]⟩, ⟨#[104, 105, 114, 101, 115]⟩] : List ByteArray).map Value.string).toArray 9)
  have G2 := grow_alloc (grow_alloc G01 (.cells #[.int .i64 (day + x), .string ⟨#[]⟩, .int .i64 0] 38)) (.cells (([⟨#[115, 101, 101, 110]⟩, ⟨#[115, 104, 111, 119, 115]⟩, ⟨#[115, 116, 97, 114, 45, 51]⟩, ⟨#[104, 105, 114, 101, 115]⟩] : List ByteArray).map Value.string).toArray 9)
  have R2 := (R1.alloc (.cells #[.int .i64 (day + x), .string ⟨#[]⟩, .int .i64 0] 38)).alloc (.cells (([⟨#[115, 101, 101, 110]⟩, ⟨#[115, 104, 111, 119, 115]⟩, ⟨#[115, 116, 97, 114, 45, 51]⟩, ⟨#[104, 105, 114, 101, 115]⟩] : List ByteArray).map Value.string).toArray 9)
  have X2 := X.alloc (.cells (([⟨#[115, 101, 101, 110]⟩, ⟨#[115, 104, 111, 119, 115]⟩, ⟨#[115, 116, 97, 114, 45, 51]⟩, ⟨#[104, 105, 114, 101, 115]⟩] : List ByteArray).map Value.string).toArray 9)
  clear S1 G1 R1 X G0 S0 R0 hz1
  go_wp2_with fail
  refine (text_src w0 v l hS hl _ g (n + 2) S2 (by omega) _ ([⟨#[115, 101, 101, 110]⟩, ⟨#[115, 104, 111, 119, 115]⟩, ⟨#[115, 116, 97, 114, 45, 51]⟩, ⟨#[104, 105, 114, 101, 115]⟩] : List ByteArray) L2 (by decide) (by decide)).mono ?_
  rintro e w3 ⟨t, ht, rfl, S3, G3⟩
  have hts : t.size ≤ 100 := by
    simp only [List.mem_cons, List.not_mem_nil, or_false] at ht
    rcases ht with rfl | rfl | rfl | rfl <;> decide
  have R3 := R2.keep G3 (by simp; omega)
  have X3 := X2.keep G3 (by simp; omega)
  have G03 := grownBy_trans G2 G3
  have d1 := X3.cell 1 _ rfl
  have k1 := X3.free 1
  have X4 := X3.set 1 (.string t)
  have R4 := R3.other 1 (.string t) hRE
  have S4 := S3.put hgE 1 (.string t)
  have G4 := grow_new G03 hwE 1 (.string t)
  clear X2 R2 S2 G2 L2 G3 R3 X3 S3 G03 ht
  have HX := hd X4
  have HR := hd R4
  have HG := hd G4
  clear X4 R4 G4
  go_wp2_with fail
  refine (pick_src w0 v l hS hl _ g (n + 4) S4 (by omega) 900 (by omega)).mono ?_
  rintro e w5 ⟨y, ⟨y1, y2⟩, rfl, S5, G5⟩
  have R5 := HR.out.keep G5 (by simp; omega)
  have X5 := HX.out.keep G5 (by simp; omega)
  have G05 := grownBy_trans HG.out G5
  have d2 := X5.cell 2 _ rfl
  have k2 := X5.free 2
  have X6 := X5.set 2 (.int .i64 (y - 200))
  have R6 := R5.other 2 (.int .i64 (y - 200)) hRE
  have S6 := S5.put hgE 2 (.int .i64 (y - 200))
  have G6 := grow_new G05 hwE 2 (.int .i64 (y - 200))
  clear HX HR HG S4 G5 d1 k1 R5 X5 S5 G05
  replace HX := hd X6
  replace HR := hd R6
  replace HG := hd G6
  clear X6 R6 G6
  go_wp2_with fail
  refine (pick_src w0 v l hS hl _ g (n + 6) S6 (by omega) 24 (by omega)).mono ?_
  rintro e w7 ⟨z, ⟨z1, z2⟩, rfl, S7, G7⟩
  have R7 := HR.out.keep G7 (by simp; omega)
  have X7 := HX.out.keep G7 (by simp; omega)
  have G07 := grownBy_trans HG.out G7
  clear HX HR HG S6 G7 d2 k2
  by_cases y0z : z = 0
  · have y0 := y0z
    clear y0z
    have e0 : (z == 0) = true := by simpa using y0
    clear y0
    have L8 := list_stays (W := w7) (g := g) S7.1 2 ([-1, 0, 100000, 100001] : List Int) (by decide)
    have S8 := S7.more (.cells (([-1, 0, 100000, 100001] : List Int).map (Value.int .i64)).toArray 2)
    have G8 := grow_alloc G07 (.cells (([-1, 0, 100000, 100001] : List Int).map (Value.int .i64)).toArray 2)
    have R8 := R7.alloc (.cells (([-1, 0, 100000, 100001] : List Int).map (Value.int .i64)).toArray 2)
    have X8 := X7.alloc (.cells (([-1, 0, 100000, 100001] : List Int).map (Value.int .i64)).toArray 2)
    go_wp2_with fail
    refine (among_src w0 v l hS hl _ g (n + 8) S8 (by omega) _ ([-1, 0, 100000, 100001] : List Int) L8 (by decide) (by decide)).mono ?_
    rintro e w9 ⟨u, hm, rfl, S9, G9⟩
    have R9 := R8.keep G9 (by simp; omega)
    have X9 := X8.keep G9 (by simp; omega)
    have G09 := grownBy_trans G8 G9
    have d0 := X9.cell 0 _ rfl
    have k0 := X9.free 0
    have X10 := X9.set 0 (.int .i64 u)
    have R10 := R9.other 0 (.int .i64 u) hRE
    have S10 := S9.put hgE 0 (.int .i64 u)
    have G10 := grow_new G09 hwE 0 (.int .i64 u)
    have HX := hd X10
    have HR := hd R10
    have HS := hd S10
    have HG := hd G10
    clear X10 R10 S10 G10
    go_upto_region 11 with fail
    generalize w9.setCell ⟨w1.heap.size, 0, none⟩ (.int .i64 u) = W10 at HX HR HS HG ⊢
    have X10 := HX.out
    have R10 := HR.out
    have S10 := HS.out
    have G10 := HG.out
    have c0 := X10.cell 0 _ rfl
    have c1 := X10.cell 1 _ rfl
    have c2 := X10.cell 2 _ rfl
    have r0 := R10.cell 0 _ rfl
    have r1 := R10.cell 1 _ rfl
    have r2 := R10.cell 2 _ rfl
    have q0 := R10.free 0
    have q1 := R10.free 1
    have q2 := R10.free 2
    go_wp2_with fail
    have Z := ((R10.set 0 (.int .i64 u)).set 1 (.string t)).set 2 (.int .i64 (y - 200))
    have SZ := ((S10.put hg 0 (.int .i64 u)).put hg 1 (.string t)).put hg 2 (.int .i64 (y - 200))
    have GZ := grow_new (grow_new (grow_new G10 (Nat.le_refl _) 0 (.int .i64 u)) (Nat.le_refl _) 1 (.string t)) (Nat.le_refl _) 2 (.int .i64 (y - 200))
    generalize (((W10.setCell ⟨w.heap.size, 0, none⟩ (.int .i64 u)).setCell ⟨w.heap.size, 1, none⟩ (.string t)).setCell ⟨w.heap.size, 2, none⟩ (.int .i64 (y - 200))) = WZ at Z SZ GZ ⊢
    refine bodyPost_ret (v := .agg #[.int .i64 u, .string t, .int .i64 (y - 200)]) ?_ rfl ?_
    · refine (results_one Tryd.results106 _ _ _).trans ?_
      exact load_entry WZ _ _ _ _ (Z.cell 0 _ rfl) (Z.cell 1 _ rfl) (Z.cell 2 _ rfl)
    · exact ⟨_, _, _, rfl, hts, SZ.le (by omega), GZ⟩
  have e0 : (z == 0) = false := by simpa using y0z
  clear y0z
  by_cases y1z : z = 1
  · have y1 := y1z
    clear y1z
    have e1 : (z == 1) = true := by simpa using y1
    clear y1
    have L8 := texts_stay (W := w7) (g := g) S7.1 9 ([⟨#[]⟩, ⟨#[83, 101, 101, 110]⟩, ⟨#[97, 32, 98]⟩] : List ByteArray) (by decide)
    have S8 := S7.more (.cells (([⟨#[]⟩, ⟨#[83, 101, 101, 110]⟩, ⟨#[97, 32, 98]⟩] : List ByteArray).map Value.string).toArray 9)
    have G8 := grow_alloc G07 (.cells (([⟨#[]⟩, ⟨#[83, 101, 101, 110]⟩, ⟨#[97, 32, 98]⟩] : List ByteArray).map Value.string).toArray 9)
    have R8 := R7.alloc (.cells (([⟨#[]⟩, ⟨#[83, 101, 101, 110]⟩, ⟨#[97, 32, 98]⟩] : List ByteArray).map Value.string).toArray 9)
    have X8 := X7.alloc (.cells (([⟨#[]⟩, ⟨#[83, 101, 101, 110]⟩, ⟨#[97, 32, 98]⟩] : List ByteArray).map Value.string).toArray 9)
    go_wp2_with fail
    refine (text_src w0 v l hS hl _ g (n + 8) S8 (by omega) _ ([⟨#[]⟩, ⟨#[83, 101, 101, 110]⟩, ⟨#[97, 32, 98]⟩] : List ByteArray) L8 (by decide) (by decide)).mono ?_
    rintro e w9 ⟨u, hm, rfl, S9, G9⟩
    have R9 := R8.keep G9 (by simp; omega)
    have X9 := X8.keep G9 (by simp; omega)
    have G09 := grownBy_trans G8 G9
    have hu : u.size ≤ 100 := by
      simp only [List.mem_cons, List.not_mem_nil, or_false] at hm
      rcases hm with rfl | rfl | rfl <;> decide
    have d1 := X9.cell 1 _ rfl
    have k1 := X9.free 1
    have X10 := X9.set 1 (.string u)
    have R10 := R9.other 1 (.string u) hRE
    have S10 := S9.put hgE 1 (.string u)
    have G10 := grow_new G09 hwE 1 (.string u)
    have HX := hd X10
    have HR := hd R10
    have HS := hd S10
    have HG := hd G10
    clear X10 R10 S10 G10
    go_upto_region 11 with fail
    generalize w9.setCell ⟨w1.heap.size, 1, none⟩ (.string u) = W10 at HX HR HS HG ⊢
    have X10 := HX.out
    have R10 := HR.out
    have S10 := HS.out
    have G10 := HG.out
    have c0 := X10.cell 0 _ rfl
    have c1 := X10.cell 1 _ rfl
    have c2 := X10.cell 2 _ rfl
    have r0 := R10.cell 0 _ rfl
    have r1 := R10.cell 1 _ rfl
    have r2 := R10.cell 2 _ rfl
    have q0 := R10.free 0
    have q1 := R10.free 1
    have q2 := R10.free 2
    go_wp2_with fail
    have Z := ((R10.set 0 (.int .i64 (day + x))).set 1 (.string u)).set 2 (.int .i64 (y - 200))
    have SZ := ((S10.put hg 0 (.int .i64 (day + x))).put hg 1 (.string u)).put hg 2 (.int .i64 (y - 200))
    have GZ := grow_new (grow_new (grow_new G10 (Nat.le_refl _) 0 (.int .i64 (day + x))) (Nat.le_refl _) 1 (.string u)) (Nat.le_refl _) 2 (.int .i64 (y - 200))
    generalize (((W10.setCell ⟨w.heap.size, 0, none⟩ (.int .i64 (day + x))).setCell ⟨w.heap.size, 1, none⟩ (.string u)).setCell ⟨w.heap.size, 2, none⟩ (.int .i64 (y - 200))) = WZ at Z SZ GZ ⊢
    refine bodyPost_ret (v := .agg #[.int .i64 (day + x), .string u, .int .i64 (y - 200)]) ?_ rfl ?_
    · refine (results_one Tryd.results106 _ _ _).trans ?_
      exact load_entry WZ _ _ _ _ (Z.cell 0 _ rfl) (Z.cell 1 _ rfl) (Z.cell 2 _ rfl)
    · exact ⟨_, _, _, rfl, hu, SZ.le (by omega), GZ⟩
  have e1 : (z == 1) = false := by simpa using y1z
  clear y1z
  by_cases y2z : z = 2
  · have y2 := y2z
    clear y2z
    have e2 : (z == 2) = true := by simpa using y2
    clear y2
    have L8 := list_stays (W := w7) (g := g) S7.1 2 ([-1000001, -1000000, 1000000, 1000001, -9223372036854775808] : List Int) (by decide)
    have S8 := S7.more (.cells (([-1000001, -1000000, 1000000, 1000001, -9223372036854775808] : List Int).map (Value.int .i64)).toArray 2)
    have G8 := grow_alloc G07 (.cells (([-1000001, -1000000, 1000000, 1000001, -9223372036854775808] : List Int).map (Value.int .i64)).toArray 2)
    have R8 := R7.alloc (.cells (([-1000001, -1000000, 1000000, 1000001, -9223372036854775808] : List Int).map (Value.int .i64)).toArray 2)
    have X8 := X7.alloc (.cells (([-1000001, -1000000, 1000000, 1000001, -9223372036854775808] : List Int).map (Value.int .i64)).toArray 2)
    go_wp2_with fail
    refine (among_src w0 v l hS hl _ g (n + 8) S8 (by omega) _ ([-1000001, -1000000, 1000000, 1000001, -9223372036854775808] : List Int) L8 (by decide) (by decide)).mono ?_
    rintro e w9 ⟨u, hm, rfl, S9, G9⟩
    have R9 := R8.keep G9 (by simp; omega)
    have X9 := X8.keep G9 (by simp; omega)
    have G09 := grownBy_trans G8 G9
    have d2 := X9.cell 2 _ rfl
    have k2 := X9.free 2
    have X10 := X9.set 2 (.int .i64 u)
    have R10 := R9.other 2 (.int .i64 u) hRE
    have S10 := S9.put hgE 2 (.int .i64 u)
    have G10 := grow_new G09 hwE 2 (.int .i64 u)
    have HX := hd X10
    have HR := hd R10
    have HS := hd S10
    have HG := hd G10
    clear X10 R10 S10 G10
    go_upto_region 11 with fail
    generalize w9.setCell ⟨w1.heap.size, 2, none⟩ (.int .i64 u) = W10 at HX HR HS HG ⊢
    have X10 := HX.out
    have R10 := HR.out
    have S10 := HS.out
    have G10 := HG.out
    have c0 := X10.cell 0 _ rfl
    have c1 := X10.cell 1 _ rfl
    have c2 := X10.cell 2 _ rfl
    have r0 := R10.cell 0 _ rfl
    have r1 := R10.cell 1 _ rfl
    have r2 := R10.cell 2 _ rfl
    have q0 := R10.free 0
    have q1 := R10.free 1
    have q2 := R10.free 2
    go_wp2_with fail
    have Z := ((R10.set 0 (.int .i64 (day + x))).set 1 (.string t)).set 2 (.int .i64 u)
    have SZ := ((S10.put hg 0 (.int .i64 (day + x))).put hg 1 (.string t)).put hg 2 (.int .i64 u)
    have GZ := grow_new (grow_new (grow_new G10 (Nat.le_refl _) 0 (.int .i64 (day + x))) (Nat.le_refl _) 1 (.string t)) (Nat.le_refl _) 2 (.int .i64 u)
    generalize (((W10.setCell ⟨w.heap.size, 0, none⟩ (.int .i64 (day + x))).setCell ⟨w.heap.size, 1, none⟩ (.string t)).setCell ⟨w.heap.size, 2, none⟩ (.int .i64 u)) = WZ at Z SZ GZ ⊢
    refine bodyPost_ret (v := .agg #[.int .i64 (day + x), .string t, .int .i64 u]) ?_ rfl ?_
    · refine (results_one Tryd.results106 _ _ _).trans ?_
      exact load_entry WZ _ _ _ _ (Z.cell 0 _ rfl) (Z.cell 1 _ rfl) (Z.cell 2 _ rfl)
    · exact ⟨_, _, _, rfl, hts, SZ.le (by omega), GZ⟩
  have e2 : (z == 2) = false := by simpa using y2z
  clear y2z
  have c0 := X7.cell 0 _ rfl
  have c1 := X7.cell 1 _ rfl
  have c2 := X7.cell 2 _ rfl
  have r0 := R7.cell 0 _ rfl
  have r1 := R7.cell 1 _ rfl
  have r2 := R7.cell 2 _ rfl
  have q0 := R7.free 0
  have q1 := R7.free 1
  have q2 := R7.free 2
  go_wp2_with fail
  have Z := ((R7.set 0 (.int .i64 (day + x))).set 1 (.string t)).set 2 (.int .i64 (y - 200))
  have SZ := ((S7.put hg 0 (.int .i64 (day + x))).put hg 1 (.string t)).put hg 2 (.int .i64 (y - 200))
  have GZ := grow_new (grow_new (grow_new G07 (Nat.le_refl _) 0 (.int .i64 (day + x))) (Nat.le_refl _) 1 (.string t)) (Nat.le_refl _) 2 (.int .i64 (y - 200))
  generalize (((w7.setCell ⟨w.heap.size, 0, none⟩ (.int .i64 (day + x))).setCell ⟨w.heap.size, 1, none⟩ (.string t)).setCell ⟨w.heap.size, 2, none⟩ (.int .i64 (y - 200))) = WZ at Z SZ GZ ⊢
  refine bodyPost_ret (v := .agg #[.int .i64 (day + x), .string t, .int .i64 (y - 200)]) ?_ rfl ?_
  · refine (results_one Tryd.results106 _ _ _).trans ?_
    exact load_entry WZ _ _ _ _ (Z.cell 0 _ rfl) (Z.cell 1 _ rfl) (Z.cell 2 _ rfl)
  · exact ⟨_, _, _, rfl, hts, SZ.le (by omega), GZ⟩
theorem Own.src2 {α : Type} {W W' : World} {B g : Nat} {E : TypeId} {k : Nat} {v : Value} {enc : α → List Value} {L : List α} (h : Own W B E k v enc L) (hB : g < B) (hg : W.grownBy W' (some g)) : Own W' B E k v enc L :=
  h.grown hg (by
    rcases q : v.ownBlock with _ | b
    · exact .inl rfl
    · refine .inr ?_
      have := (h.lt b q).1
      intro e
      injection e with e
      omega)
theorem grow_below {w W W' : World} {row : Option Nat} (h : w.grownBy W row) (hb : Below w.heap.size W W') : w.grownBy W' row :=
  ⟨hb.os.trans h.os, hb.tape.trans h.tape, hb.output.trans h.output, Nat.le_trans h.size hb.size, fun k hk hne => (hb.block k hk).trans (h.block k hk hne)⟩
theorem Fine.day_bd {l : List TEntry} (h : Fine l) : 0 ≤ dayOf l ∧ dayOf l ≤ 100000 := by
  unfold dayOf
  by_cases e : l.length = 0
  · rw [if_pos e]; omega
  · rw [if_neg e]
    have hk : l.length - 1 < l.length := by omega
    have e1 : l.getD (l.length - 1) noE = l[l.length - 1] := by simp [List.getD, hk]
    rw [e1]
    have := h.1 _ (List.getElem_mem hk)
    exact (okEntryB_bd (a := l[l.length - 1].1) (b := l[l.length - 1].2.1) (c := l[l.length - 1].2.2) this).1
theorem dayOf_snoc (l : List TEntry) (x : TEntry) : dayOf (l ++ [x]) = x.1 := by
  unfold dayOf
  rw [if_neg (by simp)]
  simp
set_option maxRecDepth 100000 in
set_option maxHeartbeats 8000000 in
theorem draw_entries (w0 : World) (v : Value) (l : List UInt8) (hS : Sl w0 1 v eU l) (hl : l.length ≤ 1048576) (w : World) (g n : Nat) (h : Src w0 v g n w) (hn : n ≤ 700000000) :
    Calls Tryd.prog 55 #[.pointer (some ⟨g, 0, none⟩), .int .i64 7] w fun e w' => ∃ (u : Value) (L : List TEntry), e = .returned u ∧ Own w' w.heap.size 38 3 u eEntry L ∧ Fine L ∧ L.length ≤ 7 ∧ Src w0 v g (n + 1000) w' ∧ w.grownBy w' (some g) := by
  have hg : g < w.heap.size := h.1
  obtain ⟨i0, hi, hz0, hz1, hz2⟩ := info_parts info_Entry
  have O := Own.made0 w w.heap.size 38 3 eEntry (Nat.le_refl _)
  have S := h.more (.cells #[] 38)
  have G := grow_alloc (World.grownBy.refl w (some g)) (.cells #[] 38)
  go_enter Tryd.func55, Tryd.ntmps55
  go_wp2_with fail
  refine (pick_src w0 v l hS hl _ g n S (by omega) 8 (by omega)).mono ?_
  rintro e w1 ⟨k0, ⟨k1, k2⟩, rfl, S1, G1⟩
  replace O := O.src2 hg G1
  replace G := grownBy_trans G G1
  clear S G1
  go_wp2_with fail
  go_loopw [5, 6, 7] (fun ov dv kv wr => ∃ (k : Int) (L : List TEntry), kv = .int .i64 k ∧ 0 ≤ k ∧ (L.length : Int) + k ≤ 7 ∧ dv = .int .i64 (dayOf L) ∧ Fine L ∧ Own wr w.heap.size 38 3 ov eEntry L ∧ Src w0 v g (n + 2 + 20 * (7 - k.toNat)) wr ∧ w.grownBy wr (some g)) (fun _ _ kv _ => (intOf kv).toNat)
  case atStart => exact ⟨k0, [], rfl, by omega, by simp; omega, rfl, fine_nil, O, S1.le (by omega), G⟩
  case round =>
    obtain ⟨k, L, rfl, hk0, hkl, rfl, HF, O2, S2, G2⟩ := hrel
    obtain ⟨ov, hov⟩ : ∃ ov, ov = u5 := ⟨_, rfl⟩
    subst hov
    clear O S1 G
    replace HF := hd HF
    obtain ⟨b1, b2⟩ := HF.out.day_bd
    have HD := hd (show ∀ x, okEntryB x = true → dayOf L ≤ x.1 → Fine (L ++ [x]) from fun x h1 h2 => HF.out.snoc h1 h2)
    have hL7 : L.length ≤ 7 := by omega
    have hD2 := dayOf_snoc L
    obtain ⟨day, hday⟩ : ∃ d, dayOf L = d := ⟨_, rfl⟩
    have HDAY := hd hday
    rw [hday] at b1 b2 HD ⊢
    clear hday
    replace hD2 := hd hD2
    by_cases hlt : 0 < k
    · go_wp2_with fail
      refine (draw_entry w0 v l hS hl _ g _ S2 (by omega) day b1 b2).mono ?_
      rintro e w6 ⟨a, b, c, rfl, hb, S3, G3⟩
      have O3 := O2.src2 hg G3
      have G4 := grownBy_trans G2 G3
      have hgs := S3.1
      have hws := G4.size
      obtain ⟨t0, t1, t2, -, hzz, hbb⟩ := new3 w6 (.int .i64 a) (.string b) (.int .i64 c) 38
      have HOK := hd (okE_spec (w6.alloc (.cells #[.int .i64 a, .string b, .int .i64 c] 38)) w6.heap.size 0 a b c t0 t1 t2)
      have S5 := S3.below hbb
      have O5 := O3.below hbb (Nat.le_refl _)
      have G5 := grow_alloc G4 (.cells #[.int .i64 a, .string b, .int .i64 c] 38)
      have hob : ∀ q, some q = ov.ownBlock → q < w6.heap.size := fun q hq => (O3.lt q hq.symm).2
      clear S2 O2 G2 S3 G3 O3 G4 hbb
      rcases q1 : okEntryB (a, b, c) with _ | _
      · go_wp2_with fail
        refine HOK.out.mono ?_
        rintro e w7 ⟨rfl, hw⟩
        have hw := hw.symm
        subst hw
        rw [q1]
        go_wp2_with fail
        go_roundw
        case rel => exact ⟨k - 1, L, by go_num, by omega, by omega, by rw [HDAY.out], HF.out, O5, S5.le (by omega), G5⟩
        case measure => simp [intOf]; omega
      go_wp2_with fail
      generalize w6.alloc (.cells #[.int .i64 a, .string b, .int .i64 c] 38) = WE at hzz HOK O5 S5 G5 t0 t1 t2 ⊢
      refine HOK.out.mono ?_
      rintro e w7 ⟨rfl, hw⟩
      have hw := hw.symm
      subst hw
      rw [q1]
      by_cases hda : day ≤ a
      · have HF2 := hd (HD.out (a, b, c) q1 hda)
        obtain ⟨⟨a1, a2⟩, -, -⟩ := okEntryB_bd q1
        clear q1
        have hL62 : L.length ≤ 6 := by omega
        go_wp2_with (at_builtin; refine wpList_push2 _ rfl _ _ 24 rfl i0 (.agg #[.int .i64 0, .string ByteArray.empty, .int .i64 0]) 32 Tryd.underlying24 hi hz0 hz1 hz2 rfl (by decide) _ _ ((a, b, c) : TEntry) rfl (O5.alloc _) (w6.heap.size + 1) rfl #[.int .i64 a, .string b, .int .i64 c] 38 (by rw [← hzz]; exact heap_alloc_new _ _) rfl rfl (by intro u hu; simp [eEntry] at hu; rcases hu with rfl | rfl | rfl <;> rfl) (by unfold maxLen; omega) (by omega) (by simp; omega) ?_)
        intro v' w8 O8 hg8 ho8
        have E8 := ((Below.refl w.heap.size WE).alloc (by omega) (.cells #[.int .i64 a, .string b, .int .i64 c] 38)).grown hg8 (by simp; omega) (fun b hb => (O5.lt b hb).1)
        have S8 := S5.below2 hg E8
        have G8 := grow_below G5 E8
        have t08 : w8.cell? ⟨w6.heap.size, 0, none⟩ = some (.int .i64 a) :=
          (World.cell?_of_block (a := ⟨w6.heap.size, 0, none⟩) (hg8.block w6.heap.size (by simp; omega) (fun e => by have := hob _ e; omega))).trans
            ((((Below.refl WE.heap.size WE).alloc (Nat.le_refl _) _).cell (p := ⟨w6.heap.size, 0, none⟩) (by show w6.heap.size < _; omega)).trans t0)
        clear hg8 E8 ho8 O5 S5 G5 t0 t1 t2 hob
        go_wp2_with fail
        go_roundw
        case rel => exact ⟨k - 1, L ++ [(a, b, c)], by go_num, by omega, by simp; omega, by rw [hD2.out], HF2.out, O8, S8.le (by omega), G8⟩
        case measure => simp [intOf]; omega
      · go_wp2_with fail
        go_roundw
        case rel => exact ⟨k - 1, L, by go_num, by omega, by omega, by rw [HDAY.out], HF.out, O5, S5.le (by omega), G5⟩
        case measure => simp [intOf]; omega
    · obtain rfl : k = 0 := by omega
      obtain ⟨A, cc, rfl⟩ := O2.isSlice
      go_wp2_with fail
      go_ret
      first | exact ⟨_, L, rfl, O2, HF.out, hL7, S2.le (by omega), G2⟩ | exact ⟨_, rfl, L, O2, HF.out, hL7, S2.le (by omega), G2⟩
set_option maxRecDepth 100000 in
theorem draw_log (w : World) (v : Value) (l : List UInt8) (hS : Sl w 1 v eU l) (hl : l.length ≤ 1048576) :
    Calls Tryd.prog 8 #[v] w fun e w' => ∃ (u : Value) (L : List TEntry), e = .returned u ∧ Own w' w.heap.size 38 3 u eEntry L ∧ Fine L ∧ L.length ≤ 7 ∧ Below w.heap.size w w' := by
  have hv : ∃ A n c, v = .slice A n c := by obtain ⟨A, c, h⟩ := hS.isSlice; exact ⟨A, _, c, h⟩
  go_enter Tryd.func8, Tryd.ntmps8
  go_wp2_with fail
  refine (from_src w v hv).mono ?_
  rintro e w1 ⟨rfl, S, K, hz⟩
  go_wp2_with fail
  refine (draw_entries w v l hS hl w1 _ 0 S (by omega)).mono ?_
  rintro e w2 ⟨u, L, rfl, O, HF, hL, -, G⟩
  replace K := K.grown G K.size (fun k hk => by injection hk with hk; omega)
  obtain ⟨A, cc, rfl⟩ := O.isSlice
  go_wp2_with fail
  go_ret
  first | exact ⟨_, L, rfl, O.base (by omega), HF, hL, K⟩ | exact ⟨_, rfl, L, O.base (by omega), HF, hL, K⟩
end Go.Proofs.YtiofpmmbgohnhaaDoor
