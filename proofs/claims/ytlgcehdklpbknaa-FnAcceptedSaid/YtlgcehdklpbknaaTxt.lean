/- The reference's choice among texts. No condition but that the source reads its bytes. -/
import Derived.Test.YtlgcehdklpbknaaIncD
import Derived.Test.YtlgcehdklpbknaaStrs
namespace Go.Proofs.Ytlgcehdklpbknaa
open Go Go.RowKit Go.ChangeShapes Go.WideShapes
set_option linter.unusedSimpArgs false
set_option linter.unusedVariables false
theorem own_texts (W : World) (B : Nat) (hB : B ≤ W.heap.size) (E : TypeId) (L : List ByteArray) (h0 : L.length ≤ 9223372036854775807) : Own (W.alloc (.cells (L.map Value.string).toArray E)) B E 1 (.slice (some ⟨W.heap.size, 0, none⟩) L.length L.length) eS L := by
  have hf : L.flatMap eS = L.map Value.string := by
    clear h0
    induction L with
    | nil => rfl
    | cons x r ih => rw [List.flatMap_cons, ih]; rfl
  refine ⟨by rw [flatMap_len eS 1 eS_len], .inr ⟨W.heap.size, L.length, (L.map Value.string).toArray, rfl, hB, heap_alloc_new W _, Nat.le_refl _, h0, ?_, ?_⟩⟩
  · simp
  · rw [hf]
    simp
    exact List.take_of_length_le (by simp)
/-- the texts of a choice, made before the choice -/
theorem texts_stay {W : World} {g : Nat} (hg : g < W.heap.size) (E : TypeId) (L : List ByteArray) (h0 : L.length ≤ 9223372036854775807) : ∀ W', (W.alloc (.cells (L.map Value.string).toArray E)).grownBy W' (some g) → Sl W' 1 (.slice (some ⟨W.heap.size, 0, none⟩) L.length L.length) eS L := fun W' hgr =>
  (((own_texts W (g + 1) (by omega) E L h0).src hgr).sl eS_len)
set_option maxRecDepth 100000 in
set_option maxHeartbeats 2000000 in
theorem text_src (w0 : World) (v : Value) (l : List UInt8) (hS : Sl w0 1 v eU l) (hl : l.length ≤ 1048576) (w : World) (g n : Nat) (h : Src w0 v g n w) (hn : n ≤ 900000000) (u : Value) (L : List ByteArray) (hL : ∀ W, w.grownBy W (some g) → Sl W 1 u eS L) (h0 : 0 < L.length) (h1 : L.length ≤ 1000) :
    Calls Try.prog 157 #[.pointer (some ⟨g, 0, none⟩), u] w fun e w' => ∃ x : ByteArray, x ∈ L ∧ e = .returned (.string x) ∧ Src w0 v g (n + 2) w' ∧ w.grownBy w' (some g) := by
  obtain ⟨A, cc, rfl⟩ := (hL w (World.grownBy.refl _ _)).isSlice
  go_enter Try.func157, Try.ntmps157
  go_wp2_with fail
  refine (pick_src w0 v l hS hl _ g n h hn (L.length : Int) (by omega)).mono ?_
  rintro e w1 ⟨x, ⟨x1, x2⟩, rfl, S1, G1⟩
  obtain ⟨k, rfl⟩ : ∃ k : Nat, x = (k : Int) := ⟨x.toNat, by omega⟩
  have hk : k < L.length := by omega
  obtain ⟨b, o, hA, hb, hc⟩ := (hL w1 G1).str_at hk
  subst hA
  have hm := List.getElem_mem hk
  generalize L[k] = y at hc hm
  go_wp2_with fail
  go_ret
  exact ⟨y, hm, rfl, S1, G1⟩
end Go.Proofs.Ytlgcehdklpbknaa
