/- Lemmas for the claim (the walks of its functions and their plain laws), joined. No condition. -/
import Derived.Test.YtgcodjkjdfahdaaGreatDoorJ1
import Derived.ProofKit
import Derived.OpenShut
import Derived.ShutString
import Derived.ChangeOld
import Derived.Deep.Slices
import Derived.Deep.Fields
namespace Go.Proofs.YtgcodjkjdfahdaaGreatDoor
open Go Go.RowKit Go.ChangeShapes Go.WideShapes Go.ChangeAt Go.Deep
set_option linter.unusedSimpArgs false
set_option linter.unusedVariables false
section
variable {H : Type} {enc : TypeId × Value → H} {P : Program} {w : World} {base : Nat} {spare : Nat → Bool} {held : Bool}
theorem sl_of_trod {α : Type} {ec : α → List Value} {K : Nat} {good : α → Prop} {t e : TypeId} {fuel : Nat} {v : Value} {x : DataW H × List MemPlace} (ht : P.underlying t = some (.slice e)) (hK : P.cellsOf e = K) (hK0 : 0 < K)
    (helem : ∀ (n : Nat) (cs : List Value) (y : DataW H × List MemPlace), DataW.trod enc P w base spare held n e cs = some y → ∃ x : α, cs = ec x ∧ good x)
    (h : DataW.trod enc P w base spare held fuel t [v] = some x) : ∃ l : List α, Sl w K v ec l ∧ ∀ x ∈ l, good x := by
  rcases Go.Deep.open_slice ht h with ⟨hcs, _⟩ | ⟨a, len, cap, m, n, D, Pl, hcs, hb, hl, hm, hmm, hx, hi⟩
  · simp at hcs
    subst hcs
    exact ⟨[], Sl.nil _ _ _, by simp⟩
  · simp at hcs
    subst hcs
    have hlm : len ≤ m := by rw [hmm]; split <;> omega
    have hex : ∀ i : Fin len, ∃ x : α, good x ∧ (ec x).length = K ∧ ∀ j, j < K → w.cell? (a.add (i.1 * K + j)) = (ec x)[j]? := by
      intro i
      obtain ⟨cs', hc, ht'⟩ := hi i.1 (by omega)
      obtain ⟨_, hcl, hat⟩ := World.cells?_some hc
      obtain ⟨x, rfl, hg⟩ := helem _ _ _ ht'
      refine ⟨x, hg, by rw [hcl, hK], fun j hj => ?_⟩
      have := hat j (by omega)
      rw [Go.Deep.add_add, hK] at this
      exact this
    let f : Fin len → α := fun i => Classical.choose (hex i)
    have hf : ∀ i : Fin len, good (f i) ∧ (ec (f i)).length = K ∧ ∀ j, j < K → w.cell? (a.add (i.1 * K + j)) = (ec (f i))[j]? := fun i => Classical.choose_spec (hex i)
    unfold maxLen at hm
    refine ⟨List.ofFn f, ⟨by simp; omega, some a, cap, by simp, by simp; omega, by omega, ?_⟩, ?_⟩
    · intro i x hx
      have hil : i < len := by have := (List.getElem?_eq_some_iff.1 hx).1; simpa using this
      have hxi : x = f ⟨i, hil⟩ := by simp [hil] at hx; exact hx.symm
      subst hxi
      obtain ⟨_, hlen, hc⟩ := hf ⟨i, hil⟩
      have h0 := hc 0 hK0
      rw [List.getElem?_eq_getElem (by omega)] at h0
      have hbl := World.block_lt_of_cell? w _ h0
      have hblk : (a.add (i * K + 0)).block = a.block := by unfold Addr.add; split <;> rfl
      obtain ⟨b, o, s⟩ := a
      refine ⟨b, o, ?_, by rw [hblk] at hbl; exact hbl, ?_⟩
      · by_cases hz : i * K + 0 = 0
        · have := World.cell?_spot h0
          simp only [hz, Addr.add, if_true] at this
          rw [this]
        · -- the first cell of all tells the spot
          obtain ⟨_, hlen0, hc0⟩ := hf ⟨0, by omega⟩
          have h00 := hc0 0 hK0
          rw [List.getElem?_eq_getElem (by omega)] at h00
          have := World.cell?_spot h00
          simp [Addr.add] at this
          rw [this]
      · intro j u hu
        have hj : j < K := by have := (List.getElem?_eq_some_iff.1 hu).1; omega
        have h1 := hc j hj
        rw [hu] at h1
        obtain ⟨_, hlen0, hc0⟩ := hf ⟨0, by omega⟩
        have h00 := hc0 0 hK0
        rw [List.getElem?_eq_getElem (by omega)] at h00
        have hs := World.cell?_spot h00
        simp [Addr.add] at hs
        subst hs
        rw [Addr.add_lit] at h1
        rw [Nat.add_assoc]
        exact h1
    · intro x hx
      rw [List.mem_ofFn] at hx
      obtain ⟨i, rfl⟩ := hx
      exact (hf i).1
theorem i64_range {n : Int} (h : (Lit.int .i64 n).wf = true) : -9223372036854775808 ≤ n ∧ n ≤ 9223372036854775807 := by
  simp [Lit.wf, IntKind.min, IntKind.max, IntKind.signed, IntKind.bits] at h
  omega
theorem struct_cells {t : TypeId} {fs : Array Field} {fuel : Nat} {cs : List Value} {x : DataW H × List MemPlace} (he : P.underlying t = some (.struct fs)) (hone : oneCellFields P fs = true) (hC : P.cellsOf t = fs.size)
    (h : DataW.trod enc P w base spare held fuel t cs = some x) :
    cs.length = fs.size ∧ ∀ (j : Nat) (f : Field), fs[j]? = some f → ∃ (v : Value) (n : Nat) (y : DataW H × List MemPlace), cs[j]? = some v ∧ DataW.trod enc P w base spare held n f.type [v] = some y := by
  obtain ⟨ys, n', hn', hy, hlen, hyl, hf⟩ := DataW.trod_struct he h
  refine ⟨by rw [hlen, hC], fun j f hj => ?_⟩
  obtain ⟨ho, hk⟩ := Go.Deep.hone_of hone j f hj
  have hjl : j < fs.size := (Array.getElem?_eq_some_iff.1 hj).1
  have h1 := hf j f hj
  rw [ho, hk] at h1
  have hone' : (cs.drop j).take 1 = [cs[j]'(by omega)] := by
    rw [List.drop_eq_getElem_cons (by omega)]
    rfl
  rw [hone'] at h1
  have hys : ys[j]? = some (ys[j]'(by omega)) := List.getElem?_eq_getElem (by omega)
  exact ⟨_, _, _, List.getElem?_eq_getElem (by omega), h1.trans hys⟩
end
end Go.Proofs.YtgcodjkjdfahdaaGreatDoor
