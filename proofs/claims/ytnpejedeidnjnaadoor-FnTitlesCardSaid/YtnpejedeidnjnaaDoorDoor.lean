/- What a Door seat's row hands over beside its arguments: the library's table, its two errors, the variable of the search; and the builder that hands over the world's shape with what is laid. No condition. -/
import Derived.Test.YtnpejedeidnjnaaDoorRead
import Derived.Handed
import Derived.Stop.LaidErr
namespace Go.Proofs.YtnpejedeidnjnaaDoor
open Go Go.RowKit Go.ChangeShapes Go.WideShapes
set_option linter.unusedSimpArgs false
set_option linter.unusedVariables false
/-- the search's variable holds some number -/
def MaxL (w : World) : Prop := ∃ m, w.cell? ⟨0, 0, none⟩ = some (.int .i64 m)
theorem MaxL.below {w w' : World} (h : MaxL w) (hb : Below w.heap.size w w') : MaxL w' := by
  obtain ⟨m, h1⟩ := h
  exact ⟨m, (hb.cell (Lib.lt_of_cell h1)).trans h1⟩
theorem maxL_of_shape {w : World} (h : w.ShapedOpen Tryd.prog) : MaxL w := by first | exact Tryd.laysM145.s1_3 w h | exact Tryd.laysM146.s1_3 w h | exact Tryd.laysM143.s1_3 w h
theorem star : "*" ++ "errors.errorString" = "*errors.errorString" := by decide
theorem err_row (u : TypeId) (h : Tryd.prog.typeName? 3 u = some "*errors.errorString") : u = 127 :=
  typeName_ptr_named (nm := "errors.errorString") (by rw [star]; kernel_rfl) (by kernel_rfl) (by decide) u (by rw [star]; exact h)
set_option maxRecDepth 100000 in
theorem syntax_of_laid {W : World} {text : List UInt8} {r : List (String × DataW Unit)} (h : laidMet Tryd.prog (("strconv.ErrSyntax", .iface "*errors.errorString" (.ptr (.agg [.lit (.string text)]))) :: r) W) : ∃ te pe, W.cell? ⟨1, 0, none⟩ = some (.iface te pe) := by
  obtain ⟨a, s, hv, -⟩ := laid_sentinel h (g := 1) (ti := 75) (te := 129) (ts := 9) (by kernel_rfl) (by kernel_rfl) Tryd.underlying75 err_row Tryd.underlying127 Tryd.underlying129 rfl rfl Tryd.underlying9 (by kernel_rfl) (by kernel_rfl)
  exact ⟨_, _, by simpa using World.var?_cell (g := 1) (by kernel_rfl) hv 0⟩
set_option maxRecDepth 100000 in
theorem range_of_laid {W : World} {text : List UInt8} {r : List (String × DataW Unit)} (h : laidMet Tryd.prog (("strconv.ErrRange", .iface "*errors.errorString" (.ptr (.agg [.lit (.string text)]))) :: r) W) : ∃ te pe, W.cell? ⟨2, 0, none⟩ = some (.iface te pe) := by
  obtain ⟨a, s, hv, -⟩ := laid_sentinel h (g := 2) (ti := 75) (te := 129) (ts := 9) (by kernel_rfl) (by kernel_rfl) Tryd.underlying75 err_row Tryd.underlying127 Tryd.underlying129 rfl rfl Tryd.underlying9 (by kernel_rfl) (by kernel_rfl)
  exact ⟨_, _, by simpa using World.var?_cell (g := 2) (by kernel_rfl) hv 0⟩
/-- all of it -/
def Shop (w : World) : Prop := Tab w ∧ Errs w ∧ MaxL w
theorem Shop.below {w w' : World} (h : Shop w) (hb : Below w.heap.size w w') : Shop w' := ⟨h.1.below hb, h.2.1.below hb, h.2.2.below hb⟩
/-- a row's contract may use the shape of the world beside what is laid -/
theorem handed_shop {H : Type} {enc : TypeId × Value → H} {a : Assume} {C : Checked} {os : Os} {f : FuncId} {fn : Func} {s : ChangeSpec} {conds : List PathCond} {apart fresh handsOn again : Bool} {X : World → Array Value → Prop}
    (hX : ∀ (w w' : World) (args : Array Value), w.heap = w'.heap → X w args → X w' args)
    (own : ownKnob C.prog.godebug = none) (started : os.Started) (noInit : C.prog.inits.idxOf? f = none) (hfn : C.prog.funcs[f]? = some fn)
    (witness : ∃ (w : World) (tape : Tape) (i : Input), w.os = os ∧ (w.forCall tape i).Shaped C.prog ∧ i.vars = [] ∧ Input.okWide C.prog (w.forCall tape i) .any w.heap.size f i ∧
      ((s.pre enc C.prog fn conds apart (w.forCall tape i).memory i.args ∧ X (w.forCall tape i).memory i.args) ∧ sizedMet enc C.prog fn (OpenSpec.ofChange s) apart (w.forCall tape i).memory i.args) ∧ a.holds C.prog (lone (Frame.enter C.prog f i.args .normal) [] (w.forCall tape i)))
    (law : ∀ (W : World) (base : Nat) (args : Array Value) (ds gs : List (DataW H)) (before : List MemPlace),
      (∀ (j : Nat) t v, fn.params[j]? = some t → args[j]? = some v → Value.okWide C.prog W .any base t v) →
      DataW.Whole enc C.prog fn.params.toList s.vars apart W args.toList ds gs before → X W args → W.ShapedOpen C.prog →
      Calls C.prog f args W fun e W' => ∃ v, e = .returned v ∧ s.post enc C.prog fn apart fresh handsOn again W args v W') :
    ReturnsInHanded a C os f .any (fun w args => (s.pre enc C.prog fn conds apart w args ∧ X w args) ∧ sizedMet enc C.prog fn (OpenSpec.ofChange s) apart w args) (s.post enc C.prog fn apart fresh handsOn again) := by
  refine returnsInHanded_of_calls own started noInit witness ?_
  intro w tape i _ hsh _ hok hpre _
  obtain ⟨-, -, -, fn', hfn', -, -, -, -, hval⟩ := hok
  obtain rfl : fn' = fn := Option.some.inj (hfn'.symm.trans hfn)
  obtain ⟨⟨⟨ds, gs, before, hw, -⟩, hx⟩, -⟩ := hpre
  refine (law (w.forCall tape i) w.heap.size i.args ds gs before hval (DataW.Whole.of_heap (w' := w.forCall tape i) (by rfl) hw) (hX _ _ _ (by rfl) hx) hsh).mono fun e W' he => ?_
  obtain ⟨v, rfl, hp⟩ := he
  exact ChangeSpec.post_blind hp
end Go.Proofs.YtnpejedeidnjnaaDoor
