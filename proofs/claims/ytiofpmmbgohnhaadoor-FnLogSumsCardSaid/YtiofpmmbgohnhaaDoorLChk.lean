/- CheckLog and RecoverLog: the reference's functions and the program's. No condition but that the library's table, its two errors and its search variable lie as they are laid. -/
import Derived.Test.YtiofpmmbgohnhaaDoorLReadS
namespace Go.Proofs.YtiofpmmbgohnhaaDoor
open Go Go.RowKit Go.ChangeShapes Go.WideShapes
set_option linter.unusedSimpArgs false
set_option linter.unusedVariables false
def checkL (s : ByteArray) : Int × Int := if s.size ≤ 4000 then (((readL s).at_ : Int), 0) else (0, 5)
def recL (s : ByteArray) : ByteArray × Int × Int := if s.size ≤ 4000 then (s.extract 0 (readL s).at_, (s.size : Int) - ((readL s).at_ : Int), 0) else (⟨#[]⟩, 0, 5)
theorem readL_at (s : ByteArray) : (readL s).at_ ≤ s.size := (onWay_readL s).2.1
theorem readL_st (s : ByteArray) : 0 ≤ (readL s).st ∧ (readL s).st ≤ 65518 := (onWay_readL s).2.2.2.1
theorem readL_len (s : ByteArray) : (readL s).l.length ≤ s.size := Nat.le_trans (onWay_readL s).2.2.1 (readL_at s)
theorem readL_ok (s : ByteArray) : ∀ x ∈ (readL s).l, okEntryB x = true := (onWay_readL s).2.2.2.2
theorem field_at (A : Option Addr) (n c : Nat) (x y : Int) (w : World) : (Instr.field 87 (.agg #[.slice A n c, .int .i64 x, .int .i64 y]) 2).run Tryd.prog w = .ok (.int .i64 y) w := by kernel_rfl
set_option maxRecDepth 100000 in
theorem check_impl (w : World) (s : ByteArray) (hs : s.size ≤ 1048576) (hsh : Shop w) :
    Calls Tryd.prog 19 #[.string s] w fun e w' => e = .returned (.tuple #[.int .i64 (checkL s).1, .int .i64 (checkL s).2]) ∧ Below w.heap.size w w' := by
  have HSH := hd hsh
  clear hsh
  by_cases hz : s.size ≤ 4000
  case neg =>
    have HR := hd (show checkL s = (0, 5) by unfold checkL; rw [if_neg hz])
    have hz' : 4000 < s.size := by omega
    go_enter Tryd.func19, Tryd.ntmps19
    go_wp2_with fail
    go_ret2
    exact ⟨by rw [HR.out]; rfl, Below.refl _ _⟩
  have HR := hd (show checkL s = (((readL s).at_ : Int), 0) by unfold checkL; rw [if_pos hz])
  have hat := readL_at s
  go_enter Tryd.func19, Tryd.ntmps19
  go_wp2_with fail
  refine (readLog_impl _ _ hs HSH.out).mono ?_
  rintro e w1 ⟨v, rfl, O, B⟩
  obtain ⟨A, cc, rfl⟩ := O.isSlice
  have hfd : ∀ w : World, (Instr.field 87 (.agg #[.slice A (readL s).l.length cc, .int .i64 (readL s).st, .int .i64 ((readL s).at_ : Int)]) 2).run Tryd.prog w = .ok (.int .i64 ((readL s).at_ : Int)) w := fun w => field_at _ _ _ _ _ w
  go_wp2_with fail
  go_ret2
  exact ⟨by rw [HR.out]; rfl, B⟩
set_option maxRecDepth 100000 in
theorem recover_impl (w : World) (s : ByteArray) (hs : s.size ≤ 1048576) (hsh : Shop w) :
    Calls Tryd.prog 18 #[.string s] w fun e w' => e = .returned (.tuple #[.string (recL s).1, .int .i64 (recL s).2.1, .int .i64 (recL s).2.2]) ∧ Below w.heap.size w w' := by
  have HSH := hd hsh
  clear hsh
  by_cases hz : s.size ≤ 4000
  case neg =>
    have HR := hd (show recL s = (⟨#[]⟩, 0, 5) by unfold recL; rw [if_neg hz])
    have hz' : 4000 < s.size := by omega
    go_enter Tryd.func18, Tryd.ntmps18
    go_wp2_with fail
    go_ret3
    exact ⟨by rw [HR.out]; rfl, Below.refl _ _⟩
  have HR := hd (show recL s = (s.extract 0 (readL s).at_, (s.size : Int) - ((readL s).at_ : Int), 0) by unfold recL; rw [if_pos hz])
  have hat := readL_at s
  go_enter Tryd.func18, Tryd.ntmps18
  go_wp2_with fail
  refine (readLog_impl _ _ hs HSH.out).mono ?_
  rintro e w1 ⟨v, rfl, O, B⟩
  obtain ⟨A, cc, rfl⟩ := O.isSlice
  have hfd : ∀ w : World, (Instr.field 87 (.agg #[.slice A (readL s).l.length cc, .int .i64 (readL s).st, .int .i64 ((readL s).at_ : Int)]) 2).run Tryd.prog w = .ok (.int .i64 ((readL s).at_ : Int)) w := fun w => field_at _ _ _ _ _ w
  go_wp2_with fail
  go_ret3
  exact ⟨by rw [HR.out]; rfl, B⟩
end Go.Proofs.YtiofpmmbgohnhaaDoor
