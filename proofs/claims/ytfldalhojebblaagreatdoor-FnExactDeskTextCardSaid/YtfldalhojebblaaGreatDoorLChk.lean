/- CheckLog and RecoverLog: the reference's functions and the program's. No condition but that the library's table, its two errors and its search variable lie as they are laid. -/
import Derived.Test.YtfldalhojebblaaGreatDoorLReadS
namespace Go.Proofs.YtfldalhojebblaaGreatDoor
open Go Go.RowKit Go.ChangeShapes Go.WideShapes
set_option linter.unusedSimpArgs false
set_option linter.unusedVariables false
def checkL (s : ByteArray) : Int × Int := if s.size ≤ 4000 then (((readL s).at_ : Int), 0) else (0, 5)
def recL (s : ByteArray) : ByteArray × Int × Int := if s.size ≤ 4000 then (s.extract 0 (readL s).at_, (s.size : Int) - ((readL s).at_ : Int), 0) else (⟨#[]⟩, 0, 5)
theorem readL_at (s : ByteArray) : (readL s).at_ ≤ s.size := (onWay_readL s).2.1
theorem readL_st (s : ByteArray) : 0 ≤ (readL s).st ∧ (readL s).st ≤ 65518 := (onWay_readL s).2.2.2.1
theorem readL_len (s : ByteArray) : (readL s).l.length ≤ s.size := Nat.le_trans (onWay_readL s).2.2.1 (readL_at s)
theorem readL_ok (s : ByteArray) : ∀ x ∈ (readL s).l, okEntryB x = true := (onWay_readL s).2.2.2.2
theorem field_at (A : Option Addr) (n c : Nat) (x y : Int) (w : World) : (Instr.field 68 (.agg #[.slice A n c, .int .i64 x, .int .i64 y]) 2).run Tryz.prog w = .ok (.int .i64 y) w := by kernel_rfl
end Go.Proofs.YtfldalhojebblaaGreatDoor
