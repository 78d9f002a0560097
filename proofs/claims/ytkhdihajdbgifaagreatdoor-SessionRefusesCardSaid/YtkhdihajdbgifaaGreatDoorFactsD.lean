/-
  Closed facts of the row.
-/
import Derived.Test.YtkhdihajdbgifaaGreatDoorWay
import Derived.Test.YtkhdihajdbgifaaGreatDoorRows
import Derived.JoinedOf
namespace Go.Proofs.YtkhdihajdbgifaaGreatDoor
open Go
set_option maxRecDepth 100000 in
theorem unf3 : Tryz.prog.unfollowed 3 = true := by
  unfold Program.unfollowed
  rw [closure3]
  kernel_rfl
theorem jf10 : (Rows.sessionRefusesRow.unfollowed == Tryz.prog.unfollowed 3) = true := by
  rw [unf3]
  kernel_rfl
theorem jf11 : (Rows.sessionRefusesRow.recurses == Tryz.prog.recurses 3) = true := by
  unfold Program.recurses
  rw [unf3]
  kernel_rfl
end Go.Proofs.YtkhdihajdbgifaaGreatDoor
namespace Go.Proofs.YtkhdihajdbgifaaGreatDoor
open Go
set_option maxRecDepth 100000 in
theorem jf12 : (Rows.sessionRefusesRow.named == Tryz.prog.varsNamed 3) = true := by
  unfold Program.varsNamed
  rw [closure3]
  kernel_rfl
end Go.Proofs.YtkhdihajdbgifaaGreatDoor
