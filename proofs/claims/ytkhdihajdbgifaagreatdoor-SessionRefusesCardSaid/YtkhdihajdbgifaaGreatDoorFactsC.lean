/-
  Closed facts of the row.
-/
import Derived.Test.YtkhdihajdbgifaaGreatDoorWay
import Derived.Test.YtkhdihajdbgifaaGreatDoorRows
import Derived.JoinedOf
namespace Go.Proofs.YtkhdihajdbgifaaGreatDoor
open Go
set_option maxRecDepth 100000 in
theorem jf9 : (Rows.sessionRefusesRow.inPlace == Tryz.prog.inPlace 3) = true := by
  unfold Program.inPlace
  rw [closure3]
  kernel_rfl
end Go.Proofs.YtkhdihajdbgifaaGreatDoor
