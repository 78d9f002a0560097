/-
  Closed facts of the row.
-/
import Derived.Test.YtkhdihajdbgifaaGreatDoorRows
import Derived.JoinedOf
namespace Go.Proofs.YtkhdihajdbgifaaGreatDoor
open Go
set_option maxRecDepth 100000 in
theorem jf22 : ((Rows.sessionRefusesRow.plainKeys == Tryz.prog.plainKeys)) = true := by kernel_rfl
end Go.Proofs.YtkhdihajdbgifaaGreatDoor
namespace Go.Proofs.YtkhdihajdbgifaaGreatDoor
open Go
set_option maxRecDepth 100000 in
theorem jf24 : (Tryz.prog.stopsHeard) = true := by kernel_rfl
set_option maxRecDepth 100000 in
theorem jf25 : (Tryz.prog.mayEnter) = true := by kernel_rfl
end Go.Proofs.YtkhdihajdbgifaaGreatDoor
