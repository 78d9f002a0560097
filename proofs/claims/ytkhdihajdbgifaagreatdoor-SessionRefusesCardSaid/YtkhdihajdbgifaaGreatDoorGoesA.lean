/-
  No goroutine is started: closed facts.
-/
import Derived.Test.YtkhdihajdbgifaaGreatDoorHolds
import Derived.SevenTiedAt
namespace Go.Proofs.YtkhdihajdbgifaaGreatDoor
open Go
theorem goes_all : Tryz.prog.funcs.any Func.goes = false := by kernel_rfl
theorem goes_way : (way.any fun g => (Tryz.prog.funcs[g]?).any Func.goes) = false := by kernel_rfl
end Go.Proofs.YtkhdihajdbgifaaGreatDoor
