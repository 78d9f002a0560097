/-
  No goroutine is started; closed facts of the card.
-/
import Derived.Test.YtkhdihajdbgifaaGreatDoorGoesA
import Derived.Test.YtkhdihajdbgifaaGreatDoorRows
import Derived.SevenTiedAt
namespace Go.Proofs.YtkhdihajdbgifaaGreatDoor
open Go
theorem goes3 : Tryz.prog.goes 3 = false := by
  unfold Program.goes
  rewrite [closure3, goes_way, goes_all, Bool.and_false]
  exact Bool.or_false _
theorem from3 : Tryz.prog.goesFrom "wattle/wattlelaw30.SessionRefuses" = false := by
  unfold Program.goesFrom
  rewrite [named3, Option.any_some]
  exact goes3
theorem at3 : Tryz.prog.goesAt .entering "wattle/wattlelaw30.SessionRefuses" = false := by
  unfold Program.goesAt
  rewrite [from3]
  exact Bool.or_false _
theorem cw5 : false = Rows.sessionRefusesRow.goesBy Tryz.prog := at3.symm
end Go.Proofs.YtkhdihajdbgifaaGreatDoor
namespace Go.Proofs.YtkhdihajdbgifaaGreatDoor
open Go
theorem cw1 : Rows.sessionRefusesRow.wfByText (OpenSpec.ofChange Rows.sessionRefusesSpec) = true := by kernel_rfl
theorem cw2 : Tryz.pinned.checked.prog.mainIs = some (true, "af5c74e91f9c2f0f07d5b6be05294036c58478d0151473184c0b3aa98b8c167b".toList) := by kernel_rfl
theorem cw3 : true = Tryz.prog.looks [] := by kernel_rfl
theorem cw4 : Tryz.prog.wantsStandIn 27 = false := by kernel_rfl
end Go.Proofs.YtkhdihajdbgifaaGreatDoor
