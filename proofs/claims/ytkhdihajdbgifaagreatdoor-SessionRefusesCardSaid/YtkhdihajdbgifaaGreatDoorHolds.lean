/-
  The statement SessionRefusesSaid.
-/
import Derived.Test.YtkhdihajdbgifaaGreatDoorRow
import Derived.Test.YtkhdihajdbgifaaGreatDoorFactsA
import Derived.Test.YtkhdihajdbgifaaGreatDoorFactsB
import Derived.Test.YtkhdihajdbgifaaGreatDoorFactsC
import Derived.Test.YtkhdihajdbgifaaGreatDoorFactsD
import Derived.JoinedOf
namespace Go.Proofs.YtkhdihajdbgifaaGreatDoor
open Go
theorem and2 {a b : Bool} (ha : a = true) (hb : b = true) : (a && b) = true := by rw [ha, hb]; rfl
set_option maxRecDepth 100000 in
theorem joined : joinedFacts Tryz.prog 3 Tryz.f3 Rows.sessionRefusesSpec Rows.sessionRefusesRow = true := by
  unfold joinedFacts
  exact and2 (and2 (and2 (and2 (and2 (and2 (and2 (and2 (and2 (and2 (and2 (and2 (and2 (and2 (and2 (and2 (and2 (and2 (and2 (and2 (and2 (and2 (and2 (and2 (and2 (and2 (and2 (and2 (and2 (and2 (and2 jf0 laidOut) jf2) jf3) jf4) jf5) jf6) jf7) jf8) jf9) jf10) jf11) jf12) jf13) jf14) jf15) jf16) jf17) jf18) jf19) jf20) jf21) jf22) jf23) jf24) jf25) jf26) jf27) jf28) jf29) jf30) jf31
theorem named3 : Tryz.prog.funcNamed "wattle/wattlelaw30.SessionRefuses" = some 3 := by kernel_rfl
end Go.Proofs.YtkhdihajdbgifaaGreatDoor
namespace Go.Proofs.YtkhdihajdbgifaaGreatDoor
open Go
theorem inst3 : Tryz.f3.isInstance Tryz.prog Rows.sessionRefusesRow.origin Rows.sessionRefusesRow.targs := of_decide_eq_true (by kernel_rfl)
theorem wrap3 : Tryz.f3.isWrapper Tryz.prog Rows.sessionRefusesRow.wrapper Rows.sessionRefusesRow.mainSum := by
  unfold Func.isWrapper
  first
    | (rw [if_pos (by decide +kernel)]; kernel_rfl)
    | (rw [if_neg (by decide +kernel)]; exact ⟨rfl, rfl⟩)
theorem holds : Rows.SessionRefusesSaid :=
  OpenClaim.holds_of_wide 3 Tryz.f3 rfl rfl rfl rfl rfl rfl rfl ⟨rfl, rfl, rfl, rfl, rfl⟩ rfl rfl rfl rfl rfl named3 Tryz.func3 joined inst3 wrap3
    (fun os started H enc _ => lifted os started H enc)
end Go.Proofs.YtkhdihajdbgifaaGreatDoor
