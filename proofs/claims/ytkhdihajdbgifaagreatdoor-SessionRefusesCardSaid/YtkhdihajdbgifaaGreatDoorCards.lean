/-
  DERIVED. GIVEN WITH THE SEED: THE CARDS: each row of YtkhdihajdbgifaaGreatDoorRows.lean that lists a variable, with what it lists TIED to the program's text (the seventh form; the later family's looks); each row that meets fmt, with fmt's text TOLD by the authors' own Lean function (tested against real Go, not proved from fmt's source: count such statements apart). THE CARD IS WHAT COUNTS. Prove the row's statement (the work); the ties are given (YtkhdihajdbgifaaGreatDoorTie.lean); close each card by the builder's one call (the guide's Derived/Test/ToyasCard.lean, 'card_holds'). Laid BY PROGRAM, IN A SANDBOX (cutbox-door.mjs). By AI agents, Wed Nov 11 2026. No macro, syntax, notation, axiom, sorry.
-/
import Derived.Test.YtkhdihajdbgifaaGreatDoorRows
import GoSem.ClaimSeven
namespace Go.Proofs.YtkhdihajdbgifaaGreatDoor
namespace Rows

/-- THE TIED CARD OF 'wattlelaw30.SessionRefuses'. -/
def sessionRefusesCard : Claim7 := { stood := { row := sessionRefusesRow, standIns := [], harness := (true, "af5c74e91f9c2f0f07d5b6be05294036c58478d0151473184c0b3aa98b8c167b"), looks := true }, kinds := [], alts := [], laidByText := true, laidKinds := [.pinned, .data], laidTests := true, laidLooks := .later }
def SessionRefusesCardSaid : Prop := Claim7.holds Tryz.pinned (.plain (OpenSpec.ofChange sessionRefusesSpec)) sessionRefusesCard

/-- THE SECOND FORM's CARD OF 'wattlelaw30.SessionRefuses'. -/
def sessionRefusesUptoCard : Claim7 := { stood := { row := sessionRefusesUptoRow, standIns := [], harness := (true, "af5c74e91f9c2f0f07d5b6be05294036c58478d0151473184c0b3aa98b8c167b"), looks := true }, kinds := [], alts := [], laidByText := true, laidKinds := [.pinned, .data], laidTests := true, laidLooks := .later }
def SessionRefusesUptoCardSaid : Prop := Claim7.holds Tryz.pinned (.plain (OpenSpec.upto sessionRefusesSpec)) sessionRefusesUptoCard
end Rows
end Go.Proofs.YtkhdihajdbgifaaGreatDoor
