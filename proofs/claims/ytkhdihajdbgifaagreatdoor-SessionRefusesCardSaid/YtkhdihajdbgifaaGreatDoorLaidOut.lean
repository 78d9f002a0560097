/-
  The types of the program are laid out as the form asks.
-/
import Derived.Test.YtkhdihajdbgifaaGreatDoorProg
import Derived.ProofKit
namespace Go.Proofs.YtkhdihajdbgifaaGreatDoor
open Go
set_option maxRecDepth 100000 in
theorem lo0 : (List.range' 0 110).all (rowFine Tryz.prog) = true := by kernel_rfl
end Go.Proofs.YtkhdihajdbgifaaGreatDoor
namespace Go.Proofs.YtkhdihajdbgifaaGreatDoor
open Go
set_option maxRecDepth 100000 in
theorem lo1 : (List.range' 110 110).all (rowFine Tryz.prog) = true := by kernel_rfl
end Go.Proofs.YtkhdihajdbgifaaGreatDoor
namespace Go.Proofs.YtkhdihajdbgifaaGreatDoor
open Go
set_option maxRecDepth 100000 in
theorem lo2 : (List.range' 220 110).all (rowFine Tryz.prog) = true := by kernel_rfl
end Go.Proofs.YtkhdihajdbgifaaGreatDoor
namespace Go.Proofs.YtkhdihajdbgifaaGreatDoor
open Go
set_option maxRecDepth 100000 in
theorem lo3 : (List.range' 330 110).all (rowFine Tryz.prog) = true := by kernel_rfl
end Go.Proofs.YtkhdihajdbgifaaGreatDoor
namespace Go.Proofs.YtkhdihajdbgifaaGreatDoor
open Go
set_option maxRecDepth 100000 in
theorem lo4 : (List.range' 440 110).all (rowFine Tryz.prog) = true := by kernel_rfl
end Go.Proofs.YtkhdihajdbgifaaGreatDoor
namespace Go.Proofs.YtkhdihajdbgifaaGreatDoor
open Go
set_option maxRecDepth 100000 in
theorem lo5 : (List.range' 550 110).all (rowFine Tryz.prog) = true := by kernel_rfl
end Go.Proofs.YtkhdihajdbgifaaGreatDoor
namespace Go.Proofs.YtkhdihajdbgifaaGreatDoor
open Go
set_option maxRecDepth 100000 in
theorem lo6 : (List.range' 660 110).all (rowFine Tryz.prog) = true := by kernel_rfl
end Go.Proofs.YtkhdihajdbgifaaGreatDoor
namespace Go.Proofs.YtkhdihajdbgifaaGreatDoor
open Go
set_option maxRecDepth 100000 in
theorem lo7 : (List.range' 770 10).all (rowFine Tryz.prog) = true := by kernel_rfl
end Go.Proofs.YtkhdihajdbgifaaGreatDoor
namespace Go.Proofs.YtkhdihajdbgifaaGreatDoor
open Go
set_option maxRecDepth 100000 in
theorem lof : Tryz.prog.funcs.all (fun f => f.params.all fun t => decide (t < Tryz.prog.types.size)) = true := by kernel_rfl
end Go.Proofs.YtkhdihajdbgifaaGreatDoor
namespace Go.Proofs.YtkhdihajdbgifaaGreatDoor
open Go
set_option maxRecDepth 100000 in
theorem log : Tryz.prog.globals.all (fun g => decide (g.type < Tryz.prog.types.size)) = true := by kernel_rfl
theorem los : Tryz.prog.types.size = 780 := by kernel_rfl
end Go.Proofs.YtkhdihajdbgifaaGreatDoor
namespace Go.Proofs.YtkhdihajdbgifaaGreatDoor
open Go
theorem chunk {P : Program} {a n t : Nat} (h : (List.range' a n).all (rowFine P) = true) (h1 : a ≤ t) (h2 : t < a + n) : rowFine P t = true :=
  List.all_eq_true.1 h t (List.mem_range'_1.2 ⟨h1, h2⟩)
theorem laidOut : laidOutB Tryz.prog = true := by
  unfold laidOutB
  rw [Bool.and_eq_true, Bool.and_eq_true]
  refine ⟨⟨List.all_eq_true.2 fun t ht => ?_, log⟩, lof⟩
  have ht : t < 780 := by rw [← los]; exact List.mem_range.1 ht
  rcases Nat.lt_or_ge t 110 with h | h
  · exact chunk lo0 (Nat.zero_le _) (by omega)
  rcases Nat.lt_or_ge t 220 with h' | h
  · exact chunk lo1 h (by omega)
  rcases Nat.lt_or_ge t 330 with h' | h
  · exact chunk lo2 h (by omega)
  rcases Nat.lt_or_ge t 440 with h' | h
  · exact chunk lo3 h (by omega)
  rcases Nat.lt_or_ge t 550 with h' | h
  · exact chunk lo4 h (by omega)
  rcases Nat.lt_or_ge t 660 with h' | h
  · exact chunk lo5 h (by omega)
  rcases Nat.lt_or_ge t 770 with h' | h
  · exact chunk lo6 h (by omega)
  · exact chunk lo7 h (by omega)
end Go.Proofs.YtkhdihajdbgifaaGreatDoor
