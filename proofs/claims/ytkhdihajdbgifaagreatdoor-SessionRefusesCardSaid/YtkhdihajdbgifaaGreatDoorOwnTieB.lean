/-
  The tie of the listed variables.
-/
import Derived.Test.YtkhdihajdbgifaaGreatDoorOwnTieA
namespace Go.Proofs.YtkhdihajdbgifaaGreatDoor
open Go
theorem tw7 : Tryz.pinned.checked.prog.pinnedFits "unicode/utf8.first" = true := by kernel_rfl
theorem tw8 : Tryz.pinned.checked.prog.headLifts.contains "ownunsafe" = false := by kernel_rfl
theorem tw9 : Tryz.pinned.checked.prog.listedFits [("unicode/utf8.first", Rows.laid_unicode_utf8_first), ("unicode/utf8.acceptRanges", Rows.laid_unicode_utf8_acceptRanges)] = true := by
  unfold Program.listedFits
  rw [tw8]
  kernel_rfl
theorem tw10 : ∀ os tape, doorLeaves Tryz.prog 20 8 300 [("unicode/utf8.acceptRanges", Rows.laid_unicode_utf8_acceptRanges)] os tape =
    some (([("unicode/utf8.acceptRanges", Rows.laid_unicode_utf8_acceptRanges)] : List (String × DataW Unit)).filter fun x => x.2.handleName?.isNone, (funcsListed [("unicode/utf8.acceptRanges", Rows.laid_unicode_utf8_acceptRanges)]).map (·.2.funcsOut)) := fun _ _ => by kernel_rfl
theorem own_tie : Tryz.prog.laidByTextLater [("unicode/utf8.acceptRanges", Rows.laid_unicode_utf8_acceptRanges)] [.data] true :=
  Program.laidByTextLater_by_one 20 8 300 tw1 tw2 tw3 tw4 tw5 tw6 tw10
theorem own_row_tie : Rows.sessionRefusesRow.laidByTextAt .later Tryz.pinned [.pinned, .data] true :=
  OpenClaim.laidByTextAt_pinned rfl rfl own_tie rfl rfl rfl rfl (fun y hy _e => by
    simp only [Rows.sessionRefusesRow, List.zip_cons_cons, List.zip_nil_right, List.mem_cons, List.mem_nil_iff, or_false] at hy
    rcases hy with rfl | rfl
    · exact ⟨tw7, by kernel_rfl⟩
    · cases _e) tw9
end Go.Proofs.YtkhdihajdbgifaaGreatDoor
