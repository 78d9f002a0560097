/-
  The statement SessionRefusesCardSaid: the tied card.
-/
import Derived.Test.YtkhdihajdbgifaaGreatDoorGoesB
import Derived.Test.YtkhdihajdbgifaaGreatDoorOwnTieB
import Derived.Test.YtkhdihajdbgifaaGreatDoorCards
namespace Go.Proofs.YtkhdihajdbgifaaGreatDoor
open Go
/-- THE TIED CARD. -/
theorem sessionRefuses_card : Rows.SessionRefusesCardSaid :=
  Claim7.holds_tied_plain_at .later [] [.pinned, .data] true (true, "af5c74e91f9c2f0f07d5b6be05294036c58478d0151473184c0b3aa98b8c167b") true holds (fun _ h => by cases h) cw1 (fun _ h => by cases h) own_row_tie rfl ⟨rfl, rfl⟩ cw2 rfl
    (fun f fn hf hfn => by
      obtain rfl : f = 3 := Option.some.inj (named3.symm.trans hf) |>.symm
      obtain rfl : fn = Tryz.f3 := (Option.some.inj (Tryz.func3.symm.trans hfn)).symm
      exact ⟨cw3, fun j t ht => by
        rw [Tryz.params3] at ht
        have hm : t ∈ [27] := by simpa using Array.mem_of_getElem? ht
        obtain rfl : t = 27 := by simpa using hm
        exact cw4⟩)
    cw5
end Go.Proofs.YtkhdihajdbgifaaGreatDoor
#print axioms Go.Proofs.YtkhdihajdbgifaaGreatDoor.sessionRefuses_card
