/-
  The program own small talk, run by the abstract machine.
-/
import Derived.Test.YtkhdihajdbgifaaGreatDoorOrcs
namespace Go.Proofs
open Go.Am

theorem works_run : (Option.rec false (fun p => Prod.rec (fun v _ => Option.rec false (fun c => c == true) v.asBool) p) ((mk Tryz.prog orc dorc 2000).call 10 [] st0) : Bool) = true := by kernel_rfl
end Go.Proofs
