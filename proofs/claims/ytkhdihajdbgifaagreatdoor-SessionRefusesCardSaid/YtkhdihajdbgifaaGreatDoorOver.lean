/-
  A session over an empty store, closed: run by the abstract machine.
-/
import Derived.Test.YtkhdihajdbgifaaGreatDoorMsg
import Derived.Test.YtkhdihajdbgifaaGreatDoorOrcs
import Derived.Test.YtkhdihajdbgifaaGreatDoorWorksRun
namespace Go.Proofs
open Go.RowKit (Below)
open Go.Am

noncomputable def M0 : Rec := mk Tryz.prog orc dorc 60
noncomputable def natIs (n : Nat) (v : V) : Bool := match v with | .int .i64 (.ofNat k) => Nat.beq k n | _ => false
theorem natIs_some {n : Nat} {v : V} (h : natIs n v = true) : v = .int .i64 n := by
  unfold natIs at h
  split at h
  · rename_i k
    have := Nat.eq_of_beq_eq_true h; subst this; rfl
  · cases h

/-- A new session without a graph. -/
noncomputable def newNil : Option (V × St) → Bool
  | some (.tup [.ptr none, v], _) => natIs 20 v
  | _ => false
noncomputable def twoPtr : V → Option ((Nat × Nat) × (Nat × Nat))
  | .tup [.ptr (some a), .ptr (some b)] => some (a, b)
  | _ => none
noncomputable def isUnit : V → Bool
  | .tup [] => true
  | _ => false
/-- A session that is closed is gone, and its store is open nowhere. -/
noncomputable def gone : Bool :=
  Option.rec false (fun p => Option.rec false (fun ab => Option.rec false (fun p1 =>
    isUnit p1.1 && Option.rec false (natIs 4) (readCell p1.2 (ab.1.1, ab.1.2 + 1)) && Option.rec false (fun p2 => natIs 4 p2.1 && Option.rec false (fun p3 => natIs 0 p3.1) (M0.call 9 [.ptr (some ab.2)] p2.2)) (M0.call 8 [.ptr (some ab.1)] p1.2))
    (M0.call 6 [.ptr (some ab.1)] p.2)) (twoPtr p.1)) (M0.call 5 [] st0)
theorem new_run : newNil (M0.call 4 [.ptr none] st0) = true := by kernel_rfl
theorem gone_run : gone = true := by kernel_rfl
end Go.Proofs
namespace Go.Proofs
open Go.RowKit (Below)
open Go.Am

/-- The program's own small talk goes well. -/
theorem works_true {w0 w : World} {m : Int} (hm : w0.cell? ⟨0, 0, none⟩ = some (.int .i64 m)) (hj : Base w0 (fun _ => none) w) :
    Calls Tryz.prog 10 #[] w fun e w' => e = .returned (.bool true) ∧ Below w.heap.size w w' := by
  have h := @calls_bool_of_run Tryz.prog w tryz_fit (Base w0) (base_keep w0) orc dorc (orc_ok hm) dorc_ok 2000 10 [] true
  exact h works_run hj (args' := #[]) (LR.nil _)
end Go.Proofs
