/-
  Lists of keys and bare values: an answer, and nothing turns.
-/
import Derived.Test.YtkhdihajdbgifaaGreatDoorProg
import Derived.WalkKit
import Derived.Below
import Derived.Lib.Hide
import Derived.KernelRfl
import Derived.Test.YtkhdihajdbgifaaGreatDoorAm6
namespace Go.Proofs
open Go.RowKit

def IsBool (e : Ending) : Prop := ∃ t : Bool, e = .returned (.bool t)
theorem isBool (t : Bool) : IsBool (.returned (.bool t)) := ⟨t, rfl⟩
def StrGeq (P : Program) (a b : ByteArray) : Prop := ∃ t : Bool, ∀ w, (binOp .geq 9 (.string a) (.string b)).run P w = .ok (.bool t) w
theorem strGeq (P : Program) (a b : ByteArray) : StrGeq P a b := ⟨_, fun _ => rfl⟩

set_option maxHeartbeats 400000 in
theorem keys_any (b off len cap : Nat) (Sx : Nat → ByteArray) (w : World) (_hlc : len ≤ cap) (hm : len ≤ maxLen)
    (hc : ∀ i : Nat, i < len → w.cell? ⟨b, off + i, none⟩ = some (.string (Sx i))) :
    Calls Tryz.prog 106 #[.slice (some ⟨b, off, none⟩) len cap] w fun e w' => IsBool e ∧ w' = w := by
  unfold maxLen at hm
  go_enter Tryz.func106, Tryz.ntmps106
  go_wp2
  go_loop [7] (fun i => ∃ k : Nat, k ≤ len ∧ i = .int .i64 k) (fun i => len - (intOf i).toNat)
  case atStart => exact ⟨0, Nat.zero_le _, rfl⟩
  case round =>
    obtain ⟨k, hk, rfl⟩ := hrel
    by_cases hlt : k < len
    · have h1 := hc k hlt
      by_cases h0 : 0 < k
      · have h2 := hc (k - 1) (by omega)
        have hi : ((k : Int) - 1).toNat = k - 1 := by omega
        obtain ⟨t, ht⟩ := strGeq Tryz.prog (Sx (k - 1)) (Sx k)
        clear hc
        go_wp2
        all_goals first
          | (go_ret; exact ⟨isBool _, rfl⟩)
          | (go_round
             case rel => exact ⟨k + 1, by omega, by go_num⟩
             case measure => simp [intOf]; omega)
      · have h0 : k = 0 := by omega
        subst h0
        rw [Nat.add_zero] at h1
        clear hc
        go_wp2
        all_goals first
          | (go_ret; exact ⟨isBool _, rfl⟩)
          | (go_round
             case rel => exact ⟨1, by omega, rfl⟩
             case measure => simp [intOf]; omega)
    · clear hc
      go_wp2
      go_ret
      exact ⟨isBool _, rfl⟩

theorem keys_none (a : Option Addr) (cap : Nat) (w : World) : Calls Tryz.prog 106 #[.slice a 0 cap] w fun e w' => IsBool e ∧ w' = w := by
  go_enter Tryz.func106, Tryz.ntmps106
  go_wp2
  go_loop [7] (fun i => i = .int .i64 0) (fun i => 0)
  case atStart => rfl
  case round =>
    subst hrel
    go_wp2
    go_ret
    exact ⟨isBool _, rfl⟩

/-- A list of strings in memory. -/
def KeysOk (w : World) (ka : Option Addr) (kl : Nat) : Prop :=
  kl ≤ maxLen ∧ (kl = 0 ∨ ∃ (b off : Nat) (Sx : Nat → ByteArray), ka = some ⟨b, off, none⟩ ∧ ∀ j, j < kl → w.cell? ⟨b, off + j, none⟩ = some (.string (Sx j)))

theorem cell_lt {w : World} {p : Addr} {x : Value} (h : w.cell? p = some x) : p.block < w.heap.size := by
  unfold World.cell? at h
  cases hb : w.heap[p.block]? with
  | none => rw [hb] at h; cases h
  | some o => exact (Array.getElem?_eq_some_iff.1 hb).1
theorem below_at {w w' : World} (h : Below w.heap.size w w') {p : Addr} {x : Value} (hc : w.cell? p = some x) : w'.cell? p = some x := by
  rw [h.cell (cell_lt hc)]; exact hc

theorem keys_ok {w : World} {ka : Option Addr} {kl : Nat} (h : KeysOk w ka kl) (kc : Nat) (hkc : kl ≤ kc) (W : World) (hW : Below w.heap.size w W) : Calls Tryz.prog 106 #[.slice ka kl kc] W fun e w' => IsBool e ∧ w' = W := by
  obtain ⟨hm, rfl | ⟨b, off, Sx, rfl, hc⟩⟩ := h
  · exact keys_none ka kc W
  · exact keys_any b off kl kc Sx W hkc hm fun j hj => below_at hW (hc j hj)
end Go.Proofs
namespace Go.Proofs
open Go.RowKit (Below)
open Go.Am

/-- Is it a bool? -/
noncomputable def isB (x : Option (V × St)) : Bool := Option.rec false (fun p => Prod.rec (fun v _ => Option.rec false (fun _ => true) v.asBool) p) x
theorem isB_some {x : Option (V × St)} (h : isB x = true) : ∃ b σ, x = some (.bool b, σ) := by
  cases x with
  | none => cases h
  | some p =>
    obtain ⟨v, σ⟩ := p
    have h : (Option.rec false (fun _ => true) v.asBool : Bool) = true := h
    cases hb : v.asBool with
    | none => rw [hb] at h; cases h
    | some b => exact ⟨b, σ, by rw [asBool_some hb]⟩

theorem isBool_of_run {P : Program} (hP : Fit P) {J : BM → World → Prop} (hJ : JKeep P J) {orc : Orc} {dorc : Dorc} (ho : OrcOk P J orc) (hd : DorcOk P J dorc) {fuel : Nat} {f : FuncId} {args : List V} {w : World}
    (hrun : isB ((mk P orc dorc fuel).call f args st0) = true) (hj : J (fun _ => none) w) {args' : Array Value} (hA : LR (fun _ => none) args args'.toList) : Calls P f args' w fun e w' => IsBool e ∧ Below w.heap.size w w' := by
  obtain ⟨b, σ, hr⟩ := isB_some hrun
  refine (calls_of_run hP hJ ho hd hr hj hA).mono fun e w' ⟨x, β', he, hv, hb⟩ => ?_
  simp only [VR] at hv
  subst hv
  exact ⟨⟨b, he⟩, hb⟩

noncomputable def bareArgs (k : Nat) (b : Bool) (i : Int) (s : List Nat) (la : Option Addr) (ll lc : Nat) (ka : Option Addr) (kl kc : Nat) : List V :=
  [.agg [.int .i64 (.ofNat k), .bool b, .int .i64 i, .str s, .osl la ll lc, .osl ka kl kc]]

theorem bare_run (k : Nat) (hk : k < 8) (b : Bool) (i : Int) (s : List Nat) (la : Option Addr) (ll lc : Nat) (ka : Option Addr) (kl kc : Nat) :
    isB ((mk Tryz.prog (fun _ => none) (fun _ => none) 20).call 105 (bareArgs k b i s la ll lc ka kl kc) st0) = true := by
  have h : k = 0 ∨ k = 1 ∨ k = 2 ∨ k = 3 ∨ k = 4 ∨ k = 5 ∨ k = 6 ∨ k = 7 := by omega
  rcases h with rfl | rfl | rfl | rfl | rfl | rfl | rfl | rfl <;> cases b <;> rcases i with (_ | _) | _ <;> cases s <;> cases ll <;> cases kl <;> (show isB _ = true) <;> kernel_rfl

theorem tryz_fit : Fit Tryz.prog where
  mixed := by kernel_rfl
  named := by
    have h : Tryz.prog.funcs.toList.all (fun fn => !(fn.name == "runtime.NumGoroutine")) = true := by kernel_rfl
    intro f fn hf e
    rw [List.all_eq_true] at h
    have := h fn (by rw [← Array.getElem?_toList] at hf; exact List.mem_of_getElem? hf)
    simp [e] at this

theorem VR_string {β : BM} (s : ByteArray) : VR β (.str (s.data.toList.map UInt8.toNat)) (.string s) := by simp only [VR]; exact ⟨s, rfl, rfl⟩

theorem bare_any (k i : Int) (b : Bool) (s : ByteArray) (la : Option Addr) (ll lc : Nat) (ka : Option Addr) (kl kc : Nat) (w : World) (h0 : 0 ≤ k) (h7 : k ≤ 7) :
    Calls Tryz.prog 105 #[.agg #[.int .i64 k, .bool b, .int .i64 i, .string s, .slice la ll lc, .slice ka kl kc]] w fun e w' => IsBool e ∧ Below w.heap.size w w' := by
  obtain ⟨n, rfl⟩ : ∃ n : Nat, k = n := ⟨k.toNat, by omega⟩
  refine isBool_of_run tryz_fit (jkeep_true _) orc_none dorc_none (bare_run n (by omega) b i (s.data.toList.map UInt8.toNat) la ll lc ka kl kc) trivial ?_
  refine LR.cons ?_ (LR.nil _)
  simp only [VR]
  refine ⟨_, rfl, ?_⟩
  exact LR.cons (by simp [VR]) (LR.cons (by simp [VR]) (LR.cons (by simp [VR]) (LR.cons (VR_string s) (LR.cons (by simp [VR]) (LR.cons (by simp [VR]) (LR.nil _))))))
end Go.Proofs
