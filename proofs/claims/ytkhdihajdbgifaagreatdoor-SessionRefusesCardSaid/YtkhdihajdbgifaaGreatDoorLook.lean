/-
  A value in memory, to any depth, is looked at: an answer, and nothing turns.
-/
import Derived.Test.YtkhdihajdbgifaaGreatDoorProg
import Derived.WalkKit
import Derived.Below
import Derived.Lib.Hide
import Derived.Deep.DeepCutAuto
import Derived.Deep.CutBlock
import Derived.Deep.DeepFit
import Derived.Test.YtkhdihajdbgifaaGreatDoorBare
namespace Go.Proofs
open Go.RowKit

def IntBool (e : Ending) : Prop := ∃ (n : Int) (t : Bool), e = .returned (.tuple #[.int .i64 n, .bool t])
theorem intBool (n : Int) (t : Bool) : IntBool (.returned (.tuple #[.int .i64 n, .bool t])) := ⟨n, t, rfl⟩
theorem below_alloc (w : World) (o : Obj) : Below w.heap.size w (w.alloc o) := (Below.refl _ _).alloc (Nat.le_refl _) _
theorem boxCell {w w1 : World} {o : Obj} (hb : Below (w.alloc o).heap.size (w.alloc o) w1) (off : Nat) : w1.cell? ⟨w.heap.size, off, none⟩ = (w.alloc o).cell? ⟨w.heap.size, off, none⟩ :=
  hb.cell (p := ⟨w.heap.size, off, none⟩) (by simp)
theorem below_box {w w1 : World} {o : Obj} (hb : Below (w.alloc o).heap.size (w.alloc o) w1) : Below w.heap.size w w1 :=
  (below_alloc w o).trans (hb.mono (by simp))

theorem below_box' {w w1 : World} {o : Obj} (hb : Below (w.heap.size + 1) (w.alloc o) w1) : Below w.heap.size w w1 :=
  (below_alloc w o).trans (hb.mono (by simp))
theorem cell_alloc4 (w : World) (c0 c1 c2 c3 c4 c5 : Value) (t : TypeId) : (w.alloc (.cells #[c0, c1, c2, c3, c4, c5] t)).cell? ⟨w.heap.size, 4, none⟩ = some c4 := by
  simp [World.cell?_alloc_new]

/-- A value in memory, so many levels deep. -/
def ValOk (w : World) : Nat → Value → Prop
  | 0, _ => False
  | n + 1, v => ∃ (k i : Int) (b : Bool) (s : ByteArray) (la : Option Addr) (ll lc : Nat) (ka : Option Addr) (kl kc : Nat), v = .agg #[.int .i64 k, .bool b, .int .i64 i, .string s, .slice la ll lc, .slice ka kl kc] ∧
      KeysOk w ka kl ∧ kl ≤ kc ∧ ll ≤ maxLen ∧ (ll = 0 ∨ ∃ bk off, la = some ⟨bk, off, none⟩ ∧ ∀ j, j < ll → ∃ c0 c1 c2 c3 c4 c5, ValOk w n (.agg #[c0, c1, c2, c3, c4, c5]) ∧
        w.cell? ⟨bk, off + j * 6, none⟩ = some c0 ∧ w.cell? ⟨bk, off + j * 6 + 1, none⟩ = some c1 ∧ w.cell? ⟨bk, off + j * 6 + 2, none⟩ = some c2 ∧ w.cell? ⟨bk, off + j * 6 + 3, none⟩ = some c3 ∧ w.cell? ⟨bk, off + j * 6 + 4, none⟩ = some c4 ∧ w.cell? ⟨bk, off + j * 6 + 5, none⟩ = some c5)

def LookPost (W : World) (e : Ending) (w' : World) : Prop := IntBool e ∧ Below W.heap.size W w'

set_option maxRecDepth 100000 in
set_option maxHeartbeats 1600000 in
theorem look_some (k i : Int) (b : Bool) (s : ByteArray) (bk off ll lc : Nat) (ka : Option Addr) (kl kc : Nat) (deep parts : Int) (w : World)
    (_hkeys : ∀ W, Below w.heap.size w W → Calls Tryz.prog 106 #[.slice ka kl kc] W fun e w' => IsBool e ∧ w' = W) (hm : ll ≤ maxLen)     (h5 : (k == 5) = false)
    (hel : ∀ j, j < ll → ∃ c0 c1 c2 c3 c4 c5, (∀ deep parts W, Below w.heap.size w W → Calls Tryz.prog 61 #[.agg #[c0, c1, c2, c3, c4, c5], .int .i64 deep, .int .i64 parts] W (LookPost W)) ∧
        w.cell? ⟨bk, off + j * 6, none⟩ = some c0 ∧ w.cell? ⟨bk, off + j * 6 + 1, none⟩ = some c1 ∧ w.cell? ⟨bk, off + j * 6 + 2, none⟩ = some c2 ∧ w.cell? ⟨bk, off + j * 6 + 3, none⟩ = some c3 ∧ w.cell? ⟨bk, off + j * 6 + 4, none⟩ = some c4 ∧ w.cell? ⟨bk, off + j * 6 + 5, none⟩ = some c5) :
    Calls Tryz.prog 61 #[.agg #[.int .i64 k, .bool b, .int .i64 i, .string s, .slice (some ⟨bk, off, none⟩) ll lc, .slice ka kl kc], .int .i64 deep, .int .i64 parts] w (LookPost w) := by
  unfold maxLen at hm
  go_enter Tryz.func61, Tryz.ntmps61
  go_upto_region 2 with fail
  go_cut [62] (fun q W => ∃ q' : Bool, q = .bool q' ∧ Below (w.heap.size + 1) (w.alloc (.cells #[.int .i64 k, .bool b, .int .i64 i, .string s, .slice (some ⟨bk, off, none⟩) ll lc, .slice ka kl kc] 25)) W)
  case first =>
    go_wp2_with (first
      | (go_at_call 105; refine (bare_any _ _ _ _ _ _ _ _ _ _ _ (by omega) (by omega)).mono ?_; rintro e w1 ⟨⟨t, rfl⟩, hb1⟩; have hc1 := boxCell hb1)
      | (go_at_call 106; refine (_hkeys _ (below_box hb1)).mono ?_; rintro e w2 ⟨⟨t2, rfl⟩, rfl⟩))
    all_goals first
      | (go_meet; exact ⟨_, rfl, hb1.mono (by simp)⟩)
      | (go_meet; exact ⟨_, rfl, Below.refl _ _⟩)
  case rest =>
    obtain ⟨q', rfl, hb1⟩ := hcut
    clear _hkeys
    cases q' with
    | true =>
      go_wp2
      go_ret2
      exact ⟨intBool _ _, below_box' hb1⟩
    | false =>
      go_wp2_with fail
      go_loopw [2, 8, 9] (fun p o x W => ∃ (j : Nat) (p' : Int) (o' : Bool), j ≤ ll ∧ x = .int .i64 j ∧ p = .int .i64 p' ∧ o = .bool o' ∧ Below (w.heap.size + 1) (w.alloc (.cells #[.int .i64 k, .bool b, .int .i64 i, .string s, .slice (some ⟨bk, off, none⟩) ll lc, .slice ka kl kc] 25)) W) (fun p o x W => ll - (intOf x).toNat)
      case atStart => exact ⟨0, _, _, Nat.zero_le _, rfl, rfl, rfl, hb1⟩
      case round =>
        obtain ⟨j, p', o', hj, rfl, rfl, rfl, hW⟩ := hrel
        have hx4 := hW.cell (p := ⟨w.heap.size, 4, none⟩) (by simp)
        simp only [cell_alloc4] at hx4
        have hBW := below_box' hW
        clear hb1
        by_cases hlt : j < ll
        · cases o' with
          | true =>
            obtain ⟨c0, c1, c2, c3, c4, c5, hcall, e0, e1, e2, e3, e4, e5⟩ := hel j hlt
            have g0 := below_at hBW e0
            have g1 := below_at hBW e1
            have g2 := below_at hBW e2
            have g3 := below_at hBW e3
            have g4 := below_at hBW e4
            have g5 := below_at hBW e5
            have HC := Lib.hid hcall
            have HW := Lib.hid hW
            have HB := Lib.hid hBW
            clear hel e0 e1 e2 e3 e4 e5 hW hBW hcall
            go_wp2_with fail
            refine (HC.out _ _ _ HB.out).mono ?_
            rintro e w3 ⟨⟨n3, t3, rfl⟩, hb3⟩
            have HB3 := Lib.hid hb3
            clear hb3
            go_wp2
            go_roundw
            case rel => exact ⟨j + 1, n3, t3, by omega, by go_num, rfl, rfl, HW.out.trans (HB3.out.mono (by have := HW.out.size; simp at this; omega))⟩
            case measure => simp [intOf]; omega
          | false =>
            have HW := Lib.hid hW
            have HB := Lib.hid hBW
            clear hel hW hBW
            go_wp2
            go_ret2
            exact ⟨intBool _ _, HB.out⟩
        · have HW := Lib.hid hW
          have HB := Lib.hid hBW
          clear hel hW hBW
          go_wp2
          go_ret2
          exact ⟨intBool _ _, HB.out⟩

set_option maxRecDepth 100000 in
set_option maxHeartbeats 1600000 in
theorem look_five (i : Int) (b : Bool) (s : ByteArray) (bk off ll lc : Nat) (ka : Option Addr) (kl kc : Nat) (deep parts : Int) (w : World)
    (_hkeys : ∀ W, Below w.heap.size w W → Calls Tryz.prog 106 #[.slice ka kl kc] W fun e w' => IsBool e ∧ w' = W) (hm : ll ≤ maxLen)
    (hel : ∀ j, j < ll → ∃ c0 c1 c2 c3 c4 c5, (∀ deep parts W, Below w.heap.size w W → Calls Tryz.prog 61 #[.agg #[c0, c1, c2, c3, c4, c5], .int .i64 deep, .int .i64 parts] W (LookPost W)) ∧
        w.cell? ⟨bk, off + j * 6, none⟩ = some c0 ∧ w.cell? ⟨bk, off + j * 6 + 1, none⟩ = some c1 ∧ w.cell? ⟨bk, off + j * 6 + 2, none⟩ = some c2 ∧ w.cell? ⟨bk, off + j * 6 + 3, none⟩ = some c3 ∧ w.cell? ⟨bk, off + j * 6 + 4, none⟩ = some c4 ∧ w.cell? ⟨bk, off + j * 6 + 5, none⟩ = some c5) :
    Calls Tryz.prog 61 #[.agg #[.int .i64 5, .bool b, .int .i64 i, .string s, .slice (some ⟨bk, off, none⟩) ll lc, .slice ka kl kc], .int .i64 deep, .int .i64 parts] w (LookPost w) := by
  unfold maxLen at hm
  go_enter Tryz.func61, Tryz.ntmps61
  go_upto_region 2 with fail
  go_cut [62] (fun q W => ∃ q' : Bool, q = .bool q' ∧ Below (w.heap.size + 1) (w.alloc (.cells #[.int .i64 5, .bool b, .int .i64 i, .string s, .slice (some ⟨bk, off, none⟩) ll lc, .slice ka kl kc] 25)) W)
  case first =>
    go_wp2_with (first
      | (go_at_call 105; refine (bare_any _ _ _ _ _ _ _ _ _ _ _ (by omega) (by omega)).mono ?_; rintro e w1 ⟨⟨t, rfl⟩, hb1⟩; have hc1 := boxCell hb1)
      | (go_at_call 106; refine (_hkeys _ (below_box hb1)).mono ?_; rintro e w2 ⟨⟨t2, rfl⟩, rfl⟩))
    all_goals first
      | (go_meet; exact ⟨_, rfl, hb1.mono (by simp)⟩)
      | (go_meet; exact ⟨_, rfl, Below.refl _ _⟩)
  case rest =>
    obtain ⟨q', rfl, hb1⟩ := hcut
    clear _hkeys
    cases q' with
    | true =>
      go_wp2
      go_ret2
      exact ⟨intBool _ _, below_box' hb1⟩
    | false =>
      go_wp2_with fail
      go_loopw [2, 8, 9] (fun p o x W => ∃ (j : Nat) (p' : Int) (o' : Bool), j ≤ ll ∧ x = .int .i64 j ∧ p = .int .i64 p' ∧ o = .bool o' ∧ Below (w.heap.size + 1) (w.alloc (.cells #[.int .i64 5, .bool b, .int .i64 i, .string s, .slice (some ⟨bk, off, none⟩) ll lc, .slice ka kl kc] 25)) W) (fun p o x W => ll - (intOf x).toNat)
      case atStart => exact ⟨0, _, _, Nat.zero_le _, rfl, rfl, rfl, hb1⟩
      case round =>
        obtain ⟨j, p', o', hj, rfl, rfl, rfl, hW⟩ := hrel
        have hx4 := hW.cell (p := ⟨w.heap.size, 4, none⟩) (by simp)
        simp only [cell_alloc4] at hx4
        have hBW := below_box' hW
        clear hb1
        by_cases hlt : j < ll
        · cases o' with
          | true =>
            obtain ⟨c0, c1, c2, c3, c4, c5, hcall, e0, e1, e2, e3, e4, e5⟩ := hel j hlt
            have g0 := below_at hBW e0
            have g1 := below_at hBW e1
            have g2 := below_at hBW e2
            have g3 := below_at hBW e3
            have g4 := below_at hBW e4
            have g5 := below_at hBW e5
            have HC := Lib.hid hcall
            have HW := Lib.hid hW
            have HB := Lib.hid hBW
            clear hel e0 e1 e2 e3 e4 e5 hW hBW hcall
            go_wp2_with fail
            refine (HC.out _ _ _ HB.out).mono ?_
            rintro e w3 ⟨⟨n3, t3, rfl⟩, hb3⟩
            have HB3 := Lib.hid hb3
            clear hb3
            go_wp2
            go_roundw
            case rel => exact ⟨j + 1, n3, t3, by omega, by go_num, rfl, rfl, HW.out.trans (HB3.out.mono (by have := HW.out.size; simp at this; omega))⟩
            case measure => simp [intOf]; omega
          | false =>
            have HW := Lib.hid hW
            have HB := Lib.hid hBW
            clear hel hW hBW
            go_wp2
            go_ret2
            exact ⟨intBool _ _, HB.out⟩
        · have HW := Lib.hid hW
          have HB := Lib.hid hBW
          clear hel hW hBW
          go_wp2
          go_ret2
          exact ⟨intBool _ _, HB.out⟩
end Go.Proofs
namespace Go.Proofs
open Go.RowKit

set_option maxRecDepth 100000 in
set_option maxHeartbeats 1600000 in
theorem look_none (la : Option Addr) (k i : Int) (b : Bool) (s : ByteArray) (lc : Nat) (ka : Option Addr) (kl kc : Nat) (deep parts : Int) (w : World)
    (_hkeys : ∀ W, Below w.heap.size w W → Calls Tryz.prog 106 #[.slice ka kl kc] W fun e w' => IsBool e ∧ w' = W)      (h5 : (k == 5) = false) :
    Calls Tryz.prog 61 #[.agg #[.int .i64 k, .bool b, .int .i64 i, .string s, .slice la 0 lc, .slice ka kl kc], .int .i64 deep, .int .i64 parts] w (LookPost w) := by
  go_enter Tryz.func61, Tryz.ntmps61
  go_upto_region 2 with fail
  go_cut [62] (fun q W => ∃ q' : Bool, q = .bool q' ∧ Below (w.heap.size + 1) (w.alloc (.cells #[.int .i64 k, .bool b, .int .i64 i, .string s, .slice la 0 lc, .slice ka kl kc] 25)) W)
  case first =>
    go_wp2_with (first
      | (go_at_call 105; refine (bare_any _ _ _ _ _ _ _ _ _ _ _ (by omega) (by omega)).mono ?_; rintro e w1 ⟨⟨t, rfl⟩, hb1⟩; have hc1 := boxCell hb1)
      | (go_at_call 106; refine (_hkeys _ (below_box hb1)).mono ?_; rintro e w2 ⟨⟨t2, rfl⟩, rfl⟩))
    all_goals first
      | (go_meet; exact ⟨_, rfl, hb1.mono (by simp)⟩)
      | (go_meet; exact ⟨_, rfl, Below.refl _ _⟩)
  case rest =>
    obtain ⟨q', rfl, hb1⟩ := hcut
    clear _hkeys
    cases q' with
    | true =>
      go_wp2
      go_ret2
      exact ⟨intBool _ _, below_box' hb1⟩
    | false =>
      go_wp2_with fail
      go_loopw [2, 8, 9] (fun p o x W => ∃ (j : Nat) (p' : Int) (o' : Bool), j ≤ 0 ∧ x = .int .i64 j ∧ p = .int .i64 p' ∧ o = .bool o' ∧ Below (w.heap.size + 1) (w.alloc (.cells #[.int .i64 k, .bool b, .int .i64 i, .string s, .slice la 0 lc, .slice ka kl kc] 25)) W) (fun p o x W => 0)
      case atStart => exact ⟨0, _, _, Nat.zero_le _, rfl, rfl, rfl, hb1⟩
      case round =>
        obtain ⟨j, p', o', hj, rfl, rfl, rfl, hW⟩ := hrel
        have hx4 := hW.cell (p := ⟨w.heap.size, 4, none⟩) (by simp)
        simp only [cell_alloc4] at hx4
        have hBW := below_box' hW
        clear hb1
        obtain rfl : j = 0 := by omega
        have HW := Lib.hid hW
        have HB := Lib.hid hBW
        clear hW hBW
        go_wp2
        go_ret2
        exact ⟨intBool _ _, HB.out⟩

set_option maxRecDepth 100000 in
set_option maxHeartbeats 1600000 in
theorem look_fnone0 (la : Option Addr) (i : Int) (b : Bool) (s : ByteArray) (lc : Nat) (ka : Option Addr) (kc : Nat) (deep parts : Int) (w : World)
    (_hkeys : ∀ W, Below w.heap.size w W → Calls Tryz.prog 106 #[.slice ka 0 kc] W fun e w' => IsBool e ∧ w' = W)  :
    Calls Tryz.prog 61 #[.agg #[.int .i64 5, .bool b, .int .i64 i, .string s, .slice la 0 lc, .slice ka 0 kc], .int .i64 deep, .int .i64 parts] w (LookPost w) := by
  go_enter Tryz.func61, Tryz.ntmps61
  go_upto_region 2 with fail
  go_cut [62] (fun q W => ∃ q' : Bool, q = .bool q' ∧ Below (w.heap.size + 1) (w.alloc (.cells #[.int .i64 5, .bool b, .int .i64 i, .string s, .slice la 0 lc, .slice ka 0 kc] 25)) W)
  case first =>
    go_wp2_with (first
      | (go_at_call 105; refine (bare_any _ _ _ _ _ _ _ _ _ _ _ (by omega) (by omega)).mono ?_; rintro e w1 ⟨⟨t, rfl⟩, hb1⟩; have hc1 := boxCell hb1)
      | (go_at_call 106; refine (_hkeys _ (below_box hb1)).mono ?_; rintro e w2 ⟨⟨t2, rfl⟩, rfl⟩))
    all_goals first
      | (go_meet; exact ⟨_, rfl, hb1.mono (by simp)⟩)
      | (go_meet; exact ⟨_, rfl, Below.refl _ _⟩)
  case rest =>
    obtain ⟨q', rfl, hb1⟩ := hcut
    clear _hkeys
    cases q' with
    | true =>
      go_wp2
      go_ret2
      exact ⟨intBool _ _, below_box' hb1⟩
    | false =>
      go_wp2_with fail
      go_loopw [2, 8, 9] (fun p o x W => ∃ (j : Nat) (p' : Int) (o' : Bool), j ≤ 0 ∧ x = .int .i64 j ∧ p = .int .i64 p' ∧ o = .bool o' ∧ Below (w.heap.size + 1) (w.alloc (.cells #[.int .i64 5, .bool b, .int .i64 i, .string s, .slice la 0 lc, .slice ka 0 kc] 25)) W) (fun p o x W => 0)
      case atStart => exact ⟨0, _, _, Nat.zero_le _, rfl, rfl, rfl, hb1⟩
      case round =>
        obtain ⟨j, p', o', hj, rfl, rfl, rfl, hW⟩ := hrel
        have hx4 := hW.cell (p := ⟨w.heap.size, 4, none⟩) (by simp)
        simp only [cell_alloc4] at hx4
        have hBW := below_box' hW
        clear hb1
        obtain rfl : j = 0 := by omega
        have HW := Lib.hid hW
        have HB := Lib.hid hBW
        clear hW hBW
        go_wp2
        go_ret2
        exact ⟨intBool _ _, HB.out⟩


set_option maxRecDepth 100000 in
set_option maxHeartbeats 1600000 in
theorem look_fnone1 (la : Option Addr) (i : Int) (b : Bool) (s : ByteArray) (lc : Nat) (ka : Option Addr) (kl kc : Nat) (deep parts : Int) (w : World)
    (_hkeys : ∀ W, Below w.heap.size w W → Calls Tryz.prog 106 #[.slice ka kl kc] W fun e w' => IsBool e ∧ w' = W) (hk1 : ((kl : Int) != 0) = true) :
    Calls Tryz.prog 61 #[.agg #[.int .i64 5, .bool b, .int .i64 i, .string s, .slice la 0 lc, .slice ka kl kc], .int .i64 deep, .int .i64 parts] w (LookPost w) := by
  go_enter Tryz.func61, Tryz.ntmps61
  go_upto_region 2 with fail
  go_cut [62] (fun q W => ∃ q' : Bool, q = .bool q' ∧ Below (w.heap.size + 1) (w.alloc (.cells #[.int .i64 5, .bool b, .int .i64 i, .string s, .slice la 0 lc, .slice ka kl kc] 25)) W)
  case first =>
    go_wp2_with (first
      | (go_at_call 105; refine (bare_any _ _ _ _ _ _ _ _ _ _ _ (by omega) (by omega)).mono ?_; rintro e w1 ⟨⟨t, rfl⟩, hb1⟩; have hc1 := boxCell hb1)
      | (go_at_call 106; refine (_hkeys _ (below_box hb1)).mono ?_; rintro e w2 ⟨⟨t2, rfl⟩, rfl⟩))
    all_goals first
      | (go_meet; exact ⟨_, rfl, hb1.mono (by simp)⟩)
      | (go_meet; exact ⟨_, rfl, Below.refl _ _⟩)
  case rest =>
    obtain ⟨q', rfl, hb1⟩ := hcut
    clear _hkeys
    cases q' with
    | true =>
      go_wp2
      go_ret2
      exact ⟨intBool _ _, below_box' hb1⟩
    | false =>
      go_wp2_with fail
      go_loopw [2, 8, 9] (fun p o x W => ∃ (j : Nat) (p' : Int) (o' : Bool), j ≤ 0 ∧ x = .int .i64 j ∧ p = .int .i64 p' ∧ o = .bool o' ∧ Below (w.heap.size + 1) (w.alloc (.cells #[.int .i64 5, .bool b, .int .i64 i, .string s, .slice la 0 lc, .slice ka kl kc] 25)) W) (fun p o x W => 0)
      case atStart => exact ⟨0, _, _, Nat.zero_le _, rfl, rfl, rfl, hb1⟩
      case round =>
        obtain ⟨j, p', o', hj, rfl, rfl, rfl, hW⟩ := hrel
        have hx4 := hW.cell (p := ⟨w.heap.size, 4, none⟩) (by simp)
        simp only [cell_alloc4] at hx4
        have hBW := below_box' hW
        clear hb1
        obtain rfl : j = 0 := by omega
        have HW := Lib.hid hW
        have HB := Lib.hid hBW
        clear hW hBW
        go_wp2
        go_ret2
        exact ⟨intBool _ _, HB.out⟩


theorem look_any : ∀ (n : Nat) {w : World} {v : Value}, ValOk w n v → ∀ (deep parts : Int) (W : World), Below w.heap.size w W → Calls Tryz.prog 61 #[v, .int .i64 deep, .int .i64 parts] W (LookPost W)
  | 0, _, _, h => h.elim
  | n + 1, w, v, ⟨k, i, b, s, la, ll, lc, ka, kl, kc, hv, hk, hkc, hm, hl⟩ => by
    intro deep parts W hW
    subst hv
    have _hkeys : ∀ W', Below W.heap.size W W' → Calls Tryz.prog 106 #[.slice ka kl kc] W' fun e w' => IsBool e ∧ w' = W' := fun W' hW' => keys_ok hk kc hkc W' (hW.trans (hW'.mono hW.size))
    rcases hl with rfl | ⟨bk, off, rfl, hel⟩
    · by_cases h5 : k = 5
      · subst h5
        by_cases h0 : kl = 0
        · subst h0; exact look_fnone0 la i b s lc ka kc deep parts W _hkeys
        · exact look_fnone1 la i b s lc ka kl kc deep parts W _hkeys (by simpa using h0)
      · exact look_none la k i b s lc ka kl kc deep parts W _hkeys (by simpa using h5)
    · have hel' : ∀ j, j < ll → ∃ c0 c1 c2 c3 c4 c5, (∀ deep parts W', Below W.heap.size W W' → Calls Tryz.prog 61 #[.agg #[c0, c1, c2, c3, c4, c5], .int .i64 deep, .int .i64 parts] W' (LookPost W')) ∧
          W.cell? ⟨bk, off + j * 6, none⟩ = some c0 ∧ W.cell? ⟨bk, off + j * 6 + 1, none⟩ = some c1 ∧ W.cell? ⟨bk, off + j * 6 + 2, none⟩ = some c2 ∧ W.cell? ⟨bk, off + j * 6 + 3, none⟩ = some c3 ∧ W.cell? ⟨bk, off + j * 6 + 4, none⟩ = some c4 ∧ W.cell? ⟨bk, off + j * 6 + 5, none⟩ = some c5 := fun j hj => by
        obtain ⟨c0, c1, c2, c3, c4, c5, hc, e0, e1, e2, e3, e4, e5⟩ := hel j hj
        exact ⟨c0, c1, c2, c3, c4, c5, fun deep parts W' hW' => look_any n hc deep parts W' (hW.trans (hW'.mono hW.size)), below_at hW e0, below_at hW e1, below_at hW e2, below_at hW e3, below_at hW e4, below_at hW e5⟩
      by_cases h5 : k = 5
      · subst h5; exact look_five i b s bk off ll lc ka kl kc deep parts W _hkeys hm hel'
      · exact look_some k i b s bk off ll lc ka kl kc deep parts W _hkeys hm (by simpa using h5) hel'
end Go.Proofs
namespace Go.Proofs
open Go.RowKit (Below)
open Go.Am

noncomputable def sameArgs (k : Int) (b : Bool) (i : Int) (s : List Nat) (la : Option Addr) (ll lc : Nat) (ka : Option Addr) (kl kc : Nat) : List V :=
  [.agg [.int .i64 k, .bool b, .int .i64 i, .str s, .osl la ll lc, .osl ka kl kc], .agg [.int .i64 (.ofNat 0), .bool false, .int .i64 (.ofNat 0), .str [], .slc none 0 (some 0), .slc none 0 (some 0)]]

theorem same_run (k : Int) (b : Bool) (i : Int) (s : List Nat) (la : Option Addr) (ll lc : Nat) (ka : Option Addr) (kl kc : Nat) :
    isB ((mk Tryz.prog (fun _ => none) (fun _ => none) 30).call 35 (sameArgs k b i s la ll lc ka kl kc) st0) = true := by
  rcases k with (_ | _) | _ <;> cases b <;> rcases i with (_ | _) | _ <;> cases s <;> cases ll <;> cases kl <;> (show isB _ = true) <;> kernel_rfl

theorem VR_slices {β : BM} : VR β (.slc none 0 (some 0)) (.slice none 0 0) := by simp [VR]

theorem same_any (k i : Int) (b : Bool) (s : ByteArray) (la : Option Addr) (ll lc : Nat) (ka : Option Addr) (kl kc : Nat) (w : World) :
    Calls Tryz.prog 35 #[.agg #[.int .i64 k, .bool b, .int .i64 i, .string s, .slice la ll lc, .slice ka kl kc], .agg #[.int .i64 0, .bool false, .int .i64 0, .string ⟨#[]⟩, .slice none 0 0, .slice none 0 0]] w fun e w' => IsBool e ∧ Below w.heap.size w w' := by
  refine isBool_of_run tryz_fit (jkeep_true _) orc_none dorc_none (same_run k b i (s.data.toList.map UInt8.toNat) la ll lc ka kl kc) trivial ?_
  refine LR.cons ?_ (LR.cons ?_ (LR.nil _))
  · simp only [VR]
    refine ⟨_, rfl, ?_⟩
    exact LR.cons (by simp [VR]) (LR.cons (by simp [VR]) (LR.cons (by simp [VR]) (LR.cons (VR_string s) (LR.cons (by simp [VR]) (LR.cons (by simp [VR]) (LR.nil _))))))
  · simp only [VR]
    refine ⟨_, rfl, ?_⟩
    exact LR.cons (by simp [VR]) (LR.cons (by simp [VR]) (LR.cons (by simp [VR]) (LR.cons (VR_string ⟨#[]⟩) (LR.cons (by simp [VR]) (LR.cons (by simp [VR]) (LR.nil _))))))
end Go.Proofs
