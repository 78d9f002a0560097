/-
  Messages are checked with one of two answers; a session that is gone answers nothing.
-/
import Derived.Test.YtkhdihajdbgifaaGreatDoorLook
import Derived.Deep.DeepFit
namespace Go.Proofs
open Go.RowKit

def ErrnoIs (x : Int) (e : Ending) : Prop := e = .returned (.int .i64 0) ∨ e = .returned (.int .i64 x)
theorem errno0 (x : Int) : ErrnoIs x (.returned (.int .i64 0)) := .inl rfl
theorem errno1 (x : Int) : ErrnoIs x (.returned (.int .i64 x)) := .inr rfl

theorem ValOk.below {w : World} : ∀ {n : Nat} {v : Value}, ValOk w n v → ∀ {W : World}, Below w.heap.size w W → ValOk W n v
  | 0, _, h, _, _ => h.elim
  | n + 1, v, ⟨k, i, b, s, la, ll, lc, ka, kl, kc, hv, hk, hkc, hm, hl⟩, W, hW => by
    refine ⟨k, i, b, s, la, ll, lc, ka, kl, kc, hv, ⟨hk.1, hk.2.imp id fun ⟨b, off, Sx, h1, h2⟩ => ⟨b, off, Sx, h1, fun j hj => below_at hW (h2 j hj)⟩⟩, hkc, hm, hl.imp id fun ⟨bk, off, h1, h2⟩ => ⟨bk, off, h1, fun j hj => ?_⟩⟩
    obtain ⟨c0, c1, c2, c3, c4, c5, hc, e0, e1, e2, e3, e4, e5⟩ := h2 j hj
    exact ⟨c0, c1, c2, c3, c4, c5, hc.below hW, below_at hW e0, below_at hW e1, below_at hW e2, below_at hW e3, below_at hW e4, below_at hW e5⟩

set_option maxHeartbeats 400000 in
theorem valueCheck_any {n : Nat} {k i : Int} {b : Bool} {s : ByteArray} {la : Option Addr} {ll lc : Nat} {ka : Option Addr} {kl kc : Nat} {w : World}
    (h : ValOk w n (.agg #[.int .i64 k, .bool b, .int .i64 i, .string s, .slice la ll lc, .slice ka kl kc])) :
    Calls Tryz.prog 36 #[.agg #[.int .i64 k, .bool b, .int .i64 i, .string s, .slice la ll lc, .slice ka kl kc]] w fun e w' => ErrnoIs 20 e ∧ Below w.heap.size w w' := by
  have H := Lib.hid (look_any n h)
  clear h
  go_enter Tryz.func36, Tryz.ntmps36
  go_wp2_with (go_at_call 61; refine (H.out _ _ _ (below_alloc _ _)).mono ?_; rintro e w1 ⟨⟨m, t, rfl⟩, hb1⟩)
  all_goals first
    | (go_ret; exact ⟨errno0 _, below_box hb1⟩)
    | (go_ret; exact ⟨errno1 _, below_box hb1⟩)

def IsInt (e : Ending) : Prop := ∃ n : Int, e = .returned (.int .i64 n)
theorem isInt (n : Int) : IsInt (.returned (.int .i64 n)) := ⟨n, rfl⟩

def BoolPost (W : World) (e : Ending) (w' : World) : Prop := IsBool e ∧ Below W.heap.size W w'
def IntPost (W : World) (e : Ending) (w' : World) : Prop := IsInt e ∧ Below W.heap.size W w'

set_option maxRecDepth 100000 in
set_option maxHeartbeats 800000 in
theorem indexFunc_some (bk off ll lc : Nat) (w : World) (hm : ll ≤ maxLen)
    (hel : ∀ j, j < ll → ∃ c0 c1 c2 c3 c4 c5, (∀ W, Below w.heap.size w W → Calls Tryz.prog 63 #[.agg #[c0, c1, c2, c3, c4, c5]] W (BoolPost W)) ∧
        w.cell? ⟨bk, off + j * 6, none⟩ = some c0 ∧ w.cell? ⟨bk, off + j * 6 + 1, none⟩ = some c1 ∧ w.cell? ⟨bk, off + j * 6 + 2, none⟩ = some c2 ∧ w.cell? ⟨bk, off + j * 6 + 3, none⟩ = some c3 ∧ w.cell? ⟨bk, off + j * 6 + 4, none⟩ = some c4 ∧ w.cell? ⟨bk, off + j * 6 + 5, none⟩ = some c5) :
    Calls Tryz.prog 107 #[.slice (some ⟨bk, off, none⟩) ll lc, .func (.func 63) #[] #[]] w (IntPost w) := by
  unfold maxLen at hm
  go_enter Tryz.func107, Tryz.ntmps107
  go_wp2_with fail
  go_loopw [8] (fun x W => ∃ j : Nat, j ≤ ll ∧ x = .int .i64 j ∧ Below w.heap.size w W) (fun x W => ll - (intOf x).toNat)
  case atStart => exact ⟨0, Nat.zero_le _, rfl, Below.refl _ _⟩
  case round =>
    obtain ⟨j, hj, rfl, hBW⟩ := hrel
    have HB := Lib.hid hBW
    by_cases hlt : j < ll
    · obtain ⟨c0, c1, c2, c3, c4, c5, hcall, e0, e1, e2, e3, e4, e5⟩ := hel j hlt
      have g0 := below_at hBW e0
      have g1 := below_at hBW e1
      have g2 := below_at hBW e2
      have g3 := below_at hBW e3
      have g4 := below_at hBW e4
      have g5 := below_at hBW e5
      have HC := Lib.hid hcall
      clear hel e0 e1 e2 e3 e4 e5 hBW hcall
      go_wp2_with fail
      refine (HC.out _ HB.out).mono ?_
      rintro e w3 ⟨⟨t3, rfl⟩, hb3⟩
      have HB3 := Lib.hid hb3
      clear hb3
      cases t3 with
      | true =>
        go_wp2
        go_ret
        exact ⟨isInt _, HB.out.trans (HB3.out.mono HB.out.size)⟩
      | false =>
        go_wp2
        go_roundw
        case rel => exact ⟨j + 1, by omega, by go_num, HB.out.trans (HB3.out.mono HB.out.size)⟩
        case measure => simp [intOf]; omega
    · clear hel hBW
      go_wp2
      go_ret
      exact ⟨isInt _, HB.out⟩

theorem indexFunc_none (la : Option Addr) (lc : Nat) (f : Value) (w : World) : Calls Tryz.prog 107 #[.slice la 0 lc, f] w (IntPost w) := by
  go_enter Tryz.func107, Tryz.ntmps107
  go_wp2_with fail
  go_loopw [8] (fun x W => x = .int .i64 0 ∧ W = w) (fun x W => 0)
  case atStart => exact ⟨rfl, rfl⟩
  case round =>
    obtain ⟨rfl, rfl⟩ := hrel
    go_wp2
    go_ret
    exact ⟨isInt _, Below.refl _ _⟩

/-- A list of values in memory, so many levels deep. -/
def ListOk (w : World) (n : Nat) (la : Option Addr) (ll : Nat) : Prop :=
  ll ≤ maxLen ∧ (ll = 0 ∨ ∃ bk off, la = some ⟨bk, off, none⟩ ∧ ∀ j, j < ll → ∃ c0 c1 c2 c3 c4 c5, ValOk w n (.agg #[c0, c1, c2, c3, c4, c5]) ∧
        w.cell? ⟨bk, off + j * 6, none⟩ = some c0 ∧ w.cell? ⟨bk, off + j * 6 + 1, none⟩ = some c1 ∧ w.cell? ⟨bk, off + j * 6 + 2, none⟩ = some c2 ∧ w.cell? ⟨bk, off + j * 6 + 3, none⟩ = some c3 ∧ w.cell? ⟨bk, off + j * 6 + 4, none⟩ = some c4 ∧ w.cell? ⟨bk, off + j * 6 + 5, none⟩ = some c5)

theorem indexFunc_any {n : Nat} (hp : ∀ {w : World} {v : Value}, ValOk w n v → Calls Tryz.prog 63 #[v] w (BoolPost w)) {w : World} {la : Option Addr} {ll : Nat} (h : ListOk w n la ll) (lc : Nat) :
    Calls Tryz.prog 107 #[.slice la ll lc, .func (.func 63) #[] #[]] w (IntPost w) := by
  obtain ⟨hm, rfl | ⟨bk, off, rfl, hel⟩⟩ := h
  · exact indexFunc_none la lc _ w
  · refine indexFunc_some bk off ll lc w hm fun j hj => ?_
    obtain ⟨c0, c1, c2, c3, c4, c5, hc, es⟩ := hel j hj
    exact ⟨c0, c1, c2, c3, c4, c5, fun W hW => hp (hc.below hW), es⟩

theorem containsFunc_any {n : Nat} (hp : ∀ {w : World} {v : Value}, ValOk w n v → Calls Tryz.prog 63 #[v] w (BoolPost w)) {w : World} {la : Option Addr} {ll : Nat} (h : ListOk w n la ll) (lc : Nat) :
    Calls Tryz.prog 62 #[.slice la ll lc, .func (.func 63) #[] #[]] w (BoolPost w) := by
  have H := Lib.hid (indexFunc_any hp h lc)
  clear h hp
  go_enter Tryz.func62, Tryz.ntmps62
  go_wp2_with fail
  refine H.out.mono ?_
  rintro e w1 ⟨⟨m, rfl⟩, hb⟩
  have HB := Lib.hid hb
  clear hb
  go_wp2
  go_ret
  exact ⟨isBool _, HB.out⟩

theorem ListOk.below {w : World} {n : Nat} {la : Option Addr} {ll : Nat} (h : ListOk w n la ll) {W : World} (hW : Below w.heap.size w W) : ListOk W n la ll := by
  refine ⟨h.1, h.2.imp id fun ⟨bk, off, h1, h2⟩ => ⟨bk, off, h1, fun j hj => ?_⟩⟩
  obtain ⟨c0, c1, c2, c3, c4, c5, hc, e0, e1, e2, e3, e4, e5⟩ := h2 j hj
  exact ⟨c0, c1, c2, c3, c4, c5, hc.below hW, below_at hW e0, below_at hW e1, below_at hW e2, below_at hW e3, below_at hW e4, below_at hW e5⟩

theorem plain_step {n : Nat} (hp : ∀ {w : World} {v : Value}, ValOk w n v → Calls Tryz.prog 63 #[v] w (BoolPost w)) {k i : Int} {b : Bool} {s : ByteArray} {la : Option Addr} {ll lc : Nat} {ka : Option Addr} {kl kc : Nat} {w : World} (h : ListOk w n la ll) :
    Calls Tryz.prog 37 #[.agg #[.int .i64 k, .bool b, .int .i64 i, .string s, .slice la ll lc, .slice ka kl kc]] w (BoolPost w) := by
  have H : Hid (∀ W, Below w.heap.size w W → Calls Tryz.prog 62 #[.slice la ll lc, .func (.func 63) #[] #[]] W (BoolPost W)) := Lib.hid fun W hW => containsFunc_any hp (h.below hW) lc
  clear h hp
  go_enter Tryz.func37, Tryz.ntmps37
  go_wp2_with (go_at_call 62; refine (H.out _ (below_alloc _ _)).mono ?_; rintro e w1 ⟨⟨m, rfl⟩, hb1⟩)
  all_goals first
    | (go_ret; exact ⟨isBool _, below_box hb1⟩)
    | (go_ret; exact ⟨isBool _, below_alloc _ _⟩)

theorem plainClosure_step {w : World} {c0 c1 c2 c3 c4 c5 : Value} (hp : ∀ W, Below w.heap.size w W → Calls Tryz.prog 37 #[.agg #[c0, c1, c2, c3, c4, c5]] W (BoolPost W)) :
    Calls Tryz.prog 63 #[.agg #[c0, c1, c2, c3, c4, c5]] w (BoolPost w) := by
  have H := Lib.hid hp
  clear hp
  go_enter Tryz.func63, Tryz.ntmps63
  go_wp2_with (go_at_call 37; refine (H.out _ (below_alloc _ _)).mono ?_; rintro e w1 ⟨⟨m, rfl⟩, hb1⟩)
  go_ret
  exact ⟨isBool _, below_box hb1⟩

theorem plain_any : ∀ (n : Nat) {w : World} {v : Value}, ValOk w n v → Calls Tryz.prog 37 #[v] w (BoolPost w)
  | 0, _, _, h => h.elim
  | n + 1, w, v, ⟨k, i, b, s, la, ll, lc, ka, kl, kc, hv, hk, hkc, hm, hl⟩ => by
    subst hv
    refine plain_step (n := n) (fun {w v} h => ?_) ⟨hm, hl⟩
    match n, h with
    | m + 1, h =>
      have h' := h
      obtain ⟨k, i, b, s, la, ll, lc, ka, kl, kc, hv, _⟩ := h'
      subst hv
      exact plainClosure_step fun W hW => plain_any (m + 1) (h.below hW)

/-! msg's own -/
theorem calls_and {P : Program} {f : FuncId} {args : Array Value} {w : World} {R : Ending → World → Prop} (h : Calls P f args w R) : Calls P f args w R := h

set_option maxRecDepth 100000 in
set_option maxHeartbeats 800000 in
theorem msgPlain_same {k i : Int} {b : Bool} {s : ByteArray} {la : Option Addr} {ll lc : Nat} {ka : Option Addr} {kl kc : Nat} {w : World}
    (H1 : Hid (∀ W, Below w.heap.size w W → Calls Tryz.prog 36 #[.agg #[.int .i64 k, .bool b, .int .i64 i, .string s, .slice la ll lc, .slice ka kl kc]] W fun e w' => ErrnoIs 20 e ∧ Below W.heap.size W w'))
    (H2 : Hid (∀ W, Below w.heap.size w W → Calls Tryz.prog 37 #[.agg #[.int .i64 k, .bool b, .int .i64 i, .string s, .slice la ll lc, .slice ka kl kc]] W (BoolPost W))) :
    Calls Tryz.prog 24 #[.agg #[.int .i64 k, .bool b, .int .i64 i, .string s, .slice la ll lc, .slice ka kl kc], .int .i64 k] w (BoolPost w) := by
  go_enter Tryz.func24, Tryz.ntmps24
  go_wp2_with fail
  refine (H1.out _ (below_alloc _ _)).mono ?_
  rintro e w1 ⟨rfl | rfl, hb1⟩
  · have hc1 := boxCell hb1
    have HB1 := Lib.hid hb1
    clear hb1
    go_wp2_with fail
    refine (H2.out _ (below_box HB1.out)).mono ?_
    rintro e w2 ⟨⟨m, rfl⟩, hb2⟩
    have HB2 := Lib.hid hb2
    clear hb2 hc1
    go_wp2
    go_ret
    exact ⟨isBool _, (below_box HB1.out).trans (HB2.out.mono (below_box HB1.out).size)⟩
  · have HB1 := Lib.hid hb1
    clear hb1
    go_wp2
    go_ret
    exact ⟨isBool _, below_box HB1.out⟩

theorem msgPlain_other {k i : Int} {b : Bool} {s : ByteArray} {la : Option Addr} {ll lc : Nat} {ka : Option Addr} {kl kc : Nat} {w : World} (kind : Int) (hk : (k == kind) = false) :
    Calls Tryz.prog 24 #[.agg #[.int .i64 k, .bool b, .int .i64 i, .string s, .slice la ll lc, .slice ka kl kc], .int .i64 kind] w (BoolPost w) := by
  go_enter Tryz.func24, Tryz.ntmps24
  go_wp2
  go_ret
  exact ⟨isBool _, below_alloc _ _⟩

theorem msgPlain_any {n : Nat} {k i : Int} {b : Bool} {s : ByteArray} {la : Option Addr} {ll lc : Nat} {ka : Option Addr} {kl kc : Nat} {w : World} (kind : Int)
    (h : ValOk w n (.agg #[.int .i64 k, .bool b, .int .i64 i, .string s, .slice la ll lc, .slice ka kl kc])) :
    Calls Tryz.prog 24 #[.agg #[.int .i64 k, .bool b, .int .i64 i, .string s, .slice la ll lc, .slice ka kl kc], .int .i64 kind] w (BoolPost w) := by
  by_cases hk : k = kind
  · subst hk
    refine msgPlain_same (Lib.hid fun W hW => ?_) (Lib.hid fun W hW => ?_)
    · exact valueCheck_any (h.below hW)
    · exact plain_any n (h.below hW)
  · exact msgPlain_other kind (by simpa using hk)
end Go.Proofs
namespace Go.Proofs
open Go.RowKit

set_option maxRecDepth 100000 in
set_option maxHeartbeats 800000 in
theorem msgBare_any (isName isText isNum isVal : Bool) (kd num : Int) (name text : ByteArray) (k i : Int) (b : Bool) (s : ByteArray) (la : Option Addr) (ll lc : Nat) (ka : Option Addr) (kl kc : Nat) (w : World) :
    Calls Tryz.prog 23 #[.agg #[.int .i64 kd, .string name, .string text, .int .i64 num, .int .i64 k, .bool b, .int .i64 i, .string s, .slice la ll lc, .slice ka kl kc], .bool isName, .bool isText, .bool isNum, .bool isVal] w (BoolPost w) := by
  have H : Hid (∀ W, Calls Tryz.prog 35 #[.agg #[.int .i64 k, .bool b, .int .i64 i, .string s, .slice la ll lc, .slice ka kl kc], .agg #[.int .i64 0, .bool false, .int .i64 0, .string ⟨#[]⟩, .slice none 0 0, .slice none 0 0]] W (BoolPost W)) := by
    refine Lib.hid fun W => ?_
    exact same_any k i b s la ll lc ka kl kc W
  go_enter Tryz.func23, Tryz.ntmps23
  cases isName <;> cases isText <;> cases isNum <;> cases isVal
  all_goals
    go_wp2_with (go_at_call 35; refine (H.out _).mono ?_; rintro e w1 ⟨⟨m, rfl⟩, hb1⟩)
  all_goals first
    | (go_ret; exact ⟨isBool _, below_alloc _ _⟩)
    | (go_ret; exact ⟨isBool _, below_box hb1⟩)
end Go.Proofs
namespace Go.Proofs
open Go.RowKit (Below)
open Go.Am

/-- A number below seven, and a bool. -/
noncomputable def partV (v : V) : Bool := match v with | .tup [.int .i64 (.ofNat n), .bool _] => Nat.blt n 7 | _ => false
noncomputable def isPart (x : Option (V × St)) : Bool := Option.rec false (fun p => partV p.1) x
theorem isPart_some {x : Option (V × St)} (h : isPart x = true) : ∃ (n : Nat) (b : Bool) (σ : St), n < 7 ∧ x = some (.tup [.int .i64 n, .bool b], σ) := by
  cases x with
  | none => cases h
  | some p =>
    obtain ⟨v, σ⟩ := p
    have h : partV v = true := h
    unfold partV at h
    split at h
    · exact ⟨_, _, σ, Nat.le_of_ble_eq_true h, rfl⟩
    · cases h

theorem parts_run (k : Int) : isPart ((mk Tryz.prog (fun _ => none) (fun _ => none) 20).call 22 [.int .i64 k] st0) = true := by
  rcases k with n | n
  · rcases n with _ | _ | _ | _ | _ | _ | _ | _ | _ | _ | _ | _ | _ | _ | _ | _ | _ | _ | _ | _ | n <;> (show isPart _ = true) <;> kernel_rfl
  · show isPart _ = true
    kernel_rfl

theorem parts_any (k : Int) (w : World) : Calls Tryz.prog 22 #[.int .i64 k] w fun e w' => (∃ (n : Nat) (b : Bool), n < 7 ∧ e = .returned (.tuple #[.int .i64 n, .bool b])) ∧ Below w.heap.size w w' := by
  obtain ⟨n, b, σ, hn, hr⟩ := isPart_some (parts_run k)
  refine (calls_of_run tryz_fit (jkeep_true _) orc_none dorc_none hr trivial (args' := #[.int .i64 k]) (LR.cons (by simp [VR]) (LR.nil _))).mono fun e w' ⟨x, β', he, hv, hb⟩ => ⟨⟨n, b, hn, ?_⟩, hb⟩
  simp only [VR] at hv
  obtain ⟨vs, rfl, hl⟩ := hv
  have : vs = #[.int .i64 n, .bool b] := by
    simp only [LR, VR] at hl
    obtain ⟨x1, xs1, h1, rfl, x2, xs2, rfl, rfl, rfl⟩ := hl
    have := congrArg List.toArray h1
    simpa using this
  rw [he, this]
end Go.Proofs
namespace Go.Proofs
open Go.RowKit

def CheckPost (W : World) (e : Ending) (w' : World) : Prop := ErrnoIs 9 e ∧ Below W.heap.size W w'

set_option maxRecDepth 100000 in
set_option maxHeartbeats 1600000 in
theorem msgCheck_walk (kd num : Int) (name text : ByteArray) (k i : Int) (b : Bool) (s : ByteArray) (la : Option Addr) (ll lc : Nat) (ka : Option Addr) (kl kc : Nat) (w : World)
    (H23 : Hid (∀ W x1 x2 x3 x4, Calls Tryz.prog 23 #[.agg #[.int .i64 kd, .string name, .string text, .int .i64 num, .int .i64 k, .bool b, .int .i64 i, .string s, .slice la ll lc, .slice ka kl kc], .bool x1, .bool x2, .bool x3, .bool x4] W (BoolPost W)))
    (H24 : Hid (∀ W kind, Below w.heap.size w W → Calls Tryz.prog 24 #[.agg #[.int .i64 k, .bool b, .int .i64 i, .string s, .slice la ll lc, .slice ka kl kc], .int .i64 kind] W (BoolPost W)))
    (H22 : Hid (∀ W, Calls Tryz.prog 22 #[.int .i64 kd] W fun e w' => (∃ (n : Nat) (b : Bool), n < 7 ∧ e = .returned (.tuple #[.int .i64 n, .bool b])) ∧ Below W.heap.size W w')) :
    Calls Tryz.prog 13 #[.agg #[.int .i64 kd, .string name, .string text, .int .i64 num, .int .i64 k, .bool b, .int .i64 i, .string s, .slice la ll lc, .slice ka kl kc]] w (CheckPost w) := by
  go_enter Tryz.func13, Tryz.ntmps13
  go_wp2_with fail
  refine (H22.out _).mono ?_
  rintro e w1 ⟨⟨n, ok, hn, rfl⟩, hb1⟩
  have hc1 := boxCell hb1
  have hcase : n = 0 ∨ n = 1 ∨ n = 2 ∨ n = 3 ∨ n = 4 ∨ n = 5 ∨ n = 6 := by omega
  rcases hcase with rfl | rfl | rfl | rfl | rfl | rfl | rfl
  all_goals
    have HB1 := Lib.hid hb1
    clear hb1 hn
    go_wp2_with (first
      | (go_at_call 23; refine (H23.out _ _ _ _ _).mono ?_; rintro e w2 ⟨⟨m2, rfl⟩, hb2⟩; have HB2 := Lib.hid (HB1.out.trans (hb2.mono HB1.out.size)); have hc2 := boxCell HB2.out; clear hb2)
      | (go_at_call 24; refine (H24.out _ _ (below_box HB2.out)).mono ?_; rintro e w3 ⟨⟨m3, rfl⟩, hb3⟩; have HB3 := Lib.hid (HB2.out.trans (hb3.mono HB2.out.size)); clear hb3))
  all_goals first
    | (go_ret; exact ⟨errno0 _, below_box HB3.out⟩)
    | (go_ret; exact ⟨errno1 _, below_box HB3.out⟩)
    | (go_ret; exact ⟨errno0 _, below_box HB2.out⟩)
    | (go_ret; exact ⟨errno1 _, below_box HB2.out⟩)
    | (go_ret; exact ⟨errno0 _, below_box HB1.out⟩)
    | (go_ret; exact ⟨errno1 _, below_box HB1.out⟩)

theorem msgCheck_any {n : Nat} (kd num : Int) (name text : ByteArray) {k i : Int} {b : Bool} {s : ByteArray} {la : Option Addr} {ll lc : Nat} {ka : Option Addr} {kl kc : Nat} {w : World}
    (h : ValOk w n (.agg #[.int .i64 k, .bool b, .int .i64 i, .string s, .slice la ll lc, .slice ka kl kc])) :
    Calls Tryz.prog 13 #[.agg #[.int .i64 kd, .string name, .string text, .int .i64 num, .int .i64 k, .bool b, .int .i64 i, .string s, .slice la ll lc, .slice ka kl kc]] w (CheckPost w) := by
  refine msgCheck_walk kd num name text k i b s la ll lc ka kl kc w (Lib.hid fun W x1 x2 x3 x4 => ?_) (Lib.hid fun W kind hW => ?_) (Lib.hid fun W => ?_)
  · exact msgBare_any x1 x2 x3 x4 kd num name text k i b s la ll lc ka kl kc W
  · exact msgPlain_any kind (h.below hW)
  · exact parts_any kd W
end Go.Proofs
namespace Go.Proofs
open Go.RowKit (Below)
open Go.Am

theorem request_run (k : Int) : isB ((mk Tryz.prog (fun _ => none) (fun _ => none) 20).call 14 [.int .i64 k] st0) = true := by
  rcases k with n | n
  · rcases n with _ | _ | _ | _ | _ | _ | _ | _ | _ | n <;> (show isB _ = true) <;> kernel_rfl
  · show isB _ = true
    kernel_rfl

theorem request_any (k : Int) (w : World) : Calls Tryz.prog 14 #[.int .i64 k] w fun e w' => IsBool e ∧ Below w.heap.size w w' :=
  isBool_of_run tryz_fit (jkeep_true _) orc_none dorc_none (request_run k) trivial (args' := #[.int .i64 k]) (LR.cons (by simp [VR]) (LR.nil _))
end Go.Proofs
namespace Go.Proofs
open Go.RowKit

set_option maxRecDepth 100000 in
set_option maxHeartbeats 1600000 in
theorem handle_walk (tb o : Nat) (kd num : Int) (name text : ByteArray) (k i : Int) (b : Bool) (s : ByteArray) (la : Option Addr) (ll lc : Nat) (ka : Option Addr) (kl kc : Nat) (w : World)
    (ht : tb < w.heap.size) (hg : w.cell? ⟨tb, o + 1, none⟩ = some (.int .i64 4))
    (H13 : Hid (∀ W, Below w.heap.size w W → Calls Tryz.prog 13 #[.agg #[.int .i64 kd, .string name, .string text, .int .i64 num, .int .i64 k, .bool b, .int .i64 i, .string s, .slice la ll lc, .slice ka kl kc]] W (CheckPost W)))
    (H14 : Hid (∀ W, Calls Tryz.prog 14 #[.int .i64 kd] W fun e w' => IsBool e ∧ Below W.heap.size W w')) :
    Calls Tryz.prog 7 #[.pointer (some ⟨tb, o, none⟩), .agg #[.int .i64 kd, .string name, .string text, .int .i64 num, .int .i64 k, .bool b, .int .i64 i, .string s, .slice la ll lc, .slice ka kl kc]] w fun e w' =>
      e = .returned (.slice none 0 0) ∧ Below w.heap.size w w' := by
  go_enter Tryz.func7, Tryz.ntmps7
  go_wp2_with fail
  refine (H13.out _ (below_alloc w _)).mono ?_
  rintro e w1 ⟨hE, hb1⟩
  have hc1 := boxCell hb1
  have hg1 : w1.cell? ⟨tb, o + 1, none⟩ = some (.int .i64 4) := by rw [(below_box hb1).cell ht]; exact hg
  rcases hE with rfl | rfl
  · go_wp2_with (go_at_call 14; refine (H14.out _).mono ?_; rintro e w2 ⟨⟨t, rfl⟩, hb2⟩; have hg2 : w2.cell? ⟨tb, o + 1, none⟩ = some (.int .i64 4) := by (rw [hb2.cell (Nat.lt_of_lt_of_le ht (below_box hb1).size)]; exact hg1))
    all_goals (go_ret; exact ⟨rfl, (below_box hb1).trans (hb2.mono (below_box hb1).size)⟩)
  · go_wp2
    go_ret
    exact ⟨rfl, below_box hb1⟩
end Go.Proofs
