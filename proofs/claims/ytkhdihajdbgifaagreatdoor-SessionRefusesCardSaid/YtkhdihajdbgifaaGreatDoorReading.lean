/-
  An argument that reads as a message is one, to any depth.
-/
import Derived.Test.YtkhdihajdbgifaaGreatDoorProg
import Derived.Test.YtkhdihajdbgifaaGreatDoorLook
import Derived.KernelRfl
import Derived.Deep.Slices
import Derived.Deep.Fields
import Derived.Deep.Strs
import Derived.ChangeSame
namespace Go.Proofs
open Go.RowKit Go.ChangeShapes Go.WideShapes Go.Deep

theorem cells25 : Tryz.prog.cellsOf 25 = 6 := by kernel_rfl
theorem cells27 : Tryz.prog.cellsOf 27 = 10 := by kernel_rfl
theorem cells2 : Tryz.prog.cellsOf 2 = 1 := by kernel_rfl
theorem cells3 : Tryz.prog.cellsOf 3 = 1 := by kernel_rfl
theorem cells4 : Tryz.prog.cellsOf 4 = 1 := by kernel_rfl
theorem cells9 : Tryz.prog.cellsOf 9 = 1 := by kernel_rfl
theorem cells22 : Tryz.prog.cellsOf 22 = 1 := by kernel_rfl
theorem cells23 : Tryz.prog.cellsOf 23 = 1 := by kernel_rfl

theorem ValOk.succ {w : World} : ∀ {n : Nat} {v : Value}, ValOk w n v → ValOk w (n + 1) v
  | 0, _, h => h.elim
  | n + 1, v, h => by
    unfold ValOk at h ⊢
    obtain ⟨k, i, b, s, la, ll, lc, ka, kl, kc, e, h1, h2, h3, h4⟩ := h
    refine ⟨k, i, b, s, la, ll, lc, ka, kl, kc, e, h1, h2, h3, ?_⟩
    rcases h4 with h4 | ⟨bk, off, e2, h4⟩
    · exact .inl h4
    · refine .inr ⟨bk, off, e2, fun j hj => ?_⟩
      obtain ⟨c0, c1, c2, c3, c4, c5, hv, hc⟩ := h4 j hj
      exact ⟨c0, c1, c2, c3, c4, c5, hv.succ, hc⟩

theorem add_plain {bk off : Nat} (n : Nat) : (⟨bk, off, none⟩ : Addr).add n = ⟨bk, off + n, none⟩ := by
  unfold Addr.add
  split
  · rename_i h; subst h; rfl
  · rfl
theorem spot_none {w : World} {a : Addr} {x : Value} (h : w.cell? a = some x) : a.spot = none := by
  unfold World.cell? at h
  split at h
  · split at h
    · cases h
    · rename_i hs; simpa using hs
  · cases h

section
variable {H : Type} {enc : TypeId × Value → H} {w : World}

theorem read_keys {fuel : Nat} {cs : List Value} {x : DataW H × List MemPlace} (h : DataW.trod enc Tryz.prog w 0 (fun _ => true) true fuel 23 cs = some x) : ∃ ka kl kc, cs = [.slice ka kl kc] ∧ KeysOk w ka kl ∧ kl ≤ kc := by
  rcases open_strs Tryz.underlying23 Tryz.underlying9 cells9 h with ⟨rfl, _⟩ | ⟨a, len, cap, m, Sx, rfl, _, hl, hm, hmm, _, hc⟩
  · exact ⟨none, 0, 0, rfl, ⟨Nat.zero_le _, .inl rfl⟩, Nat.le_refl _⟩
  · refine ⟨some a, len, cap, rfl, ⟨by omega, ?_⟩, hl⟩
    rcases Nat.eq_zero_or_pos len with h0 | h0
    · exact .inl h0
    · right
      rw [if_pos rfl] at hmm
      have hsp := spot_none (hc 0 (by omega)).1
      obtain ⟨bk, off, sp⟩ := a
      have : sp = none := by simpa [Addr.add] using hsp
      subst this
      exact ⟨bk, off, Sx, rfl, fun j hj => by rw [← add_plain]; exact (hc j (by omega)).1⟩

set_option maxRecDepth 100000 in
theorem read_val : ∀ (fuel : Nat) {cs : List Value} {x : DataW H × List MemPlace}, DataW.trod enc Tryz.prog w 0 (fun _ => true) true fuel 25 cs = some x →
    ∃ c0 c1 c2 c3 c4 c5, cs = [c0, c1, c2, c3, c4, c5] ∧ ValOk w fuel (.agg #[c0, c1, c2, c3, c4, c5]) := by
  intro fuel
  induction fuel using Nat.strongRecOn with
  | ind fuel ih =>
    intro cs x h
    obtain ⟨xs, n, rfl, _, hlen, hxl, hf⟩ := DataW.trod_struct Tryz.underlying25 h
    rw [cells25] at hlen
    have hxl : xs.length = 6 := hxl
    match cs, hlen with
    | [c0, c1, c2, c3, c4, c5], _ =>
      match xs, hxl with
      | [y0, y1, y2, y3, y4, y5], _ =>
        have f0 : DataW.trod enc Tryz.prog w 0 (fun _ => true) true n 3 (List.take (Tryz.prog.cellsOf 3) [c0, c1, c2, c3, c4, c5]) = some y0 := hf 0 _ rfl
        rw [cells3] at f0
        have g0 : DataW.trod enc Tryz.prog w 0 (fun _ => true) true n 3 [c0] = some y0 := f0
        have f1 : DataW.trod enc Tryz.prog w 0 (fun _ => true) true n 4 (List.take (Tryz.prog.cellsOf 4) [c1, c2, c3, c4, c5]) = some y1 := hf 1 _ rfl
        rw [cells4] at f1
        have g1 : DataW.trod enc Tryz.prog w 0 (fun _ => true) true n 4 [c1] = some y1 := f1
        have f2 : DataW.trod enc Tryz.prog w 0 (fun _ => true) true n 2 (List.take (Tryz.prog.cellsOf 2) [c2, c3, c4, c5]) = some y2 := hf 2 _ rfl
        rw [cells2] at f2
        have g2 : DataW.trod enc Tryz.prog w 0 (fun _ => true) true n 2 [c2] = some y2 := f2
        have f3 : DataW.trod enc Tryz.prog w 0 (fun _ => true) true n 9 (List.take (Tryz.prog.cellsOf 9) [c3, c4, c5]) = some y3 := hf 3 _ rfl
        rw [cells9] at f3
        have g3 : DataW.trod enc Tryz.prog w 0 (fun _ => true) true n 9 [c3] = some y3 := f3
        have f4 : DataW.trod enc Tryz.prog w 0 (fun _ => true) true n 22 (List.take (Tryz.prog.cellsOf 22) [c4, c5]) = some y4 := hf 4 _ rfl
        rw [cells22] at f4
        have g4 : DataW.trod enc Tryz.prog w 0 (fun _ => true) true n 22 [c4] = some y4 := f4
        have f5 : DataW.trod enc Tryz.prog w 0 (fun _ => true) true n 23 (List.take (Tryz.prog.cellsOf 23) [c5]) = some y5 := hf 5 _ rfl
        rw [cells23] at f5
        have g5 : DataW.trod enc Tryz.prog w 0 (fun _ => true) true n 23 [c5] = some y5 := f5
        obtain ⟨k, e0, _⟩ := DataW.trod_int Tryz.underlying3 g0
        obtain ⟨b, e1, _⟩ := DataW.trod_bool Tryz.underlying4 g1
        obtain ⟨i, e2, _⟩ := DataW.trod_int Tryz.underlying2 g2
        obtain ⟨s, e3, _⟩ := DataW.trod_string Tryz.underlying9 g3
        obtain ⟨ka, kl, kc, e5, hk, hkc⟩ := read_keys g5
        simp only [List.cons.injEq, and_true] at e0 e1 e2 e3 e5
        subst e0 e1 e2 e3 e5
        rcases DataW.trod_slice Tryz.underlying22 g4 with ⟨e4, _⟩ | ⟨a, len, cap, elems, rest, n2, rfl, e4, _, _, hl, hm, hel, he, _⟩
        · simp only [List.cons.injEq, and_true] at e4
          subst e4
          exact ⟨_, _, _, _, _, _, rfl, k, i, b, s, none, 0, 0, ka, kl, kc, rfl, hk, hkc, Nat.zero_le _, .inl rfl⟩
        · simp only [List.cons.injEq, and_true] at e4
          subst e4
          refine ⟨_, _, _, _, _, _, rfl, k, i, b, s, some a, len, cap, ka, kl, kc, rfl, hk, hkc, by omega, ?_⟩
          rcases Nat.eq_zero_or_pos len with h0 | h0
          · exact .inl h0
          · right
            have hat : ∀ j, j < len → ∃ c0 c1 c2 c3 c4 c5, ValOk w n2 (.agg #[c0, c1, c2, c3, c4, c5]) ∧ ∀ q, q < 6 → w.cell? ((a.add (j * 6)).add q) = [c0, c1, c2, c3, c4, c5][q]? := by
              intro j hj
              have hj2 := he j hj
              rw [List.getElem?_eq_getElem (by omega), cells25] at hj2
              obtain ⟨cs', hc', ht'⟩ := Option.bind_eq_some_iff.1 hj2
              obtain ⟨c0, c1, c2, c3, c4, c5, rfl, hv⟩ := ih n2 (by omega) ht'
              obtain ⟨_, _, hq⟩ := World.cells?_some hc'
              exact ⟨c0, c1, c2, c3, c4, c5, hv, hq⟩
            have hsp : a.spot = none := by
              obtain ⟨c0, _, _, _, _, _, _, hq⟩ := hat 0 h0
              have := spot_none ((hq 0 (by omega)).trans rfl)
              simpa [Addr.add] using this
            obtain ⟨bk, off, sp⟩ := a
            have : sp = none := hsp
            subst this
            refine ⟨bk, off, rfl, fun j hj => ?_⟩
            obtain ⟨c0, c1, c2, c3, c4, c5, hv, hq⟩ := hat j hj
            simp only [add_plain] at hq
            exact ⟨c0, c1, c2, c3, c4, c5, hv.succ, hq 0 (by omega), hq 1 (by omega), hq 2 (by omega), hq 3 (by omega), hq 4 (by omega), hq 5 (by omega)⟩

set_option maxRecDepth 100000 in
theorem read_msg {fuel : Nat} {cs : List Value} {x : DataW H × List MemPlace} (h : DataW.trod enc Tryz.prog w 0 (fun _ => true) true fuel 27 cs = some x) :
    ∃ (kd num k i : Int) (name text : ByteArray) (b : Bool) (s : ByteArray) (la : Option Addr) (ll lc : Nat) (ka : Option Addr) (kl kc n : Nat),
      cs = [.int .i64 kd, .string name, .string text, .int .i64 num, .int .i64 k, .bool b, .int .i64 i, .string s, .slice la ll lc, .slice ka kl kc] ∧
      ValOk w n (.agg #[.int .i64 k, .bool b, .int .i64 i, .string s, .slice la ll lc, .slice ka kl kc]) := by
  obtain ⟨xs, n, rfl, _, hlen, hxl, hf⟩ := DataW.trod_struct Tryz.underlying27 h
  rw [cells27] at hlen
  have hxl : xs.length = 5 := hxl
  match cs, hlen with
  | [c0, c1, c2, c3, c4, c5, c6, c7, c8, c9], _ =>
    match xs, hxl with
    | [y0, y1, y2, y3, y4], _ =>
      have f0 : DataW.trod enc Tryz.prog w 0 (fun _ => true) true n 3 (List.take (Tryz.prog.cellsOf 3) [c0, c1, c2, c3, c4, c5, c6, c7, c8, c9]) = some y0 := hf 0 _ rfl
      rw [cells3] at f0
      have g0 : DataW.trod enc Tryz.prog w 0 (fun _ => true) true n 3 [c0] = some y0 := f0
      have f1 : DataW.trod enc Tryz.prog w 0 (fun _ => true) true n 9 (List.take (Tryz.prog.cellsOf 9) [c1, c2, c3, c4, c5, c6, c7, c8, c9]) = some y1 := hf 1 _ rfl
      rw [cells9] at f1
      have g1 : DataW.trod enc Tryz.prog w 0 (fun _ => true) true n 9 [c1] = some y1 := f1
      have f2 : DataW.trod enc Tryz.prog w 0 (fun _ => true) true n 9 (List.take (Tryz.prog.cellsOf 9) [c2, c3, c4, c5, c6, c7, c8, c9]) = some y2 := hf 2 _ rfl
      rw [cells9] at f2
      have g2 : DataW.trod enc Tryz.prog w 0 (fun _ => true) true n 9 [c2] = some y2 := f2
      have f3 : DataW.trod enc Tryz.prog w 0 (fun _ => true) true n 2 (List.take (Tryz.prog.cellsOf 2) [c3, c4, c5, c6, c7, c8, c9]) = some y3 := hf 3 _ rfl
      rw [cells2] at f3
      have g3 : DataW.trod enc Tryz.prog w 0 (fun _ => true) true n 2 [c3] = some y3 := f3
      have f4 : DataW.trod enc Tryz.prog w 0 (fun _ => true) true n 25 (List.take (Tryz.prog.cellsOf 25) [c4, c5, c6, c7, c8, c9]) = some y4 := hf 4 _ rfl
      rw [cells25] at f4
      have g4 : DataW.trod enc Tryz.prog w 0 (fun _ => true) true n 25 [c4, c5, c6, c7, c8, c9] = some y4 := f4
      obtain ⟨kd, e0, _⟩ := DataW.trod_int Tryz.underlying3 g0
      obtain ⟨name, e1, _⟩ := DataW.trod_string Tryz.underlying9 g1
      obtain ⟨text, e2, _⟩ := DataW.trod_string Tryz.underlying9 g2
      obtain ⟨num, e3, _⟩ := DataW.trod_int Tryz.underlying2 g3
      obtain ⟨v0, v1, v2, v3, v4, v5, e4, hv⟩ := read_val _ g4
      simp only [List.cons.injEq, and_true] at e0 e1 e2 e3 e4
      obtain ⟨rfl, rfl, rfl, rfl, rfl, rfl⟩ := e4
      subst e0 e1 e2 e3
      cases n with
      | zero => exact hv.elim
      | succ n =>
        have hv2 := hv
        unfold ValOk at hv2
        obtain ⟨k, i, b, s, la, ll, lc, ka, kl, kc, e, _⟩ := hv2
        simp only [Value.agg.injEq] at e
        have e := congrArg Array.toList e
        simp only [List.cons.injEq, and_true] at e
        obtain ⟨rfl, rfl, rfl, rfl, rfl, rfl⟩ := e
        exact ⟨kd, num, k, i, name, text, b, s, la, ll, lc, ka, kl, kc, n + 1, rfl, hv⟩
end
end Go.Proofs
