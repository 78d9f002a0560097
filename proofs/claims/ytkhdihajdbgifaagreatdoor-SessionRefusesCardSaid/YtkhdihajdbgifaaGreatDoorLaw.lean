/-
  The law SessionRefuses answers true for every message that can be read; nothing that was there turns.
-/
import Derived.Test.YtkhdihajdbgifaaGreatDoorOver
namespace Go.Proofs
open Go.RowKit (Below)
open Go.Am

theorem new_parts : ∃ σ, M0.call 4 [.ptr none] st0 = some (.tup [.ptr none, .int .i64 20], σ) := by
  have h := new_run
  unfold newNil at h
  split at h
  · rename_i v σ e
    have := natIs_some h; subst this
    exact ⟨σ, e⟩
  · cases h
theorem twoPtr_some {v : V} {ab : (Nat × Nat) × (Nat × Nat)} (h : twoPtr v = some ab) : v = .tup [.ptr (some ab.1), .ptr (some ab.2)] := by
  unfold twoPtr at h
  split at h
  · cases h; rfl
  · cases h
theorem isUnit_eq {v : V} (h : isUnit v = true) : v = .tup [] := by
  unfold isUnit at h
  split at h
  · rfl
  · cases h

structure Gone (a b : Nat × Nat) (σ1 σ2 σ3 σ4 : St) : Prop where
  h5 : M0.call 5 [] st0 = some (.tup [.ptr (some a), .ptr (some b)], σ1)
  h6 : M0.call 6 [.ptr (some a)] σ1 = some (.tup [], σ2)
  hc : readCell σ2 (a.1, a.2 + 1) = some (.int .i64 4)
  h8 : M0.call 8 [.ptr (some a)] σ2 = some (.int .i64 4, σ3)
  h9 : M0.call 9 [.ptr (some b)] σ3 = some (.int .i64 0, σ4)

theorem gone_parts : ∃ a b σ1 σ2 σ3 σ4, Gone a b σ1 σ2 σ3 σ4 := by
  have h := gone_run
  unfold gone at h
  cases h5 : M0.call 5 [] st0 with
  | none => rw [h5] at h; cases h
  | some p =>
    obtain ⟨v5, σ1⟩ := p
    rw [h5] at h
    cases hab : twoPtr v5 with
    | none => simp only [hab] at h; cases h
    | some ab =>
      simp only [hab] at h
      have := twoPtr_some hab; subst this
      cases h6 : M0.call 6 [.ptr (some ab.1)] σ1 with
      | none => simp only [h6] at h; cases h
      | some p =>
        obtain ⟨v6, σ2⟩ := p
        simp only [h6, Bool.and_eq_true] at h
        obtain ⟨⟨hu, hr⟩, h⟩ := h
        have := isUnit_eq hu; subst this
        cases hc : readCell σ2 (ab.1.1, ab.1.2 + 1) with
        | none => simp only [hc] at hr; cases hr
        | some c =>
          simp only [hc] at hr
          have := natIs_some hr; subst this
          cases h8 : M0.call 8 [.ptr (some ab.1)] σ2 with
          | none => simp only [h8] at h; cases h
          | some p =>
            obtain ⟨v8, σ3⟩ := p
            simp only [h8, Bool.and_eq_true] at h
            obtain ⟨h4, h⟩ := h
            have := natIs_some h4; subst this
            cases h9 : M0.call 9 [.ptr (some ab.2)] σ3 with
            | none => simp only [h9] at h; cases h
            | some p =>
              obtain ⟨v9, σ4⟩ := p
              simp only [h9] at h
              have := natIs_some h; subst this
              exact ⟨ab.1, ab.2, σ1, σ2, σ3, σ4, h5, h6, hc, h8, h9⟩

theorem Base.of_below {w0 w : World} (h : Below w0.heap.size w0 w) : Base w0 (fun _ => none) w := ⟨h.size, h.block, fun b i e => by cases e⟩
theorem M0_sound {w0 : World} {m : Int} (hm : w0.cell? ⟨0, 0, none⟩ = some (.int .i64 m)) : RecOk Tryz.prog (Base w0) M0 := mk_sound tryz_fit (base_keep w0) (orc_ok hm) dorc_ok 60

/-- session.New(nil): no session, an error. -/
theorem new_nil {w0 w : World} {m : Int} (hm : w0.cell? ⟨0, 0, none⟩ = some (.int .i64 m)) (hb : Below w0.heap.size w0 w) :
    Calls Tryz.prog 4 #[.pointer none] w fun e w' => e = .returned (.tuple #[.pointer none, .int .i64 20]) ∧ Below w.heap.size w w' := by
  obtain ⟨σ, h⟩ := new_parts
  refine (callsIn_wide.1 (((M0_sound hm).call _ _ _ _ _ h).2 _ w #[.pointer none] (st0_rel w) (Base.of_below hb) (LR.cons (by simp [VR]) (LR.nil _)))).mono fun e w' ⟨x, β', he, hv, hg⟩ => ⟨?_, hg.below⟩
  simp only [VR, LR] at hv
  obtain ⟨vs, rfl, x1, xs, e1, rfl, x2, ys, rfl, rfl, rfl⟩ := hv
  rw [he]
  have := congrArg List.toArray e1
  simp at this
  rw [this]

/-- A place of the walk: the abstract state σ, of which the walk's two pointers tell. -/
structure Stage (w0 w1 : World) (a b : Nat × Nat) (σ : St) (t d : Addr) (w : World) : Prop where
  ex : ∃ β, Go.Am.Good Tryz.prog (fun _ => none) st0 w1 β σ w ∧ Base w0 β w ∧ PtrR β a t ∧ PtrR β b d

theorem Stage.below {w0 w1 : World} {a b : Nat × Nat} {σ : St} {t d : Addr} {w : World} (h : Stage w0 w1 a b σ t d w) : Below w1.heap.size w1 w :=
  let ⟨⟨_, hg, _⟩⟩ := h
  hg.below
theorem Stage.turn {w0 w1 : World} {a b : Nat × Nat} {σ : St} {t d : Addr} {w w' : World} (h : Stage w0 w1 a b σ t d w) (hb : Below w.heap.size w w') : Stage w0 w1 a b σ t d w' := by
  obtain ⟨⟨β, hg, hB, ht, hd⟩⟩ := h
  have g2 := Go.Am.Good.of_below hg.rel hb
  exact ⟨⟨β, hg.trans g2, base_keep w0 _ _ _ _ _ _ g2 hB, ht, hd⟩⟩
theorem Stage.start {w0 w : World} (hb : Below w0.heap.size w0 w) : Base w0 (fun _ => none) w := Base.of_below hb

theorem stage_over {w0 w : World} {m : Int} {a b : Nat × Nat} {σ1 σ2 σ3 σ4 : St} (g : Gone a b σ1 σ2 σ3 σ4) (hm : w0.cell? ⟨0, 0, none⟩ = some (.int .i64 m)) (hb : Below w0.heap.size w0 w) :
    Calls Tryz.prog 5 #[] w fun e w' => ∃ t d, e = .returned (.tuple #[.pointer (some t), .pointer (some d)]) ∧ Stage w0 w a b σ1 t d w' := by
  refine (callsIn_wide.1 (((M0_sound hm).call _ _ _ _ _ g.h5).2 _ w #[] (st0_rel w) (Base.of_below hb) (LR.nil _))).mono fun e w' ⟨x, β', he, hv, hg⟩ => ?_
  simp only [VR, LR] at hv
  obtain ⟨vs, rfl, x1, xs, e1, ⟨t, rfl, ht⟩, x2, ys, rfl, ⟨d, rfl, hd⟩, rfl⟩ := hv
  refine ⟨t, d, ?_, ⟨⟨β', hg, base_keep w0 _ _ _ _ _ _ hg (Base.of_below hb), ht, hd⟩⟩⟩
  rw [he]
  have := congrArg List.toArray e1
  simp at this
  rw [this]

theorem stage_step {w0 w1 w : World} {m : Int} {a b : Nat × Nat} {σ σ' : St} {t d : Addr} {f : FuncId} {v : V} {X : Value} (hm : w0.cell? ⟨0, 0, none⟩ = some (.int .i64 m)) (hs : Stage w0 w1 a b σ t d w)
    {c : Nat × Nat} {p : Addr} (hp : (c = a ∧ p = t) ∨ (c = b ∧ p = d)) (hv : ∀ β x, VR β v x → x = X) (h : M0.call f [.ptr (some c)] σ = some (v, σ')) :
    Calls Tryz.prog f #[.pointer (some p)] w fun e w' => e = .returned X ∧ Stage w0 w1 a b σ' t d w' := by
  obtain ⟨⟨β, hg, hB, ht, hd⟩⟩ := hs
  have hpr : PtrR β c p := by rcases hp with ⟨rfl, rfl⟩ | ⟨rfl, rfl⟩ <;> assumption
  refine (callsIn_wide.1 (((M0_sound hm).call _ _ _ _ _ h).2 β w #[.pointer (some p)] hg.rel hB (LR.cons (by simp only [VR]; exact ⟨p, rfl, hpr⟩) (LR.nil _)))).mono fun e w' ⟨x, β', he, hx, hg2⟩ => ?_
  have := hv _ _ hx; subst this
  exact ⟨he, ⟨⟨β', hg.trans hg2, base_keep w0 _ _ _ _ _ _ hg2 hB, ht.mono hg2.ext, hd.mono hg2.ext⟩⟩⟩

theorem stage_gone {w0 w1 w : World} {a b : Nat × Nat} {σ : St} {t d : Addr} (hs : Stage w0 w1 a b σ t d w) (hc : readCell σ (a.1, a.2 + 1) = some (.int .i64 4)) :
    ∃ tb o, t = ⟨tb, o, none⟩ ∧ tb < w.heap.size ∧ w.cell? ⟨tb, o + 1, none⟩ = some (.int .i64 4) := by
  obtain ⟨⟨β, hg, hB, ⟨i, hi, rfl⟩, hd⟩⟩ := hs
  obtain ⟨x, hx, hv⟩ := hg.rel.readCell hc hi
  simp only [VR] at hv
  subst hv
  exact ⟨i.blk, i.off + a.2, rfl, hg.rel.lt hi, hx⟩
end Go.Proofs
namespace Go.Proofs
open Go.RowKit

set_option maxRecDepth 100000 in
set_option maxHeartbeats 1600000 in
theorem law_walk (kd num : Int) (name text : ByteArray) (k i : Int) (b : Bool) (s : ByteArray) (la : Option Addr) (ll lc : Nat) (ka : Option Addr) (kl kc : Nat) (w : World) (a1 a2 : Nat × Nat) (σ1 σ2 σ3 σ4 : Go.Am.St)
    (H4 : Hid (∀ W, Below w.heap.size w W → Calls Tryz.prog 4 #[.pointer none] W fun e w' => e = .returned (.tuple #[.pointer none, .int .i64 20]) ∧ Below W.heap.size W w'))
    (H5 : Hid (∀ W, Below w.heap.size w W → Calls Tryz.prog 5 #[] W fun e w' => ∃ t d, e = .returned (.tuple #[.pointer (some t), .pointer (some d)]) ∧ Stage w W a1 a2 σ1 t d w'))
    (H6 : Hid (∀ W1 W t d, Stage w W1 a1 a2 σ1 t d W → Calls Tryz.prog 6 #[.pointer (some t)] W fun e w' => e = .returned (.tuple #[]) ∧ Stage w W1 a1 a2 σ2 t d w'))
    (H7 : Hid (∀ W1 W t d, Below w.heap.size w W1 → Stage w W1 a1 a2 σ2 t d W → Calls Tryz.prog 7 #[.pointer (some t), .agg #[.int .i64 kd, .string name, .string text, .int .i64 num, .int .i64 k, .bool b, .int .i64 i, .string s, .slice la ll lc, .slice ka kl kc]] W fun e w' => e = .returned (.slice none 0 0) ∧ Stage w W1 a1 a2 σ2 t d w'))
    (H8 : Hid (∀ W1 W t d, Stage w W1 a1 a2 σ2 t d W → Calls Tryz.prog 8 #[.pointer (some t)] W fun e w' => e = .returned (.int .i64 4) ∧ Stage w W1 a1 a2 σ3 t d w'))
    (H9 : Hid (∀ W1 W t d, Stage w W1 a1 a2 σ3 t d W → Calls Tryz.prog 9 #[.pointer (some d)] W fun e w' => e = .returned (.int .i64 0) ∧ Stage w W1 a1 a2 σ4 t d w'))
    (H10 : Hid (∀ W, Below w.heap.size w W → Calls Tryz.prog 10 #[] W fun e w' => e = .returned (.bool true) ∧ Below W.heap.size W w')) :
    Calls Tryz.prog 3 #[.agg #[.int .i64 kd, .string name, .string text, .int .i64 num, .int .i64 k, .bool b, .int .i64 i, .string s, .slice la ll lc, .slice ka kl kc]] w fun e w' =>
      e = .returned (.bool true) ∧ Below w.heap.size w w' := by
  go_enter Tryz.func3, Tryz.ntmps3
  go_wp2_with fail
  refine (H4.out _ (below_alloc w _)).mono ?_
  rintro e w1 ⟨rfl, hb1⟩
  have HB1 := Lib.hid hb1
  clear hb1
  go_wp2_with fail
  refine (H5.out _ (below_box HB1.out)).mono ?_
  rintro e w2 ⟨t, d, rfl, hs2⟩
  have HS2 := Lib.hid hs2
  clear hs2
  go_wp2_with fail
  refine (H6.out _ _ _ _ HS2.out).mono ?_
  rintro e w3 ⟨rfl, hs3⟩
  have hc3 := boxCell (HB1.out.trans (hs3.below.mono HB1.out.size))
  have HS3 := Lib.hid hs3
  clear hs3
  go_wp2_with fail
  refine (H7.out _ _ _ _ (below_box HB1.out) HS3.out).mono ?_
  rintro e w4 ⟨rfl, hs4⟩
  have HS4 := Lib.hid hs4
  clear hs4
  go_wp2_with fail
  refine (H8.out _ _ _ _ HS4.out).mono ?_
  rintro e w5 ⟨rfl, hs5⟩
  have HS5 := Lib.hid hs5
  clear hs5
  go_wp2_with fail
  refine (H9.out _ _ _ _ HS5.out).mono ?_
  rintro e w6 ⟨rfl, hs6⟩
  have HB6 := Lib.hid (below_box (HB1.out.trans (hs6.below.mono HB1.out.size)))
  clear hs6
  go_wp2_with fail
  refine (H10.out _ HB6.out).mono ?_
  rintro e w7 ⟨rfl, hb7⟩
  have HB7 := Lib.hid (HB6.out.trans (hb7.mono HB6.out.size))
  clear hb7
  go_wp2_with fail
  go_ret
  exact ⟨rfl, HB7.out⟩

/-- WITHOUT A GRAPH THERE IS NO SESSION: the law answers true, whatever the message; nothing that was there turns. -/
theorem law_true {n : Nat} (kd num : Int) (name text : ByteArray) {k i : Int} {b : Bool} {s : ByteArray} {la : Option Addr} {ll lc : Nat} {ka : Option Addr} {kl kc : Nat} {w : World} {m : Int}
    (h : ValOk w n (.agg #[.int .i64 k, .bool b, .int .i64 i, .string s, .slice la ll lc, .slice ka kl kc])) (hm : w.cell? ⟨0, 0, none⟩ = some (.int .i64 m)) :
    Calls Tryz.prog 3 #[.agg #[.int .i64 kd, .string name, .string text, .int .i64 num, .int .i64 k, .bool b, .int .i64 i, .string s, .slice la ll lc, .slice ka kl kc]] w fun e w' =>
      e = .returned (.bool true) ∧ Below w.heap.size w w' := by
  obtain ⟨a1, a2, σ1, σ2, σ3, σ4, g⟩ := gone_parts
  refine law_walk kd num name text k i b s la ll lc ka kl kc w a1 a2 σ1 σ2 σ3 σ4 (Lib.hid fun W hW => new_nil hm hW) (Lib.hid fun W hW => stage_over g hm hW) (Lib.hid fun W1 W t d hs => stage_step hm hs (.inl ⟨rfl, rfl⟩) ?_ g.h6)
    (Lib.hid fun W1 W t d h1 hs => ?_) (Lib.hid fun W1 W t d hs => stage_step hm hs (.inl ⟨rfl, rfl⟩) ?_ g.h8) (Lib.hid fun W1 W t d hs => stage_step hm hs (.inr ⟨rfl, rfl⟩) ?_ g.h9) (Lib.hid fun W hW => works_true hm (Base.of_below hW))
  · intro β x hx
    simp only [Go.Am.VR, Go.Am.LR] at hx
    obtain ⟨vs, rfl, e⟩ := hx
    have := congrArg List.toArray e
    simp at this
    rw [this]
  · obtain ⟨tb, o, rfl, htb, hcell⟩ := stage_gone hs g.hc
    have hW := h1.trans (hs.below.mono h1.size)
    refine (handle_walk tb o kd num name text k i b s la ll lc ka kl kc W htb hcell (Lib.hid fun W' hW' => ?_) (Lib.hid fun W' => request_any kd W')).mono fun e w' ⟨he, hb⟩ => ⟨he, hs.turn hb⟩
    exact msgCheck_any kd num name text ((h.below hW).below hW')
  · intro β x hx; simpa only [Go.Am.VR] using hx
  · intro β x hx; simpa only [Go.Am.VR] using hx
end Go.Proofs
