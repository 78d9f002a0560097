/-
  What is known of the library calls and of the deferred call.
-/
import Derived.Test.YtkhdihajdbgifaaGreatDoorProg
import Derived.RecoverIn
import Derived.TacticsInMore
import Derived.WalkKit
import Derived.Test.YtkhdihajdbgifaaGreatDoorBare
import Derived.Test.YtkhdihajdbgifaaGreatDoorLaid
namespace Go.Proofs

theorem catch_idle (x y z : Value) (w : World) :
    CallsDIn Fence.wide 0 Tryz.prog 70 #[x, y, z] .returning w fun e u' w' => e = .returned (.tuple #[]) ∧ u' = .returning ∧ w' = w := by
  refine callsDIn_of_wpSIn Tryz.func70 rfl trivial fun c₀ cs hu => ?_
  apply wpSIn_seq
  apply wpSIn_region
  simp [wpOpsSIn, go_sem, recoverD, hu, Tryz.ntmps70, Exit.thenS, Fence.wide]
  apply wpSIn_seq
  apply wpSIn_region
  simp [wpOpsSIn, go_sem, Exit.thenS]
  refine wpSIn_cond (t := false) (by simp [Act.eval, Array.replicate]) ?_
  simp only [Bool.false_eq_true, if_false]
  refine wpSIn_of_wpIn rfl (wpIn_skip ?_)
  cases c₀
  simp_all [bodyPostS, results, Tryz.results70]
end Go.Proofs
namespace Go.Proofs
open Go.RowKit (Below)
open Go.Am

/-- The first place of t in s, or -1. -/
def idx (s t : List Nat) (i : Nat) : Int := match s with
  | [] => bif t.isEmpty then i else -1
  | a :: r => bif t.isPrefixOf (a :: r) then i else idx r t (i + 1)

theorem isPrefixOf_map : ∀ (a b : List UInt8), (a.map UInt8.toNat).isPrefixOf (b.map UInt8.toNat) = a.isPrefixOf b
  | [], _ => by simp
  | _ :: _, [] => by simp
  | x :: a, y :: b => by
    have h := isPrefixOf_map a b
    have hxy : (x.toNat == y.toNat) = (x == y) := by
      rw [Bool.eq_iff_iff]; simp [UInt8.toNat_inj]
    simp only [List.map_cons, List.isPrefixOf, h, hxy]

theorem idx_eq : ∀ (s t : List UInt8) (i : Nat), idx (s.map UInt8.toNat) (t.map UInt8.toNat) i = if Lib.index s t = -1 then -1 else Lib.index s t + i
  | [], t, i => by
    cases t with
    | nil => simp [idx, Lib.index]
    | cons x t => simp [idx, Lib.index]
  | a :: r, t, i => by
    have ih := idx_eq r t (i + 1)
    have hg := Lib.index_ge r t
    have hp := isPrefixOf_map t (a :: r)
    simp only [List.map_cons] at hp
    simp only [List.map_cons, idx, hp, Lib.index, ih]
    by_cases hP : t.isPrefixOf (a :: r) = true
    · simp [hP]
    · simp only [hP, Bool.false_eq_true, if_false, cond_false, beq_iff_eq]
      by_cases h : Lib.index r t = -1
      · simp [h]
      · rw [if_neg h, if_neg h, if_neg (by omega)]; push_cast; omega

noncomputable def orcIndex : List V → St → Option (V × St) := fun args σ => match args with
  | [.str s, .str t] => bif Nat.ble s.length 4000 then some (V.int .i64 (idx s t 0), σ) else none
  | _ => none
noncomputable def orcSort : List V → St → Option (V × St) := fun args σ => match args with
  | [.ifc t (.slc _ n _), .fn _ _ _] => bif Nat.beq t 90 then bif Nat.ble n 1 then some (V.tup [], σ) else none else none
  | _ => none
noncomputable def orc : Orc := fun f => bif Nat.beq f 337 then some orcIndex else bif Nat.beq f 38 then some orcSort else none
noncomputable def dorc70 : List V → St → Option St := fun args σ => match args with
  | [_, _, _] => some σ
  | _ => none
noncomputable def dorc : Dorc := fun f => bif Nat.beq f 70 then some dorc70 else none

theorem orcIndex_some {args : List V} {σ σ' : St} {v : V} (h : orcIndex args σ = some (v, σ')) : ∃ s t, args = [.str s, .str t] ∧ s.length ≤ 4000 ∧ v = .int .i64 (idx s t 0) ∧ σ' = σ := by
  unfold orcIndex at h
  split at h
  · rename_i s t
    cases hb : Nat.ble s.length 4000 with
    | true => rw [hb] at h; cases h; exact ⟨s, t, rfl, Nat.le_of_ble_eq_true hb, rfl, rfl⟩
    | false => rw [hb] at h; cases h
  · cases h
theorem orcSort_some {args : List V} {σ σ' : St} {v : V} (h : orcSort args σ = some (v, σ')) : ∃ p n c f a b, args = [.ifc 90 (.slc p n c), .fn f a b] ∧ n ≤ 1 ∧ v = .tup [] ∧ σ' = σ := by
  unfold orcSort at h
  split at h
  · rename_i t p n c f a b
    cases hb : Nat.beq t 90 with
    | false => rw [hb] at h; cases h
    | true =>
      have := Nat.eq_of_beq_eq_true hb; subst this
      cases hn : Nat.ble n 1 with
      | true => rw [hb, hn] at h; cases h; exact ⟨p, n, c, f, a, b, rfl, Nat.le_of_ble_eq_true hn, rfl, rfl⟩
      | false => rw [hb, hn] at h; cases h
  · cases h
theorem VR_slc {β : BM} {p : Option (Nat × Nat)} {n : Nat} {c : Option Nat} {x : Value} (h : VR β (.slc p n c) x) : ∃ q d, x = .slice q n d := by
  rcases p with _ | a <;> rcases c with _ | c <;> simp only [VR] at h
  · exact ⟨_, _, h⟩
  · obtain ⟨q, d, e, _⟩ := h; exact ⟨_, _, e⟩
  · obtain ⟨q, e, _⟩ := h; exact ⟨_, _, e⟩

theorem bytes_length (s : ByteArray) : (s.data.toList.map UInt8.toNat).length = s.size := by rw [List.length_map]; exact Array.length_toList

noncomputable def tinT : TypeInfo := (Tryz.prog.info? 90).get (by kernel_rfl)
noncomputable def tinE : TypeInfo := (Tryz.prog.info? 3).get (by kernel_rfl)
theorem tiny_sort (p : Option Addr) (n c : Nat) (hn : n ≤ 1) (lf : Fn) (la lb : Array Value) (w : World) :
    Calls Tryz.prog 38 #[.iface 90 (.slice p n c), .func lf la lb] w fun e w' => e = .returned (.tuple #[]) ∧ ∃ os, w' = Go.Sort.grow w os := by
  have h : n = 0 ∨ n = 1 := by omega
  rcases h with rfl | rfl
  · exact Any.sort_SliceStable_tiny Tryz.laysGt8 90 3 tinT tinE (by kernel_rfl) (by kernel_rfl) (by kernel_rfl) (by kernel_rfl) 2 (fun _ => by kernel_rfl) p 0 c hn 108 (by kernel_rfl) lf la lb w
  · exact Any.sort_SliceStable_tiny Tryz.laysGt8 90 3 tinT tinE (by kernel_rfl) (by kernel_rfl) (by kernel_rfl) (by kernel_rfl) 2 (fun _ => by kernel_rfl) p 1 c hn 109 (by kernel_rfl) lf la lb w

theorem below_grow (w : World) (os : Array Obj) : Below w.heap.size w (Go.Sort.grow w os) :=
  ⟨rfl, rfl, rfl, by simp [Go.Sort.grow], fun k hk => by simp only [Go.Sort.grow]; rw [Array.getElem?_append_left hk]⟩

/-- What is known of the library's two functions, over a world whose first cells are the row's. -/
theorem orc_ok {w0 : World} {m : Int} (hm : w0.cell? ⟨0, 0, none⟩ = some (.int .i64 m)) : OrcOk Tryz.prog (Base w0) orc := by
  refine ⟨fun f g hf args σ v σ' hg => ?_⟩
  unfold orc at hf
  cases h1 : Nat.beq f 337 with
  | true =>
    have := Nat.eq_of_beq_eq_true h1; subst this
    rw [h1] at hf
    have hf : some orcIndex = some g := hf
    cases hf
    obtain ⟨s, t, rfl, hl, rfl, rfl⟩ := orcIndex_some hg
    refine ⟨⟨_, Tryz.func337, by kernel_rfl⟩, fun β w args' hr hj hA => ?_⟩
    obtain ⟨x, xs, e1, hx, y, ys, rfl, hy, rfl⟩ := hA
    simp only [VR] at hx hy
    obtain ⟨a, rfl, ha⟩ := hx
    obtain ⟨b, rfl, hb⟩ := hy
    obtain rfl : args' = #[.string a, .string b] := by have := congrArg List.toArray e1; simpa using this
    refine callPost_of hr (x := .int .i64 (Lib.index a.data.toList b.data.toList)) ?_ ?_
    · simp only [VR]
      rw [← ha, ← hb, idx_eq]
      by_cases h : Lib.index a.data.toList b.data.toList = -1
      · rw [if_pos h, h]
      · rw [if_neg h]; simp
    · have hs : a.size ≤ 4000 := by rw [← bytes_length, ha]; exact hl
      exact (Any.stringslite_Index { Tryz.laysM219 with } a b m w (by omega) (hj.cell hm)).mono fun e w' h => by rw [h.1, h.2]; exact ⟨rfl, Below.refl _ _⟩
  | false =>
    rw [h1] at hf
    cases h2 : Nat.beq f 38 with
    | false => rw [h2] at hf; cases hf
    | true =>
      have := Nat.eq_of_beq_eq_true h2; subst this
      have hf : some orcSort = some g := hf
      cases hf
      obtain ⟨p, n, c, f, a, b, rfl, hn, rfl, rfl⟩ := orcSort_some hg
      refine ⟨⟨_, Tryz.func38, by kernel_rfl⟩, fun β w args' hr hj hA => ?_⟩
      obtain ⟨x, xs, e1, hx, y, ys, rfl, hy, rfl⟩ := hA
      simp only [VR] at hx hy
      obtain ⟨x', rfl, hx⟩ := hx
      obtain ⟨q, d, rfl⟩ := VR_slc hx
      obtain ⟨f', a', b', rfl, _⟩ := hy
      obtain rfl : args' = #[.iface 90 (.slice q n d), .func f' a' b'] := by have := congrArg List.toArray e1; simpa using this
      refine callPost_of hr (x := .tuple #[]) ?_ ((tiny_sort q n d hn f' a' b' w).mono fun e w' ⟨he, os, hw⟩ => ⟨he, by rw [hw]; exact below_grow _ _⟩)
      simp only [VR]
      exact ⟨#[], rfl, LR.nil _⟩

theorem dorc_ok {J : BM → World → Prop} : DorcOk Tryz.prog J dorc := by
  refine ⟨fun f g hf args σ σ' hg => ?_⟩
  unfold dorc at hf
  cases h1 : Nat.beq f 70 with
  | false => rw [h1] at hf; cases hf
  | true =>
    have := Nat.eq_of_beq_eq_true h1; subst this
    rw [h1] at hf
    have hf : some dorc70 = some g := hf
    cases hf
    unfold dorc70 at hg
    split at hg
    · cases hg
      refine ⟨⟨_, Tryz.func70, by kernel_rfl⟩, fun β w args' hr hj hA => ?_⟩
      obtain ⟨x, xs, e1, hx, y, ys, rfl, hy, z, zs, rfl, hz, rfl⟩ := hA
      obtain rfl : args' = #[x, y, z] := by have := congrArg List.toArray e1; simpa using this
      exact CallsDIn.mono (catch_idle x y z w) fun e u w' ⟨he, hu, hw⟩ => ⟨_, β, he, by rw [hu]; rfl, by rw [hw]; exact Good.refl hr⟩
    · cases hg
end Go.Proofs
