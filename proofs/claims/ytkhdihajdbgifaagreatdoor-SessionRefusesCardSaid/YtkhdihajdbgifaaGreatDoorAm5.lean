/-
  Operations, calls and regions in every order agree.
-/
import Derived.Test.YtkhdihajdbgifaaGreatDoorAm4
import Derived.RangeFuncLeaves
import Derived.OrdersIn
import Derived.TacticsIn
namespace Go.Am

/-! ONE OPERATION -/

/-- What an operation does, in the abstract: the value, the deferred calls behind it, the state. -/
def Out (w : Ow) (r : Rec) (rd : Option Nat) (fr : Fr) (σ : St) (v : V) (ds : List D) (σ' : St) : Prop :=
  match w with
  | .pas f => f fr σ = some v ∧ σ' = σ ∧ ds = fr.ds
  | .lay f => f fr σ = some (v, σ') ∧ ds = fr.ds
  | .trn f => f fr σ = some (v, σ') ∧ ds = fr.ds
  | .cal f => ∃ t, f fr σ = some t ∧ runTgt r σ t = some (v, σ') ∧ ds = fr.ds
  | .dfr x args => rd = none ∧ ∃ u vs, ev x fr = some u ∧ isFuncV u = true ∧ evs args fr = some vs ∧ v = Am.undef ∧ σ' = σ ∧ ds = .call u vs :: fr.ds
  | .no => False

theorem goOf_some {dst : Option Tmp} {w : Ow} {r : Rec} {rd : Option Nat} {fr fr' : Fr} {σ σ' : St} :
    goOf dst w r rd fr σ = some (fr', σ') ↔ ∃ v ds, Out w r rd fr σ v ds σ' ∧ Fr.put dst ⟨fr.ts, fr.n, ds⟩ v = some fr' := by
  cases w with
  | pas f =>
    show ob (f fr σ) (setV dst fr σ) = some (fr', σ') ↔ _
    rw [ob_eq]
    constructor
    · rintro ⟨v, h1, h2⟩
      obtain ⟨fr1, h3, h4⟩ := ob_eq.1 h2
      cases h4
      exact ⟨v, fr.ds, ⟨h1, rfl, rfl⟩, h3⟩
    · rintro ⟨v, ds, ⟨h1, rfl, rfl⟩, h3⟩
      exact ⟨v, h1, ob_eq.2 ⟨fr', h3, rfl⟩⟩
  | lay f =>
    show ob2 (f fr σ) (putV dst fr) = some (fr', σ') ↔ _
    rw [ob2_eq]
    constructor
    · rintro ⟨v, σ1, h1, h2⟩
      obtain ⟨fr1, h3, h4⟩ := ob_eq.1 h2
      cases h4
      exact ⟨v, fr.ds, ⟨h1, rfl⟩, h3⟩
    · rintro ⟨v, ds, ⟨h1, rfl⟩, h3⟩
      exact ⟨v, σ', h1, ob_eq.2 ⟨fr', h3, rfl⟩⟩
  | trn f =>
    show ob2 (f fr σ) (putV dst fr) = some (fr', σ') ↔ _
    rw [ob2_eq]
    constructor
    · rintro ⟨v, σ1, h1, h2⟩
      obtain ⟨fr1, h3, h4⟩ := ob_eq.1 h2
      cases h4
      exact ⟨v, fr.ds, ⟨h1, rfl⟩, h3⟩
    · rintro ⟨v, ds, ⟨h1, rfl⟩, h3⟩
      exact ⟨v, σ', h1, ob_eq.2 ⟨fr', h3, rfl⟩⟩
  | cal f =>
    show ob (f fr σ) (fun t => ob2 (runTgt r σ t) (putV dst fr)) = some (fr', σ') ↔ _
    rw [ob_eq]
    constructor
    · rintro ⟨t, h1, h2⟩
      obtain ⟨v, σ1, h3, h4⟩ := ob2_eq.1 h2
      obtain ⟨fr1, h5, h6⟩ := ob_eq.1 h4
      cases h6
      exact ⟨v, fr.ds, ⟨t, h1, h3, rfl⟩, h5⟩
    · rintro ⟨v, ds, ⟨t, h1, h2, rfl⟩, h3⟩
      exact ⟨t, h1, ob2_eq.2 ⟨v, σ', h2, ob_eq.2 ⟨fr', h3, rfl⟩⟩⟩
  | dfr x args =>
    show Option.rec (ob (ev x fr) fun v => ok (isFuncV v) (ob (evs args fr) fun vs => kSkip dst (pushCall v vs fr) σ)) (fun _ => none) rd = some (fr', σ') ↔ _
    cases rd with
    | some l => exact ⟨fun h => (by cases h), fun ⟨_, _, h, _⟩ => (by cases h.1)⟩
    | none =>
      show ob (ev x fr) (fun v => ok (isFuncV v) (ob (evs args fr) fun vs => kSkip dst (pushCall v vs fr) σ)) = some (fr', σ') ↔ _
      rw [ob_eq]
      constructor
      · rintro ⟨u, h1, h2⟩
        obtain ⟨h3, h4⟩ := ok_eq.1 h2
        obtain ⟨vs, h5, h6⟩ := ob_eq.1 h4
        obtain ⟨fr1, h7, h8⟩ := ob_eq.1 h6
        cases h8
        exact ⟨Am.undef, .call u vs :: fr.ds, ⟨rfl, u, vs, h1, h3, h5, rfl, rfl, rfl⟩, by cases fr; exact h7⟩
      · rintro ⟨v, ds, ⟨_, u, vs, h1, h3, h5, rfl, rfl, rfl⟩, h7⟩
        exact ⟨u, h1, ok_eq.2 ⟨h3, ob_eq.2 ⟨vs, h5, ob_eq.2 ⟨fr', by cases fr; exact h7, rfl⟩⟩⟩⟩
  | no => exact ⟨fun h => (by cases h), fun ⟨_, _, h, _⟩ => h.elim⟩

theorem rdyW_go (ops : List Oper) (dst : Option Tmp) (g : Option (Nat × Bool)) (w : Ow) : (rdyW ops dst g w).go = match g with
    | none => goOf dst w
    | some (j, want) => kIf dst (dstAt ops j) want (goOf dst w) := by
  cases w <;> cases g <;> rfl

theorem wanted_none (ops : List Oper) (fr : Fr) : wanted ops none fr = true := rfl
theorem wanted_some (ops : List Oper) (j : Nat) (want : Bool) (fr : Fr) : wanted ops (some (j, want)) fr = guardAt (dstAt ops j) want fr := rfl

theorem go_some {P : Program} {ops : List Oper} {o : Oper} {r : Rec} {rd : Option Nat} {fr fr' : Fr} {σ σ' : St} :
    (rdy P ops o).go r rd fr σ = some (fr', σ') ↔
      (wanted ops o.guard fr = true ∧ ∃ v ds, Out (opw P o.op) r rd fr σ v ds σ' ∧ Fr.put o.dst ⟨fr.ts, fr.n, ds⟩ v = some fr') ∨
      (wanted ops o.guard fr = false ∧ σ' = σ ∧ Fr.put o.dst fr Am.undef = some fr') := by
  show (rdyW ops o.dst o.guard (opw P o.op)).go r rd fr σ = some (fr', σ') ↔ _
  rw [rdyW_go]
  cases hg : o.guard with
  | none =>
    simp only [wanted_none, true_and, Bool.true_eq_false, false_and, or_false]
    exact goOf_some
  | some p =>
    obtain ⟨j, want⟩ := p
    simp only [wanted_some]
    show Bool.rec (kSkip o.dst fr σ) (goOf o.dst (opw P o.op) r rd fr σ) (guardAt (dstAt ops j) want fr) = some (fr', σ') ↔ _
    cases guardAt (dstAt ops j) want fr with
    | true =>
      simp only [true_and, Bool.true_eq_false, false_and, or_false]
      exact goOf_some
    | false =>
      simp only [Bool.false_eq_true, false_and, true_and, false_or]
      show kSkip o.dst fr σ = some (fr', σ') ↔ _
      unfold kSkip setV
      rw [ob_eq]
      constructor
      · rintro ⟨f1, h1, h2⟩; cases h2; exact ⟨rfl, h1⟩
      · rintro ⟨rfl, h1⟩; exact ⟨fr', h1, rfl⟩

/-! What an operation looks at -/

def Agree (xs : List Operand) (fr fr' : Fr) : Prop := ∀ x ∈ xs, ev x fr = ev x fr'

theorem evs_agree {fr fr' : Fr} : ∀ {l : List Operand}, Agree l fr fr' → evs l fr = evs l fr'
  | [], _ => rfl
  | x :: l, h => by
    rw [evs_cons, evs_cons, h x (List.mem_cons_self ..), evs_agree fun y hy => h y (List.mem_cons_of_mem _ hy)]
theorem evParts_nil (fr : Fr) : evParts [] fr = some [] := rfl
theorem evParts_agree {fr fr' : Fr} : ∀ {l : List (Nat × Operand)}, Agree (l.map (·.2)) fr fr' → evParts l fr = evParts l fr'
  | [], _ => rfl
  | x :: l, h => by
    rw [evParts_cons, evParts_cons, h x.2 (by simp), evParts_agree fun y hy => h y (by simp at hy ⊢; exact .inr hy)]
theorem bound_agree {fr fr' : Fr} {x : Option Operand} (d : Nat) (h : Agree x.toList fr fr') : bound x fr d = bound x fr' d := by
  cases x with
  | none => rfl
  | some x =>
    show ob (ev x fr) V.asNat = ob (ev x fr') V.asNat
    rw [h x (by simp)]

theorem hiB_agree {fr fr' : Fr} {hi mx : Option Operand} (n : Nat) (h : Agree hi.toList fr fr') : hiB hi mx fr n = hiB hi mx fr' n := by
  cases mx with
  | none => exact bound_agree n h
  | some m =>
    cases hi with
    | none => rfl
    | some x => show ob (ev x fr) V.asNat = ob (ev x fr') V.asNat; rw [h x (by simp)]

theorem sliceKnown_agree {fr fr' : Fr} {lo hi mx : Option Operand} (hl : Agree lo.toList fr fr') (hh : Agree hi.toList fr fr') (hm : Agree mx.toList fr fr') (b : Option (Nat × Nat)) (s n c : Nat) :
    sliceKnown fr b s n c lo hi mx = sliceKnown fr' b s n c lo hi mx := by
  unfold sliceKnown
  rw [bound_agree c hm, hiB_agree n hh]
  simp only [bound_agree 0 hl]

theorem sliceV_agree {P : Program} {fr fr' : Fr} {lo hi mx : Option Operand} (hl : Agree lo.toList fr fr') (hh : Agree hi.toList fr fr') (hm : Agree mx.toList fr fr') (σ : St) (t : TypeId) (v : V) :
    sliceV P fr σ t lo hi mx v = sliceV P fr' σ t lo hi mx v := by
  unfold sliceV
  cases v with
  | str s =>
    simp only []
    cases mx with
    | some m => rfl
    | none =>
      show ok _ (sliceStr fr s lo hi) = ok _ (sliceStr fr' s lo hi)
      unfold sliceStr
      rw [bound_agree _ hh]
      simp only [bound_agree 0 hl]
  | slc base n cap =>
    simp only []
    congr 1
    funext es
    cases cap with
    | some c => exact sliceKnown_agree hl hh hm _ _ _ _
    | none =>
      show ob base _ = ob base _
      congr 1
      funext a
      cases mx with
      | none =>
        show sliceOpen σ fr a es.1 es.2 n lo hi = sliceOpen σ fr' a es.1 es.2 n lo hi
        unfold sliceOpen
        rw [bound_agree _ hh]
        simp only [bound_agree 0 hl]
      | some m =>
        show sliceOpen3 σ fr a es.1 es.2 lo hi m = sliceOpen3 σ fr' a es.1 es.2 lo hi m
        unfold sliceOpen3
        rw [hm m (by simp)]
        simp only [bound_agree 0 hl]
        congr 1
        funext mm
        cases hi with
        | none => rfl
        | some x => show ob (ob (ev x fr) V.asNat) _ = ob (ob (ev x fr') V.asNat) _; rw [hh x (by simp)]
  | ptr a =>
    cases a with
    | none => rfl
    | some a =>
      simp only []
      congr 1
      funext ne
      congr 1
      funext s
      exact sliceKnown_agree hl hh hm _ _ _ _
  | _ => rfl

def Same (fr fr' : Fr) (w : Ow) : Prop :=
  match w with
  | .pas f => ∀ σ, f fr σ = f fr' σ
  | .lay f => ∀ σ, f fr σ = f fr' σ
  | .trn f => ∀ σ, f fr σ = f fr' σ
  | .cal f => ∀ σ, f fr σ = f fr' σ
  | .dfr x args => ev x fr = ev x fr' ∧ evs args fr = evs args fr'
  | .no => True

theorem opw_same {P : Program} {fr fr' : Fr} {o : Op} (h : ∀ x ∈ o.operands, ev x fr = ev x fr') : Same fr fr' (opw P o) := by
  cases o
  case move x => intro σ; exact h x (by simp [Op.operands])
  case assign x => intro σ; exact h x (by simp [Op.operands])
  case pick c x y =>
    intro σ
    show ob (ob (ev c fr) V.asBool) _ = ob (ob (ev c fr') V.asBool) _
    rw [h c (by simp [Op.operands]), h x (by simp [Op.operands]), h y (by simp [Op.operands])]
  case build t ps =>
    intro σ
    show eBuild P t ps fr σ = eBuild P t ps fr' σ
    unfold eBuild
    rw [evParts_agree (fr := fr) (fr' := fr') fun x hx => h x (by simpa [Op.operands] using hx)]
  case load t x => intro σ; show eLoad P t x fr σ = eLoad P t x fr' σ; unfold eLoad; rw [h x (by simp [Op.operands])]
  case nilCheck x => intro σ; show eNilCheck x fr σ = eNilCheck x fr' σ; unfold eNilCheck; rw [h x (by simp [Op.operands])]
  case binOp op t x y u => intro σ; show eBin P op t x y u fr σ = eBin P op t x y u fr' σ; unfold eBin; rw [h x (by simp [Op.operands]), h y (by simp [Op.operands])]
  case unOp op t x => intro σ; show eUn op t x fr σ = eUn op t x fr' σ; unfold eUn; rw [h x (by simp [Op.operands])]
  case convert s d x =>
    show Same fr fr' (convW P s d x)
    unfold convW
    cases elemT P d with
    | none => intro σ; show eConv P s d x fr σ = eConv P s d x fr' σ; unfold eConv; rw [h x (by simp [Op.operands])]
    | some e => intro σ; show aConv P s d x fr σ = aConv P s d x fr' σ; unfold aConv; rw [h x (by simp [Op.operands])]
  case makeInterface t x => intro σ; show eIface P t x fr σ = eIface P t x fr' σ; unfold eIface; rw [h x (by simp [Op.operands])]
  case makeFunc f a b =>
    intro σ
    show eFunc f a b fr σ = eFunc f a b fr' σ
    unfold eFunc
    rw [evs_agree (fr := fr) (fr' := fr') (l := a.toList) fun x hx => h x (by simp at hx; simp [Op.operands, hx]), evs_agree (fr := fr) (fr' := fr') (l := b.toList) fun x hx => h x (by simp at hx; simp [Op.operands, hx])]
  case slice t x lo hi mx =>
    intro σ
    show eSlice P t x lo hi mx fr σ = eSlice P t x lo hi mx fr' σ
    unfold eSlice
    rw [h x (by simp [Op.operands])]
    congr 1
    funext v
    exact sliceV_agree (fun y hy => h y (by simp at hy; simp [Op.operands, hy])) (fun y hy => h y (by simp at hy; simp [Op.operands, hy])) (fun y hy => h y (by simp at hy; simp [Op.operands, hy])) σ t v
  case fieldAddr t x i => intro σ; show eFieldAddr P t x i fr σ = eFieldAddr P t x i fr' σ; unfold eFieldAddr; rw [h x (by simp [Op.operands])]
  case field t x i => intro σ; show eField P t x i fr σ = eField P t x i fr' σ; unfold eField; rw [h x (by simp [Op.operands])]
  case indexAddr t x i => intro σ; show eIndexAddr P t x i fr σ = eIndexAddr P t x i fr' σ; unfold eIndexAddr; rw [h x (by simp [Op.operands]), h i (by simp [Op.operands])]
  case index t x i => intro σ; show eIndex P t x i fr σ = eIndex P t x i fr' σ; unfold eIndex; rw [h x (by simp [Op.operands]), h i (by simp [Op.operands])]
  case lookup t x i c => intro σ; show eLookup P t x i c fr σ = eLookup P t x i c fr' σ; unfold eLookup; rw [h x (by simp [Op.operands]), h i (by simp [Op.operands])]
  case typeAssert x t u c => intro σ; show eAssert P x t u c fr σ = eAssert P x t u c fr' σ; unfold eAssert; rw [h x (by simp [Op.operands])]
  case extract x i => intro σ; show eExtract x i fr σ = eExtract x i fr' σ; unfold eExtract; rw [h x (by simp [Op.operands])]
  case alloc e => intro σ; rfl
  case box e x => intro σ; show aBox P e x fr σ = aBox P e x fr' σ; unfold aBox; rw [h x (by simp [Op.operands])]
  case buildSlice t n ps =>
    intro σ
    show aBuildSlice P t n ps fr σ = aBuildSlice P t n ps fr' σ
    unfold aBuildSlice
    rw [evParts_agree (fr := fr) (fr' := fr') fun x hx => h x (by simpa [Op.operands] using hx)]
  case makeSlice t l c => intro σ; show aMakeSlice P t l c fr σ = aMakeSlice P t l c fr' σ; unfold aMakeSlice; rw [h l (by simp [Op.operands]), h c (by simp [Op.operands])]
  case makeMap t r => intro σ; show aMakeMap P t r fr σ = aMakeMap P t r fr' σ; unfold aMakeMap; rw [bound_agree 0 (x := r) (fr := fr) (fr' := fr') fun x hx => h x (by simpa [Op.operands] using hx)]
  case range t x => intro σ; show aRange P t x fr σ = aRange P t x fr' σ; unfold aRange; rw [h x (by simp [Op.operands])]
  case store t x y => intro σ; show cStore P t x y fr σ = cStore P t x y fr' σ; unfold cStore; rw [h x (by simp [Op.operands]), h y (by simp [Op.operands])]
  case mapUpdate t m k x => intro σ; show cUpdate P t m k x fr σ = cUpdate P t m k x fr' σ; unfold cUpdate; rw [h m (by simp [Op.operands]), h k (by simp [Op.operands]), h x (by simp [Op.operands])]
  case insert t m k x => intro σ; show cUpdate P t m k x fr σ = cUpdate P t m k x fr' σ; unfold cUpdate; rw [h m (by simp [Op.operands]), h k (by simp [Op.operands]), h x (by simp [Op.operands])]
  case next x s => intro σ; show cNext x s fr σ = cNext x s fr' σ; unfold cNext; rw [h x (by simp [Op.operands])]
  case defer c =>
    obtain ⟨callee, args, ts⟩ := c
    show Same fr fr' (deferW callee args.toList)
    cases callee with
    | value x => exact ⟨h x (by simp [Op.operands, Call.operands]), evs_agree fun y hy => h y (by simp at hy; simp [Op.operands, Call.operands, hy])⟩
    | invoke x n => trivial
    | builtin b => trivial
  case call c =>
    obtain ⟨callee, args, ts⟩ := c
    have hA : ∀ y ∈ args.toList, ev y fr = ev y fr' := fun y hy => h y (by simp at hy; simp [Op.operands, Call.operands, hy])
    have hE := evs_agree (fr := fr) (fr' := fr') hA
    show Same fr fr' (callW P callee args.toList ts.toList)
    cases callee with
    | value x =>
      intro σ
      show tValue x args.toList fr σ = tValue x args.toList fr' σ
      unfold tValue
      rw [hE, h x (by simp [Op.operands, Call.operands])]
    | invoke x n =>
      intro σ
      show tInvoke P x n args.toList fr σ = tInvoke P x n args.toList fr' σ
      unfold tInvoke
      rw [hE, h x (by simp [Op.operands, Call.operands])]
    | builtin b =>
      show Same fr fr' (builtinW P b args.toList ts.toList)
      revert hA
      generalize args.toList = l
      generalize ts.toList = tl
      intro hA
      cases b
      case len =>
        show Same fr fr' (bLen P l tl)
        unfold bLen
        split
        · rename_i x t _; intro σ; show eLen P t x fr σ = eLen P t x fr' σ; unfold eLen; rw [hA x (by simp)]
        · trivial
      case cap =>
        show Same fr fr' (bCap P l tl)
        unfold bCap
        split
        · rename_i x t _; intro σ; show eCap P t x fr σ = eCap P t x fr' σ; unfold eCap; rw [hA x (by simp)]
        · trivial
      case min =>
        show Same fr fr' (bLeast false l)
        unfold bLeast
        split
        · rename_i x y; intro σ; show eLeast false x y fr σ = eLeast false x y fr' σ; unfold eLeast; rw [hA x (by simp), hA y (by simp)]
        · trivial
      case max =>
        show Same fr fr' (bLeast true l)
        unfold bLeast
        split
        · rename_i x y; intro σ; show eLeast true x y fr σ = eLeast true x y fr' σ; unfold eLeast; rw [hA x (by simp), hA y (by simp)]
        · trivial
      case append =>
        show Same fr fr' (bAppend P l tl)
        unfold bAppend
        split
        · rename_i x y t u; intro σ; show cAppend P t u x y fr σ = cAppend P t u x y fr' σ; unfold cAppend; rw [hA x (by simp), hA y (by simp)]
        · trivial
      case copy =>
        show Same fr fr' (bCopy P l tl)
        unfold bCopy
        split
        · rename_i x y t _; intro σ; show cCopy P t x y fr σ = cCopy P t x y fr' σ; unfold cCopy; rw [hA x (by simp), hA y (by simp)]
        · trivial
      case delete =>
        show Same fr fr' (bDelete P l tl)
        unfold bDelete
        split
        · rename_i x y t _; intro σ; show cDelete P t x y fr σ = cDelete P t x y fr' σ; unfold cDelete; rw [hA x (by simp), hA y (by simp)]
        · trivial
      case clear =>
        show Same fr fr' (bClear P l tl)
        unfold bClear
        split
        · rename_i x t _; intro σ; show cClear P t x fr σ = cClear P t x fr' σ; unfold cClear; rw [hA x (by simp)]
        · trivial
      all_goals trivial
  all_goals trivial

theorem Out.same {w : Ow} {r : Rec} {rd : Option Nat} {fr fr' : Fr} {σ σ' : St} {v : V} {ds : List D} (hs : Same fr fr' w) (hd : fr'.ds = fr.ds) (h : Out w r rd fr σ v ds σ') : Out w r rd fr' σ v ds σ' := by
  cases w with
  | pas f => exact ⟨by rw [← hs σ]; exact h.1, h.2.1, by rw [hd]; exact h.2.2⟩
  | lay f => exact ⟨by rw [← hs σ]; exact h.1, by rw [hd]; exact h.2⟩
  | trn f => exact ⟨by rw [← hs σ]; exact h.1, by rw [hd]; exact h.2⟩
  | cal f => obtain ⟨t, h1, h2, h3⟩ := h; exact ⟨t, by rw [← hs σ]; exact h1, h2, by rw [hd]; exact h3⟩
  | dfr x args =>
    obtain ⟨h1, u, vs, h2, h3, h4, h5⟩ := h
    exact ⟨h1, u, vs, by rw [← hs.1]; exact h2, h3, by rw [← hs.2]; exact h4, by rw [hd]; exact h5⟩
  | no => exact h.elim

theorem agree_toList {xs : Array Operand} {fr fr' : Fr} : Agree xs.toList fr fr' ↔ ∀ x ∈ xs, ev x fr = ev x fr' := by
  unfold Agree; simp

end Go.Am
namespace Go.Am

/-- The fence of a round, or of a function's own frame. -/
def RdR (β : BM) (rd : Option Nat) (F : Fence) : Prop :=
  match rd with
  | none => F = Fence.wide
  | some l => ∃ i, β l = some i ∧ F = Fence.wide.inRound i.blk

def XR (x : X) (e : Exit) : Prop :=
  match x with
  | .normal => e = .normal
  | .exit id => e = .exit id
  | .goto l => e = .goto l
  | .ret => e = .ret

def Post (P : Program) (β : BM) (σ : St) (w : World) (x : X) (fr' : Fr) (σ' : St) : Exit → Act → World → Prop :=
  fun e a' w' => ∃ β', XR x e ∧ AR β' fr' a' ∧ Good P β σ w β' σ' w'
def CallPost (P : Program) (β : BM) (σ : St) (w : World) (v : V) (σ' : St) : Ending → World → Prop :=
  fun e w' => ∃ x β', e = .returned x ∧ VR β' v x ∧ Good P β σ w β' σ' w'

/-- A round behind the loop's mark. -/
def wpRound (F : Fence) (n : Nat) (P : Program) (c : Code) (Q : Exit → Act → World → Prop) (a : Act) (w : World) : Prop :=
  ∀ (b : Frame) (k : List Item) (cs : List Frame), b.roundOf = F.round → F.fn b.fn → F.room (cs.length + 1 + n) →
    ∃ e a' w', Q e a' w' ∧ ArrivesIn (Machine.fenced P F) P (lone (b.atR a (.code c :: .inLoop c :: k)) cs w) b k cs e a' w'

theorem wpRound_of {F : Fence} {n : Nat} {P : Program} {c : Code} {Q : Exit → Act → World → Prop} {a : Act} {w : World}
    (h : c.wpIn F n P (Exit.then (wpRound F n P c Q) Q) a w) : wpRound F n P c Q a w := by
  intro b k cs hro hb hr
  obtain ⟨e, a₁, w₁, hq, harr⟩ := h b (.inLoop c :: k) cs hro hb hr
  cases e with
  | normal =>
    obtain ⟨e₂, a₂, w₂, hq₂, harr₂⟩ := hq b k cs hro hb hr
    exact ⟨e₂, a₂, w₂, hq₂, .of_steps (StepsIn.trans harr (.one (fenced_calm hb hr rfl) stepR_inLoop)) harr₂⟩
  | exit id => exact ⟨_, a₁, w₁, hq, .pass (x := .inLoop c) rfl (fun _ _ => .inl (by simp)) harr⟩
  | goto l => exact ⟨_, a₁, w₁, hq, .pass (x := .inLoop c) rfl (fun _ _ => .inl (by simp)) harr⟩
  | ret => exact ⟨_, a₁, w₁, hq, .pass (x := .inLoop c) rfl (fun _ _ => .inl (by simp)) harr⟩
  | panic ch => exact ⟨_, a₁, w₁, hq, .pass (x := .inLoop c) rfl (fun _ _ => .inl (by simp)) harr⟩
  | outgrown => exact ⟨_, a₁, w₁, hq, .pass (x := .inLoop c) rfl (fun _ _ => .inl (by simp)) harr⟩

theorem wpIn_loop_of_round {F : Fence} {n : Nat} {P : Program} {c : Code} {Q : Exit → Act → World → Prop} {a : Act} {w : World}
    (h : wpRound F n P c Q a w) : (Code.loop c).wpIn F n P Q a w := by
  intro b k cs hro hb hr
  obtain ⟨e, a', w', hq, harr⟩ := h b k cs hro hb hr
  exact ⟨e, a', w', hq, .of_steps (.one (fenced_calm hb hr rfl) stepR_loop) harr⟩

/-- Something that every step keeps. -/
def JKeep (P : Program) (J : BM → World → Prop) : Prop := ∀ β σ w β' σ' w', Good P β σ w β' σ' w' → J β w → J β' w'
theorem jkeep_true (P : Program) : JKeep P fun _ _ => True := fun _ _ _ _ _ _ _ _ => trivial

structure RecOk (P : Program) (J : BM → World → Prop) (r : Rec) : Prop where
  code : ∀ rd c fr σ x fr' σ', r.code rd c fr σ = some (x, fr', σ') → ∀ β w a F, RdR β rd F → HRel P β σ w → J β w → AR β fr a → c.wpIn F 0 P (Post P β σ w x fr' σ') a w
  loop : ∀ rd c fr σ x fr' σ', r.code rd (.loop c) fr σ = some (x, fr', σ') → ∀ β w a F, RdR β rd F → HRel P β σ w → J β w → AR β fr a → wpRound F 0 P c (Post P β σ w x fr' σ') a w
  call : ∀ f args σ v σ', r.call f args σ = some (v, σ') → (∃ fn, P.funcs[f]? = some fn ∧ fn.body.isSome = true) ∧
    ∀ β w (args' : Array Value), HRel P β σ w → J β w → LR β args args'.toList → CallsIn Fence.wide 0 P f args' w (CallPost P β σ w v σ')

theorem RdR.fn {β : BM} {rd : Option Nat} {F : Fence} (h : RdR β rd F) (f : FuncId) : F.fn f := by
  cases rd with
  | none => cases h; trivial
  | some l => obtain ⟨i, _, rfl⟩ := h; trivial
theorem RdR.depth {β : BM} {rd : Option Nat} {F : Fence} (h : RdR β rd F) : F.depth = none := by
  cases rd with
  | none => cases h; rfl
  | some l => obtain ⟨i, _, rfl⟩ := h; rfl
theorem RdR.mono {β β' : BM} (hx : Ext β β') {rd : Option Nat} {F : Fence} (h : RdR β rd F) : RdR β' rd F := by
  cases rd with
  | none => exact h
  | some l => obtain ⟨i, hi, h⟩ := h; exact ⟨i, hx _ _ hi, h⟩
theorem RdR.calls {β : BM} {rd : Option Nat} {F : Fence} (h : RdR β rd F) {n : Nat} {P : Program} {f : FuncId} {args : Array Value} {w : World} {R : Ending → World → Prop} (hc : CallsIn Fence.wide n P f args w R) : CallsIn F n P f args w R := by
  cases rd with
  | none => cases h; exact hc
  | some l => obtain ⟨i, _, rfl⟩ := h; exact hc
theorem RdR.inRound {β : BM} {rd : Option Nat} {F : Fence} (h : RdR β rd F) {l : Nat} {i : BI} (hi : β l = some i) : RdR β (some l) (F.inRound i.blk) := by
  cases rd with
  | none => cases h; exact ⟨i, hi, rfl⟩
  | some k => obtain ⟨j, _, rfl⟩ := h; exact ⟨i, hi, rfl⟩

/-- What is asked of the program beside. -/
structure Fit (P : Program) : Prop where
  mixed : P.follows .mixedOrders = true
  named : ∀ (f : FuncId) (fn : Func), P.funcs[f]? = some fn → fn.name ≠ "runtime.NumGoroutine"

section
variable {P : Program} {J : BM → World → Prop} {β : BM} {σ σ' : St} {w : World} {a : Act} {fr fr' : Fr}

theorem run_callFunc (hP : Fit P) {f : FuncId} {fn : Func} (hf : P.funcs[f]? = some fn) (hb : fn.body.isSome = true) (args : Array Value) (w : World) : (callFunc f args).run P w = .ok (.enter f args) w := by
  unfold callFunc
  have hb' : fn.body ≠ none := by cases h : fn.body <;> simp_all
  simp [hf, hP.named f fn hf, hb']

theorem run_method0 {t : TypeId} {name : String} {i : TypeInfo} {m : Method} {f : FuncId} {p : Bool} {x : Value} {n : Nat} (hi : infoT P t = some i) (hm : i.methods.find? (·.name == name) = some m) (he : m.path.isEmpty = true)
    (hf : m.func = some (f, p)) : (method (n + 1) t x name).run P w = ((receiverAt t (.val x) p (some ((name.splitOn ".").getLastD name))).run P w).andThen fun v w => .ok (f, v) w := by
  have he' : m.path.toList = [] := by simpa using he
  unfold method
  simp only [Sem.run_bind, run_typeInfo w (infoT_some hi), Result.andThen_ok, hm, he', follow, Sem.run_pure, hf, he, if_true]

theorem method_sound {t : TypeId} {name : String} {q : FuncId × Option TypeId} (hq : methodT P t name = some q) (h : HRel P β σ w) {v u : V} {x : Value} (hv : VR β v x)
    (hu : Option.rec (some v) (fun e => ob v.asPtr fun a => loadT P σ e a) q.2 = some u) (n : Nat) :
    ∃ y, (method (n + 1) t x name).run P w = .ok (q.1, y) w ∧ VR β u y := by
  unfold methodT at hq
  obtain ⟨i, hi, h1⟩ := ob_eq.1 hq
  obtain ⟨m, hm, h2⟩ := ob_eq.1 h1
  obtain ⟨he, h3⟩ := ok_eq.1 h2
  obtain ⟨⟨f, p⟩, hf, h4⟩ := ob_eq.1 h3
  obtain ⟨d, hd, h5⟩ := ob_eq.1 h4
  rw [run_method0 hi hm he hf]
  unfold receiverAt
  simp only [Sem.run_bind, run_underlying w hd, Result.andThen_ok]
  split at h5
  · rename_i e hp
    have hp : p = true := hp
    subst hp
    cases h5
    have : some v = some u := hu
    cases this
    exact ⟨x, by simp [Place.get], hv⟩
  · rename_i e hp
    have hp : p = false := hp
    subst hp
    cases h5
    obtain ⟨b, hb, hl⟩ := ob_eq.1 (hu : ob v.asPtr (fun a => loadT P σ e a) = some u)
    have := asPtr_some hb; subst this
    simp only [VR] at hv
    obtain ⟨q, rfl, j, hj, rfl⟩ := hv
    obtain ⟨y, hy, hvy⟩ := h.loadT hl hj
    refine ⟨y, ?_, hvy⟩
    have hw : ∀ (p : Addr) (nm : String), Builtin.ssaWrapNilChk_ #[t] t #[.pointer (some p), strVal "", strVal nm] = pure (.pointer (some p)) := fun _ _ => rfl
    simp only [Place.get, Sem.run_bind, Sem.run_pure, Result.andThen_ok, hw, asAddr, hy]
  · rename_i hp hnp
    have hp : p = false := hp
    subst hp
    cases h5
    have : some v = some u := hu
    cases this
    refine ⟨x, ?_, hv⟩
    rename_i d _ _
    cases d <;> first | (simp [Place.get]; done) | exact absurd rfl (hnp _)
  · cases h5

/-- What a call leads to. -/
def Led (P : Program) (β : BM) (w : World) (s : Sem Next) (t : Tgt) : Prop :=
  match t with
  | .func f args => ∃ args' : Array Value, LR β args args'.toList ∧ s.run P w = (callFunc f args').run P w
  | .yield l args => ∃ (i : BI) (args' : Array Value), β l = some i ∧ LR β args args'.toList ∧ s.run P w = (Instr.yield i.blk args').run P w

theorem evsA_sound {xs : Array Operand} {vs : List V} (ha : TR β fr a.tmps) (h : evs xs.toList fr = some vs) : LR β vs (xs.map a.eval).toList := by
  have := evs_sound ha h
  simpa using this

variable {dst : Option Tmp} {ty : TypeId} {pos : String} {aft : Array Edge} {g : Option (Nat × Bool)}

theorem led_value {x : Operand} {xs : Array Operand} {ts : Array TypeId} {t : Tgt} (ha : TR β fr a.tmps) (he : tValue x xs.toList fr σ = some t) :
    Led P β w (execOp a.eval ⟨dst, .call ⟨.value x, xs, ts⟩, ty, pos, aft, g⟩) t := by
  unfold tValue at he
  obtain ⟨vs, hvs, h1⟩ := ob_eq.1 he
  obtain ⟨u, hu, h2⟩ := ob_eq.1 h1
  have hA := evsA_sound ha hvs
  have hU := ev_sound ha hu
  unfold tgtValue at h2
  split at h2
  · rename_i f first captured
    cases h2
    simp only [VR] at hU
    obtain ⟨f', a', b', he', hf, hfa, hfb⟩ := hU
    have hf' : f' = .func f := hf
    subst hf'
    refine ⟨(a' ++ xs.map a.eval) ++ b', ?_, ?_⟩
    · have := hfa.append (hA.append hfb)
      simpa using this
    · simp [execOp, resolve, he', Deferred.ofValue, invoke]
  · rename_i l captured
    cases h2
    simp only [VR] at hU
    obtain ⟨f', a', b', he', hf, hfa, hfb⟩ := hU
    obtain ⟨i, hi, rfl⟩ := hf
    have ha0 : a' = #[] := by
      have : a'.toList = [] := by simpa only [LR] using hfa
      simpa using this
    subst ha0
    refine ⟨i, xs.map a.eval, hi, hA, ?_⟩
    simp [execOp, resolve, he', Deferred.ofValue, invoke]
  · cases h2

theorem led_invoke {x : Operand} {name : String} {xs : Array Operand} {ts : Array TypeId} {t : Tgt} (h : HRel P β σ w) (ha : TR β fr a.tmps) (he : tInvoke P x name xs.toList fr σ = some t) :
    Led P β w (execOp a.eval ⟨dst, .call ⟨.invoke x name, xs, ts⟩, ty, pos, aft, g⟩) t := by
  unfold tInvoke at he
  obtain ⟨vs, hvs, h1⟩ := ob_eq.1 he
  obtain ⟨u, hu, h2⟩ := ob_eq.1 h1
  have hA := evsA_sound ha hvs
  have hU := ev_sound ha hu
  unfold tgtInvoke at h2
  split at h2
  · rename_i u v
    obtain ⟨⟨f, oe⟩, hm, h3⟩ := ob_eq.1 h2
    simp only [VR] at hU
    obtain ⟨v', he', hv⟩ := hU
    have key : ∀ y, Option.rec (some v) (fun e => ob v.asPtr fun a => loadT P σ e a) oe = some y → t = .func f (y :: vs) →
        Led P β w (execOp a.eval ⟨dst, .call ⟨.invoke x name, xs, ts⟩, ty, pos, aft, g⟩) t := fun y hy ht => by
      subst ht
      obtain ⟨z, hz, hvz⟩ := method_sound hm h hv hy (P.types.size + 99)
      refine ⟨#[z] ++ xs.map a.eval, by simpa using LR.cons hvz hA, ?_⟩
      have hz' : (method (P.types.size + Made.depth) u v' name).run P w = .ok (f, z) w := hz
      have hex : ∀ q : Value, (#[q] ++ xs.map a.eval).extract 1 (#[q] ++ xs.map a.eval).size = xs.map a.eval := fun q => by
        simp
      simp only [execOp, resolve, Sem.run_bind, Sem.run_pure, Result.andThen_ok, invoke]
      simp only [Array.getElem?_append_left (xs := #[a.eval x]) (ys := xs.map a.eval) (i := 0) (by simp)]
      simp only [List.getElem?_toArray, List.getElem?_cons_zero, hex, he', callMethod, Sem.run_bind, run_program, Result.andThen_ok, hz']
    cases oe with
    | none =>
      have h3 : some (Tgt.func f (v :: vs)) = some t := h3
      cases h3
      exact key v rfl rfl
    | some e =>
      obtain ⟨p, hp, h4⟩ := ob_eq.1 (show ob v.asPtr (fun a => ob (loadT P σ e a) fun y => some (Tgt.func f (y :: vs))) = some t from h3)
      obtain ⟨y, hy, h5⟩ := ob_eq.1 h4
      cases h5
      exact key y (ob_eq.2 ⟨p, hp, hy⟩) rfl
  · cases h2

theorem setAll_nil_nil (n : Nat) (ts : T V) : setAll n [] [] ts = some ts := rfl
theorem setAll_nil_cons (n : Nat) (v : V) (vs : List V) (ts : T V) : setAll n [] (v :: vs) ts = none := rfl
theorem setAll_cons_nil (n : Nat) (p : Tmp) (ps : List Tmp) (ts : T V) : setAll n (p :: ps) [] ts = none := rfl
theorem setAll_cons_cons (n : Nat) (p : Tmp) (ps : List Tmp) (v : V) (vs : List V) (ts : T V) : setAll n (p :: ps) (v :: vs) ts = ok (Nat.blt p n) (setAll n ps vs (ts.put p v)) := rfl

theorem setAll_sound {n : Nat} : ∀ {ps : List Tmp} {vs : List V} {ts ts' : T V} {xs : List Value} {tmps : Array Value}, setAll n ps vs ts = some ts' → LR β vs xs → TR β ⟨ts, n, []⟩ tmps →
    ps.length = xs.length ∧ TR β ⟨ts', n, []⟩ ((ps.zip xs).foldl (fun tmps (t, a) => tmps.setIfInBounds t a) tmps)
  | [], [], ts, ts', xs, tmps, h, hl, ht => by
    rw [setAll_nil_nil] at h; cases h
    simp only [LR] at hl; subst hl
    exact ⟨rfl, ht⟩
  | [], _ :: _, _, _, _, _, h, _, _ => by cases h
  | _ :: _, [], _, _, _, _, h, _, _ => by cases h
  | p :: ps, v :: vs, ts, ts', xs, tmps, h, hl, ht => by
    rw [setAll_cons_cons] at h
    obtain ⟨hlt, h⟩ := ok_eq.1 h
    simp only [LR] at hl
    obtain ⟨x, xs, rfl, hv, hs⟩ := hl
    have h1 : TR β ⟨ts.put p v, n, []⟩ (tmps.setIfInBounds p x) := by
      have := TR.put (fr := ⟨ts, n, []⟩) (fr' := ⟨ts.put p v, n, []⟩) (a := ⟨tmps, []⟩) (dst := some p) ht (by
        show ok (Nat.blt p n) (some (Fr.mk (ts.lay p v) n [])) = _
        rw [hlt, T.lay_eq]; rfl) hv
      exact this
    obtain ⟨h2, h3⟩ := setAll_sound h hs h1
    exact ⟨by simp [h2], h3⟩

theorem HRel.loop (h : HRel P β σ w) {l : Nat} {i : BI} (hb : β l = some i) {lp : LP} (hl : Am.getLoop σ l = some lp) :
    ∃ r, heapAt σ l = some (.loop lp) ∧ w.heap[i.blk]? = some (.loop r) ∧ LoopR β lp r ∧ (Instr.getLoop i.blk).run P w = .ok r w := by
  unfold Am.getLoop at hl
  obtain ⟨o, ho, h1⟩ := ob_eq.1 hl
  have : o = .loop lp := by cases o <;> first | (cases h1; done) | skip
                            cases h1; rfl
  subst this
  obtain ⟨o', obj, ho', hw, hr⟩ := h.obj l i hb
  rw [ho] at ho'; cases ho'
  obtain ⟨_, r, rfl, hlr⟩ := hr
  refine ⟨r, ho, hw, hlr, ?_⟩
  simp [Instr.getLoop, run_getObj_at hw (by intros; simp) (by intros; simp)]

theorem isReady_eq {s : LoopState} (h : isReady s = true) : s = .ready := by cases s <;> first | rfl | cases h
theorem isNormal_eq {x : X} (h : isNormal x = true) : x = .normal := by cases x <;> first | rfl | cases h

theorem Good.setLoop (h : HRel P β σ w) {l : Nat} {i : BI} (hb : β l = some i) {lp lp' : LP} {r' : Loop} (ho : heapAt σ l = some (.loop lp)) (hr : LoopR β lp' r') :
    Good P β σ w β (setObj σ l (.loop lp')) { w with heap := w.heap.setIfInBounds i.blk (.loop r') } :=
  Good.setOther h hb ho (by intros; simp) (by intros; simp) rfl ⟨rfl, rfl, rfl⟩ ⟨r', rfl, hr⟩

theorem X.code_none {x : X} : x.code = none ↔ isNormal x = true := by cases x <;> simp [X.code, isNormal]

theorem endRound_sound {l : Nat} {i : BI} {x : X} {v : V} (h : HRel P β σ w) (hb : β l = some i) (he : Am.endRound l x fr σ = some (v, σ')) :
    ∃ z w', (Instr.endRound i.blk x.code).run P w = .ok z w' ∧ VR β v z ∧ Good P β σ w β σ' w' := by
  unfold Am.endRound at he
  obtain ⟨_, h1⟩ := ok_eq.1 he
  obtain ⟨lp, hlp, h2⟩ := ob_eq.1 h1
  cases h2
  obtain ⟨r, ho, hw, hlr, hg⟩ := h.loop hb hlp
  refine ⟨.bool x.code.isNone, { w with heap := w.heap.setIfInBounds i.blk (.loop { r with state := if x.code.isNone then .ready else .done, pending := x.code }) }, ?_, ?_, ?_⟩
  · simp [Instr.endRound, hg, run_setObj_at hw (by intros; simp)]
  · cases x <;> simp [VR, X.code, isNormal]
  · refine Good.setLoop h hb ho ⟨?_, rfl, hlr.tmps, hlr.params, hlr.assign, hlr.body, hlr.defers⟩
    cases x <;> rfl

/-- A round. -/
theorem round_sound {r : Rec} (hJ : JKeep P J) (hr : RecOk P J r) {F : Fence} {rd : Option Nat} {l : Nat} {i : BI} {args : List V} {v : V} (hF : RdR β rd F) (h : HRel P β σ w) (hj : J β w) (hb : β l = some i) {args' : Array Value} (hA : LR β args args'.toList)
    (he : stepYield r l args σ = some (v, σ')) : ∃ f tmps assign body, (Instr.yield i.blk args').run P w = .ok (.round i.blk f tmps assign body) w ∧
      RoundIn F 0 P i.blk f tmps assign body w fun e w' => ∃ z β', e = .returned z ∧ VR β' v z ∧ Good P β σ w β' σ' w' := by
  unfold stepYield at he
  obtain ⟨lp, hlp, h1⟩ := ob_eq.1 he
  obtain ⟨ts, hts, h2⟩ := ob_eq.1 h1
  obtain ⟨x1, fr1, σ1, hc1, h3⟩ := ob3_eq.1 h2
  obtain ⟨hn, h4⟩ := ok_eq.1 h3
  obtain ⟨lq, hlq, h5⟩ := ob_eq.1 h4
  obtain ⟨hrd, h6⟩ := ok_eq.1 h5
  obtain ⟨x2, fr2, σ2, hc2, h7⟩ := ob3_eq.1 h6
  have := isNormal_eq hn; subst this
  obtain ⟨lr, ho, hw, hlr, hg⟩ := h.loop hb hlp
  obtain ⟨hlen, htr⟩ := setAll_sound hts hA hlr.tmps
  have hsz : args'.size = lr.params.size := by
    rw [← hlr.params] at hlen
    simpa using hlen.symm
  refine ⟨lr.fn, (lr.params.zip args').foldl (fun tmps (t, a) => tmps.setIfInBounds t a) lr.tmps, lr.assign, lr.body, by simp [Instr.yield, hg, hsz], ?_⟩
  have htr' : TR β ⟨ts, lp.n, []⟩ ((lr.params.zip args').foldl (fun tmps (t, a) => tmps.setIfInBounds t a) lr.tmps) := by
    rw [← Array.foldl_toList, Array.toList_zip, hlr.params]
    exact htr
  refine roundIn_of_wpIn (hF.fn _) ?_
  rw [hlr.assign, hlr.body]
  refine wpIn_mono (hr.code _ _ _ _ _ _ _ hc1 β w ⟨_, []⟩ _ (hF.inRound hb) h hj ⟨htr', .nil⟩) fun e a1 w1 ⟨β1, hx, ha1, hg1⟩ => ?_
  have hx : e = .normal := hx
  subst hx
  have hb1 := hg1.ext _ _ hb
  obtain ⟨r1, ho1, hw1, hlr1, hgl1⟩ := hg1.rel.loop hb1 hlq
  have hst : r1.state = .ready := by rw [hlr1.st]; exact isReady_eq hrd
  have hg2 : Good P β1 σ1 w1 β1 (setObj σ1 l (.loop ⟨.busy, lq.pending, lq.ts, lq.n, lq.params, lq.assign, lq.body, lq.defers⟩)) { w1 with heap := w1.heap.setIfInBounds i.blk (.loop { r1 with state := .busy }) } :=
    Good.setLoop hg1.rel hb1 ho1 ⟨rfl, hlr1.pending, hlr1.tmps, hlr1.params, hlr1.assign, hlr1.body, hlr1.defers⟩
  show ∃ w₂, (Instr.beginRound i.blk).run P w1 = .ok () w₂ ∧ _
  refine ⟨{ w1 with heap := w1.heap.setIfInBounds i.blk (.loop { r1 with state := .busy }) }, by simp [Instr.beginRound, hgl1, run_setObj_at hw1 (by intros; simp), hst], ?_⟩
  refine wpIn_mono (hr.code _ _ _ _ _ _ _ hc2 β1 _ a1 _ ((hF.inRound hb).mono hg1.ext) hg2.rel (hJ _ _ _ _ _ _ (hg1.trans hg2) hj) ha1) fun e a2 w2 ⟨β2, hx2, ha2, hg3⟩ => ?_
  obtain ⟨z, w3, hz, hv, hg4⟩ := endRound_sound hg3.rel (hg3.ext _ _ hb1) h7
  have hG : Good P β σ w β2 σ' w3 := ((hg1.trans hg2).trans hg3).trans hg4
  cases x2 with
  | normal => have hx2 : e = .normal := hx2
              subst hx2; exact ⟨z, w3, hz, z, β2, rfl, hv, hG⟩
  | exit id => have hx2 : e = .exit id := hx2
               subst hx2; exact ⟨z, w3, hz, z, β2, rfl, hv, hG⟩
  | goto id => have hx2 : e = .goto id := hx2
               subst hx2; exact ⟨z, w3, hz, z, β2, rfl, hv, hG⟩
  | ret => have hx2 : e = .ret := hx2
           subst hx2; exact ⟨z, w3, hz, z, β2, rfl, hv, hG⟩

/-! One operation, in the world -/

theorem VR_bool_inv {v : V} {b : Bool} (h : VR β v (.bool b)) : v = .bool b := by
  cases v with
  | bool c => simp only [VR] at h; cases h; rfl
  | ptr p => cases p <;> simp [VR] at h
  | slc p n c => cases p <;> cases c <;> simp [VR] at h
  | map p => cases p <;> simp [VR] at h
  | _ => simp [VR] at h

theorem guardAt_none (want : Bool) (fr : Fr) : guardAt none want fr = false := rfl
theorem guardAt_some (d : Tmp) (want : Bool) (fr : Fr) : guardAt (some d) want fr = true ↔ fr.ts.get d = some (.bool want) := by
  show (Option.rec false (fun b => b == want) (asBoolAt fr d) : Bool) = true ↔ _
  have e : asBoolAt fr d = ob (fr.ts.get d) V.asBool := by cases fr; rfl
  rw [e]
  cases hg : fr.ts.get d with
  | none => exact ⟨fun h => (by cases h), fun h => (by cases h)⟩
  | some v =>
    show (Option.rec false (fun b => b == want) (v.asBool) : Bool) = true ↔ _
    cases hb : v.asBool with
    | none => exact ⟨fun h => (by cases h), fun h => (by cases h; cases hb)⟩
    | some b =>
      have := asBool_some hb; subst this
      show (b == want) = true ↔ _
      simp

theorem wanted_eq {ops : Array Oper} {o : Oper} (ha : TR β fr a.tmps) : Region.wanted o (yielded ops a.tmps) = wanted ops.toList o.guard fr := by
  unfold Region.wanted
  cases hg : o.guard with
  | none => rfl
  | some p =>
    obtain ⟨j, want⟩ := p
    simp only []
    rw [wanted_some]
    have hd : dstAt ops.toList j = (ops[j]?).bind (·.dst) := by
      unfold dstAt
      rw [nth_eq, Array.getElem?_toList]
      cases ops[j]? <;> rfl
    rw [hd]
    unfold yielded
    cases hb : (ops[j]?).bind (·.dst) with
    | none => rw [guardAt_none]; rfl
    | some d =>
      rw [Bool.eq_iff_iff, guardAt_some]
      have h1 := ha.2 d
      simp only [Option.bind_some]
      rw [Array.getD_eq_getD_getElem?] at h1
      constructor
      · intro h
        cases ht : a.tmps[d]? with
        | none => rw [ht] at h; simp at h
        | some z =>
          rw [ht] at h h1
          cases z with
          | bool b =>
            simp at h; subst h
            have := VR_bool_inv (by simpa using h1)
            cases hx : fr.ts.get d with
            | none => rw [hx] at this; cases this
            | some u => rw [hx] at this; simp at this; rw [this]
          | _ => simp at h
      · intro h
        rw [h] at h1
        simp only [Option.getD_some, VR] at h1
        cases ht : a.tmps[d]? with
        | none => rw [ht] at h1; cases h1
        | some z => rw [ht] at h1; simp at h1; rw [h1]; simp

theorem cal_sound (hP : Fit P) {r : Rec} (hJ : JKeep P J) (hr : RecOk P J r) {rd : Option Nat} {F : Fence} {o : Oper} {K : Act → World → Prop} {Q : Exit → Act → World → Prop} {f : Et} {t : Tgt} {v : V}
    (hw : opw P o.op = .cal f) (hF : RdR β rd F) (h : HRel P β σ w) (hj : J β w) (ha : TR β fr a.tmps) (he : f fr σ = some t) (ht : runTgt r σ t = some (v, σ'))
    (hK : ∀ β' z w', VR β' v z → Good P β σ w β' σ' w' → K (a.put o.dst z) w') : o.wpIn F 0 P a w K Q := by
  have hled : Led P β w (execOp a.eval o) t := by
    obtain ⟨dst, op, ty, pos, aft, g⟩ := o
    cases op
    case call c =>
      obtain ⟨callee, args, ts⟩ := c
      have hw : callW P callee args.toList ts.toList = .cal f := hw
      cases callee with
      | value x => cases hw; exact led_value ha he
      | invoke x n => cases hw; exact led_invoke h ha he
      | builtin b =>
        cases b
        case len => have hw : bLen P args.toList ts.toList = .cal f := hw; unfold bLen at hw; split at hw <;> cases hw
        case cap => have hw : bCap P args.toList ts.toList = .cal f := hw; unfold bCap at hw; split at hw <;> cases hw
        case min => have hw : bLeast false args.toList = .cal f := hw; unfold bLeast at hw; split at hw <;> cases hw
        case max => have hw : bLeast true args.toList = .cal f := hw; unfold bLeast at hw; split at hw <;> cases hw
        case append => have hw : bAppend P args.toList ts.toList = .cal f := hw; unfold bAppend at hw; split at hw <;> cases hw
        case copy => have hw : bCopy P args.toList ts.toList = .cal f := hw; unfold bCopy at hw; split at hw <;> cases hw
        case delete => have hw : bDelete P args.toList ts.toList = .cal f := hw; unfold bDelete at hw; split at hw <;> cases hw
        case clear => have hw : bClear P args.toList ts.toList = .cal f := hw; unfold bClear at hw; split at hw <;> cases hw
        all_goals cases hw
    case convert s d x =>
      have hw : convW P s d x = .cal f := hw
      unfold convW at hw
      cases hd : elemT P d with
      | some e => rw [hd] at hw; cases hw
      | none => rw [hd] at hw; cases hw
    case defer c =>
      have hw : deferW c.callee c.args.toList = .cal f := hw
      unfold deferW at hw; split at hw <;> cases hw
    all_goals cases hw
  have hnd : ∀ c, o.op ≠ .defer c := fun c e => by
    rw [e] at hw
    have hw : deferW c.callee c.args.toList = .cal f := hw
    unfold deferW at hw; split at hw <;> cases hw
  refine ⟨fun f _ => hF.fn f, ?_⟩
  rw [Oper.semAt_eq _ _ _ hnd]
  cases t with
  | func f args =>
    obtain ⟨args', hA, hrun⟩ := hled
    obtain ⟨⟨fn, hfn, hb⟩, hc⟩ := hr.call f args σ v σ' ht
    rw [hrun, run_callFunc hP hfn hb, Oper.uponIn_enter]
    refine ⟨fun hd => (by rw [hF.depth] at hd; cases hd), CallsIn.mono (hF.calls (hc β w args' h hj hA)) fun e w' ⟨z, β', he, hv, hg⟩ => ?_⟩
    subst he
    exact hK _ _ _ hv hg
  | yield l args =>
    obtain ⟨i, args', hi, hA, hrun⟩ := hled
    obtain ⟨f, tmps, assign, body, hy, hround⟩ := round_sound hJ hr hF h hj hi hA ht
    rw [hrun, hy, Oper.uponIn_round]
    refine ⟨fun hd => (by rw [hF.depth] at hd; cases hd), RoundIn.mono hround fun e w' ⟨z, β', he, hv, hg⟩ => ?_⟩
    subst he
    exact hK _ _ _ hv hg

/-- Behind an operation: whatever is shown of every frame and world that fits. -/
def Then (P : Program) (β : BM) (σ : St) (w : World) (fr' : Fr) (σ' : St) (K : Act → World → Prop) : Prop :=
  ∀ β' a' w', AR β' fr' a' → Good P β σ w β' σ' w' → K a' w'

theorem AR.at {o : Oper} {v : V} {z : Value} {β' : BM} (ha : AR β fr a) (hx : Ext β β') (hp : Fr.put o.dst ⟨fr.ts, fr.n, fr.ds⟩ v = some fr') (hv : VR β' v z) : AR β' fr' (a.put o.dst z) :=
  (ha.mono hx).put (by cases fr; exact hp) hv

theorem wpIn_value {rd : Option Nat} {F : Fence} {o : Oper} {K : Act → World → Prop} {Q : Exit → Act → World → Prop} {n : Next} {z : Value} {w' : World} (hF : RdR β rd F) (hnd : ∀ c, o.op ≠ .defer c)
    (hr : (execOp a.eval o).run P w = .ok n w') (hn : n = .value z ∨ (n = .skip ∧ z = Go.undef)) (hK : K (a.put o.dst z) w') : o.wpIn F 0 P a w K Q := by
  refine ⟨fun f _ => hF.fn f, ?_⟩
  rw [Oper.semAt_eq _ _ _ hnd, hr]
  rcases hn with rfl | ⟨rfl, rfl⟩ <;> exact hK

theorem not_defer {o : Op} {w : Ow} (hw : opw P o = w) (h : ∀ x xs, w ≠ .dfr x xs) (hno : w ≠ .no) : ∀ c, o ≠ .defer c := fun c e => by
  subst e
  subst hw
  obtain ⟨callee, args, ts⟩ := c
  cases callee with
  | value x => exact h _ _ rfl
  | _ => exact hno rfl

/-- A lay, in the world: its block, laid in the abstract state, is taken over. -/
theorem Laid.adopt {o : Oper} {k : Nat} {ob : Nat → O} {v : V} (h : HRel P β σ w) (hl : Laid P β w ((execOp a.eval o).run P w) k ob v) (hk : k + 1 < σ.next) (hn : β k = none) (ho : heapAt σ k = some (ob k)) :
    ∃ z w' i, (execOp a.eval o).run P w = .ok (.value z) w' ∧ VR (upd β k i) v z ∧ HRel P (upd β k i) σ w' ∧ w.heap.size ≤ w'.heap.size ∧
      (∀ b j, upd β k i b = some j → j.blk < w.heap.size → ∃ b0 i0, β b0 = some i0 ∧ i0.blk = j.blk) ∧ (∀ c, c < w.heap.size → w'.heap[c]? = w.heap[c]?) ∧ (w'.os = w.os ∧ w'.output = w.output ∧ w'.tape = w.tape) := by
  obtain ⟨hgo, z, obj, w', i, hrun, hheap, hcalm, hi, hβ⟩ := hl
  obtain ⟨hv, hobj⟩ := hβ (upd β k i) (upd_ext i hn) (upd_self _ _ _)
  have hgn : grpAt σ k = none := by
    cases hg : grpAt σ k with
    | none => rfl
    | some p =>
      obtain ⟨s, t⟩ := p
      obtain ⟨⟨_, j, hj⟩, _⟩ := h.gk k s t hg
      rw [hn] at hj; cases hj
  obtain ⟨h1, h2, h3, h4⟩ := Good.adopt h hheap hi hk hn ho hgo hgn (hobj σ)
  exact ⟨z, w', i, hrun, hv, h1, h2, h3, h4, hcalm⟩

theorem oper_sound (hP : Fit P) {r : Rec} (hJ : JKeep P J) (hr : RecOk P J r) {rd : Option Nat} {F : Fence} {ops : Array Oper} {i : Nat} {o : Oper} {K : Act → World → Prop} {Q : Exit → Act → World → Prop}
    (hi : ops[i]? = some o) (hF : RdR β rd F) (h : HRel P β σ w) (hj : J β w) (ha : AR β fr a) (he : (rdy P ops.toList o).go r rd fr σ = some (fr', σ')) (hK : Then P β σ w fr' σ' K) : wpOpIn F 0 P ops Q i K a w := by
  unfold wpOpIn
  simp only [hi, wanted_eq (ops := ops) (o := o) ha.1]
  rcases go_some.1 he with ⟨hwant, v, ds, hout, hput⟩ | ⟨hwant, rfl, hput⟩
  · rw [if_pos hwant]
    cases hw : opw P o.op with
    | pas f =>
      rw [hw] at hout
      obtain ⟨h1, rfl, rfl⟩ := hout
      obtain ⟨z, hz, hv⟩ := pas_sound (dst := o.dst) (ty := o.type) (pos := o.pos) (aft := o.after) (g := o.guard) hw h ha.1 h1
      exact wpIn_value hF (not_defer hw (by intros; simp) (by simp)) hz (.inl rfl) (hK _ _ _ (ha.at (Ext.refl β) hput hv) (Good.refl h))
    | trn f =>
      rw [hw] at hout
      obtain ⟨h1, rfl⟩ := hout
      obtain ⟨n, z, w', β', hrun, hn, hv, hg⟩ := trn_sound (dst := o.dst) (ty := o.type) (pos := o.pos) (aft := o.after) (g := o.guard) hw h ha.1 h1
      exact wpIn_value hF (not_defer hw (by intros; simp) (by simp)) hrun hn (hK _ _ _ (ha.at hg.ext hput hv) hg)
    | lay f =>
      rw [hw] at hout
      obtain ⟨h1, rfl⟩ := hout
      obtain ⟨k, ob, hal, hl⟩ := lay_sound (β := β) (w := w) (dst := o.dst) (ty := o.type) (pos := o.pos) (aft := o.after) (g := o.guard) hw ha.1 h1
      have hg := h.grow hal
      obtain ⟨hkn, rfl⟩ := alloc_eq.1 hal
      have hn : β k = none := by
        cases hb : β k with
        | none => rfl
        | some j => have := h.dom k j hb; omega
      have hh : heapAt (⟨σ.heap.put k (ob k), σ.grps, k + 2⟩ : St) k = some (ob k) := by
        rw [heapAt_mk, T.get_put, if_pos rfl]
      obtain ⟨z, w', j, hrun, hv, h2, h3, h4, h5, h6⟩ := Laid.adopt (o := o) hg hl (by show k + 1 < k + 2; omega) hn hh
      refine wpIn_value hF (not_defer hw (by intros; simp) (by simp)) hrun (.inl rfl) (hK _ _ _ (ha.at (upd_ext j hn) hput hv) ⟨upd_ext j hn, h2, h3, h4, fun c hc hnc => h5 c hc, h6, by rw [hkn]; show k + 1 ≤ k + 2; omega, fun b hb hnb => ?_⟩)
      have hbk : b ≠ k := by omega
      refine ⟨?_, rfl, by rw [upd_ne _ _ hbk]; exact hnb⟩
      rw [heapAt_mk, T.get_put_ne _ _ (Ne.symm hbk)]; cases σ; rfl
    | cal f =>
      rw [hw] at hout
      obtain ⟨t, h1, h2, rfl⟩ := hout
      exact cal_sound hP hJ hr hw hF h hj ha.1 h1 h2 fun β' z w' hv hg => hK _ _ _ (ha.at hg.ext hput hv) hg
    | dfr x xs =>
      rw [hw] at hout
      obtain ⟨rfl, u, vs, h1, h2, h3, rfl, rfl, rfl⟩ := hout
      have hF' : F = Fence.wide := hF
      subst hF'
      obtain ⟨dst, op, ty, pos, aft, g⟩ := o
      have hop : ∃ (c : Call), op = .defer c ∧ deferW c.callee c.args.toList = .dfr x xs := by
        cases op
        case defer c => exact ⟨c, rfl, hw⟩
        case call c =>
          obtain ⟨callee, args, ts⟩ := c
          have hw : callW P callee args.toList ts.toList = .dfr x xs := hw
          cases callee with
          | value x => cases hw
          | invoke x n => cases hw
          | builtin b =>
            cases b
            case len => have hw : bLen P args.toList ts.toList = .dfr x xs := hw; unfold bLen at hw; split at hw <;> cases hw
            case cap => have hw : bCap P args.toList ts.toList = .dfr x xs := hw; unfold bCap at hw; split at hw <;> cases hw
            case min => have hw : bLeast false args.toList = .dfr x xs := hw; unfold bLeast at hw; split at hw <;> cases hw
            case max => have hw : bLeast true args.toList = .dfr x xs := hw; unfold bLeast at hw; split at hw <;> cases hw
            case append => have hw : bAppend P args.toList ts.toList = .dfr x xs := hw; unfold bAppend at hw; split at hw <;> cases hw
            case copy => have hw : bCopy P args.toList ts.toList = .dfr x xs := hw; unfold bCopy at hw; split at hw <;> cases hw
            case delete => have hw : bDelete P args.toList ts.toList = .dfr x xs := hw; unfold bDelete at hw; split at hw <;> cases hw
            case clear => have hw : bClear P args.toList ts.toList = .dfr x xs := hw; unfold bClear at hw; split at hw <;> cases hw
            all_goals cases hw
        case convert s d x =>
          have hw : convW P s d x = _ := hw
          unfold convW at hw
          cases hd : elemT P d with
          | some e => rw [hd] at hw; cases hw
          | none => rw [hd] at hw; cases hw
        all_goals cases hw
      obtain ⟨⟨callee, args, ts⟩, rfl, hdw⟩ := hop
      cases callee with
      | invoke _ _ => cases hdw
      | builtin _ => cases hdw
      | value y =>
        have e1 : y = x ∧ args.toList = xs := by
          have : Ow.dfr y args.toList = .dfr x xs := hdw
          exact ⟨(Ow.dfr.inj this).1, (Ow.dfr.inj this).2⟩
        obtain ⟨rfl, rfl⟩ := e1
        have hU := ev_sound ha.1 h1
        have hA := evsA_sound ha.1 h3
        unfold isFuncV at h2
        split at h2
        · rename_i f first captured
          simp only [VR] at hU
          obtain ⟨f', a', b', he', hf, hfa, hfb⟩ := hU
          have hf' : f' = .func f := hf
          subst hf'
          refine ⟨fun f _ => trivial, ?_⟩
          have hsem : Oper.semAt Fence.wide.round a.eval ⟨dst, .defer ⟨.value y, args, ts⟩, ty, pos, aft, g⟩ = execOp a.eval ⟨dst, .defer ⟨.value y, args, ts⟩, ty, pos, aft, g⟩ := rfl
          have hrun : (execOp a.eval ⟨dst, .defer ⟨.value y, args, ts⟩, ty, pos, aft, g⟩).run P w = .ok (.defer { target := .fn (.func f) b', args := a' ++ args.map a.eval }) w := by
            simp [execOp, resolve, he', Deferred.ofValue]
          rw [hsem, hrun, Oper.uponIn_defer]
          have hdr : DR β (.call (.fn (.func f) first captured) vs) { target := .fn (.func f) b', args := a' ++ args.map a.eval } := ⟨f, first, captured, rfl, a', b', args.map a.eval, rfl, hfa, hfb, hA⟩
          have har : AR β ⟨fr.ts, fr.n, .call (.fn (.func f) first captured) vs :: fr.ds⟩ { a with defers := { target := .fn (.func f) b', args := a' ++ args.map a.eval } :: a.defers } := ⟨ha.1, .cons hdr ha.2⟩
          exact hK β _ _ (har.put hput (VR_undef β)) (Good.refl h)
        · cases h2
    | no => rw [hw] at hout; exact hout.elim
  · rw [if_neg (by rw [hwant]; simp)]
    exact ⟨fun f _ => hF.fn f, hK _ _ _ (ha.put hput (VR_undef β)) (Good.refl h)⟩
end
end Go.Am
namespace Go.Am

/-! WHAT STANDS AHEAD OF WHAT -/

noncomputable def befOne (o : Oper) (acc : List Nat) : Nat := o.after.toList.foldl (fun s e => cond (Region.binds .any e) (s ||| 2 ^ e.on ||| (nth e.on acc).getD 0) s) 0

theorem befores_nil (acc : List Nat) : befores [] acc = acc := rfl
theorem befores_cons (o : Oper) (l : List Oper) (acc : List Nat) : befores (o :: l) acc = befores l (acc ++ [befOne o acc]) := rfl

theorem befores_spec : ∀ (l : List Oper) (acc : List Nat), (∀ k, k < acc.length → (befores l acc)[k]? = acc[k]?) ∧
    ∀ m o, l[m]? = some o → (befores l acc)[acc.length + m]? = some (befOne o ((befores l acc).take (acc.length + m)))
  | [], acc => ⟨fun _ _ => rfl, fun m o h => by simp at h⟩
  | o :: l, acc => by
    rw [befores_cons]
    obtain ⟨h1, h2⟩ := befores_spec l (acc ++ [befOne o acc])
    have hp : ∀ k, k < acc.length → (befores l (acc ++ [befOne o acc]))[k]? = acc[k]? := fun k hk => by
      rw [h1 k (by simp; omega), List.getElem?_append_left hk]
    refine ⟨hp, fun m o' hm => ?_⟩
    cases m with
    | zero =>
      simp at hm; subst hm
      rw [h1 _ (by simp)]
      have : (befores l (acc ++ [befOne o acc])).take (acc.length + 0) = acc := by
        apply List.ext_getElem?
        intro k
        rw [List.getElem?_take]
        split
        · exact hp k (by omega)
        · rw [List.getElem?_eq_none (by omega)]
      rw [this]
      simp
    | succ m =>
      have h3 := h2 m o' (by simpa using hm)
      have e : (acc ++ [befOne o acc]).length + m = acc.length + (m + 1) := by simp; omega
      rw [e] at h3
      exact h3

theorem foldl_bit (acc : List Nat) (j : Nat) : ∀ (es : List Edge) (s : Nat), (es.foldl (fun s e => cond (Region.binds .any e) (s ||| 2 ^ e.on ||| (nth e.on acc).getD 0) s) s).testBit j = true ↔
    s.testBit j = true ∨ ∃ e ∈ es, Region.binds .any e = true ∧ (e.on = j ∨ ((nth e.on acc).getD 0).testBit j = true)
  | [], s => by simp
  | e :: es, s => by
    rw [List.foldl_cons, foldl_bit acc j es]
    cases hb : Region.binds .any e with
    | true =>
      simp only [cond_true, Nat.testBit_or, Nat.testBit_two_pow, Bool.or_eq_true, decide_eq_true_eq, List.mem_cons]
      constructor
      · rintro (((h | h) | h) | ⟨e', h1, h2⟩)
        · exact .inl h
        · exact .inr ⟨e, .inl rfl, hb, .inl h⟩
        · exact .inr ⟨e, .inl rfl, hb, .inr h⟩
        · exact .inr ⟨e', .inr h1, h2⟩
      · rintro (h | ⟨e', rfl | h1, h2, h3⟩)
        · exact .inl (.inl (.inl h))
        · rcases h3 with h3 | h3
          · exact .inl (.inl (.inr h3))
          · exact .inl (.inr h3)
        · exact .inr ⟨e', h1, h2, h3⟩
    | false =>
      simp only [cond_false, List.mem_cons]
      constructor
      · rintro (h | ⟨e', h1, h2⟩)
        · exact .inl h
        · exact .inr ⟨e', .inr h1, h2⟩
      · rintro (h | ⟨e', rfl | h1, h2, h3⟩)
        · exact .inl h
        · rw [hb] at h2; cases h2
        · exact .inr ⟨e', h1, h2, h3⟩

/-- j stands ahead of i. -/
def B (bef : List Nat) (i j : Nat) : Prop := (aheadOf bef i).testBit j = true
theorem aheadOf_eq (bef : List Nat) (i : Nat) : aheadOf bef i = (bef[i]?).getD 0 := by
  unfold aheadOf
  rw [nth_eq]
  cases bef[i]? <;> rfl

theorem number_get {α : Type} : ∀ (l : List α) (n i : Nat), (number l n)[i]? = (l[i]?).map fun a => (n + i, a)
  | [], n, i => by cases i <;> rfl
  | a :: l, n, i => by
    show ((n, a) :: number l (n + 1))[i]? = _
    cases i with
    | zero => simp
    | succ i =>
      simp only [List.getElem?_cons_succ, number_get l (n + 1) i]
      cases l[i]? <;> simp
      omega

/-- What is asked of a region, once. -/
structure Static (P : Program) (ops : Array Oper) (bef : List Nat) : Prop where
  ahead : ∀ i o, ops[i]? = some o → ∀ j, B bef i j → ∃ e ∈ o.after, Region.binds .any e = true ∧ (e.on = j ∨ B bef e.on j)
  edge : ∀ i o, ops[i]? = some o → ∀ e ∈ o.after, Region.binds .any e = true → e.on < i ∧ B bef i e.on
  apart : ∀ i o, ops[i]? = some o → ∀ j o' d, ops[j]? = some o' → o'.dst = some d → (j = i ∨ o.dst ≠ some d) ∧ (B bef i j ∨ d ∉ o.looksAt ops ∨ (B bef j i ∧ isTurn P o' = true))

theorem static_of {P : Program} {ops : Array Oper} (h : tempsOk P (befores ops.toList []) ops.toList (number ops.toList 0) = true) : Static P ops (befores ops.toList []) := by
  have hb := (befores_spec ops.toList []).2
  simp only [List.length_nil, Nat.zero_add] at hb
  have hall : ∀ i o, ops[i]? = some o → tempsOne P (number ops.toList 0) (befores ops.toList []) ops.toList i o = true := fun i o hi => by
    unfold tempsOk at h
    rw [List.all_eq_true] at h
    refine h (i, o) (List.mem_of_getElem? (i := i) ?_)
    rw [number_get, Array.getElem?_toList, hi]; simp
  have hlow : ∀ i o, ops[i]? = some o → ∀ e ∈ o.after, Region.binds .any e = true → e.on < i := fun i o hi e he hbi => by
    have h1 := hall i o hi
    unfold tempsOne at h1
    simp only [Bool.and_eq_true, List.all_eq_true] at h1
    have h2 := h1.1 e (by simpa using he)
    rw [hbi] at h2
    simpa using h2
  have hbit : ∀ i o, ops[i]? = some o → ∀ j, B (befores ops.toList []) i j ↔ ∃ e ∈ o.after, Region.binds .any e = true ∧ (e.on = j ∨ B (befores ops.toList []) e.on j) := fun i o hi j => by
    unfold B
    rw [aheadOf_eq, hb i o (by rw [Array.getElem?_toList]; exact hi)]
    simp only [Option.getD_some]
    unfold befOne
    rw [foldl_bit]
    simp only [Nat.zero_testBit, Bool.false_eq_true, false_or, Array.mem_toList_iff]
    constructor
    · rintro ⟨e, h1, h2, h3⟩
      refine ⟨e, h1, h2, h3.imp id fun h3 => ?_⟩
      rw [nth_eq, List.getElem?_take, if_pos (hlow i o hi e h1 h2)] at h3
      rw [aheadOf_eq]; exact h3
    · rintro ⟨e, h1, h2, h3⟩
      refine ⟨e, h1, h2, h3.imp id fun h3 => ?_⟩
      rw [nth_eq, List.getElem?_take, if_pos (hlow i o hi e h1 h2)]
      rw [aheadOf_eq] at h3; exact h3
  refine ⟨fun i o hi j hj => (hbit i o hi j).1 hj, fun i o hi e he hbi => ⟨hlow i o hi e he hbi, (hbit i o hi e.on).2 ⟨e, he, hbi, .inl rfl⟩⟩, fun i o hi j o' d hj hd => ?_⟩
  have h1 := hall i o hi
  unfold tempsOne at h1
  simp only [Bool.and_eq_true, List.all_eq_true] at h1
  have h2 := h1.2 (j, o') (List.mem_of_getElem? (i := j) (by rw [number_get, Array.getElem?_toList, hj]; simp))
  simp only [hd, Bool.and_eq_true, Bool.or_eq_true] at h2
  obtain ⟨h3, h4⟩ := h2
  refine ⟨?_, ?_⟩
  · rcases h3 with h3 | h3
    · exact .inl (Nat.eq_of_beq_eq_true h3)
    · refine .inr fun e => ?_
      rw [e] at h3
      simp at h3
  · rcases h4 with h4 | h4
    · exact .inl h4
    rcases h4 with h4 | h4
    · refine .inr (.inl fun e => ?_)
      have : looks ops.toList o = o.looksAt ops := by unfold looks; simp
      rw [← this] at e
      have := List.all_eq_true.1 h4 d e
      simp at this
    · exact .inr (.inr h4)

/-! Agreement -/
theorem tmpAt_eq (t : Tmp) (fr : Fr) : tmpAt t fr = fr.ts.get t := by cases fr; rfl
theorem ev_get {x : Operand} {fr fr' : Fr} (h : ∀ t, x = .tmp t → fr.ts.get t = fr'.ts.get t) : ev x fr = ev x fr' := by
  cases x with
  | tmp t =>
    have := h t rfl
    cases fr; cases fr'
    simp only at this
    show (Option.rec (some Am.undef) (fun v => some v) (T.get _ t) : Option V) = (Option.rec (some Am.undef) (fun v => some v) (T.get _ t) : Option V)
    rw [this]
  | const v => rfl
  | global g => rfl
  | func f => rfl

theorem looks_same {P : Program} {ops : Array Oper} {o : Oper} {fr fr' : Fr} (h : ∀ t ∈ o.looksAt ops, fr.ts.get t = fr'.ts.get t) : Same fr fr' (opw P o.op) :=
  opw_same fun x hx => ev_get fun t ht => h t (by
    subst ht
    exact List.mem_append_left _ (List.mem_filterMap.2 ⟨.tmp t, by simpa using hx, rfl⟩))

theorem dstAt_eq (ops : Array Oper) (j : Nat) : dstAt ops.toList j = (ops[j]?).bind (·.dst) := by
  unfold dstAt
  rw [nth_eq, Array.getElem?_toList]
  cases ops[j]? <;> rfl

theorem wanted_same {ops : Array Oper} {o : Oper} {fr fr' : Fr} (h : ∀ t ∈ o.looksAt ops, fr.ts.get t = fr'.ts.get t) : wanted ops.toList o.guard fr = wanted ops.toList o.guard fr' := by
  cases hg : o.guard with
  | none => rfl
  | some p =>
    obtain ⟨j, want⟩ := p
    rw [wanted_some, wanted_some, dstAt_eq]
    cases hd : (ops[j]?).bind (·.dst) with
    | none => rfl
    | some d =>
      have : d ∈ o.looksAt ops := by
        unfold Oper.looksAt
        rw [hg]
        exact List.mem_append_right _ (by simp [hd])
      rw [Bool.eq_iff_iff, guardAt_some, guardAt_some, h d this]

/-! The same value -/
mutual
theorem same_eq : ∀ (a b : V), same a b = true → a = b
  | .bool a, b, h => by cases b <;> simp [same] at h; subst h; rfl
  | .int k a, b, h => by
    cases b <;> simp [same] at h
    obtain ⟨h1, h2⟩ := h
    have := (eqK_iff _ _).1 h1; subst this
    rw [eqInt_eq] at h2
    simp at h2; rw [h2]
  | .str a, b, h => by cases b <;> simp [same] at h; rw [(eqNats_iff _ _).1 h]
  | .ptr a, b, h => by cases b <;> simp [same] at h; subst h; rfl
  | .slc a n c, b, h => by cases b <;> simp [same] at h; obtain ⟨⟨rfl, rfl⟩, rfl⟩ := h; rfl
  | .map a, b, h => by cases b <;> simp [same] at h; subst h; rfl
  | .nilfn, b, h => by cases b <;> simp [same] at h; rfl
  | .nilifc, b, h => by cases b <;> simp [same] at h; rfl
  | .fn f a c, b, h => by
    cases b <;> simp [same] at h
    obtain ⟨⟨rfl, h1⟩, h2⟩ := h
    rw [sames_eq _ _ h1, sames_eq _ _ h2]
  | .ifc t a, b, h => by
    cases b <;> simp [same] at h
    obtain ⟨rfl, h1⟩ := h
    rw [same_eq _ _ h1]
  | .agg a, b, h => by cases b <;> simp [same] at h; rw [sames_eq _ _ h]
  | .tup a, b, h => by cases b <;> simp [same] at h; rw [sames_eq _ _ h]
theorem sames_eq : ∀ (a b : List V), sames a b = true → a = b
  | [], b, h => by cases b <;> simp [sames] at h; rfl
  | a :: l, b, h => by
    cases b <;> simp [sames] at h
    rw [same_eq _ _ h.1, sames_eq _ _ h.2]
end

/-! The order -/
theorem planOk_nil (P : Program) (ops : List Oper) (bef : List Nat) (m : Nat) (last : Option Nat) : planOk P ops bef [] m last = Nat.beq (m + 1) (2 ^ len ops) := rfl
theorem planOk_cons (P : Program) (ops : List Oper) (bef : List Nat) (i : Nat) (is : List Nat) (m : Nat) (last : Option Nat) :
    planOk P ops bef (i :: is) m last = (readyNow bef m i && (lastAhead bef last i && planOk P ops bef is (m ||| 2 ^ i) (Bool.rec last (some i) (turnAt P ops i)))) := rfl

theorem readyNow_spec {bef : List Nat} {m i : Nat} (h : readyNow bef m i = true) : m.testBit i = false ∧ ∀ j, B bef i j → m.testBit j = true := by
  unfold readyNow at h
  simp only [Bool.and_eq_true, Bool.not_eq_true'] at h
  refine ⟨h.1, fun j hj => ?_⟩
  have e := Nat.eq_of_beq_eq_true h.2
  unfold B at hj
  rw [← e] at hj
  rw [show Nat.land (aheadOf bef i) m = aheadOf bef i &&& m from rfl, Nat.testBit_and] at hj
  simp at hj; exact hj.2

theorem planOk_all {P : Program} {ops : List Oper} {bef : List Nat} : ∀ {l : List Nat} {m : Nat} {last : Option Nat}, planOk P ops bef l m last = true →
    (∀ i, i < ops.length → m.testBit i = true ∨ i ∈ l) ∧ (∀ i ∈ l, m.testBit i = false)
  | [], m, last, h => by
    rw [planOk_nil] at h
    have e := Nat.eq_of_beq_eq_true h
    rw [len_eq] at e
    have e : m = 2 ^ ops.length - 1 := by omega
    refine ⟨fun i hi => .inl ?_, fun i hi => by cases hi⟩
    rw [e, Nat.testBit_two_pow_sub_one]; simpa using hi
  | k :: l, m, last, h => by
    rw [planOk_cons] at h
    simp only [Bool.and_eq_true] at h
    obtain ⟨h1, h2, h3⟩ := h
    obtain ⟨h4, h5⟩ := planOk_all h3
    refine ⟨fun i hi => ?_, fun i hi => ?_⟩
    · rcases h4 i hi with h | h
      · rw [Nat.testBit_or, Nat.testBit_two_pow] at h
        simp at h
        rcases h with h | h
        · exact .inl h
        · exact .inr (by simp [h])
      · exact .inr (List.mem_cons_of_mem _ h)
    · rcases List.mem_cons.1 hi with rfl | hi
      · exact (readyNow_spec h1).1
      · have := h5 i hi
        rw [Nat.testBit_or] at this
        simp at this; exact this.1

theorem lastAhead_some {bef : List Nat} {h i : Nat} (hl : lastAhead bef (some h) i = true) : B bef i h := hl

theorem planOk_behind {P : Program} {ops : List Oper} {bef : List Nat} : ∀ {l : List Nat} {m h : Nat}, planOk P ops bef l m (some h) = true → ∀ i ∈ l, ∃ k, (k = h ∨ k ∈ l) ∧ B bef i k
  | [], _, _, _, _, hi => by cases hi
  | j :: l, m, h, hp, i, hi => by
    rw [planOk_cons] at hp
    simp only [Bool.and_eq_true] at hp
    obtain ⟨h1, h2, h3⟩ := hp
    rcases List.mem_cons.1 hi with rfl | hi
    · exact ⟨h, .inl rfl, lastAhead_some h2⟩
    · cases ht : turnAt P ops j with
      | true =>
        rw [ht] at h3
        obtain ⟨k, hk, hB⟩ := planOk_behind (h := j) h3 i hi
        exact ⟨k, .inr (by rcases hk with rfl | hk <;> simp [*]), hB⟩
      | false =>
        rw [ht] at h3
        obtain ⟨k, hk, hB⟩ := planOk_behind (h := h) h3 i hi
        exact ⟨k, by rcases hk with rfl | hk <;> simp [*], hB⟩

theorem runDrawn_nil (P : Program) (ops : List Oper) (bef : List Nat) (r : Rec) (rd : Option Nat) (done : List Nat) (last : Option Nat) (fr : Fr) (σ : St) :
    runDrawn ops bef [] P r rd done last fr σ = ok (lastOk P ops bef done last fr σ) (some (fr, σ)) := rfl
theorem runDrawn_cons (P : Program) (ops : List Oper) (bef : List Nat) (r : Rec) (rd : Option Nat) (i : Nat) (is : List Nat) (done : List Nat) (last : Option Nat) (fr : Fr) (σ : St) :
    runDrawn ops bef (i :: is) P r rd done last fr σ = ob (nth i ops) fun o =>
      Bool.rec (ob2 ((rdy P ops o).go r rd fr σ) (runDrawn ops bef is P r rd (i :: done) last))
        (ok (lastOk P ops bef done last fr σ) (ob2 ((rdy P ops o).go r rd fr σ) (runDrawn ops bef is P r rd (i :: done) (some i))))
        (isTurn P o) := rfl

theorem still_spec {P : Program} {ops : List Oper} {ah : Nat} {fr : Fr} {σ : St} : ∀ {done : List Nat}, still P ops ah done fr σ = true → ∀ i ∈ done, ah.testBit i = false → ∃ o, ops[i]? = some o ∧ stillOne P ops o fr σ = true
  | [], _, _, hi, _ => by cases hi
  | j :: done, h, i, hi, ha => by
    have h' : Bool.rec false (still P ops ah done fr σ) (ah.testBit j || Option.rec false (fun o => stillOne P ops o fr σ) (nth j ops)) = true := h
    cases hc : (ah.testBit j || (Option.rec false (fun o => stillOne P ops o fr σ) (nth j ops) : Bool)) with
    | false => rw [hc] at h'; cases h'
    | true =>
      rw [hc] at h'
      rcases List.mem_cons.1 hi with rfl | hi
      · rw [ha, Bool.false_or] at hc
        rw [nth_eq] at hc
        cases ho : ops[i]? with
        | none => rw [ho] at hc; cases hc
        | some o => rw [ho] at hc; exact ⟨o, rfl, hc⟩
      · exact still_spec h' i hi ha

theorem stillOne_pas {P : Program} {ops : List Oper} {o : Oper} {f : Ev} {fr : Fr} {σ : St} (hw : opw P o.op = .pas f) (h : stillOne P ops o fr σ = true) (hg : wanted ops o.guard fr = true) :
    ∃ v, f fr σ = some v ∧ ∀ d, o.dst = some d → fr.ts.get d = some v := by
  unfold stillOne at h
  rw [hw] at h
  simp only [hg, Bool.not_true, Bool.false_or] at h
  unfold stillP at h
  cases hf : f fr σ with
  | none => rw [hf] at h; cases h
  | some v =>
    rw [hf] at h
    refine ⟨v, rfl, fun d hd => ?_⟩
    rw [hd] at h
    simp only [tmpAt_eq] at h
    cases hu : fr.ts.get d with
    | none => rw [hu] at h; cases h
    | some u => rw [hu] at h; rw [same_eq _ _ h]

end Go.Am
namespace Go.Am

theorem Fr.put_spec {dst : Option Tmp} {fr fr' : Fr} {v : V} (h : Fr.put dst fr v = some fr') :
    (∀ d, dst = some d → d < fr.n ∧ fr'.ts.get d = some v) ∧ (∀ t, dst ≠ some t → fr'.ts.get t = fr.ts.get t) ∧ fr'.n = fr.n ∧ fr'.ds = fr.ds := by
  obtain ⟨ts, n, ds⟩ := fr
  cases dst with
  | none => have := Option.some.inj (h : some (Fr.mk ts n ds) = some fr'); subst this; exact ⟨fun d e => (by cases e), fun _ _ => rfl, rfl, rfl⟩
  | some d =>
    have h' : ok (Nat.blt d n) (some (Fr.mk (ts.lay d v) n ds)) = some fr' := h
    obtain ⟨hd, h'⟩ := ok_eq.1 h'
    have hd' : d < n := Nat.le_of_ble_eq_true hd
    have := Option.some.inj h'; subst this
    refine ⟨fun e he => ?_, fun t ht => ?_, rfl, rfl⟩
    · cases he; exact ⟨hd', by show (ts.lay d v).get d = some v; rw [T.get_lay, if_pos rfl]⟩
    · show (ts.lay d v).get t = ts.get t
      rw [T.get_lay, if_neg (fun e => ht (by rw [e]))]
theorem Fr.put_can {dst : Option Tmp} {fr : Fr} (v : V) (h : ∀ d, dst = some d → d < fr.n) : ∃ fr', Fr.put dst fr v = some fr' := by
  obtain ⟨ts, n, ds⟩ := fr
  cases dst with
  | none => exact ⟨_, rfl⟩
  | some d =>
    refine ⟨⟨ts.lay d v, n, ds⟩, ?_⟩
    show ok (Nat.blt d n) (some (Fr.mk (ts.lay d v) n ds)) = _
    rw [ok_eq]
    exact ⟨Nat.ble_eq_true_of_le (h d rfl), rfl⟩

theorem lay_allocs {P : Program} {o : Op} {f : Es} {fr : Fr} {σ σ' : St} {v : V} (hw : opw P o = .lay f) (he : f fr σ = some (v, σ')) : ∃ k ob, alloc σ ob = some (k, σ') := by
  cases o
  case alloc e =>
    cases hw
    obtain ⟨z, hz, he1⟩ := ob_eq.1 (he : aAlloc P e fr σ = _)
    obtain ⟨k, σ1, hal, he2⟩ := ob2_eq.1 he1
    cases he2; exact ⟨k, _, hal⟩
  case box e x =>
    cases hw
    obtain ⟨_, _, he0⟩ := ob_eq.1 (he : aBox P e x fr σ = _)
    obtain ⟨_, _, he1⟩ := ob_eq.1 he0
    obtain ⟨k, σ1, hal, he2⟩ := ob2_eq.1 he1
    cases he2; exact ⟨k, _, hal⟩
  case buildSlice t n ps =>
    cases hw
    obtain ⟨_, _, h1⟩ := ob_eq.1 (he : aBuildSlice P t n ps fr σ = _)
    obtain ⟨_, h2⟩ := ok_eq.1 h1
    obtain ⟨_, _, h3⟩ := ob_eq.1 h2
    obtain ⟨_, _, h4⟩ := ob_eq.1 h3
    obtain ⟨k, σ1, hal, he2⟩ := ob2_eq.1 h4
    cases he2; exact ⟨k, _, hal⟩
  case makeSlice t l c =>
    cases hw
    obtain ⟨_, _, h1⟩ := ob_eq.1 (he : aMakeSlice P t l c fr σ = _)
    obtain ⟨_, _, h2⟩ := ob_eq.1 h1
    obtain ⟨_, _, h3⟩ := ob_eq.1 h2
    obtain ⟨_, _, h4⟩ := ob_eq.1 h3
    obtain ⟨_, h5⟩ := ok_eq.1 h4
    obtain ⟨k, σ1, hal, he2⟩ := ob2_eq.1 h5
    cases he2; exact ⟨k, _, hal⟩
  case makeMap t r =>
    cases hw
    obtain ⟨_, _, h1⟩ := ob_eq.1 (he : aMakeMap P t r fr σ = _)
    obtain ⟨_, _, h2⟩ := ob_eq.1 h1
    obtain ⟨k, σ1, hal, he2⟩ := ob2_eq.1 (show ob2 (alloc σ fun _ => .map [] 0) (fun r σ => some (.map (some r), σ)) = some (v, σ') from h2)
    cases he2; exact ⟨k, _, hal⟩
  case convert s d x =>
    have hw : convW P s d x = .lay f := hw
    unfold convW at hw
    cases hd : elemT P d with
    | none => rw [hd] at hw; cases hw
    | some e =>
      rw [hd] at hw; cases hw
      obtain ⟨_, _, h1⟩ := ob_eq.1 (he : aConv P s d x fr σ = _)
      obtain ⟨_, h2⟩ := ok_eq.1 h1
      obtain ⟨u, _, h3⟩ := ob_eq.1 h2
      unfold strBytes at h3
      split at h3
      · obtain ⟨k, σ1, hal, he2⟩ := ob2_eq.1 h3
        cases he2; exact ⟨k, _, hal⟩
      · cases h3
  case call c =>
    obtain ⟨callee, args, ts⟩ := c
    have hw : callW P callee args.toList ts.toList = .lay f := hw
    cases callee with
    | value x => cases hw
    | invoke x n => cases hw
    | builtin b =>
      cases b
      case len => have hw : bLen P args.toList ts.toList = .lay f := hw; unfold bLen at hw; split at hw <;> cases hw
      case cap => have hw : bCap P args.toList ts.toList = .lay f := hw; unfold bCap at hw; split at hw <;> cases hw
      case min => have hw : bLeast false args.toList = .lay f := hw; unfold bLeast at hw; split at hw <;> cases hw
      case max => have hw : bLeast true args.toList = .lay f := hw; unfold bLeast at hw; split at hw <;> cases hw
      case append => have hw : bAppend P args.toList ts.toList = .lay f := hw; unfold bAppend at hw; split at hw <;> cases hw
      case copy => have hw : bCopy P args.toList ts.toList = .lay f := hw; unfold bCopy at hw; split at hw <;> cases hw
      case delete => have hw : bDelete P args.toList ts.toList = .lay f := hw; unfold bDelete at hw; split at hw <;> cases hw
      case clear => have hw : bClear P args.toList ts.toList = .lay f := hw; unfold bClear at hw; split at hw <;> cases hw
      all_goals cases hw
  case defer c =>
    have hw : deferW c.callee c.args.toList = .lay f := hw
    unfold deferW at hw; split at hw <;> cases hw
  all_goals cases hw

/-- An operation that has been done here, and not yet in the world. -/
structure PendOk (P : Program) (ops : Array Oper) (σ0 : St) (o : Oper) (k : Nat) (fr : Fr) (σ : St) (β : BM) : Prop where
  turn : isTurn P o = false
  room : ∀ d, o.dst = some d → d < fr.n
  skip : wanted ops.toList o.guard fr = false → ∀ d, o.dst = some d → fr.ts.get d = some Am.undef
  lay : wanted ops.toList o.guard fr = true → ∀ f, opw P o.op = .lay f → ∃ σa σb v, f fr σa = some (v, σb) ∧ σa.next = k + 1 ∧ heapAt σ k = heapAt σb k ∧ β k = none ∧ k + 1 < σ.next ∧ σ0.next ≤ k + 1 ∧
    ∀ d, o.dst = some d → fr.ts.get d = some v

def LayW (P : Program) (ops : Array Oper) (fr : Fr) (o : Oper) : Prop := wanted ops.toList o.guard fr = true ∧ ∃ f, opw P o.op = .lay f

def Pd (listed : Array Bool) (done : List Nat) (i : Nat) : Prop := i ∈ done ∧ listed.getD i false = false

structure Inv (P : Program) (ops : Array Oper) (bef : List Nat) (β0 : BM) (σ0 : St) (w0 : World) (listed : Array Bool) (done : List Nat) (mask : Nat) (last : Option Nat) (fr : Fr) (σ : St) (β : BM) (frD : Fr) (a : Act) (w : World) (kk : Nat → Nat) : Prop where
  lsize : listed.size = ops.size
  mask : ∀ i, mask.testBit i = true ↔ i ∈ done
  ld : ∀ i, listed.getD i false = true → i ∈ done
  closed : ∀ i j, listed.getD i false = true → B bef i j → listed.getD j false = true
  dclosed : ∀ i ∈ done, ∀ j, B bef i j → j ∈ done
  dn : ∀ i ∈ done, ∃ o, ops[i]? = some o
  lastl : ∀ h, last = some h → listed.getD h false = true
  good : Good P β0 σ0 w0 β σ w
  ar : AR β frD a
  n : frD.n = fr.n
  ds : frD.ds = fr.ds
  agree : ∀ t, (∀ i o, Pd listed done i → ops[i]? = some o → o.dst ≠ some t) → frD.ts.get t = fr.ts.get t
  pend : ∀ i o, Pd listed done i → ops[i]? = some o → PendOk P ops σ0 o (kk i) fr σ β
  kinj : ∀ i j oi oj, Pd listed done i → Pd listed done j → ops[i]? = some oi → ops[j]? = some oj → LayW P ops fr oi → LayW P ops fr oj → kk i = kk j → i = j

section
variable {P : Program} {ops : Array Oper} {bef : List Nat} {r : Rec} {rd : Option Nat} {β0 β : BM} {σ0 σ σ1 : St} {w0 w : World} {listed : Array Bool} {done : List Nat} {mask : Nat} {last : Option Nat} {fr fr1 frD : Fr} {a : Act} {kk : Nat → Nat}

theorem Inv.looks (hS : Static P ops bef) (hI : Inv P ops bef β0 σ0 w0 listed done mask last fr σ β frD a w kk) {i : Nat} {o : Oper} (hi : ops[i]? = some o) (hB : ∀ j, B bef i j → listed.getD j false = true) :
    ∀ t ∈ o.looksAt ops, frD.ts.get t = fr.ts.get t := fun t ht => hI.agree t fun j o' hp hj hd => by
  rcases (hS.apart i o hi j o' t hj hd).2 with h | h | ⟨_, h⟩
  · have := hB j h; rw [hp.2] at this; cases this
  · exact h ht
  · rw [(hI.pend j o' hp hj).turn] at h; cases h

theorem not_turn {o : Oper} (h : isTurn P o = false) : (∃ f, opw P o.op = .pas f) ∨ (∃ f, opw P o.op = .lay f) := by
  unfold isTurn at h
  rw [Bool.or_eq_false_iff] at h
  have h := h.2
  split at h
  · rename_i f hf; exact .inl ⟨f, hf⟩
  · rename_i f hf; exact .inr ⟨f, hf⟩
  · cases h

theorem Good.grew (h : HRel P β σ w) {k : Nat} {ob : Nat → O} (ha : alloc σ ob = some (k, σ1)) : Good P β σ w β σ1 w := by
  have hr := h.grow ha
  obtain ⟨hk, rfl⟩ := alloc_eq.1 ha
  refine ⟨Ext.refl β, hr, Nat.le_refl _, fun b i hb _ => ⟨b, i, hb, rfl⟩, fun _ _ _ => rfl, ⟨rfl, rfl, rfl⟩, by rw [hk]; show k + 1 ≤ k + 2; omega, fun b hb hn => ⟨?_, rfl, hn⟩⟩
  rw [heapAt_mk, T.get_put_ne _ _ (by omega)]; cases σ; rfl

theorem advance1 (hS : Static P ops bef) (hI : Inv P ops bef β0 σ0 w0 listed done mask last fr σ β frD a w kk) {i : Nat} {o : Oper} (hi : ops[i]? = some o) (ht : isTurn P o = false) (hready : readyNow bef mask i = true)
    (hgo : (rdy P ops.toList o).go r rd fr σ = some (fr1, σ1)) : ∃ kk', Inv P ops bef β0 σ0 w0 listed (i :: done) (mask ||| 2 ^ i) last fr1 σ1 β frD a w kk' := by
  obtain ⟨hm, hbm⟩ := readyNow_spec hready
  have hnd : i ∉ done := fun h => by rw [(hI.mask i).2 h] at hm; cases hm
  have hnB : ¬ B bef i i := fun h => by rw [hbm i h] at hm; cases hm
  have hnl : listed.getD i false = false := by
    cases h : listed.getD i false with
    | false => rfl
    | true => exact absurd (hI.ld i h) hnd
  -- what the step does
  have hstep : ∃ v, Fr.put o.dst fr v = some fr1 ∧ Good P β σ w β σ1 w ∧ (∀ k, k + 1 < σ.next → heapAt σ1 k = heapAt σ k) ∧ σ.next ≤ σ1.next ∧
      (wanted ops.toList o.guard fr = false → v = Am.undef) ∧ (wanted ops.toList o.guard fr = true → ∀ f, opw P o.op = .lay f → f fr σ = some (v, σ1) ∧ ∃ k, σ.next = k + 1 ∧ σ1.next = k + 2) := by
    rcases go_some.1 hgo with ⟨hw, v, ds, hout, hput⟩ | ⟨hw, rfl, hput⟩
    · rcases not_turn ht with ⟨f, hf⟩ | ⟨f, hf⟩
      · rw [hf] at hout
        obtain ⟨h1, rfl, rfl⟩ := hout
        refine ⟨v, by cases fr; exact hput, Good.refl hI.good.rel, fun _ _ => rfl, Nat.le_refl _, fun h => (by rw [hw] at h; cases h), fun _ f' hf' => (by rw [hf] at hf'; cases hf')⟩
      · rw [hf] at hout
        obtain ⟨h1, rfl⟩ := hout
        obtain ⟨k, ob, hal⟩ := lay_allocs hf h1
        have hg := Good.grew hI.good.rel hal
        obtain ⟨hk, he⟩ := alloc_eq.1 hal
        refine ⟨v, by cases fr; exact hput, hg, fun c hc => ?_, hg.next, fun h => (by rw [hw] at h; cases h), fun _ f' hf' => ?_⟩
        · rw [he, heapAt_mk, T.get_put_ne _ _ (by omega)]; cases σ; rfl
        · rw [hf] at hf'; cases hf'
          exact ⟨h1, k, hk, by rw [he]⟩
    · exact ⟨Am.undef, hput, Good.refl hI.good.rel, fun _ _ => rfl, Nat.le_refl _, fun _ => rfl, fun h => (by rw [hw] at h; cases h)⟩
  obtain ⟨v, hput, hg, hheap, hnext, hskip, hlay⟩ := hstep
  obtain ⟨hp1, hp2, hp3, hp4⟩ := Fr.put_spec hput
  have hpd : ∀ j, Pd listed (i :: done) j → j = i ∨ Pd listed done j := fun j hj => by
    rcases List.mem_cons.1 hj.1 with rfl | h
    · exact .inl rfl
    · exact .inr ⟨h, hj.2⟩
  -- what j looks at is as it was
  have hsame : ∀ j o', (j ∈ done ∨ j = i) → ops[j]? = some o' → ∀ t ∈ o'.looksAt ops, fr1.ts.get t = fr.ts.get t := fun j o' hj hoj t htl => by
    refine hp2 t fun hd => ?_
    rcases (hS.apart j o' hoj i o t hi hd).2 with h | h | ⟨_, h⟩
    · rcases hj with hj | rfl
      · exact hnd (hI.dclosed j hj i h)
      · exact hnB h
    · exact h htl
    · rw [ht] at h; cases h
  have hdst : ∀ j o', j ∈ done → ops[j]? = some o' → ∀ d, o'.dst = some d → fr1.ts.get d = fr.ts.get d := fun j o' hj hoj d hd => by
    refine hp2 d fun hd' => ?_
    rcases (hS.apart j o' hoj i o d hi hd').1 with h | h
    · subst h; exact hnd hj
    · exact h hd
  have hwold : ∀ j o', (j ∈ done ∨ j = i) → ops[j]? = some o' → wanted ops.toList o'.guard fr1 = wanted ops.toList o'.guard fr := fun j o' hj hoj => wanted_same (hsame j o' hj hoj)
  refine ⟨fun j => if j = i then σ.next - 1 else kk j, hI.lsize, fun j => ?_, fun j hj => List.mem_cons_of_mem _ (hI.ld j hj), hI.closed, fun j hj k hB => ?_, fun j hj => ?_, hI.lastl, hI.good.trans hg, hI.ar, by rw [hp3]; exact hI.n, by rw [hp4]; exact hI.ds,
    fun t htt => ?_, fun j o' hj hoj => ?_, fun j k oj ok hj hk hoj hok hlj hlk he => ?_⟩
  · rw [Nat.testBit_or, Nat.testBit_two_pow, Bool.or_eq_true, hI.mask, decide_eq_true_eq, List.mem_cons]
    constructor
    · rintro (h | h)
      · exact .inr h
      · exact .inl h.symm
    · rintro (h | h)
      · exact .inr h.symm
      · exact .inl h
  · rcases List.mem_cons.1 hj with rfl | hj
    · exact List.mem_cons_of_mem _ ((hI.mask k).1 (hbm k hB))
    · exact List.mem_cons_of_mem _ (hI.dclosed j hj k hB)
  · rcases List.mem_cons.1 hj with rfl | hj
    · exact ⟨o, hi⟩
    · exact hI.dn j hj
  · have h1 : o.dst ≠ some t := htt i o ⟨List.mem_cons_self .., hnl⟩ hi
    rw [hp2 t h1]
    exact hI.agree t fun j o' hj hoj => htt j o' ⟨List.mem_cons_of_mem _ hj.1, hj.2⟩ hoj
  · rcases hpd j hj with rfl | hj'
    · rw [hi] at hoj; cases hoj
      have hw := hwold j o (.inr rfl) hi
      refine ⟨ht, fun d hd => by rw [hp3]; exact (hp1 d hd).1, fun h d hd => ?_, fun h f hf => ?_⟩
      · rw [(hp1 d hd).2, hskip (by rw [← hw]; exact h)]
      · obtain ⟨h1, k, hk1, hk2⟩ := hlay (by rw [← hw]; exact h) f hf
        have hs : Same fr1 fr (opw P o.op) := looks_same (hsame j o (.inr rfl) hi)
        rw [hf] at hs
        refine ⟨σ, σ1, v, by rw [hs σ]; exact h1, by simp [hk1], rfl, ?_, by simp [hk1, hk2], ?_, fun d hd => (hp1 d hd).2⟩
        · simp only [if_true, hk1, Nat.add_sub_cancel]
          cases hb : β k with
          | none => rfl
          | some x => have := hI.good.rel.dom k x hb; omega
        · have := hI.good.next; simp [hk1]; omega
    · have hne : j ≠ i := fun e => by subst e; exact hnd hj'.1
      rw [if_neg hne]
      have hq := hI.pend j o' hj' hoj
      have hw := hwold j o' (.inl hj'.1) hoj
      refine ⟨hq.turn, fun d hd => by rw [hp3]; exact hq.room d hd, fun h d hd => ?_, fun h f hf => ?_⟩
      · rw [hdst j o' hj'.1 hoj d hd]; exact hq.skip (by rw [← hw]; exact h) d hd
      · obtain ⟨σa, σb, u, h1, h2, h3, h4, h5, h6, h7⟩ := hq.lay (by rw [← hw]; exact h) f hf
        have hs : Same fr1 fr (opw P o'.op) := looks_same (hsame j o' (.inl hj'.1) hoj)
        rw [hf] at hs
        exact ⟨σa, σb, u, by rw [hs σa]; exact h1, h2, by rw [hheap _ h5]; exact h3, h4, by omega, h6, fun d hd => by rw [hdst j o' hj'.1 hoj d hd]; exact h7 d hd⟩
  · have old : ∀ m om, Pd listed done m → ops[m]? = some om → LayW P ops fr1 om → LayW P ops fr om ∧ kk m + 1 < σ.next := fun m om hm hom hl => by
      have hw := hwold m om (.inl hm.1) hom
      have hl' : LayW P ops fr om := ⟨by rw [← hw]; exact hl.1, hl.2⟩
      obtain ⟨f, hf⟩ := hl.2
      obtain ⟨_, _, _, _, _, _, _, h5, _⟩ := (hI.pend m om hm hom).lay hl'.1 f hf
      exact ⟨hl', h5⟩
    rcases hpd j hj with rfl | hj' <;> rcases hpd k hk with e | hk'
    · exact e.symm
    · have hne : k ≠ j := fun e => by subst e; exact hnd hk'.1
      simp only [if_true, if_neg hne] at he
      have := (old k ok hk' hok hlk).2; omega
    · subst e
      have hne : j ≠ k := fun e => by subst e; exact hnd hj'.1
      simp only [if_true, if_neg hne] at he
      have := (old j oj hj' hoj hlj).2; omega
    · have h1 : j ≠ i := fun e => by subst e; exact hnd hj'.1
      have h2 : k ≠ i := fun e => by subst e; exact hnd hk'.1
      simp only [if_neg h1, if_neg h2] at he
      exact hI.kinj j k oj ok hj' hk' hoj hok (old j oj hj' hoj hlj).1 (old k ok hk' hok hlk).1 he
end
end Go.Am
namespace Go.Am
section
variable {P : Program} {J : BM → World → Prop} {ops : Array Oper} {bef : List Nat} {r : Rec} {rd : Option Nat} {β0 β : BM} {σ0 σ σ1 : St} {w0 w : World} {listed : Array Bool} {done : List Nat} {mask : Nat} {last : Option Nat} {fr fr1 frD : Fr} {a : Act} {kk : Nat → Nat}

theorem listed_set {listed : Array Bool} {i j : Nat} (hs : i < listed.size) : (listed.setIfInBounds i true).getD j false = true ↔ j = i ∨ listed.getD j false = true := by
  by_cases h : i = j
  · subst h
    constructor
    · intro _; exact .inl rfl
    · intro _; simp [hs]
  · rw [getD_set_ne false h]
    constructor
    · exact .inr
    · rintro (h' | h')
      · exact absurd h'.symm h
      · exact h'
theorem listed_set_f {listed : Array Bool} {i j : Nat} (hs : i < listed.size) : (listed.setIfInBounds i true).getD j false = false ↔ j ≠ i ∧ listed.getD j false = false := by
  have := listed_set (j := j) hs
  cases h1 : (listed.setIfInBounds i true).getD j false <;> cases h2 : listed.getD j false <;> rw [h1, h2] at this <;> simp at this ⊢
  · exact this
  · exact this

/-- An operation that had been done here is done in the world. -/
theorem Inv.listsOne (_hS : Static P ops bef) (hI : Inv P ops bef β0 σ0 w0 listed done mask last fr σ β frD a w kk) {i : Nat} {o : Oper} (hi : ops[i]? = some o) (hpd : Pd listed done i) (hB : ∀ j, B bef i j → listed.getD j false = true)
    {v : V} {β' : BM} {w' : World} {frD' : Fr} {a' : Act} (hg : Good P β0 σ0 w0 β' σ w') (_hx : Ext β β') (hput : Fr.put o.dst frD v = some frD') (har : AR β' frD' a') (hv : ∀ d, o.dst = some d → fr.ts.get d = some v)
    (hblk : ∀ j o', Pd listed done j → j ≠ i → ops[j]? = some o' → LayW P ops fr o' → β' (kk j) = none) :
    Inv P ops bef β0 σ0 w0 (listed.setIfInBounds i true) done mask last fr σ β' frD' a' w' kk := by
  have hlt : i < listed.size := by rw [hI.lsize]; exact (Array.getElem?_eq_some_iff.1 hi).1
  obtain ⟨hp1, hp2, hp3, hp4⟩ := Fr.put_spec hput
  have hpd' : ∀ j, Pd (listed.setIfInBounds i true) done j → j ≠ i ∧ Pd listed done j := fun j hj => by
    have := (listed_set_f hlt).1 hj.2
    exact ⟨this.1, hj.1, this.2⟩
  refine ⟨by simp [hI.lsize], hI.mask, fun j hj => ?_, fun j k hj hb => ?_, hI.dclosed, hI.dn, fun h hh => (listed_set hlt).2 (.inr (hI.lastl h hh)), hg, har, by rw [hp3]; exact hI.n, by rw [hp4]; exact hI.ds, fun t htt => ?_, fun j o' hj hoj => ?_,
    fun j k oj ok hj hk hoj hok hlj hlk he => hI.kinj j k oj ok (hpd' j hj).2 (hpd' k hk).2 hoj hok hlj hlk he⟩
  · rcases (listed_set hlt).1 hj with rfl | h
    · exact hpd.1
    · exact hI.ld j h
  · rw [listed_set hlt]
    rcases (listed_set hlt).1 hj with rfl | h
    · exact .inr (hB k hb)
    · exact .inr (hI.closed j k h hb)
  · by_cases hd : o.dst = some t
    · rw [(hp1 t hd).2, hv t hd]
    · rw [hp2 t hd]
      exact hI.agree t fun j o' hj hoj => by
        by_cases hji : j = i
        · subst hji; rw [hi] at hoj; cases hoj; exact hd
        · exact htt j o' ⟨hj.1, (listed_set_f hlt).2 ⟨hji, hj.2⟩⟩ hoj
  · obtain ⟨hne, hj'⟩ := hpd' j hj
    have hq := hI.pend j o' hj' hoj
    refine ⟨hq.turn, hq.room, hq.skip, fun hw f hf => ?_⟩
    obtain ⟨σa, σb, u, h1, h2, h3, h4, h5, h6, h7⟩ := hq.lay hw f hf
    exact ⟨σa, σb, u, h1, h2, h3, hblk j o' hj' hne hoj ⟨hw, f, hf⟩, h5, h6, h7⟩

theorem pend_sound (hS : Static P ops bef) {F : Fence} {Q : Exit → Act → World → Prop} {K : Act → World → Prop} (hF : RdR β0 rd F) (hI : Inv P ops bef β0 σ0 w0 listed done mask last fr σ β frD a w kk) {i : Nat} {o : Oper}
    (hi : ops[i]? = some o) (hpd : Pd listed done i) (hB : ∀ j, B bef i j → listed.getD j false = true) (hstill : stillOne P ops.toList o fr σ = true)
    (hK : ∀ β' frD' a' w', Inv P ops bef β0 σ0 w0 (listed.setIfInBounds i true) done mask last fr σ β' frD' a' w' kk → K a' w') : wpOpIn F 0 P ops Q i K a w := by
  have hq := hI.pend i o hpd hi
  have hlooks := hI.looks hS hi hB
  have hwD : wanted ops.toList o.guard frD = wanted ops.toList o.guard fr := wanted_same hlooks
  have hsame : Same frD fr (opw P o.op) := looks_same hlooks
  have hroom : ∀ d, o.dst = some d → d < frD.n := fun d hd => by rw [hI.n]; exact hq.room d hd
  unfold wpOpIn
  simp only [hi, wanted_eq (ops := ops) (o := o) hI.ar.1, hwD]
  cases hw : wanted ops.toList o.guard fr with
  | false =>
    rw [if_neg (by simp)]
    obtain ⟨frD', hput⟩ := Fr.put_can (dst := o.dst) (fr := frD) Am.undef hroom
    refine ⟨fun f _ => hF.fn f, hK β frD' _ w (hI.listsOne hS hi hpd hB hI.good (Ext.refl β) hput (hI.ar.put hput (VR_undef β)) (hq.skip hw) fun j o' hj _ hoj hl => ?_)⟩
    obtain ⟨f, hf⟩ := hl.2
    obtain ⟨_, _, _, _, _, _, h4, _⟩ := (hI.pend j o' hj hoj).lay hl.1 f hf
    exact h4
  | true =>
    rw [if_pos rfl]
    rcases not_turn hq.turn with ⟨f, hf⟩ | ⟨f, hf⟩
    · obtain ⟨v, hfv, hd⟩ := stillOne_pas hf hstill hw
      rw [hf] at hsame
      obtain ⟨z, hz, hv⟩ := pas_sound (dst := o.dst) (ty := o.type) (pos := o.pos) (aft := o.after) (g := o.guard) hf hI.good.rel hI.ar.1 (by rw [hsame σ]; exact hfv)
      obtain ⟨frD', hput⟩ := Fr.put_can (dst := o.dst) (fr := frD) v hroom
      refine wpIn_value hF (not_defer hf (by intros; simp) (by simp)) hz (.inl rfl) (hK β frD' _ w (hI.listsOne hS hi hpd hB hI.good (Ext.refl β) hput (hI.ar.put hput hv) hd fun j o' hj _ hoj hl => ?_))
      obtain ⟨f, hf⟩ := hl.2
      obtain ⟨_, _, _, _, _, _, h4, _⟩ := (hI.pend j o' hj hoj).lay hl.1 f hf
      exact h4
    · obtain ⟨σa, σb, v, h1, h2, h3, h4, h5, h6, h7⟩ := hq.lay hw f hf
      rw [hf] at hsame
      obtain ⟨k, ob, hal, hl⟩ := lay_sound (β := β) (w := w) (dst := o.dst) (ty := o.type) (pos := o.pos) (aft := o.after) (g := o.guard) hf hI.ar.1 (by rw [hsame σa]; exact h1)
      obtain ⟨hk, hσb⟩ := alloc_eq.1 hal
      have hkk : k = kk i := by omega
      subst hkk
      have hh : heapAt σ (kk i) = some (ob (kk i)) := by rw [h3, hσb, heapAt_mk, T.get_put, if_pos rfl]
      obtain ⟨z, w', j, hrun, hv, g1, g2, g3, g4, g5⟩ := Laid.adopt (o := o) hI.good.rel hl h5 h4 hh
      obtain ⟨frD', hput⟩ := Fr.put_can (dst := o.dst) (fr := frD) v hroom
      have hx := upd_ext j h4
      have hgood : Good P β0 σ0 w0 (upd β (kk i) j) σ w' := ⟨hI.good.ext.trans hx, g1, Nat.le_trans hI.good.size g2, fun b m hb hlt => by
          obtain ⟨b1, m1, hb1, e1⟩ := g3 b m hb (Nat.lt_of_lt_of_le hlt hI.good.size)
          obtain ⟨b2, m2, hb2, e2⟩ := hI.good.range b1 m1 hb1 (by omega)
          exact ⟨b2, m2, hb2, by omega⟩,
        fun c hc hn => by rw [g4 c (Nat.lt_of_lt_of_le hc hI.good.size), hI.good.cframe c hc hn],
        ⟨g5.1.trans hI.good.calm.1, g5.2.1.trans hI.good.calm.2.1, g5.2.2.trans hI.good.calm.2.2⟩, hI.good.next, fun b hb hn => by
          obtain ⟨e1, e2, e3⟩ := hI.good.aframe b hb hn
          exact ⟨e1, e2, by rw [upd_ne _ _ (by omega)]; exact e3⟩⟩
      refine wpIn_value hF (not_defer hf (by intros; simp) (by simp)) hrun (.inl rfl) (hK _ frD' _ w' (hI.listsOne hS hi hpd hB hgood hx hput ((hI.ar.mono hx).put hput hv) h7 fun m o' hm hne hom hlm => ?_))
      obtain ⟨f', hf'⟩ := hlm.2
      obtain ⟨_, _, _, _, _, _, e4, _⟩ := (hI.pend m o' hm hom).lay hlm.1 f' hf'
      rw [upd_ne]
      · exact e4
      · exact fun e => hne (hI.kinj m i o' o hm hpd hom hi hlm ⟨hw, f, hf⟩ e)

/-- The next operation that turns something. -/
theorem turn_sound (hP : Fit P) (hJ : JKeep P J) (hr : RecOk P J r) (hj : J β0 w0) (hS : Static P ops bef) {F : Fence} {Q : Exit → Act → World → Prop} {K : Act → World → Prop} (hF : RdR β0 rd F) (hI : Inv P ops bef β0 σ0 w0 listed done mask last fr σ β frD a w kk) {i : Nat} {o : Oper}
    (hi : ops[i]? = some o) (hready : readyNow bef mask i = true) (hB : ∀ j, B bef i j → listed.getD j false = true)
    (hgo : (rdy P ops.toList o).go r rd fr σ = some (fr1, σ1))
    (hK : ∀ β' frD' a' w', Inv P ops bef β0 σ0 w0 (listed.setIfInBounds i true) (i :: done) (mask ||| 2 ^ i) (some i) fr1 σ1 β' frD' a' w' kk → K a' w') : wpOpIn F 0 P ops Q i K a w := by
  have hlt : i < listed.size := by rw [hI.lsize]; exact (Array.getElem?_eq_some_iff.1 hi).1
  obtain ⟨hm, hbm⟩ := readyNow_spec hready
  have hnd : i ∉ done := fun h => by rw [(hI.mask i).2 h] at hm; cases hm
  have hnB : ¬ B bef i i := fun h => by rw [hbm i h] at hm; cases hm
  have hlooks := hI.looks hS hi hB
  have hwD : wanted ops.toList o.guard frD = wanted ops.toList o.guard fr := wanted_same hlooks
  have hsame : Same fr frD (opw P o.op) := looks_same fun t ht => (hlooks t ht).symm
  -- the same step in the other frame
  have hstep : ∃ v ds frD1, Fr.put o.dst ⟨fr.ts, fr.n, ds⟩ v = some fr1 ∧ Fr.put o.dst ⟨frD.ts, frD.n, ds⟩ v = some frD1 ∧ (rdy P ops.toList o).go r rd frD σ = some (frD1, σ1) := by
    rcases go_some.1 hgo with ⟨hw, v, ds, hout, hput⟩ | ⟨hw, rfl, hput⟩
    · obtain ⟨hp1, _⟩ := Fr.put_spec hput
      obtain ⟨frD1, hputD⟩ := Fr.put_can (dst := o.dst) (fr := ⟨frD.ts, frD.n, ds⟩) v fun d hd => by
        show d < frD.n
        rw [hI.n]; exact (hp1 d hd).1
      exact ⟨v, ds, frD1, hput, hputD, go_some.2 (.inl ⟨by rw [hwD]; exact hw, v, ds, hout.same hsame hI.ds, hputD⟩)⟩
    · obtain ⟨hp1, _⟩ := Fr.put_spec hput
      obtain ⟨frD1, hputD⟩ := Fr.put_can (dst := o.dst) (fr := frD) Am.undef fun d hd => by
        rw [hI.n]; exact (hp1 d hd).1
      refine ⟨Am.undef, fr.ds, frD1, by cases fr; exact hput, ?_, go_some.2 (.inr ⟨by rw [hwD]; exact hw, rfl, hputD⟩)⟩
      rw [← hI.ds]; cases frD; exact hputD
  obtain ⟨v, ds, frD1, hput, hputD, hgoD⟩ := hstep
  obtain ⟨hp1, hp2, hp3, hp4⟩ := Fr.put_spec hput
  obtain ⟨hq1, hq2, hq3, hq4⟩ := Fr.put_spec hputD
  have hp2 : ∀ t, o.dst ≠ some t → fr1.ts.get t = fr.ts.get t := hp2
  have hq2 : ∀ t, o.dst ≠ some t → frD1.ts.get t = frD.ts.get t := hq2
  have hp3 : fr1.n = fr.n := hp3
  have hq3 : frD1.n = frD.n := hq3
  refine oper_sound hP hJ hr hi (hF.mono hI.good.ext) hI.good.rel (hJ _ _ _ _ _ _ hI.good hj) hI.ar hgoD fun β' a' w' har hg => hK β' frD1 a' w' ?_
  have hpd : ∀ j, Pd (listed.setIfInBounds i true) (i :: done) j → j ≠ i ∧ Pd listed done j := fun j hj => by
    have := (listed_set_f hlt).1 hj.2
    rcases List.mem_cons.1 hj.1 with h | h
    · exact absurd h this.1
    · exact ⟨this.1, h, this.2⟩
  have hsameJ : ∀ j o', Pd listed done j → ops[j]? = some o' → ∀ t ∈ o'.looksAt ops, fr1.ts.get t = fr.ts.get t := fun j o' hj hoj t htl => by
    refine hp2 t fun hd => ?_
    rcases (hS.apart j o' hoj i o t hi hd).2 with h | h | ⟨h, _⟩
    · exact hnd (hI.dclosed j hj.1 i h)
    · exact h htl
    · have := hB j h; rw [hj.2] at this; cases this
  have hdst : ∀ j o', j ∈ done → ops[j]? = some o' → ∀ d, o'.dst = some d → fr1.ts.get d = fr.ts.get d := fun j o' hj hoj d hd => by
    refine hp2 d fun hd' => ?_
    rcases (hS.apart j o' hoj i o d hi hd').1 with h | h
    · subst h; exact hnd hj
    · exact h hd
  have hwold : ∀ j o', Pd listed done j → ops[j]? = some o' → wanted ops.toList o'.guard fr1 = wanted ops.toList o'.guard fr := fun j o' hj hoj => wanted_same (hsameJ j o' hj hoj)
  have hlayold : ∀ m om, Pd listed done m → ops[m]? = some om → LayW P ops fr1 om → LayW P ops fr om := fun m om hm hom hl => ⟨by rw [← hwold m om hm hom]; exact hl.1, hl.2⟩
  refine ⟨by simp [hI.lsize], fun j => ?_, fun j hj => ?_, fun j k hj hb => ?_, fun j hj k hb => ?_, fun j hj => ?_, fun h hh => ?_, hI.good.trans hg, har, by rw [hp3, hq3]; exact hI.n, by rw [hp4, hq4], fun t htt => ?_, fun j o' hj hoj => ?_,
    fun j k oj ok hj hk hoj hok hlj hlk he => hI.kinj j k oj ok (hpd j hj).2 (hpd k hk).2 hoj hok (hlayold j oj (hpd j hj).2 hoj hlj) (hlayold k ok (hpd k hk).2 hok hlk) he⟩
  · rw [Nat.testBit_or, Nat.testBit_two_pow, Bool.or_eq_true, hI.mask, decide_eq_true_eq, List.mem_cons]
    constructor
    · rintro (h | h)
      · exact .inr h
      · exact .inl h.symm
    · rintro (h | h)
      · exact .inr h.symm
      · exact .inl h
  · rcases (listed_set hlt).1 hj with rfl | h
    · exact List.mem_cons_self ..
    · exact List.mem_cons_of_mem _ (hI.ld j h)
  · rw [listed_set hlt]
    rcases (listed_set hlt).1 hj with rfl | h
    · exact .inr (hB k hb)
    · exact .inr (hI.closed j k h hb)
  · rcases List.mem_cons.1 hj with rfl | hj
    · exact List.mem_cons_of_mem _ ((hI.mask k).1 (hbm k hb))
    · exact List.mem_cons_of_mem _ (hI.dclosed j hj k hb)
  · rcases List.mem_cons.1 hj with rfl | hj
    · exact ⟨o, hi⟩
    · exact hI.dn j hj
  · cases hh
    exact (listed_set hlt).2 (.inl rfl)
  · by_cases hd : o.dst = some t
    · rw [(hq1 t hd).2, (hp1 t hd).2]
    · rw [hq2 t hd, hp2 t hd]
      refine hI.agree t fun j o' hj hoj => htt j o' ⟨List.mem_cons_of_mem _ hj.1, (listed_set_f hlt).2 ⟨fun e => hnd (e ▸ hj.1), hj.2⟩⟩ hoj
  · obtain ⟨hne, hj'⟩ := hpd j hj
    have hq := hI.pend j o' hj' hoj
    have hw := hwold j o' hj' hoj
    refine ⟨hq.turn, fun d hd => by rw [hp3]; exact hq.room d hd, fun h d hd => ?_, fun h f hf => ?_⟩
    · rw [hdst j o' hj'.1 hoj d hd]; exact hq.skip (by rw [← hw]; exact h) d hd
    · obtain ⟨σa, σb, u, h1, h2, h3, h4, h5, h6, h7⟩ := hq.lay (by rw [← hw]; exact h) f hf
      have hs : Same fr1 fr (opw P o'.op) := looks_same (hsameJ j o' hj' hoj)
      rw [hf] at hs
      obtain ⟨e1, e2, e3⟩ := hg.aframe (kk j) h5 h4
      have := hg.next
      exact ⟨σa, σb, u, by rw [hs σa]; exact h1, h2, by rw [e1]; exact h3, e3, by omega, h6, fun d hd => by rw [hdst j o' hj'.1 hoj d hd]; exact h7 d hd⟩

/-- On to the next operation that turns something. -/
def StageEnd (P : Program) (ops : Array Oper) (rest : List Nat) : Prop := rest = [] ∨ ∃ h t o, rest = h :: t ∧ ops[h]? = some o ∧ isTurn P o = true

theorem advance (hS : Static P ops bef) {R : Fr × St} : ∀ {rest done : List Nat} {mask : Nat} {fr : Fr} {σ : St} {kk : Nat → Nat}, Inv P ops bef β0 σ0 w0 listed done mask last fr σ β frD a w kk →
    runDrawn ops.toList bef rest P r rd done last fr σ = some R → planOk P ops.toList bef rest mask last = true →
    ∃ rest' done' mask' fr' σ' kk', Inv P ops bef β0 σ0 w0 listed done' mask' last fr' σ' β frD a w kk' ∧ runDrawn ops.toList bef rest' P r rd done' last fr' σ' = some R ∧ planOk P ops.toList bef rest' mask' last = true ∧ StageEnd P ops rest'
  | [], done, mask, fr, σ, kk, hI, hr, hp => ⟨[], done, mask, fr, σ, kk, hI, hr, hp, .inl rfl⟩
  | i :: is, done, mask, fr, σ, kk, hI, hr, hp => by
    have hr0 := hr
    rw [runDrawn_cons] at hr
    obtain ⟨o, ho, hr⟩ := ob_eq.1 hr
    rw [nth_eq, Array.getElem?_toList] at ho
    cases ht : isTurn P o with
    | true => exact ⟨i :: is, done, mask, fr, σ, kk, hI, hr0, hp, .inr ⟨i, is, o, rfl, ho, ht⟩⟩
    | false =>
      rw [ht] at hr
      obtain ⟨fr1, σ1, hgo, hr⟩ := ob2_eq.1 hr
      rw [planOk_cons] at hp
      simp only [Bool.and_eq_true] at hp
      obtain ⟨h1, h2, h3⟩ := hp
      obtain ⟨kk', hI'⟩ := advance1 hS hI ho ht h1 hgo
      have htn : turnAt P ops.toList i = false := by
        unfold turnAt
        rw [nth_eq, Array.getElem?_toList, ho]; exact ht
      rw [htn] at h3
      exact advance hS hI' hr h3

theorem ready_B (hS : Static P ops bef) (hI : Inv P ops bef β0 σ0 w0 listed done mask last fr σ β frD a w kk) {i : Nat} {o : Oper} (hi : ops[i]? = some o) (hall : ∀ e ∈ o.after, Region.binds .any e = true → listed.getD e.on false = true) :
    ∀ j, B bef i j → listed.getD j false = true := fun j hj => by
  obtain ⟨e, he, hb, h⟩ := hS.ahead i o hi j hj
  rcases h with rfl | h
  · exact hall e he hb
  · exact hI.closed _ _ (hall e he hb) h

theorem any_sound (hP : Fit P) (hJ : JKeep P J) (hr : RecOk P J r) (hj : J β0 w0) (hS : Static P ops bef) {F : Fence} (hF : RdR β0 rd F) {frE : Fr} {σE : St} : ∀ (fuel : Nat) {listed : Array Bool} {done : List Nat} {mask : Nat} {last : Option Nat} {fr : Fr} {σ : St} {β : BM} {frD : Fr} {a : Act} {w : World} {kk : Nat → Nat} {rest : List Nat} (un : List Nat),
    Inv P ops bef β0 σ0 w0 listed done mask last fr σ β frD a w kk → runDrawn ops.toList bef rest P r rd done last fr σ = some (frE, σE) → planOk P ops.toList bef rest mask last = true → StageEnd P ops rest →
    un.length ≤ fuel → (∀ i, i < ops.size → listed.getD i false = false → i ∈ un) →
    wpAnyIn F 0 P .any ops (Post P β0 σ0 w0 .normal frE σE) fuel listed a w := by
  have fin : ∀ {listed : Array Bool} {done : List Nat} {mask : Nat} {last : Option Nat} {fr : Fr} {σ : St} {β : BM} {frD : Fr} {a : Act} {w : World} {kk : Nat → Nat} {rest : List Nat},
      Inv P ops bef β0 σ0 w0 listed done mask last fr σ β frD a w kk → runDrawn ops.toList bef rest P r rd done last fr σ = some (frE, σE) → planOk P ops.toList bef rest mask last = true → StageEnd P ops rest →
      (∀ i, i < ops.size → listed.getD i false = true) → Post P β0 σ0 w0 .normal frE σE .normal a w := fun {listed done mask last fr σ β frD a w kk rest} hI hrun hplan hse hall => by
    have hrest : rest = [] := by
      rcases hse with h | ⟨h, t, o, rfl, ho, _⟩
      · exact h
      · have h1 := hall h (Array.getElem?_eq_some_iff.1 ho).1
        have h2 := (hI.mask h).2 (hI.ld h h1)
        have h3 := (planOk_all hplan).2 h (List.mem_cons_self ..)
        rw [h2] at h3; cases h3
    subst hrest
    rw [runDrawn_nil] at hrun
    obtain ⟨_, h1⟩ := ok_eq.1 hrun
    cases h1
    have hnp : ∀ i, ¬ Pd listed done i := fun i hp => by
      obtain ⟨o, ho⟩ := hI.dn i hp.1
      have := hall i (Array.getElem?_eq_some_iff.1 ho).1
      rw [hp.2] at this; cases this
    refine ⟨β, rfl, ⟨⟨by rw [← hI.n]; exact hI.ar.1.1, fun t => ?_⟩, by rw [← hI.ds]; exact hI.ar.2⟩, hI.good⟩
    rw [← hI.agree t fun i o hp => absurd hp (hnp i)]
    exact hI.ar.1.2 t
  intro fuel
  induction fuel with
  | zero =>
    intro listed done mask last fr σ β frD a w kk rest un hI hrun hplan hse hlen hun
    have hun0 : un = [] := List.eq_nil_of_length_eq_zero (by omega)
    subst hun0
    have hall : ∀ i, i < ops.size → listed.getD i false = true := fun i hi => by
      cases h : listed.getD i false with
      | true => rfl
      | false => have := hun i hi h; cases this
    refine ⟨?_, fin hI hrun hplan hse hall⟩
    apply List.eq_nil_iff_forall_not_mem.2
    intro i hi
    obtain ⟨h0, o, ho, _⟩ := mem_ready.1 hi
    have hlt := (Array.getElem?_eq_some_iff.1 ho).1
    have := hall i hlt
    rw [Array.getD_eq_getD_getElem?] at h0 this
    rw [Array.getElem?_eq_getElem (by rw [hI.lsize]; exact hlt)] at h0 this
    simp at h0 this
    rw [h0] at this; cases this
  | succ fuel ih =>
    intro listed done mask last fr σ β frD a w kk rest un hI hrun hplan hse hlen hun
    have hgd : ∀ i, i < ops.size → listed.getD i true = listed.getD i false := fun i hi => by
      rw [Array.getD_eq_getD_getElem?, Array.getD_eq_getD_getElem?, Array.getElem?_eq_getElem (by rw [hI.lsize]; exact hi)]; rfl
    refine ⟨fun hnil => ?_, fun i hi => ?_⟩
    · refine fin hI hrun hplan hse ?_
      -- the least that is not listed would be ready
      intro i
      induction i using Nat.strongRecOn with
      | _ i ihi =>
        intro hi
        cases h : listed.getD i false with
        | true => rfl
        | false =>
          have hmem : i ∈ Region.ready .any ops listed := by
            rw [mem_ready]
            refine ⟨by rw [hgd i hi]; exact h, ops[i], Array.getElem?_eq_getElem hi, fun e he hb => ?_⟩
            have := (hS.edge i _ (Array.getElem?_eq_getElem hi) e he hb).1
            exact ihi e.on this (by omega)
          rw [hnil] at hmem; cases hmem
    · obtain ⟨h0, o, ho, hall⟩ := mem_ready.1 hi
      have hlt := (Array.getElem?_eq_some_iff.1 ho).1
      rw [hgd i hlt] at h0
      have hB := ready_B hS hI ho hall
      have hlast : lastOk P ops.toList bef done last fr σ = true := by
        rcases hse with rfl | ⟨h, t, oh, rfl, hoh, hth⟩
        · rw [runDrawn_nil] at hrun; exact (ok_eq.1 hrun).1
        · rw [runDrawn_cons] at hrun
          obtain ⟨o', ho', h1⟩ := ob_eq.1 hrun
          rw [nth_eq, Array.getElem?_toList, hoh] at ho'
          cases ho'
          rw [hth] at h1
          exact (ok_eq.1 h1).1
      have hun' : ∀ j, j < ops.size → (listed.setIfInBounds i true).getD j false = false → j ∈ un.filter (· != i) := fun j hj hjl => by
        obtain ⟨h1, h2⟩ := (listed_set_f (by rw [hI.lsize]; exact hlt)).1 hjl
        exact List.mem_filter.2 ⟨hun j hj h2, by simpa using h1⟩
      have hlen' : (un.filter (· != i)).length ≤ fuel := by
        have h1 : (un.filter (· != i)).length < un.length := by
          rw [List.length_filter_lt_length_iff_exists]
          exact ⟨i, hun i hlt h0, by simp⟩
        omega
      by_cases hd : i ∈ done
      · -- done here, not yet in the world
        have hnB : (aheadLast bef last).testBit i = false := by
          cases hl : last with
          | none => exact Nat.zero_testBit i
          | some h =>
            cases hb : (aheadLast bef (some h)).testBit i with
            | false => rfl
            | true =>
              have := hI.closed h i (hI.lastl h hl) hb
              rw [h0] at this; cases this
        obtain ⟨o', ho', hst⟩ := still_spec hlast i hd hnB
        rw [Array.getElem?_toList, ho] at ho'; cases ho'
        exact pend_sound hS hF hI ho ⟨hd, h0⟩ hB hst fun β' frD' a' w' hI' => ih _ hI' hrun hplan hse hlen' hun'
      · -- it is the next that turns something
        have hin : i ∈ rest := by
          rcases (planOk_all hplan).1 i (by simpa using hlt) with h | h
          · exact absurd ((hI.mask i).1 h) hd
          · exact h
        rcases hse with rfl | ⟨h, t, oh, rfl, hoh, hth⟩
        · cases hin
        · have hplan0 := hplan
          rw [planOk_cons] at hplan
          simp only [Bool.and_eq_true] at hplan
          obtain ⟨h1, h2, h3⟩ := hplan
          have htn : turnAt P ops.toList h = true := by
            unfold turnAt
            rw [nth_eq, Array.getElem?_toList, hoh]; exact hth
          rw [htn] at h3
          have hih : i = h := by
            rcases List.mem_cons.1 hin with e | e
            · exact e
            · obtain ⟨k, hk, hBk⟩ := planOk_behind (h := h) h3 i e
              have hkl := hI.ld k (hB k hBk)
              have hkr : k ∈ h :: t := by rcases hk with rfl | hk <;> simp [*]
              have := (planOk_all hplan0).2 k hkr
              rw [(hI.mask k).2 hkl] at this; cases this
          subst hih
          rw [runDrawn_cons] at hrun
          obtain ⟨o', ho', hr1⟩ := ob_eq.1 hrun
          rw [nth_eq, Array.getElem?_toList, hoh] at ho'
          cases ho'
          rw [hth] at hr1
          obtain ⟨_, hr2⟩ := ok_eq.1 hr1
          obtain ⟨fr1, σ1, hgo, hr3⟩ := ob2_eq.1 hr2
          refine turn_sound hP hJ hr hj hS hF hI hoh h1 hB hgo fun β' frD' a' w' hI' => ?_
          obtain ⟨rest', done', mask', fr', σ', kk', hI'', hrun'', hplan'', hse''⟩ := advance hS hI' hr3 h3
          exact ih _ hI'' hrun'' hplan'' hse'' hlen' hun'

/-- A region that draws. -/
theorem drawn_sound (hP : Fit P) (hJ : JKeep P J) (hr : RecOk P J r) {F : Fence} {β : BM} {σ σ' : St} {w : World} {fr fr' : Fr} {a : Act} (hF : RdR β rd F) (h : HRel P β σ w) (hj : J β w) (ha : AR β fr a) (he : stepDrawn ops.toList P r rd fr σ = some (fr', σ')) (id : Nat) :
    (Code.region id ops true).wpIn F 0 P (Post P β σ w .normal fr' σ') a w := by
  unfold stepDrawn at he
  obtain ⟨hd, he⟩ := ok_eq.1 he
  unfold drawOk at hd
  simp only [Bool.and_eq_true] at hd
  have hS := static_of hd.2
  refine wpIn_region_any hP.mixed ?_
  have hI : Inv P ops (befores ops.toList []) β σ w (Array.replicate ops.size false) [] 0 none fr σ β fr a { w with drawn := w.drawn + 1 } (fun _ => 0) := by
    have hnl : ∀ i, (Array.replicate ops.size false).getD i false = false := fun i => by
      rw [Array.getD_eq_getD_getElem?, Array.getElem?_replicate]
      split <;> rfl
    have hnp : ∀ i, ¬ Pd (Array.replicate ops.size false) [] i := fun i hp => by cases hp.1
    refine ⟨by simp, fun i => by simp, fun i hi => (by rw [hnl i] at hi; cases hi), fun i j hi => (by rw [hnl i] at hi; cases hi), fun i hi => (by cases hi), fun i hi => (by cases hi), fun h hh => (by cases hh),
      Good.drew h, ha, rfl, rfl, fun _ _ => rfl, fun i o hp => absurd hp (hnp i), fun i j oi oj hp => absurd hp (hnp i)⟩
  obtain ⟨rest', done', mask', fr1, σ1, kk', hI', hrun', hplan', hse'⟩ := advance hS hI he hd.1
  exact any_sound hP hJ hr hj hS hF ops.size (List.range ops.size) hI' hrun' hplan' hse' (by simp) fun i hi _ => List.mem_range.2 hi
end
end Go.Am
