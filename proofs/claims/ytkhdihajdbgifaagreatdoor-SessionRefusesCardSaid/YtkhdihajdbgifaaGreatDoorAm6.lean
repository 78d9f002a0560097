/-
  What the abstract machine computes, the model computes.
-/
import Derived.Test.YtkhdihajdbgifaaGreatDoorAm5
import Derived.Below
namespace Go.Am

theorem runOps_nil (P : Program) (ops : List Oper) (r : Rec) (rd : Option Nat) (fr : Fr) (σ : St) : runOps P ops [] r rd fr σ = some (fr, σ) := rfl
theorem runOps_cons (P : Program) (ops : List Oper) (o : Oper) (l : List Oper) (r : Rec) (rd : Option Nat) (fr : Fr) (σ : St) :
    runOps P ops (o :: l) r rd fr σ = ob2 ((rdy P ops o).go r rd fr σ) (runOps P ops l r rd) := rfl

section
variable {P : Program} {J : BM → World → Prop} {r : Rec} {rd : Option Nat} {β0 : BM} {σ0 : St} {w0 : World}

/-- A region in its text's order. -/
theorem ops_sound (hP : Fit P) (hJ : JKeep P J) (hr : RecOk P J r) (hj : J β0 w0) {F : Fence} {ops : Array Oper} {frE : Fr} {σE : St} (hF : RdR β0 rd F) : ∀ (k i : Nat), i + k = ops.size → ∀ {β : BM} {σ : St} {w : World} {fr : Fr} {a : Act},
    Good P β0 σ0 w0 β σ w → AR β fr a → runOps P ops.toList (ops.toList.drop i) r rd fr σ = some (frE, σE) →
    wpOpsIn F 0 P ops (Post P β0 σ0 w0 .normal frE σE) (List.range' i k) a w
  | 0, i, hk, β, σ, w, fr, a, hg, ha, he => by
    rw [List.drop_eq_nil_of_le (by simp; omega), runOps_nil] at he
    cases he
    exact ⟨β, rfl, ha, hg⟩
  | k + 1, i, hk, β, σ, w, fr, a, hg, ha, he => by
    have hlt : i < ops.size := by omega
    rw [List.drop_eq_getElem_cons (by simpa using hlt), runOps_cons] at he
    obtain ⟨fr1, σ1, h1, h2⟩ := ob2_eq.1 he
    rw [List.range'_succ, wpOpsIn_cons]
    refine oper_sound hP hJ hr (i := i) (o := ops[i]) (Array.getElem?_eq_getElem hlt) (hF.mono hg.ext) hg.rel (hJ _ _ _ _ _ _ hg hj) ha (by simpa using h1) fun β' a' w' har hg' => ?_
    exact ops_sound hP hJ hr hj hF k (i + 1) (by omega) (hg.trans hg') har h2

theorem plain_sound (hP : Fit P) (hJ : JKeep P J) (hr : RecOk P J r) {F : Fence} {β : BM} {σ σ' : St} {w : World} {fr fr' : Fr} {a : Act} {ops : Array Oper} (hF : RdR β rd F) (h : HRel P β σ w) (hj : J β w) (ha : AR β fr a) (he : runOps P ops.toList ops.toList r rd fr σ = some (fr', σ')) (id : Nat) :
    (Code.region id ops false).wpIn F 0 P (Post P β σ w .normal fr' σ') a w := by
  refine wpIn_region ?_
  rw [List.range_eq_range']
  exact ops_sound hP hJ hr hj hF ops.size 0 (by omega) (Good.refl h) ha (by simpa using he)

theorem Post.trans {β β1 : BM} {σ σ1 σ2 : St} {w w1 : World} {x : X} {fr : Fr} (hg : Good P β σ w β1 σ1 w1) {e : Exit} {a : Act} {w2 : World} (h : Post P β1 σ1 w1 x fr σ2 e a w2) : Post P β σ w x fr σ2 e a w2 := by
  obtain ⟨β', hx, ha, hg'⟩ := h
  exact ⟨β', hx, ha, hg.trans hg'⟩

theorem andThen_normal (f : Fr → St → Rx) (fr : Fr) (σ : St) : andThen f .normal fr σ = f fr σ := rfl

/-- Behind a part of code: on, if it ended normally. -/
theorem then_sound {β : BM} {σ σ1 σ' : St} {w : World} {x x' : X} {fr1 fr' : Fr} {f : Fr → St → Rx} {Kn : Act → World → Prop} (hf : andThen f x fr1 σ1 = some (x', fr', σ'))
    (hn : x = .normal → f fr1 σ1 = some (x', fr', σ') → ∀ β1 a1 w1, AR β1 fr1 a1 → Good P β σ w β1 σ1 w1 → Kn a1 w1) {e : Exit} {a1 : Act} {w1 : World} (h : Post P β σ w x fr1 σ1 e a1 w1) :
    Exit.then Kn (Post P β σ w x' fr' σ') e a1 w1 := by
  obtain ⟨β1, hx, ha, hg⟩ := h
  cases x with
  | normal =>
    have hx : e = .normal := hx
    subst hx
    exact hn rfl hf β1 a1 w1 ha hg
  | exit id =>
    have hx : e = .exit id := hx
    subst hx
    have : some (X.exit id, fr1, σ1) = some (x', fr', σ') := hf
    cases this
    exact ⟨β1, rfl, ha, hg⟩
  | goto l =>
    have hx : e = .goto l := hx
    subst hx
    have : some (X.goto l, fr1, σ1) = some (x', fr', σ') := hf
    cases this
    exact ⟨β1, rfl, ha, hg⟩
  | ret =>
    have hx : e = .ret := hx
    subst hx
    have : some (X.ret, fr1, σ1) = some (x', fr', σ') := hf
    cases this
    exact ⟨β1, rfl, ha, hg⟩

/-- A block that is no row of cells is laid in both. -/
theorem Good.newOther {β : BM} {σ σ' : St} {w : World} {k : Nat} {o : Nat → O} {obj : Obj} (h : HRel P β σ w) (ha : alloc σ o = some (k, σ')) (hn : ∀ e cs g, o k ≠ .cells e cs g) (hr : OthR (upd β k ⟨w.heap.size, 0, 0, 0⟩) (o k) obj) :
    Good P β σ w (upd β k ⟨w.heap.size, 0, 0, 0⟩) σ' (w.alloc obj) ∧ β k = none := by
  have hg := h.grow ha
  obtain ⟨hkn, rfl⟩ := alloc_eq.1 ha
  have hb : β k = none := by
    cases hb : β k with
    | none => rfl
    | some j => have := h.dom k j hb; omega
  have hgn : grpAt (⟨σ.heap.put k (o k), σ.grps, k + 2⟩ : St) k = none := by
    rw [grpAt_mk]
    cases hgg : σ.grps.get k with
    | none => rfl
    | some p =>
      obtain ⟨s, t⟩ := p
      obtain ⟨⟨_, j, hj⟩, _⟩ := h.gk k s t (by cases σ; exact hgg)
      rw [hb] at hj; cases hj
  have hh : heapAt (⟨σ.heap.put k (o k), σ.grps, k + 2⟩ : St) k = some (o k) := by rw [heapAt_mk, T.get_put, if_pos rfl]
  obtain ⟨h1, h2, h3, h4⟩ := Good.adopt hg (w' := w.alloc obj) (obj := obj) (i := ⟨w.heap.size, 0, 0, 0⟩) rfl rfl (by show k + 1 < k + 2; omega) hb hh (grpOf_other hn) hgn ((ObjR.other hn).2 ⟨rfl, hr⟩)
  refine ⟨⟨upd_ext _ hb, h1, h2, h3, fun c hc _ => h4 c hc, ⟨rfl, rfl, rfl⟩, by rw [hkn]; show k + 1 ≤ k + 2; omega, fun b hlt hnb => ?_⟩, hb⟩
  have hbk : b ≠ k := by omega
  refine ⟨?_, rfl, by rw [upd_ne _ _ hbk]; exact hnb⟩
  rw [heapAt_mk, T.get_put_ne _ _ (Ne.symm hbk)]; cases σ; rfl

theorem DRs.push {β : BM} {m : Option D} {ds : List D} {ds' : List Deferred} {m' : List Deferred} (hm : match m with | none => m' = [] | some d => ∃ d', m' = [d'] ∧ DR β d d') (h : DRs β ds ds') : DRs β (pushD m ds) (m' ++ ds') := by
  cases m with
  | none => simp only at hm; subst hm; exact h
  | some d => obtain ⟨d', rfl, hd⟩ := hm; exact .cons hd h

theorem loopDefers_sound {β : BM} {σ σ1 : St} {w : World} {d : Nat} {m : Option D} {F : Fence} (hF : RdR β rd F) (h : HRel P β σ w) (he : loopDefers rd σ = some (d, m, σ1)) :
    ∃ (m' : List Deferred) (β1 : BM) (i : BI) (w1 : World), (∀ fn tmps ps assign body, (Instr.enterLoop fn tmps ps assign body F.round).run P w = .ok (w1.heap.size, m') (w1.alloc (.loop { state := .ready, pending := none, fn, tmps, params := ps, assign, body, defers := i.blk }))) ∧
      β1 d = some i ∧ Good P β σ w β1 σ1 w1 ∧ (match m with | none => m' = [] | some d => ∃ d', m' = [d'] ∧ DR β1 d d') := by
  cases rd with
  | none =>
    cases hF
    obtain ⟨k, σ2, hal, h2⟩ := ob2_eq.1 (show ob2 (alloc σ fun _ => .deferred true) (fun r σ => some (r, some (D.collected r), σ)) = some (d, m, σ1) from he)
    cases h2
    obtain ⟨hg, _⟩ := Good.newOther (obj := .deferred (some [])) h hal (by intros; simp) rfl
    refine ⟨[{ target := .collected w.heap.size, args := #[] }], _, ⟨w.heap.size, 0, 0, 0⟩, _, fun fn tmps ps assign body => ?_, upd_self _ _ _, hg, _, rfl, ⟨w.heap.size, 0, 0, 0⟩, upd_self _ _ _, rfl⟩
    simp [Instr.enterLoop, Fence.wide]
  | some l =>
    obtain ⟨i, hi, rfl⟩ := hF
    obtain ⟨lp, hlp, h2⟩ := ob_eq.1 (show ob (getLoop σ l) (fun lp => some (lp.defers, (none : Option D), σ)) = some (d, m, σ1) from he)
    cases h2
    obtain ⟨q, ho, hw, hlr, hgl⟩ := h.loop hi hlp
    obtain ⟨j, hj, hjd⟩ := hlr.defers
    refine ⟨[], β, j, w, fun fn tmps ps assign body => ?_, hj, Good.refl h, rfl⟩
    simp [Instr.enterLoop, hgl, hjd]

theorem rangeCallee_some {l : Nat} {v : V} {f : FuncId} {args : List V} (h : rangeCallee l v = some (f, args)) : ∃ first captured, v = .fn (.func f) first captured ∧ args = first ++ (.fn (.yield l) [] [] :: captured) := by
  unfold rangeCallee at h
  split at h
  · cases h; exact ⟨_, _, rfl, rfl⟩
  · cases h

theorem range_sound (hP : Fit P) (hJ : JKeep P J) (hr : RecOk P J r) {F : Fence} {β : BM} {σ σ' : St} {w : World} {fr fr' : Fr} {a : Act} {x : X} {g : Operand} {ps : Array Tmp} {assign body : Code} (hF : RdR β rd F) (h : HRel P β σ w) (hj : J β w) (ha : AR β fr a)
    (he : xRange g ps assign body r rd fr σ = some (x, fr', σ')) : (Code.rangeFunc g ps assign body).wpIn F 0 P (Post P β σ w x fr' σ') a w := by
  unfold xRange at he
  obtain ⟨d, m, σ1, hd, h1⟩ := ob3_eq.1 he
  obtain ⟨l, σ2, hal, h2⟩ := ob2_eq.1 h1
  obtain ⟨f, args, hfa, h3⟩ := ob2_eq.1 h2
  obtain ⟨v, σ3, hcall, h4⟩ := ob2_eq.1 h3
  obtain ⟨u, hu, hrc⟩ := ob_eq.1 hfa
  obtain ⟨first, captured, rfl, rfl⟩ := rangeCallee_some hrc
  obtain ⟨m', β1, i, w1, hrun, hdi, hg1, hm⟩ := loopDefers_sound hF h hd
  refine wpIn_rangeFunc fun fn _ => ?_
  have hloop : LoopR (upd β1 l ⟨w1.heap.size, 0, 0, 0⟩) ⟨.ready, none, fr.ts, fr.n, ps.toList, assign, body, d⟩ { state := .ready, pending := none, fn, tmps := a.tmps, params := ps, assign, body, defers := i.blk } := by
    have hb1 : β1 l = none := by
      obtain ⟨hk, _⟩ := alloc_eq.1 hal
      cases hb : β1 l with
      | none => rfl
      | some j => have := hg1.rel.dom l j hb; omega
    refine ⟨rfl, rfl, ?_, rfl, rfl, rfl, i, upd_ext _ hb1 _ _ hdi, rfl⟩
    have := (ha.1.mono hg1.ext).mono (upd_ext ⟨w1.heap.size, 0, 0, 0⟩ hb1)
    exact ⟨this.1, this.2⟩
  obtain ⟨hg2, hb1⟩ := Good.newOther (obj := .loop { state := .ready, pending := none, fn, tmps := a.tmps, params := ps, assign, body, defers := i.blk }) hg1.rel hal (by intros; simp) ⟨_, rfl, hloop⟩
  have hg12 := hg1.trans hg2
  have hU := ev_sound (ha.1.mono hg12.ext) hu
  simp only [VR] at hU
  obtain ⟨f', a', b', he', hf, hfa', hfb⟩ := hU
  have hf' : f' = .func f := hf
  subst hf'
  obtain ⟨⟨fn', hfn, hbody⟩, hc⟩ := hr.call _ _ _ _ _ hcall
  refine ⟨w1.heap.size, m', w1.alloc (.loop { state := .ready, pending := none, fn, tmps := a.tmps, params := ps, assign, body, defers := i.blk }), { target := .fn (.func f) b', args := a' ++ #[Value.func (.yield w1.heap.size) #[] #[]] },
    w1.alloc (.loop { state := .ready, pending := none, fn, tmps := a.tmps, params := ps, assign, body, defers := i.blk }), f,
    (a' ++ #[Value.func (.yield w1.heap.size) #[] #[]]) ++ b', w1.alloc (.loop { state := .ready, pending := none, fn, tmps := a.tmps, params := ps, assign, body, defers := i.blk }), ?_, ?_, fun f' _ => hF.fn f', ?_, fun hd => (by rw [hF.depth] at hd; cases hd), ?_⟩
  · exact hrun fn a.tmps ps assign body
  · show (Deferred.ofValue (a.eval g) (#[Operand.const (.func (.yield w1.heap.size) #[] #[])].map a.eval)).run P _ = _
    rw [he']
    simp [Deferred.ofValue, Act.eval]
  · simp [invoke, run_callFunc hP hfn hbody]
  · have hA : LR (upd β1 l ⟨w1.heap.size, 0, 0, 0⟩) (first ++ (.fn (.yield l) [] [] :: captured)) ((a' ++ #[Value.func (.yield w1.heap.size) #[] #[]]) ++ b').toList := by
      have hy : VR (upd β1 l ⟨w1.heap.size, 0, 0, 0⟩) (.fn (.yield l) [] []) (.func (.yield w1.heap.size) #[] #[]) := by
        simp only [VR]; exact ⟨_, _, _, rfl, ⟨⟨w1.heap.size, 0, 0, 0⟩, upd_self _ _ _, rfl⟩, LR.nil _, LR.nil _⟩
      have := hfa'.append (LR.cons hy hfb)
      simpa using this
    refine CallsIn.mono (hF.calls (hc _ _ _ hg2.rel (hJ _ _ _ _ _ _ hg12 hj) hA)) fun e w3 ⟨z, β3, hez, _, hg3⟩ => ?_
    subst hez
    have hb3 := hg3.ext _ _ (upd_self β1 l ⟨w1.heap.size, 0, 0, 0⟩)
    unfold rangeEnd at h4
    obtain ⟨lp, hlp, h5⟩ := ob_eq.1 h4
    obtain ⟨hbusy, h6⟩ := ok_eq.1 h5
    obtain ⟨q, ho, hw, hlr, hgl⟩ := hg3.rel.loop hb3 hlp
    have hnb : q.state ≠ .busy := by
      rw [hlr.st]; intro e; rw [e] at hbusy; cases hbusy
    have hg4 : Good P β3 σ3 w3 β3 (setObj σ3 l (.loop ⟨.exhausted, lp.pending, lp.ts, lp.n, lp.params, lp.assign, lp.body, lp.defers⟩)) { w3 with heap := w3.heap.setIfInBounds w1.heap.size (.loop { q with state := .exhausted }) } :=
      Good.setLoop hg3.rel hb3 ho ⟨rfl, hlr.pending, hlr.tmps, hlr.params, hlr.assign, hlr.body, hlr.defers⟩
    have hG := (hg12.trans hg3).trans hg4
    have hAR : AR β3 (Fr.rec (fun ts n ds => ⟨ts, n, pushD m ds⟩) fr) { a with defers := m' ++ a.defers } := by
      refine ⟨?_, ?_⟩
      · have := ha.1.mono hG.ext
        cases fr; exact this
      · have h1 : DRs β3 (pushD m fr.ds) (m' ++ a.defers) := DRs.push (by
          cases m with
          | none => exact hm
          | some d => obtain ⟨d', e, hd⟩ := hm; exact ⟨d', e, hd.mono (hg2.ext.trans hg3.ext)⟩) (ha.2.mono hG.ext)
        cases fr; exact h1
    have hend : (Instr.endLoop w1.heap.size).run P w3 = .ok q.pending { w3 with heap := w3.heap.setIfInBounds w1.heap.size (.loop { q with state := .exhausted }) } := by
      have hgl' : (Instr.getLoop w1.heap.size).run P w3 = .ok q w3 := hgl
      simp [Instr.endLoop, hgl', hnb, run_setObj_at hw (by intros; simp)]
    refine ⟨q.pending, _, hend, ?_⟩
    clear hend
    generalize ({ w3 with heap := w3.heap.setIfInBounds w1.heap.size (.loop { q with state := .exhausted }) } : World) = w4 at hG hg4 ⊢
    rw [hlr.pending]
    have h7 : (Option.rec (some (X.normal, (Fr.rec (fun ts n ds => ⟨ts, n, pushD m ds⟩) fr : Fr), setObj σ3 l (.loop ⟨.exhausted, lp.pending, lp.ts, lp.n, lp.params, lp.assign, lp.body, lp.defers⟩)))
        (fun c => r.code rd c (Fr.rec (fun ts n ds => ⟨ts, n, pushD m ds⟩) fr : Fr) (setObj σ3 l (.loop ⟨.exhausted, lp.pending, lp.ts, lp.n, lp.params, lp.assign, lp.body, lp.defers⟩))) lp.pending : Rx) = some (x, fr', σ') := h6
    clear h6 hg4
    generalize setObj σ3 l (.loop ⟨.exhausted, lp.pending, lp.ts, lp.n, lp.params, lp.assign, lp.body, lp.defers⟩) = σ4 at h7 hG
    cases hpn : lp.pending with
    | none =>
      rw [hpn] at h7
      cases h7
      exact ⟨β3, rfl, hAR, hG⟩
    | some c =>
      rw [hpn] at h7
      exact wpIn_mono (hr.code _ _ _ _ _ _ _ h7 β3 _ _ F (hF.mono hG.ext) hG.rel (hJ _ _ _ _ _ _ hG hj) hAR) fun e a2 w2 hp => Post.trans hG hp

theorem outOf_sound {β : BM} {σ σ' : St} {w : World} {fr : Fr} {x : X} {id : Nat} {e : Exit} {a : Act} {w' : World} (h : Post P β σ w x fr σ' e a w') : Exit.inBlock id (Post P β σ w (outOf id x) fr σ') e a w' := by
  obtain ⟨β', hx, ha, hg⟩ := h
  cases x with
  | normal =>
    have hx : e = .normal := hx
    subst hx; exact ⟨β', rfl, ha, hg⟩
  | ret =>
    have hx : e = .ret := hx
    subst hx; exact ⟨β', rfl, ha, hg⟩
  | goto l =>
    have hx : e = .goto l := hx
    subst hx; exact ⟨β', rfl, ha, hg⟩
  | exit k =>
    have hx : e = .exit k := hx
    subst hx
    show if k = id then _ else _
    by_cases hk : k = id
    · subst hk
      rw [if_pos rfl]
      have : outOf k (.exit k) = .normal := by
        show (Bool.rec (X.exit k) X.normal (Nat.beq k k) : X) = .normal
        rw [show Nat.beq k k = true from Nat.beq_refl k]
      rw [this]
      exact ⟨β', rfl, ha, hg⟩
    · rw [if_neg hk]
      have : outOf id (.exit k) = .exit k := by
        show (Bool.rec (X.exit k) X.normal (Nat.beq k id) : X) = .exit k
        cases hb : Nat.beq k id with
        | false => rfl
        | true => exact absurd (Nat.eq_of_beq_eq_true hb) hk
      rw [this]
      exact ⟨β', rfl, ha, hg⟩

theorem code_sound (hP : Fit P) (hJ : JKeep P J) (hr : RecOk P J r) {c : Code} {fr fr' : Fr} {σ σ' : St} {x : X} (he : (cw P c).go r rd fr σ = some (x, fr', σ')) {β : BM} {w : World} {a : Act} {F : Fence} (hF : RdR β rd F) (h : HRel P β σ w) (hj : J β w) (ha : AR β fr a) :
    c.wpIn F 0 P (Post P β σ w x fr' σ') a w := by
  cases c with
  | skip => cases (show some (X.normal, fr, σ) = some (x, fr', σ') from he); exact wpIn_skip ⟨β, rfl, ha, Good.refl h⟩
  | label l => cases (show some (X.normal, fr, σ) = some (x, fr', σ') from he); exact wpIn_label ⟨β, rfl, ha, Good.refl h⟩
  | ret => cases (show some (X.ret, fr, σ) = some (x, fr', σ') from he); exact wpIn_ret ⟨β, rfl, ha, Good.refl h⟩
  | exit id => cases (show some (X.exit id, fr, σ) = some (x, fr', σ') from he); exact wpIn_exit ⟨β, rfl, ha, Good.refl h⟩
  | goto l => cases (show some (X.goto l, fr, σ) = some (x, fr', σ') from he); exact wpIn_goto ⟨β, rfl, ha, Good.refl h⟩
  | seq c1 c2 =>
    obtain ⟨x1, fr1, σ1, h1, h2⟩ := ob3_eq.1 (show ob3 (r.code rd c1 fr σ) (andThen (r.code rd c2)) = some (x, fr', σ') from he)
    refine wpIn_seq (wpIn_mono (hr.code _ _ _ _ _ _ _ h1 β w a F hF h hj ha) fun e a1 w1 hp => then_sound h2 (fun _ h3 β1 a1 w1 ha1 hg1 => ?_) hp)
    exact wpIn_mono (hr.code _ _ _ _ _ _ _ h3 β1 w1 a1 F (hF.mono hg1.ext) hg1.rel (hJ _ _ _ _ _ _ hg1 hj) ha1) fun e a2 w2 hp2 => Post.trans hg1 hp2
  | cond c c1 c2 =>
    obtain ⟨t, ht, h2⟩ := ob_eq.1 (show ob (ob (ev c fr) V.asBool) (fun t => Bool.rec (r.code rd c2 fr σ) (r.code rd c1 fr σ) t) = some (x, fr', σ') from he)
    obtain ⟨v, hv, hb⟩ := ob_eq.1 ht
    have := asBool_some hb; subst this
    have hc := ev_sound ha.1 hv
    simp only [VR] at hc
    refine wpIn_cond hc ?_
    cases t with
    | true => exact hr.code _ _ _ _ _ _ _ h2 β w a F hF h hj ha
    | false => exact hr.code _ _ _ _ _ _ _ h2 β w a F hF h hj ha
  | block id c =>
    obtain ⟨x1, fr1, σ1, h1, h2⟩ := ob3_eq.1 (show ob3 (r.code rd c fr σ) (fun x fr σ => some (outOf id x, fr, σ)) = some (x, fr', σ') from he)
    cases h2
    exact wpIn_block (wpIn_mono (hr.code _ _ _ _ _ _ _ h1 β w a F hF h hj ha) fun e a1 w1 hp => outOf_sound hp)
  | loop c =>
    obtain ⟨x1, fr1, σ1, h1, h2⟩ := ob3_eq.1 (show ob3 (r.code rd c fr σ) (andThen (r.code rd (.loop c))) = some (x, fr', σ') from he)
    refine wpIn_loop_of_round (wpRound_of (wpIn_mono (hr.code _ _ _ _ _ _ _ h1 β w a F hF h hj ha) fun e a1 w1 hp => then_sound h2 (fun _ h3 β1 a1 w1 ha1 hg1 => ?_) hp))
    intro b k cs hro hb hroom
    obtain ⟨e, a', w', hq, harr⟩ := hr.loop _ _ _ _ _ _ _ h3 β1 w1 a1 F (hF.mono hg1.ext) hg1.rel (hJ _ _ _ _ _ _ hg1 hj) ha1 b k cs hro hb hroom
    exact ⟨e, a', w', Post.trans hg1 hq, harr⟩
  | region id ops draw =>
    cases draw with
    | false =>
      obtain ⟨fr1, σ1, h1, h2⟩ := ob2_eq.1 (show ob2 (runOps P ops.toList ops.toList r rd fr σ) asNormal = some (x, fr', σ') from he)
      cases h2
      exact plain_sound hP hJ hr hF h hj ha h1 id
    | true =>
      obtain ⟨fr1, σ1, h1, h2⟩ := ob2_eq.1 (show ob2 (stepDrawn ops.toList P r rd fr σ) asNormal = some (x, fr', σ') from he)
      cases h2
      exact drawn_sound hP hJ hr hF h hj ha h1 id
  | rangeFunc g ps c1 c2 => exact range_sound hP hJ hr hF h hj ha he
  | scope c => cases (show none = some (x, fr', σ') from he)
  | refuse s => cases (show none = some (x, fr', σ') from he)

theorem loop_sound (hJ : JKeep P J) (hr : RecOk P J r) {c : Code} {fr fr' : Fr} {σ σ' : St} {x : X} (he : (cw P (.loop c)).go r rd fr σ = some (x, fr', σ')) {β : BM} {w : World} {a : Act} {F : Fence} (hF : RdR β rd F) (h : HRel P β σ w) (hj : J β w) (ha : AR β fr a) :
    wpRound F 0 P c (Post P β σ w x fr' σ') a w := by
  obtain ⟨x1, fr1, σ1, h1, h2⟩ := ob3_eq.1 (show ob3 (r.code rd c fr σ) (andThen (r.code rd (.loop c))) = some (x, fr', σ') from he)
  refine wpRound_of (wpIn_mono (hr.code _ _ _ _ _ _ _ h1 β w a F hF h hj ha) fun e a1 w1 hp => then_sound h2 (fun _ h3 β1 a1 w1 ha1 hg1 => ?_) hp)
  intro b k cs hro hb hroom
  obtain ⟨e, a', w', hq, harr⟩ := hr.loop _ _ _ _ _ _ _ h3 β1 w1 a1 F (hF.mono hg1.ext) hg1.rel (hJ _ _ _ _ _ _ hg1 hj) ha1 b k cs hro hb hroom
  exact ⟨e, a', w', Post.trans hg1 hq, harr⟩

/-! Functions -/

/-- What is known of a function beside its text. -/
structure OrcOk (P : Program) (J : BM → World → Prop) (orc : Orc) : Prop where
  call : ∀ f g, orc f = some g → ∀ args σ v σ', g args σ = some (v, σ') → (∃ fn, P.funcs[f]? = some fn ∧ fn.body.isSome = true) ∧
    ∀ β w (args' : Array Value), HRel P β σ w → J β w → LR β args args'.toList → CallsIn Fence.wide 0 P f args' w (CallPost P β σ w v σ')
structure DorcOk (P : Program) (J : BM → World → Prop) (dorc : Dorc) : Prop where
  call : ∀ f g, dorc f = some g → ∀ args σ σ', g args σ = some σ' → (∃ fn, P.funcs[f]? = some fn ∧ fn.body.isSome = true) ∧
    ∀ β w (args' : Array Value), HRel P β σ w → J β w → LR β args args'.toList → CallsDIn Fence.wide 0 P f args' .returning w fun e u w' => ∃ v β', e = .returned v ∧ settle u = .returning ∧ Good P β σ w β' σ' w'

theorem ofArgs_nil (i : Nat) (t : T V) : ofArgs [] i t = t := rfl
theorem ofArgs_cons (v : V) (vs : List V) (i : Nat) (t : T V) : ofArgs (v :: vs) i t = ofArgs vs (i + 1) (t.put i v) := rfl
theorem ofArgs_get : ∀ (vs : List V) (i : Nat) (t : T V) (j : Nat), (ofArgs vs i t).get j = if i ≤ j ∧ j < i + vs.length then vs[j - i]? else t.get j
  | [], i, t, j => by rw [ofArgs_nil, if_neg (by simp)]
  | v :: vs, i, t, j => by
    rw [ofArgs_cons, ofArgs_get vs (i + 1), T.get_put]
    by_cases h : i = j
    · subst h
      rw [if_neg (by omega), if_pos rfl, if_pos (by simp)]
      simp
    · by_cases h2 : i + 1 ≤ j ∧ j < i + 1 + vs.length
      · rw [if_pos h2, if_pos (by simp; omega)]
        have : j - i = (j - (i + 1)) + 1 := by omega
        rw [this]; simp
      · rw [if_neg h2, if_neg h, if_neg (by simp; omega)]

theorem T_get_e (j : Nat) : (T.e : T V).get j = none := by
  unfold T.get
  cases bits j with
  | nil => rfl
  | cons b l => cases b <;> rfl

theorem enter_TR {β : BM} {vs : List V} {xs : Array Value} {n : Nat} (h : LR β vs xs.toList) (hn : vs.length ≤ n) : TR β ⟨ofArgs vs 0 .e, n, []⟩ (xs ++ Array.replicate (n - xs.size) Go.undef) := by
  have hl : xs.size = vs.length := by have := h.length; simpa using this
  refine ⟨by simp; omega, fun t => ?_⟩
  simp only [ofArgs_get, Nat.zero_le, true_and, Nat.zero_add, Nat.sub_zero, T_get_e]
  rw [Array.getD_eq_getD_getElem?]
  by_cases ht : t < vs.length
  · rw [if_pos ht]
    obtain ⟨x, hx, hv⟩ := h.get (n := t) (v := vs[t]) (by simp [ht])
    rw [Array.getElem?_append_left (by omega), ← Array.getElem?_toList, hx]
    simp [ht]; exact hv
  · rw [if_neg ht, Array.getElem?_append_right (by omega)]
    have : (Array.replicate (n - xs.size) Go.undef)[t - xs.size]?.getD Go.undef = Go.undef := by
      rw [Array.getElem?_replicate]; split <;> rfl
    rw [this]
    exact VR_undef β

noncomputable def resOf (tmps : Array Value) (q : ResultVar) : Sem Value :=
  match q with
  | .tmp t => pure (tmps.getD t Go.undef)
  | .cell a t => do loadVar t (← asAddr (tmps.getD a Go.undef))

theorem result_sound {β : BM} {σ : St} {w : World} {ts : T V} {tmps : Array Value} (h : HRel P β σ w) (ha : ∀ t, VR β ((ts.get t).getD Am.undef) (tmps.getD t Go.undef)) {q : ResultVar} {v : V} (he : resultOf P σ ts q = some v) :
    ∃ x, (resOf tmps q).run P w = .ok x w ∧ VR β v x := by
  unfold resOf
  cases q with
  | tmp t =>
    refine ⟨tmps.getD t Go.undef, by simp, ?_⟩
    have h1 := ha t
    have h2 : (Option.rec (some Am.undef) (fun v => some v) (ts.get t) : Option V) = some v := he
    cases hg : ts.get t with
    | none => rw [hg] at h1 h2; cases h2; exact h1
    | some u => rw [hg] at h1 h2; cases h2; exact h1
  | cell a t =>
    obtain ⟨p, hp, hl⟩ := ob_eq.1 (show ob (ob (ts.get a) V.asPtr) (loadT P σ t) = some v from he)
    obtain ⟨u, hu, hpu⟩ := ob_eq.1 hp
    have := asPtr_some hpu; subst this
    have h1 := ha a
    rw [hu] at h1
    simp only [Option.getD_some, VR] at h1
    obtain ⟨q, hq, i, hi, rfl⟩ := h1
    obtain ⟨x, hx, hv⟩ := h.loadT hl hi
    refine ⟨x, ?_, hv⟩
    simp only [hq, asAddr]
    simp [hx]

theorem results_sound {β : BM} {σ : St} {w : World} {ts : T V} {tmps : Array Value} (h : HRel P β σ w) (ha : ∀ t, VR β ((ts.get t).getD Am.undef) (tmps.getD t Go.undef)) : ∀ {qs : List ResultVar} {vs : List V}, mapO (resultOf P σ ts) qs = some vs →
    ∃ xs, (qs.mapM (resOf tmps)).run P w = .ok xs w ∧ LR β vs xs
  | [], vs, he => by
    rw [mapO_nil] at he; cases he
    exact ⟨[], by simp, LR.nil _⟩
  | q :: qs, vs, he => by
    rw [mapO_cons] at he
    obtain ⟨v, hv, h1⟩ := ob_eq.1 he
    obtain ⟨us, hus, h2⟩ := ob_eq.1 h1
    cases h2
    obtain ⟨x, hx, hvx⟩ := result_sound h ha hv
    obtain ⟨xs, hxs, hl⟩ := results_sound h ha hus
    refine ⟨x :: xs, ?_, LR.cons hvx hl⟩
    rw [List.mapM_cons]
    simp only [Sem.run_bind, hx, Result.andThen_ok, hxs, Sem.run_pure]
end
end Go.Am
namespace Go.Am
section
variable {P : Program} {J : BM → World → Prop} {r : Rec}

theorem results_run {β : BM} {σ : St} {w : World} {fn : Func} {ts : T V} {tmps : Array Value} {vs : List V} (h : HRel P β σ w) (ha : ∀ t, VR β ((ts.get t).getD Am.undef) (tmps.getD t Go.undef)) (he : mapO (resultOf P σ ts) fn.results.toList = some vs) :
    ∃ x, (results fn tmps).run P w = .ok x w ∧ VR β (oneOrTup vs) x := by
  obtain ⟨xs, hxs, hl⟩ := results_sound h ha he
  have hm : (fn.results.mapM (resOf tmps)).run P w = .ok xs.toArray w := by
    rw [Array.mapM_eq_mapM_toList]
    simp [hxs]
  have heq : results fn tmps = (do let vs ← fn.results.mapM (resOf tmps); pure (if h : vs.size = 1 then vs[0] else .tuple vs)) := by
    unfold results
    congr 1
  refine ⟨if h : xs.toArray.size = 1 then xs.toArray[0] else .tuple xs.toArray, ?_, ?_⟩
  · rw [heq, Sem.run_bind, hm]
    simp
  · unfold oneOrTup
    split
    · rename_i v
      simp only [LR] at hl
      obtain ⟨x, ys, rfl, hv, hs⟩ := hl
      subst hs
      simpa using hv
    · rename_i hne
      have hsz : ¬ xs.toArray.size = 1 := fun e => by
        have h1 := hl.length
        simp at e
        rw [e] at h1
        match vs, h1, hne with
        | [v], _, hne => exact hne v rfl
      rw [dif_neg hsz]
      simp only [VR]
      exact ⟨_, rfl, by simpa using hl⟩

theorem unwind_nil (dorc : Dorc) (σ : St) : unwind dorc [] σ = some σ := rfl
theorem unwind_cons (dorc : Dorc) (d : D) (ds : List D) (σ : St) : unwind dorc (d :: ds) σ = ob (unwindOne dorc d σ) (unwind dorc ds) := rfl

theorem settle_returning : settle .returning = .returning := rfl

theorem leave_sound (hP : Fit P) (hJ : JKeep P J) {dorc : Dorc} (hd : DorcOk P J dorc) {fn : Func} {β0 : BM} {σ0 : St} {w0 : World} (hj : J β0 w0) {ts : T V} {tmps : Array Value} {vs : List V} {σE : St} (he : mapO (resultOf P σE ts) fn.results.toList = some vs) :
    ∀ {ds : List D} {ds' : List Deferred} {β : BM} {σ : St} {w : World}, unwind dorc ds σ = some σE → Good P β0 σ0 w0 β σ w → (∀ t, VR β ((ts.get t).getD Am.undef) (tmps.getD t Go.undef)) → DRs β ds ds' →
    LeavesInM Fence.wide 0 P fn tmps (CallPost P β0 σ0 w0 (oneOrTup vs) σE) ds' .returning w
  | [], ds', β, σ, w, hu, hg, ha, hds => by
    cases hds
    rw [unwind_nil] at hu; cases hu
    obtain ⟨x, hx, hv⟩ := results_run hg.rel ha he
    exact ⟨x, hx, x, β, rfl, hv, hg⟩
  | d :: ds, _, β, σ, w, hu, hg, ha, .cons hd1 hds => by
    rw [unwind_cons] at hu
    obtain ⟨σ1, h1, h2⟩ := ob_eq.1 hu
    refine ⟨by simp, ?_⟩
    cases d with
    | collected l =>
      obtain ⟨i, hi, rfl⟩ := hd1
      obtain ⟨o, ho, h3⟩ := ob_eq.1 (show ob (heapAt σ l) (fun o => ok o.isOpen (some (setObj σ l (.deferred false)))) = some σ1 from h1)
      obtain ⟨hopen, h4⟩ := ok_eq.1 h3
      cases h4
      have hoe : o = .deferred true := by
        unfold O.isOpen at hopen
        split at hopen
        · rfl
        · cases hopen
      subst hoe
      obtain ⟨o', obj, ho', hw, hr⟩ := hg.rel.obj l i hi
      rw [ho] at ho'; cases ho'
      obtain ⟨_, hobj⟩ := hr
      have hobj : obj = .deferred (some []) := hobj
      subst hobj
      have hg1 : Good P β σ w β (setObj σ l (.deferred false)) { w with heap := w.heap.setIfInBounds i.blk (.deferred none) } :=
        Good.setOther hg.rel hi ho (by intros; simp) (by intros; simp) rfl ⟨rfl, rfl, rfl⟩ rfl
      refine .inl ⟨i.blk, { w with heap := w.heap.setIfInBounds i.blk (.deferred none) }, rfl, ?_, leave_sound hP hJ hd hj he h2 (hg.trans hg1) ha hds⟩
      simp [Instr.takeDeferred, run_getObj_at hw (by intros; simp) (by intros; simp), run_setObj_at hw (by intros; simp)]
    | call v args =>
      obtain ⟨f, first, captured, rfl, a', b', args', rfl, hfa, hfb, hA⟩ := hd1
      obtain ⟨g, hgf, h3⟩ := ob_eq.1 (show ob (dorc f) (fun g => g (first ++ (args ++ captured)) σ) = some σ1 from h1)
      obtain ⟨⟨fn', hfn, hbody⟩, hc⟩ := hd.call f g hgf _ _ _ h3
      have hAll : LR β (first ++ (args ++ captured)) ((a' ++ args') ++ b').toList := by
        have := hfa.append (hA.append hfb)
        simpa using this
      refine .inr ⟨fun h => (by cases h), Fn.func f, b', f, (a' ++ args') ++ b', rfl, by simp [invoke, run_callFunc hP hfn hbody], fun g _ => trivial, CallsDIn.mono (hc β w _ hg.rel (hJ _ _ _ _ _ _ hg hj) hAll) fun e u w' ⟨v, β', hev, hset, hg'⟩ => ?_⟩
      subst hev
      show LeavesInM _ _ _ _ _ _ _ (settle u) _
      rw [hset]
      exact leave_sound hP hJ hd hj he h2 (hg.trans hg') (fun t => VR.mono hg'.ext _ _ (ha t)) (hds.mono hg'.ext)

theorem func_sound (hP : Fit P) (hJ : JKeep P J) {dorc : Dorc} (hd : DorcOk P J dorc) (hr : RecOk P J r) {f : FuncId} {fn : Func} (hfn : P.funcs[f]? = some fn) {args : List V} {σ σ' : St} {v : V} (he : runFunc fn P dorc r args σ = some (v, σ')) {β : BM} {w : World} {args' : Array Value}
    (h : HRel P β σ w) (hj : J β w) (hA : LR β args args'.toList) : CallsIn Fence.wide 0 P f args' w (CallPost P β σ w v σ') := by
  unfold runFunc at he
  obtain ⟨c, hc, h1⟩ := ob_eq.1 he
  obtain ⟨hlen, h2⟩ := ok_eq.1 h1
  have hlen : args.length ≤ fn.ntmps := by have := Nat.le_of_ble_eq_true hlen; simpa using this
  obtain ⟨x, fr, σ1, h3, h4⟩ := ob3_eq.1 h2
  unfold leave at h4
  obtain ⟨hends, h5⟩ := ok_eq.1 h4
  obtain ⟨ts, n, ds⟩ := fr
  obtain ⟨σ2, hu, h6⟩ := ob_eq.1 (show ob (unwind dorc ds σ1) (fun σ => ob (mapO (resultOf P σ ts) fn.results.toList) fun vs => some (oneOrTup vs, σ)) = some (v, σ') from h5)
  obtain ⟨vs, hvs, h7⟩ := ob_eq.1 h6
  cases h7
  refine callsIn_of_wp_marks hfn hc trivial (wpIn_mono (hr.code none c _ σ x _ σ1 h3 β w _ Fence.wide rfl h hj ⟨enter_TR hA hlen, .nil⟩) fun e a1 w1 hp => ?_)
  obtain ⟨β1, hx, ha1, hg1⟩ := hp
  have key := leave_sound hP hJ hd (fn := fn) hj hvs (tmps := a1.tmps) hu hg1 ha1.1.2 ha1.2
  cases x with
  | normal => have hx : e = .normal := hx
              subst hx; exact key
  | ret => have hx : e = .ret := hx
           subst hx; exact key
  | exit id => cases hends
  | goto l => cases hends

theorem call_sound (hP : Fit P) (hJ : JKeep P J) {orc : Orc} {dorc : Dorc} (ho : OrcOk P J orc) (hd : DorcOk P J dorc) (hr : RecOk P J r) {f : FuncId} {args : List V} {σ σ' : St} {v : V} (he : callFn P orc dorc r f args σ = some (v, σ')) :
    (∃ fn, P.funcs[f]? = some fn ∧ fn.body.isSome = true) ∧ ∀ β w (args' : Array Value), HRel P β σ w → J β w → LR β args args'.toList → CallsIn Fence.wide 0 P f args' w (CallPost P β σ w v σ') := by
  have he' : (Option.rec (ob (funcAt P f) fun fn => runFunc fn P dorc r args σ) (fun g => g args σ) (orc f) : Option (V × St)) = some (v, σ') := he
  cases hof : orc f with
  | some g => rw [hof] at he'; exact ho.call f g hof args σ v σ' he'
  | none =>
    rw [hof] at he'
    obtain ⟨fn, hfn, h1⟩ := ob_eq.1 he'
    have hfn' := funcAt_some hfn
    refine ⟨⟨fn, hfn', ?_⟩, fun β w args' h hj hA => func_sound hP hJ hd hr hfn' h1 h hj hA⟩
    unfold runFunc at h1
    obtain ⟨c, hc, _⟩ := ob_eq.1 h1
    rw [hc]; rfl

/-- THE MACHINE IS RIGHT. -/
theorem mk_sound (hP : Fit P) (hJ : JKeep P J) {orc : Orc} {dorc : Dorc} (ho : OrcOk P J orc) (hd : DorcOk P J dorc) : ∀ fuel, RecOk P J (mk P orc dorc fuel)
  | 0 => ⟨fun _ _ _ _ _ _ _ h => (by cases h), fun _ _ _ _ _ _ _ h => (by cases h), fun _ _ _ _ _ h => (by cases h)⟩
  | n + 1 =>
    have hr := mk_sound hP hJ ho hd n
    ⟨fun rd c fr σ x fr' σ' h β w a F hF hh hj ha => code_sound hP hJ hr (c := c) h hF hh hj ha, fun rd c fr σ x fr' σ' h β w a F hF hh hj ha => loop_sound hJ hr h hF hh hj ha, fun f args σ v σ' h => call_sound hP hJ ho hd hr h⟩

theorem orc_none : OrcOk P J fun _ => none := ⟨fun _ _ h => by cases h⟩
theorem dorc_none : DorcOk P J fun _ => none := ⟨fun _ _ h => by cases h⟩

/-- The empty state fits every world. -/
def st0 : St := ⟨.e, .e, 1⟩
theorem st0_rel (w : World) : HRel P (fun _ => none) st0 w := by
  refine ⟨fun b i h => (by cases h), fun b i h => (by cases h), fun b b' i i' o o' h => (by cases h), fun b i e cs g h => (by cases h), fun b i o h => (by cases h), fun g s t h => ?_, fun g s t b i e cs _ h => (by cases h)⟩
  have : (T.e : T (Nat × Nat)).get g = some (s, t) := h
  unfold T.get at this
  cases hb : bits g with
  | nil => rw [hb] at this; cases this
  | cons b l => rw [hb] at this; cases b <;> cases this
end
end Go.Am
namespace Go.Am
open Go.RowKit (Below)
section
variable {P : Program} {β : BM} {σ : St} {w w' : World}

theorem HRel.frame (h : HRel P β σ w) (e : ∀ b i, β b = some i → w'.heap[i.blk]? = w.heap[i.blk]?) : HRel P β σ w' :=
  ⟨h.dom, fun b i hb => by rw [e b i hb]; exact h.obj b i hb, h.inj, h.own, h.gm, h.gk, h.tip⟩

theorem HRel.lt (h : HRel P β σ w) {b : Nat} {i : BI} (hb : β b = some i) : i.blk < w.heap.size := by
  obtain ⟨_, _, _, hw, _⟩ := h.obj b i hb
  exact (Array.getElem?_eq_some_iff.1 hw).1

/-- What turns nothing that was there is seen by nobody. -/
theorem Good.of_below (h : HRel P β σ w) (hb : Below w.heap.size w w') : Good P β σ w β σ w' :=
  ⟨Ext.refl β, h.frame fun _ _ hi => hb.block _ (h.lt hi), hb.size, fun b i hi _ => ⟨b, i, hi, rfl⟩, fun c hc _ => hb.block c hc, ⟨hb.os, hb.output, hb.tape⟩, Nat.le_refl _, fun _ _ hn => ⟨rfl, rfl, hn⟩⟩

theorem Good.below {β' : BM} {σ' : St} (g : Good P (fun _ => none) σ w β' σ' w') : Below w.heap.size w w' :=
  ⟨g.calm.1, g.calm.2.2, g.calm.2.1, g.size, fun k hk => g.cframe k hk fun b i hb => by cases hb⟩

/-- What lay at the beginning lies there as it was, and none of it is known here. -/
def Base (w0 : World) (β : BM) (w : World) : Prop :=
  w0.heap.size ≤ w.heap.size ∧ (∀ c, c < w0.heap.size → w.heap[c]? = w0.heap[c]?) ∧ ∀ b i, β b = some i → w0.heap.size ≤ i.blk
theorem base_keep (w0 : World) : JKeep P (Base w0) := fun β σ w β' σ' w' g ⟨h1, h2, h3⟩ => by
  refine ⟨Nat.le_trans h1 g.size, fun c hc => ?_, fun b i hb => ?_⟩
  · rw [g.cframe c (by omega) fun b i hb e => ?_, h2 c hc]
    have := h3 b i hb; omega
  · rcases Nat.lt_or_ge i.blk w0.heap.size with h | h
    · obtain ⟨b0, i0, hb0, e⟩ := g.range b i hb (by omega)
      have := h3 b0 i0 hb0; omega
    · exact h
theorem Base.start (w0 : World) : Base w0 (fun _ => none) w0 := ⟨Nat.le_refl _, fun _ _ => rfl, fun b i h => by cases h⟩
theorem Base.empty {w0 w : World} {β : BM} (h : Base w0 β w) : Base w0 (fun _ => none) w := ⟨h.1, h.2.1, fun b i h => by cases h⟩
theorem Base.below {w0 w : World} {β : BM} (h : Base w0 β w) : ∀ c, c < w0.heap.size → w.heap[c]? = w0.heap[c]? := h.2.1
theorem Base.cell {w0 w : World} {β : BM} (h : Base w0 β w) {p : Addr} {x : Value} (hc : w0.cell? p = some x) : w.cell? p = some x := by
  unfold World.cell? at hc ⊢
  cases hb : w0.heap[p.block]? with
  | none => rw [hb] at hc; cases hc
  | some o => rw [h.2.1 _ (Array.getElem?_eq_some_iff.1 hb).1]; rw [hb] at hc ⊢; exact hc

/-- A contract in the kit's words serves here. -/
theorem callPost_of {f : FuncId} {args : Array Value} {v : V} {x : Value} (h : HRel P β σ w) (hv : VR β v x) (hc : Calls P f args w fun e w' => e = .returned x ∧ Below w.heap.size w w') :
    CallsIn Fence.wide 0 P f args w (CallPost P β σ w v σ) :=
  CallsIn.mono (callsIn_wide.2 hc) fun _ _ ⟨he, hb⟩ => ⟨x, β, he, hv, Good.of_below h hb⟩

/-- A run of the machine, in the kit's words. -/
theorem calls_of_run (hP : Fit P) {J : BM → World → Prop} (hJ : JKeep P J) {orc : Orc} {dorc : Dorc} (ho : OrcOk P J orc) (hd : DorcOk P J dorc) {fuel : Nat} {f : FuncId} {args : List V} {v : V} {σ' : St}
    (hrun : (mk P orc dorc fuel).call f args st0 = some (v, σ')) (hj : J (fun _ => none) w) {args' : Array Value} (hA : LR (fun _ => none) args args'.toList) :
    Calls P f args' w fun e w' => ∃ x β', e = .returned x ∧ VR β' v x ∧ Below w.heap.size w w' :=
  callsIn_wide.1 (CallsIn.mono (((mk_sound hP hJ ho hd fuel).call f args st0 v σ' hrun).2 _ w args' (st0_rel w) hj hA) fun _ _ ⟨x, β', he, hv, hg⟩ => ⟨x, β', he, hv, hg.below⟩)

theorem calls_bool_of_run (hP : Fit P) {J : BM → World → Prop} (hJ : JKeep P J) {orc : Orc} {dorc : Dorc} (ho : OrcOk P J orc) (hd : DorcOk P J dorc) {fuel : Nat} {f : FuncId} {args : List V} {b : Bool}
    (hrun : (Option.rec false (fun p => Prod.rec (fun v _ => Option.rec false (fun c => c == b) v.asBool) p) ((mk P orc dorc fuel).call f args st0) : Bool) = true) (hj : J (fun _ => none) w) {args' : Array Value} (hA : LR (fun _ => none) args args'.toList) :
    Calls P f args' w fun e w' => e = .returned (.bool b) ∧ Below w.heap.size w w' := by
  cases hr : (mk P orc dorc fuel).call f args st0 with
  | none => rw [hr] at hrun; cases hrun
  | some p =>
    obtain ⟨v, σ'⟩ := p
    rw [hr] at hrun
    have hrun : (Option.rec false (fun c => c == b) v.asBool : Bool) = true := hrun
    cases hb : v.asBool with
    | none => rw [hb] at hrun; cases hrun
    | some c =>
      rw [hb] at hrun
      have hcb : (c == b) = true := hrun
      simp at hcb; subst hcb
      have := asBool_some hb; subst this
      refine (calls_of_run hP hJ ho hd hr hj hA).mono fun e w' ⟨x, β', he, hv, hbl⟩ => ?_
      simp only [VR] at hv
      subst hv
      exact ⟨he, hbl⟩
end
end Go.Am
