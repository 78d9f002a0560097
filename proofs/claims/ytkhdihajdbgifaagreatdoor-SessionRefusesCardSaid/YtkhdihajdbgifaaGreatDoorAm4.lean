/-
  Each operation that turns memory agrees.
-/
import Derived.Test.YtkhdihajdbgifaaGreatDoorAm3
import Derived.Test.YtkhdihajdbgifaaGreatDoorAm2
import Derived.Laws.RangeString
import Derived.Laws.Append
namespace Go.Am
section
variable {P : Program} {β : BM} {σ σ' : St} {w : World} {a : Act} {fr : Fr} {dst : Option Tmp} {ty : TypeId} {pos : String} {aft : Array Edge} {g : Option (Nat × Bool)}

/-- What an operation that turns memory yields. -/
def Turned (P : Program) (β : BM) (σ : St) (w : World) (r : Result Next) (σ' : St) (v : V) : Prop :=
  ∃ n z w' β', r = .ok n w' ∧ (n = .value z ∨ (n = .skip ∧ z = Go.undef)) ∧ VR β' v z ∧ Good P β σ w β' σ' w'

/-- Cells are written. -/
theorem storeCells_sound (h : HRel P β σ w) {p : Nat × Nat} {vs : List V} {xs : List Value} {q : Addr} (hw : writeCells σ p vs = some σ') (hq : PtrR β p q) (hx : LR β vs xs) :
    ∃ w', (storeCells q xs).run P w = .ok () w' ∧ Good P β σ w β σ' w' := by
  obtain ⟨i, hi, rfl⟩ := hq
  obtain ⟨arr, e, fz, h1, h2, h3, h4, h5⟩ := h.write hw hi hx
  have hr := run_storeCells_any P i.blk (i.off + p.2) e fz xs 0 arr w h1 h2 (by omega) h4
  exact ⟨_, hr, h5⟩

theorem t_store {t : TypeId} {x y : Operand} {v : V} (h : HRel P β σ w) (ha : TR β fr a.tmps) (he : cStore P t x y fr σ = some (v, σ')) :
    Turned P β σ w ((execOp a.eval ⟨dst, .store t x y, ty, pos, aft, g⟩).run P w) σ' v := by
  unfold cStore at he
  obtain ⟨p, hp, he1⟩ := ob_eq.1 he
  obtain ⟨u, hu, he2⟩ := ob_eq.1 he1
  obtain ⟨n, hn, he3⟩ := ob_eq.1 he2
  obtain ⟨hl, he4⟩ := ok_eq.1 he3
  obtain ⟨σ1, hw, he5⟩ := ob_eq.1 he4
  cases he5
  have hq0 : ∃ q, a.eval x = .pointer (some q) ∧ PtrR β p q := by
    obtain ⟨u', hu', hp'⟩ := ob_eq.1 hp
    have := asPtr_some hp'; subst this
    have := ev_sound ha hu'
    simpa only [VR] using this
  obtain ⟨q, hq, hr⟩ := hq0
  have h1 := (ev_sound ha hu).cells
  obtain ⟨w', hrun, hg⟩ := storeCells_sound h hw hr h1
  have hsz : (a.eval y).cells.size = n := by
    have e1 := h1.length
    have e2 := Nat.eq_of_beq_eq_true hl
    rw [len_eq] at e2
    rw [← e2, ← e1]; simp
  refine ⟨.skip, Go.undef, w', β, ?_, .inr ⟨rfl, rfl⟩, VR_undef β, hg⟩
  simp [execOp, Instr.storeAt, Instr.sureAddr, hq, storeVar, run_sizeOf w hn, hsz, hrun]

/-! Maps -/
theorem run_setObj_map {r : Nat} {es : Array MapEntry} {c : Nat} {o : Obj} (h : w.heap[r]? = some (.map es c)) : (Go.setObj r o).run P w = .ok () { w with heap := w.heap.setIfInBounds r o } := by
  simp [Go.setObj, Sem.run, h]

theorem find_at {k : V} : ∀ {es : List ME} {i j : Nat} {v : V}, findKey k es i = some (some (j, v)) → i ≤ j ∧ ∃ e, es[j - i]? = some e ∧ keyEq k e.key = some true ∧ v = e.val
  | [], i, j, v, h => by cases h
  | e :: es, i, j, v, h => by
    rw [findKey_cons] at h
    obtain ⟨b, hb, h1⟩ := ob_eq.1 h
    cases b with
    | true => cases h1; exact ⟨Nat.le_refl _, e, by simp, hb, rfl⟩
    | false =>
      obtain ⟨h2, e', h3, h4⟩ := find_at (es := es) h1
      refine ⟨by omega, e', ?_, h4⟩
      have : j - i = (j - (i + 1)) + 1 := by omega
      rw [this]; simpa using h3

theorem ER.get {es : List ME} {es' : List MapEntry} (h : ER β es es') : ∀ {j : Nat} {e : ME}, es[j]? = some e → ∃ e', es'[j]? = some e' ∧ ER1 β e e' := by
  induction h with
  | nil => intro j e h; simp at h
  | cons h1 _ ih =>
    intro j e h
    cases j with
    | zero => simp at h; subst h; exact ⟨_, rfl, h1⟩
    | succ j => exact ih (by simpa using h)

theorem ER.push {es : List ME} {es' : List MapEntry} (h : ER β es es') {e : ME} {e' : MapEntry} (h1 : ER1 β e e') : ER β (es ++ [e]) (es' ++ [e']) := by
  induction h with
  | nil => exact .cons h1 .nil
  | cons h2 _ ih => exact .cons h2 ih

theorem modifyAt_cons_zero (k v : V) (e : ME) (es : List ME) : modifyAt k v 0 (e :: es) = ⟨k, v, e.born⟩ :: es := rfl
theorem modifyAt_cons_succ (k v : V) (i : Nat) (e : ME) (es : List ME) : modifyAt k v (i + 1) (e :: es) = e :: modifyAt k v i es := rfl
theorem modifyAt_nil (k v : V) (i : Nat) : modifyAt k v i [] = [] := by cases i <;> rfl
theorem eraseAt_cons_zero (e : ME) (es : List ME) : eraseAt 0 (e :: es) = es := rfl
theorem eraseAt_cons_succ (i : Nat) (e : ME) (es : List ME) : eraseAt (i + 1) (e :: es) = e :: eraseAt i es := rfl
theorem eraseAt_nil (i : Nat) : eraseAt i [] = [] := by cases i <;> rfl

theorem ER.modify {es : List ME} {es' : List MapEntry} (h : ER β es es') {k v : V} {k' v' : Value} (hk : VR β k k') (hv : VR β v v') : ∀ i, ER β (modifyAt k v i es) (es'.modify i fun e => { e with key := k', val := v' }) := by
  induction h with
  | nil => intro i; rw [modifyAt_nil]; cases i <;> exact .nil
  | cons h1 hs ih =>
    intro i
    cases i with
    | zero => rw [modifyAt_cons_zero]; exact .cons ⟨hk, hv, h1.born⟩ hs
    | succ i => rw [modifyAt_cons_succ, List.modify_succ_cons]; exact .cons h1 (ih i)

theorem ER.erase {es : List ME} {es' : List MapEntry} (h : ER β es es') : ∀ i, ER β (eraseAt i es) (es'.eraseIdx i) := by
  induction h with
  | nil => intro i; rw [eraseAt_nil]; exact .nil
  | cons h1 hs ih =>
    intro i
    cases i with
    | zero => rw [eraseAt_cons_zero]; exact hs
    | succ i => rw [eraseAt_cons_succ]; exact .cons h1 (ih i)

theorem keyEq_same {k k2 : V} (h : keyEq k k2 = some true) {x y : Value} (hx : VR β k x) (hy : VR β k2 y) : Instr.sameBits 10000 y x = true := by
  unfold keyEq at h
  split at h
  · obtain ⟨h1, h2⟩ := ok_eq.1 h
    have := (eqK_iff _ _).1 h1; subst this
    simp only [VR] at hx hy; subst hx; subst hy
    have h2 := Option.some.inj h2
    rw [eqInt_eq] at h2
    simp [Instr.sameBits] at h2 ⊢
    exact h2.symm
  · simp only [VR] at hx hy
    obtain ⟨s1, rfl, rfl⟩ := hx
    obtain ⟨s2, rfl, rfl⟩ := hy
    have h2 := Option.some.inj h
    have h3 := bytes_map_inj ((eqNats_iff _ _).1 h2)
    have h4 : s1 = s2 := by cases s1; cases s2; simp at h3; rw [h3]
    subst h4
    simp [Instr.sameBits, beq_toListBytes]
  · simp only [VR] at hx hy; subst hx; subst hy
    have h2 := Option.some.inj h
    simp [Instr.sameBits] at h2 ⊢
    exact h2.symm
  · cases h

theorem updateV_sound {t : TypeId} {m k u v : V} {m' k' u' : Value} (h : HRel P β σ w) (he : updateV P σ t m k u = some (v, σ')) (hm : VR β m m') (hk : VR β k k') (hu : VR β u u') :
    ∃ w', (Instr.mapUpdate t m' k' u').run P w = .ok () w' ∧ v = undef ∧ Good P β σ w β σ' w' := by
  unfold updateV at he
  obtain ⟨⟨kt, et⟩, hke, he1⟩ := ob_eq.1 he
  obtain ⟨hf, he2⟩ := ok_eq.1 he1
  obtain ⟨r, hr, he3⟩ := ob_eq.1 he2
  obtain ⟨⟨es, c⟩, hg, he4⟩ := ob_eq.1 he3
  obtain ⟨f, hfk, he5⟩ := ob_eq.1 he4
  have hmt := mapT_some hke
  obtain ⟨d, hd, hfit⟩ := keyFits_some hf
  have hm0 : m = .map (some r) := by
    unfold V.asMap at hr
    split at hr
    · cases hr; rfl
    · cases hr
  subst hm0
  simp only [VR] at hm
  obtain ⟨i, hi, rfl⟩ := hm
  obtain ⟨es', hw, her⟩ := h.map hi hg
  have hho : heapAt σ r = some (.map es c) := by
    unfold getMap at hg
    obtain ⟨o, ho, hg1⟩ := ob_eq.1 hg
    cases o <;> first | (cases hg1; done) | skip
    cases hg1; exact ho
  have hoff : i.off = 0 := by
    obtain ⟨o, obj, ho, _, hr⟩ := h.obj r i hi
    rw [hho] at ho; cases ho
    exact hr.1
  obtain ⟨r', hfr, hfound⟩ := run_findKey (w := w) hd hfit hk her hfk
  have hck := run_checkKey (w := w) (e := false) hd hfit hk 9999
  cases f with
  | none =>
    have hfound : r' = none := hfound
    subst hfound
    cases he5
    refine ⟨{ w with heap := w.heap.setIfInBounds i.blk (.map (es'.push ⟨k', u', c⟩) (c + 1)) }, ?_, rfl, ?_⟩
    · simp [Instr.mapUpdate, run_underlying w hmt, run_getObj_map hw, hck, hfr, run_setObj_map hw]
    · refine Good.setOther h hi hho (by intros; simp) (by intros; simp) rfl ⟨rfl, rfl, rfl⟩ ⟨_, rfl, ?_⟩
      simpa using her.push ⟨hk, hu, rfl⟩
  | some p =>
    obtain ⟨j, pv⟩ := p
    obtain ⟨u2, hfound, hu2⟩ := hfound
    subst hfound
    cases he5
    obtain ⟨_, e0, he0, hke0, _⟩ := find_at hfk
    obtain ⟨e1, he1', h1⟩ := her.get (j := j) (by simpa using he0)
    have hsb := keyEq_same hke0 hk h1.key
    refine ⟨{ w with heap := w.heap.setIfInBounds i.blk (.map (es'.modify j fun e => { e with key := k', val := u' }) c) }, ?_, rfl, ?_⟩
    · have hkey : ((es'[j]?).map (·.key)).getD k' = e1.key := by
        rw [Array.getElem?_toList] at he1'; rw [he1']; rfl
      simp [Instr.mapUpdate, run_underlying w hmt, run_getObj_map hw, hck, hfr, hkey, Instr.keyThatStays, hsb, run_setObj_map hw]
    · refine Good.setOther h hi hho (by intros; simp) (by intros; simp) rfl ⟨rfl, rfl, rfl⟩ ⟨_, rfl, ?_⟩
      rw [Array.toList_modify]
      exact her.modify hk hu j

theorem HRel.map0 (h : HRel P β σ w) {r : Nat} {i : BI} (hb : β r = some i) {es : List ME} {c : Nat} (hm : getMap σ r = some (es, c)) :
    ∃ es', heapAt σ r = some (.map es c) ∧ w.heap[i.blk]? = some (.map es' c) ∧ ER β es es'.toList := by
  obtain ⟨es', hw, her⟩ := h.map hb hm
  refine ⟨es', ?_, hw, her⟩
  unfold getMap at hm
  obtain ⟨o, ho, hg1⟩ := ob_eq.1 hm
  cases o <;> first | (cases hg1; done) | skip
  cases hg1; exact ho

theorem t_update {t : TypeId} {m k x : Operand} {v : V} (h : HRel P β σ w) (ha : TR β fr a.tmps) (he : cUpdate P t m k x fr σ = some (v, σ')) :
    Turned P β σ w ((execOp a.eval ⟨dst, .mapUpdate t m k x, ty, pos, aft, g⟩).run P w) σ' v := by
  unfold cUpdate at he
  obtain ⟨u1, h1, he1⟩ := ob_eq.1 he
  obtain ⟨u2, h2, he2⟩ := ob_eq.1 he1
  obtain ⟨u3, h3, he3⟩ := ob_eq.1 he2
  obtain ⟨w', hr, rfl, hg⟩ := updateV_sound h he3 (ev_sound ha h1) (ev_sound ha h2) (ev_sound ha h3)
  exact ⟨.skip, Go.undef, w', β, by simp [execOp, hr], .inr ⟨rfl, rfl⟩, VR_undef β, hg⟩

theorem t_insert {t : TypeId} {m k x : Operand} {v : V} (h : HRel P β σ w) (ha : TR β fr a.tmps) (he : cUpdate P t m k x fr σ = some (v, σ')) :
    Turned P β σ w ((execOp a.eval ⟨dst, .insert t m k x, ty, pos, aft, g⟩).run P w) σ' v := by
  unfold cUpdate at he
  obtain ⟨u1, h1, he1⟩ := ob_eq.1 he
  obtain ⟨u2, h2, he2⟩ := ob_eq.1 he1
  obtain ⟨u3, h3, he3⟩ := ob_eq.1 he2
  obtain ⟨w', hr, rfl, hg⟩ := updateV_sound h he3 (ev_sound ha h1) (ev_sound ha h2) (ev_sound ha h3)
  exact ⟨.skip, Go.undef, w', β, by simp [execOp, hr], .inr ⟨rfl, rfl⟩, VR_undef β, hg⟩

theorem VR_unit (β : BM) : VR β (.tup []) (.tuple #[]) := by simp only [VR]; exact ⟨#[], rfl, LR.nil _⟩

theorem t_delete {t : TypeId} {m k : Operand} {ts : Array TypeId} {v : V} (hts : ts[0]? = some t) (h : HRel P β σ w) (ha : TR β fr a.tmps) (he : cDelete P t m k fr σ = some (v, σ')) :
    Turned P β σ w ((execOp a.eval ⟨dst, .call ⟨.builtin .delete, #[m, k], ts⟩, ty, pos, aft, g⟩).run P w) σ' v := by
  unfold cDelete at he
  obtain ⟨u1, h1, he1⟩ := ob_eq.1 he
  obtain ⟨u2, h2, he2⟩ := ob_eq.1 he1
  have hm := ev_sound ha h1
  have hk := ev_sound ha h2
  unfold deleteV at he2
  obtain ⟨⟨kt, et⟩, hke, he3⟩ := ob_eq.1 he2
  obtain ⟨hf, he4⟩ := ok_eq.1 he3
  have hmt := mapT_some hke
  obtain ⟨d, hd, hfit⟩ := keyFits_some hf
  split at he4
  · cases he4
    simp only [VR] at hm
    have hck := run_checkKey (w := w) (e := true) hd hfit hk 9999
    refine ⟨.value (.tuple #[]), _, w, β, ?_, .inl rfl, VR_unit β, Good.refl h⟩
    simp [execOp, resolve, invoke, builtin, Builtin.delete_, hts, run_underlying w hmt, hm, hck]
  · rename_i r
    obtain ⟨⟨es, c⟩, hg, he5⟩ := ob_eq.1 he4
    obtain ⟨f, hfk, he6⟩ := ob_eq.1 he5
    cases he6
    simp only [VR] at hm
    obtain ⟨i, hi, hmx⟩ := hm
    obtain ⟨es', hho, hw, her⟩ := h.map0 hi hg
    obtain ⟨r', hfr, hfound⟩ := run_findKey (w := w) hd hfit hk her hfk
    have hck := run_checkKey (w := w) (e := es'.isEmpty) hd hfit hk 9999
    cases f with
    | none =>
      have hfound : r' = none := hfound
      subst hfound
      refine ⟨.value (.tuple #[]), _, { w with heap := w.heap.setIfInBounds i.blk (.map es' c) }, β, ?_, .inl rfl, VR_unit β, Good.setOther h hi hho (by intros; simp) (by intros; simp) rfl ⟨rfl, rfl, rfl⟩ ⟨_, rfl, her⟩⟩
      simp at hck
      simp [execOp, resolve, invoke, builtin, Builtin.delete_, hts, run_underlying w hmt, hmx, run_getObj_map hw, hck, hfr, run_setObj_map hw]
    | some p =>
      obtain ⟨j, pv⟩ := p
      obtain ⟨u2, hfound, hu2⟩ := hfound
      subst hfound
      refine ⟨.value (.tuple #[]), _, { w with heap := w.heap.setIfInBounds i.blk (.map (es'.eraseIdxIfInBounds j) c) }, β, ?_, .inl rfl, VR_unit β, Good.setOther h hi hho (by intros; simp) (by intros; simp) rfl ⟨rfl, rfl, rfl⟩ ⟨_, rfl, ?_⟩⟩
      · simp at hck
        simp [execOp, resolve, invoke, builtin, Builtin.delete_, hts, run_underlying w hmt, hmx, run_getObj_map hw, hck, hfr, run_setObj_map hw]
      · have e : (es'.eraseIdxIfInBounds j).toList = es'.toList.eraseIdx j := by simp
        rw [e]; exact her.erase j
  · cases he4

/-! Iterators -/
/-- A new object that is no row: laid and known at once. -/
theorem Good.lay (h : HRel P β σ w) {o : Nat → O} {k : Nat} (hal : alloc σ o = some (k, σ')) (hgo : grpOf k (o k) = k) {w' : World} {obj : Obj} {i : BI} (hw : w'.heap = w.heap.push obj) (hc : w'.os = w.os ∧ w'.output = w.output ∧ w'.tape = w.tape) (hi : i.blk = w.heap.size)
    (hr : ∀ β', Ext β β' → β' k = some i → ObjR P β' σ' k i (o k) obj) : Good P β σ w (upd β k i) σ' w' := by
  obtain ⟨hk, hσ⟩ := alloc_eq.1 hal
  have hn : β k = none := by
    cases e : β k with
    | none => rfl
    | some j => have := h.dom k j e; omega
  have hg := h.grow hal
  have ho : heapAt σ' k = some (o k) := by subst hσ; cases σ; exact T.get_put_self _ _ _
  have hgn : grpAt σ' k = none := by
    cases e : grpAt σ' k with
    | none => rfl
    | some st =>
      obtain ⟨s, t⟩ := st
      have := (hg.gk k s t e).1.2
      obtain ⟨i', hi'⟩ := this
      rw [hn] at hi'; cases hi'
  have hnx : σ'.next = k + 2 := by subst hσ; rfl
  have hx := upd_ext i hn
  obtain ⟨h1, h2, h3, h4⟩ := Good.adopt hg hw hi (by omega) hn ho hgo hgn (hr _ hx (upd_self β k i))
  refine ⟨hx, h1, h2, h3, fun c hc _ => h4 c hc, hc, by omega, fun b hb hbn => ?_⟩
  have hbk : k ≠ b := by omega
  subst hσ
  cases σ
  exact ⟨T.get_put_ne _ _ hbk, rfl, by rw [upd_ne _ _ (fun e => hbk e.symm)]; exact hbn⟩

theorem t_range {t : TypeId} {x : Operand} {v : V} (h : HRel P β σ w) (ha : TR β fr a.tmps) (he : aRange P t x fr σ = some (v, σ')) :
    Turned P β σ w ((execOp a.eval ⟨dst, .range t x, ty, pos, aft, g⟩).run P w) σ' v := by
  unfold aRange at he
  obtain ⟨u, hu, he1⟩ := ob_eq.1 he
  have hx := ev_sound ha hu
  have key : ∀ (o : Nat → O) (k : Nat) (obj : Obj), alloc σ o = some (k, σ') → grpOf k (o k) = k → (execOp a.eval ⟨dst, .range t x, ty, pos, aft, g⟩).run P w = .ok (.value (.pointer (some ⟨w.heap.size, 0, none⟩))) (w.alloc obj) →
      (∀ β', Ext β β' → ∀ σ1, ObjR P β' σ1 k ⟨w.heap.size, 0, 0, 0⟩ (o k) obj) → Turned P β σ w ((execOp a.eval ⟨dst, .range t x, ty, pos, aft, g⟩).run P w) σ' (.ptr (some (k, 0))) := by
    intro o k obj hal hgo hrun hobj
    exact ⟨_, _, _, upd β k ⟨w.heap.size, 0, 0, 0⟩, hrun, .inl rfl, by simp only [VR]; exact ⟨_, rfl, _, upd_self β k _, rfl⟩,
      Good.lay h hal hgo rfl ⟨rfl, rfl, rfl⟩ rfl fun β' hx _ => hobj β' hx σ'⟩
  unfold rangeOf at he1
  split at he1
  · obtain ⟨hs, he2⟩ := ok_eq.1 he1
    obtain ⟨k, σ1, hal, he3⟩ := ob2_eq.1 he2
    cases he3
    simp only [VR] at hx
    obtain ⟨q, hq, hqs⟩ := hx
    exact key _ k (.stringIter q 0) hal rfl (by simp [execOp, Instr.range, run_underlying w (stringT_some hs), hq]) fun β' _ σ1 => ⟨rfl, q, rfl, hqs⟩
  · obtain ⟨ke, hke, he2⟩ := ob_eq.1 he1
    obtain ⟨k, σ1, hal, he3⟩ := ob2_eq.1 he2
    cases he3
    simp only [VR] at hx
    exact key _ k (.mapIter none 0 #[] 0) hal rfl (by simp [execOp, Instr.range, run_underlying w (mapT_some hke), hx]) fun β' _ σ1 => ⟨rfl, none, rfl, rfl⟩
  · rename_i m
    obtain ⟨ke, hke, he2⟩ := ob_eq.1 he1
    obtain ⟨⟨es, c⟩, hg, he3⟩ := ob_eq.1 he2
    obtain ⟨k, σ1, hal, he4⟩ := ob2_eq.1 he3
    cases he4
    simp only [VR] at hx
    obtain ⟨i, hi, hx⟩ := hx
    obtain ⟨es', hho, hw, her⟩ := h.map0 hi hg
    exact key _ k (.mapIter (some i.blk) c #[] c) hal rfl (by simp [execOp, Instr.range, run_underlying w (mapT_some hke), hx, run_getObj_map hw]) fun β' hx σ1 => ⟨rfl, some i.blk, rfl, i, hx _ _ hi, rfl⟩
  · cases he1
end
end Go.Am
namespace Go.Am
section
variable {P : Program} {β : BM} {σ σ' : St} {w : World} {a : Act} {fr : Fr} {dst : Option Tmp} {ty : TypeId} {pos : String} {aft : Array Edge} {g : Option (Nat × Bool)}

theorem run_getObj_at {r : Nat} {o : Obj} (h : w.heap[r]? = some o) (hn : ∀ c e f, o ≠ .cells c e f) (hv : ∀ x y, o ≠ .view x y) : (getObj r).run P w = .ok o w := by
  cases o <;> simp_all [getObj, Sem.run]
theorem run_setObj_at {r : Nat} {o o' : Obj} (h : w.heap[r]? = some o) (hn : ∀ c e f, o ≠ .cells c e f) : (Go.setObj r o').run P w = .ok () { w with heap := w.heap.setIfInBounds r o' } := by
  cases o <;> simp_all [Go.setObj, Sem.run]

theorem ER.filter {es : List ME} {es' : List MapEntry} (h : ER β es es') {p : ME → Bool} {p' : MapEntry → Bool} (hp : ∀ e e', ER1 β e e' → p e = p' e') : ER β (es.filter p) (es'.filter p') := by
  induction h with
  | nil => exact .nil
  | cons h1 _ ih =>
    rw [List.filter_cons, List.filter_cons, hp _ _ h1]
    split
    · exact .cons h1 ih
    · exact ih
theorem ER.all {es : List ME} {es' : List MapEntry} (h : ER β es es') {p : ME → Bool} {p' : MapEntry → Bool} (hp : ∀ e e', ER1 β e e' → p e = p' e') : es.all p = es'.all p' := by
  induction h with
  | nil => rfl
  | cons h1 _ ih => rw [List.all_cons, List.all_cons, hp _ _ h1, ih]
theorem ER.empty {es : List ME} {es' : List MapEntry} (h : ER β es es') : es.isEmpty = es'.isEmpty := by cases h <;> rfl

theorem stepStr_sound {r : Nat} {i : BI} {s : List Nat} {ps : Nat} {v : V} (h : HRel P β σ w) (hi : β r = some i) (ho : heapAt σ r = some (.siter s ps)) (he : stepStr σ r s ps = some (v, σ')) (t' : TypeId) :
    ∃ z w', (Instr.next (.pointer (some ⟨i.blk, 0, none⟩)) true t').run P w = .ok z w' ∧ VR β v z ∧ Good P β σ w β σ' w' := by
  obtain ⟨o, obj, ho', hw, hr⟩ := h.obj r i hi
  rw [ho] at ho'; cases ho'
  obtain ⟨hoff, q, rfl, hqs⟩ := hr
  have hget := run_getObj_at (P := P) hw (by intros; simp) (by intros; simp)
  have hqn : q.size = s.length := by subst hqs; rw [List.length_map]; rfl
  unfold stepStr at he
  rw [dropN_eq] at he
  cases hd : s.drop ps with
  | nil =>
    rw [hd] at he; cases he
    have hge : ¬ ps < q.size := by
      have := congrArg List.length hd
      rw [List.length_drop] at this; simp at this; omega
    refine ⟨.tuple #[.bool false], w, ?_, by simp only [VR]; exact ⟨_, rfl, LR.cons (by simp [VR]) (LR.nil _)⟩, Good.refl h⟩
    simp [Instr.next, hget, hge]
  | cons c cs =>
    rw [hd] at he
    obtain ⟨hc, he1⟩ := ok_eq.1 (show ok (Nat.blt c 128) (some (.tup [.bool true, .int .i64 (.ofNat ps), .int .i32 (.ofNat c)], setObj σ r (.siter s (Nat.succ ps)))) = some (v, σ') from he)
    cases he1
    have hc : c < 128 := Nat.le_of_ble_eq_true hc
    have hlt : ps < s.length := by
      have := congrArg List.length hd
      rw [List.length_drop] at this; simp at this; omega
    have hltq : ps < q.size := by omega
    have hsc : s[ps]? = some c := by
      have : (s.drop ps)[0]? = some c := by rw [hd]; rfl
      rwa [List.getElem?_drop, Nat.add_zero] at this
    have hqc : (q[ps]'hltq).toNat = c := by
      subst hqs
      rw [List.getElem?_map] at hsc
      have e : q.data.toList[ps]? = some (q[ps]'hltq) := by
        rw [Array.getElem?_toList]
        exact Array.getElem?_eq_getElem (xs := q.data) hltq
      rw [e] at hsc
      exact Option.some.inj hsc
    have hdec := decode_ascii q ps hltq (by omega)
    rw [hqc] at hdec
    refine ⟨.tuple #[.bool true, goInt ps, .int .i32 c], { w with heap := w.heap.setIfInBounds i.blk (.stringIter q (ps + 1)) }, ?_, ?_, ?_⟩
    · simp [Instr.next, hget, hltq, hdec, run_setObj_at hw (by intros; simp)]
    · simp only [VR]
      exact ⟨_, rfl, LR.cons (by simp [VR]) (LR.cons (by simp [VR, goInt]) (LR.cons (by simp [VR]) (LR.nil _)))⟩
    · exact Good.setOther h hi ho (by intros; simp) (by intros; simp) rfl ⟨rfl, rfl, rfl⟩ ⟨q, rfl, hqs⟩

theorem stepMap_sound {r m since last : Nat} {seen : List Nat} {i : BI} {v : V} (h : HRel P β σ w) (hi : β r = some i) (ho : heapAt σ r = some (.miter (some m) since seen last)) (he : stepMap σ r m since seen last = some (v, σ')) (t' : TypeId) :
    ∃ z w', (Instr.next (.pointer (some ⟨i.blk, 0, none⟩)) false t').run P w = .ok z w' ∧ VR β v z ∧ Good P β σ w β σ' w' := by
  obtain ⟨o, obj, ho', hw, hr⟩ := h.obj r i hi
  rw [ho] at ho'; cases ho'
  obtain ⟨hoff, m', rfl, im, him, rfl⟩ := hr
  have hget := run_getObj_at (P := P) hw (by intros; simp) (by intros; simp)
  unfold stepMap at he
  obtain ⟨⟨es, c⟩, hg, he1⟩ := ob_eq.1 he
  obtain ⟨hcond, he2⟩ := ok_eq.1 he1
  obtain ⟨es', hho, hwm, her⟩ := h.map0 him hg
  have hgm := run_getObj_map (P := P) hwm
  have hall : (es.all fun e => Nat.ble last e.born) = es'.all fun e => decide (e.born ≥ last) := by
    rw [← Array.all_toList]
    refine her.all fun e e' h1 => ?_
    rw [h1.born, Bool.eq_iff_iff]; simp
  have hempty : es.isEmpty = es'.isEmpty := by rw [her.empty]; simp
  have hcond' : (!seen.toArray.isEmpty && !es'.isEmpty && es'.all fun e => decide (e.born ≥ last)) = false := by
    rw [← hall, ← hempty]
    simp only [Bool.or_eq_true, Bool.not_eq_true'] at hcond
    rcases hcond with (h1 | h1) | h1
    · simp at h1; simp [h1]
    · simp [h1]
    · simp only [h1, Bool.and_false]
  have hleft : ER β (leftOf seen es) (es'.filter fun e => !seen.toArray.contains e.born).toList := by
    rw [Array.toList_filter]
    exact her.filter fun e e' h1 => by rw [h1.born]; simp
  have hunf : (Instr.next (.pointer (some ⟨i.blk, 0, none⟩)) false t').run P w = (do
      let left := es'.filter fun e => !seen.toArray.contains e.born
      let old := left.filter (·.born < since)
      let new := left.filter (·.born ≥ since)
      let candidates := (if old.isEmpty then #[none] else #[]) ++ (old ++ new).map some
      match candidates[← choose (.mapNext candidates.size)]? with
      | some (some e) =>
        Go.setObj i.blk (.mapIter (some im.blk) since (seen.toArray.push e.born) c)
        pure (.tuple #[.bool true, e.key, e.val])
      | some none => pure (.tuple #[.bool false])
      | none => stuck "Next: no such candidate" : Sem Value).run P w := by
    simp only [Instr.next, Sem.run_bind, hget, hgm, Result.andThen_ok, hcond']
    simp
    rfl
  rw [hunf]
  generalize hL : (es'.filter fun e => !seen.toArray.contains e.born) = left at hleft
  cases hlf : leftOf seen es with
  | nil =>
    rw [hlf] at he2 hleft
    cases he2
    have hl : left = #[] := by
      cases left with
      | mk l => cases hleft; rfl
    subst hl
    refine ⟨.tuple #[.bool false], w, ?_, by simp only [VR]; exact ⟨_, rfl, LR.cons (by simp [VR]) (LR.nil _)⟩, Good.refl h⟩
    simp [choose, Sem.run, Question.forced]
  | cons e rest =>
    rw [hlf] at he2 hleft
    cases rest with
    | cons _ _ => cases he2
    | nil =>
      obtain ⟨hb, he3⟩ := ok_eq.1 (show ok (Nat.blt e.born since) (some (V.tup [.bool true, e.key, e.val], setObj σ r (.miter (some m) since (seen ++ [e.born]) c))) = some (v, σ') from he2)
      cases he3
      have hb : e.born < since := Nat.le_of_ble_eq_true hb
      obtain ⟨e', hl, h1⟩ : ∃ e', left = #[e'] ∧ ER1 β e e' := by
        cases left with
        | mk l =>
          cases hleft with
          | cons h1 hs => cases hs; exact ⟨_, rfl, h1⟩
      subst hl
      have hb' : e'.born < since := by rw [h1.born]; exact hb
      have hb'' : ¬ e'.born ≥ since := by omega
      refine ⟨.tuple #[.bool true, e'.key, e'.val], { w with heap := w.heap.setIfInBounds i.blk (.mapIter (some im.blk) since (seen.toArray.push e'.born) c) }, ?_, ?_, ?_⟩
      · simp [hb', hb'', choose, Sem.run, Question.forced]
        rw [run_setObj_at hw (by intros; simp)]; rfl
      · simp only [VR]
        exact ⟨_, rfl, LR.cons (by simp [VR]) (LR.cons h1.key (LR.cons h1.val (LR.nil _)))⟩
      · refine Good.setOther h hi ho (by intros; simp) (by intros; simp) rfl ⟨rfl, rfl, rfl⟩ ⟨some im.blk, ?_, im, him, rfl⟩
        rw [h1.born]; simp

theorem t_next {x : Operand} {s : Bool} {v : V} (h : HRel P β σ w) (ha : TR β fr a.tmps) (he : cNext x s fr σ = some (v, σ')) :
    Turned P β σ w ((execOp a.eval ⟨dst, .next x s, ty, pos, aft, g⟩).run P w) σ' v := by
  unfold cNext at he
  obtain ⟨p, hp, he1⟩ := ob_eq.1 he
  obtain ⟨h0, he2⟩ := ok_eq.1 he1
  obtain ⟨o, ho, he3⟩ := ob_eq.1 he2
  have h0 := Nat.eq_of_beq_eq_true h0
  have hq0 : ∃ q, a.eval x = .pointer (some q) ∧ PtrR β p q := by
    obtain ⟨u', hu', hp'⟩ := ob_eq.1 hp
    have := asPtr_some hp'; subst this
    have := ev_sound ha hu'
    simpa only [VR] using this
  obtain ⟨q, hq, i, hi, rfl⟩ := hq0
  obtain ⟨r, off⟩ := p
  simp only at h0 hi ho
  subst h0
  have hoff : (∀ e cs g, o ≠ .cells e cs g) → i.off = 0 := fun hn => by
    obtain ⟨o', obj, ho', _, hr⟩ := h.obj r i hi
    rw [ho] at ho'; cases ho'
    cases o <;> first | exact hr.1 | exact absurd rfl (hn _ _ _)
  have fin : (∃ z w', (Instr.next (.pointer (some ⟨i.blk, 0, none⟩)) s ty).run P w = .ok z w' ∧ VR β v z ∧ Good P β σ w β σ' w') → i.off = 0 →
      Turned P β σ w ((execOp a.eval ⟨dst, .next x s, ty, pos, aft, g⟩).run P w) σ' v := fun ⟨z, w', h1, h2, h3⟩ h4 => by
    have hq' : a.eval x = .pointer (some ⟨i.blk, 0, none⟩) := by rw [hq, h4]; rfl
    exact ⟨.value z, z, w', β, by simp [execOp, hq', h1], .inl rfl, h2, h3⟩
  unfold nextO at he3
  split at he3
  · exact fin (stepStr_sound h hi ho he3 ty) (hoff (by intros; simp))
  · cases he3
    have h4 := hoff (by intros; simp)
    obtain ⟨o', obj, ho', hw, hr⟩ := h.obj r i hi
    rw [ho] at ho'; cases ho'
    obtain ⟨_, m', rfl, hm⟩ := hr
    have hm : m' = none := hm
    subst hm
    have hget := run_getObj_at (P := P) hw (by intros; simp) (by intros; simp)
    exact fin ⟨.tuple #[.bool false], w, by simp [Instr.next, hget], by simp only [VR]; exact ⟨_, rfl, LR.cons (by simp [VR]) (LR.nil _)⟩, Good.refl h⟩ h4
  · exact fin (stepMap_sound h hi ho he3 ty) (hoff (by intros; simp))
  · cases he3

/-! copy, clear -/
theorem source_sound {size n : Nat} {x : V} {x' : Value} {l : List V} (h : HRel P β σ w) (hs : source σ size n x = some l) (hx : VR β x x') (hn : ∀ a m c, x = .slc (some a) m c → (n ≤ m ∧ 0 < size)) :
    ∃ xs : Array Value, (Builtin.firstCells size n x').run P w = .ok xs w ∧ LR β l xs.toList ∧ l.length = n * size := by
  unfold source at hs
  split at hs
  · obtain ⟨h0, hs0⟩ := ok_eq.1 hs
    cases hs0
    have h0 := Nat.eq_of_beq_eq_true h0
    obtain ⟨m, hx'⟩ := VR_slc_none hx
    exact ⟨#[], by simp [Builtin.firstCells, hx'], LR.nil _, by simp [h0]⟩
  · rename_i p m c
    obtain ⟨hnm, hpos⟩ := hn _ _ _ rfl
    have hp : ∃ i, β p.1 = some i ∧ ((∃ c', x' = .slice (some ⟨i.blk, i.off + p.2, none⟩) m c') ∨ (n = 0 ∧ ∃ q c', x' = .slice (some q) m c')) := by
      cases c with
      | some c => simp only [VR] at hx; obtain ⟨q, hq, _, i, hi, rfl⟩ := hx; exact ⟨i, hi, .inl ⟨_, hq⟩⟩
      | none =>
        simp only [VR] at hx
        obtain ⟨q, c', hq, _, i, hi, hr⟩ := hx
        rcases hr with ⟨rfl, _⟩ | ⟨h1, _⟩
        · exact ⟨i, hi, .inl ⟨_, hq⟩⟩
        · exact ⟨i, hi, .inr ⟨by omega, _, _, hq⟩⟩
    obtain ⟨i, hi, hp⟩ := hp
    rcases hp with ⟨c', hx'⟩ | ⟨h0, q, c', hx'⟩
    · obtain ⟨xs, h1, h2, h3, h4, _⟩ := h.readCells hs hi
      exact ⟨xs.toArray, by simp [Builtin.firstCells, hx', h1], by simpa using h4, h3⟩
    · subst h0
      have hl : l = [] := by
        obtain ⟨xs, h1, h2, h3, h4, _⟩ := h.readCells hs hi
        cases l with
        | nil => rfl
        | cons => simp at h3
      subst hl
      exact ⟨#[], by simp [Builtin.firstCells, hx', loadCells, loadCellsFrom], LR.nil _, by simp⟩
  · rename_i s
    obtain ⟨hs1, hs0⟩ := ok_eq.1 hs
    have hs1 := Nat.eq_of_beq_eq_true hs1
    subst hs1
    obtain ⟨r, hr, hs1⟩ := ob_eq.1 hs0
    cases hs1
    simp only [VR] at hx
    obtain ⟨q, rfl, hq⟩ := hx
    obtain ⟨hle, rfl⟩ := takeN_some.1 hr
    refine ⟨(q.extract 0 n).data.map fun b => .int .u8 b.toNat, by simp [Builtin.firstCells], ?_, by simp; omega⟩
    subst hq
    rw [Array.toList_map, ByteArray.data_extract, Array.toList_extract, List.extract_eq_take_drop, Nat.sub_zero, List.drop_zero]
    refine LR.of_get (by simp) fun j v hj => ?_
    simp only [List.getElem?_map, List.getElem?_take] at hj ⊢
    split at hj
    · rename_i hjn
      rw [if_pos hjn]
      simp only [Option.map_eq_some_iff] at hj
      obtain ⟨b, ⟨y, hy, hyb⟩, rfl⟩ := hj
      exact ⟨_, by rw [hy]; rfl, by simp [VR, ← hyb]⟩
    · simp at hj
  · cases hs

theorem lenOf_sound {x : V} {x' : Value} {k : Nat} (hk : Am.lenOf x = some k) (hx : VR β x x') : (Builtin.lenOf x').run P w = .ok k w := by
  unfold Am.lenOf at hk
  split at hk
  · rename_i p n c
    cases hk
    cases p with
    | none => obtain ⟨m, rfl⟩ := VR_slc_none hx; simp [Builtin.lenOf]
    | some p => obtain ⟨q, m, rfl, _⟩ := VR_slc_some hx; simp [Builtin.lenOf]
  · cases hk
    simp only [VR] at hx
    obtain ⟨q, rfl, hq⟩ := hx
    have hqn : q.size = (List.map UInt8.toNat q.data.toList).length := by rw [List.length_map]; rfl
    subst hq
    rw [len_eq, ← hqn]
    simp [Builtin.lenOf]
  · cases hk

/-- A store at a slice's place: none is made if there is nothing to store. -/
theorem storeAt_slc (h : HRel P β σ w) {p : Nat × Nat} {m : Nat} {c : Option Nat} {x' : Value} {vs : List V} {xs : List Value} (hx : VR β (.slc (some p) m c) x') (hw : writeCells σ p vs = some σ') (hl : LR β vs xs) (hpos : 0 < m) :
    ∃ q c' w', x' = .slice (some q) m c' ∧ (storeCells q xs).run P w = .ok () w' ∧ Good P β σ w β σ' w' := by
  have hp : ∃ q c', x' = .slice (some q) m c' ∧ PtrR β p q := by
    cases c with
    | some c => simp only [VR] at hx; obtain ⟨q, hq, _, hr⟩ := hx; exact ⟨q, _, hq, hr⟩
    | none =>
      simp only [VR] at hx
      obtain ⟨q, c', hq, _, i, hi, hr⟩ := hx
      rcases hr with ⟨rfl, _⟩ | ⟨h1, _⟩
      · exact ⟨_, c', hq, i, hi, rfl⟩
      · omega
  obtain ⟨q, c', hq, hr⟩ := hp
  obtain ⟨w', h1, h2⟩ := storeCells_sound h hw hr hl
  exact ⟨q, c', w', hq, h1, h2⟩

theorem t_copy {t : TypeId} {x y : Operand} {ts : Array TypeId} {v : V} (hts : ts[0]? = some t) (h : HRel P β σ w) (ha : TR β fr a.tmps) (he : cCopy P t x y fr σ = some (v, σ')) :
    Turned P β σ w ((execOp a.eval ⟨dst, .call ⟨.builtin .copy, #[x, y], ts⟩, ty, pos, aft, g⟩).run P w) σ' v := by
  unfold cCopy at he
  obtain ⟨⟨e, s⟩, hes, he1⟩ := ob_eq.1 he
  obtain ⟨d, hd, he2⟩ := ob_eq.1 he1
  obtain ⟨u, hu, he3⟩ := ob_eq.1 he2
  have hdv := ev_sound ha hd
  have huv := ev_sound ha hu
  obtain ⟨hdt, hsz, hpos⟩ := elemSized_some hes
  unfold copyV at he3
  split at he3
  · rename_i base m c
    obtain ⟨k, hk, he4⟩ := ob_eq.1 he3
    have hlen := lenOf_sound (P := P) (w := w) hk huv
    have hn : (Bool.rec m k (Nat.ble k m) : Nat) = Nat.min k m := by
      cases e1 : Nat.ble k m with
      | true => have := Nat.le_of_ble_eq_true e1; exact (Nat.min_eq_left this).symm
      | false =>
        have : ¬ k ≤ m := fun hh => by rw [Nat.ble_eq_true_of_le hh] at e1; cases e1
        exact (Nat.min_eq_right (show m ≤ k by omega)).symm
    have he5 : ob (source σ s (Nat.min k m) u) (fun l => copyTo σ base (Nat.min k m) l) = some (v, σ') := by rw [← hn]; exact he4
    obtain ⟨l, hl, he6⟩ := ob_eq.1 he5
    have hmk : Nat.min k m ≤ k := Nat.min_le_left _ _
    have hmm : Nat.min k m ≤ m := Nat.min_le_right _ _
    obtain ⟨xs, hxs, hlr, hln⟩ := source_sound h hl huv (fun a m' c' e1 => by subst e1; cases hk; exact ⟨hmk, hpos⟩)
    have hdl : ∃ q m', a.eval x = .slice q m m' := by
      cases base with
      | none => obtain ⟨m', hx⟩ := VR_slc_none hdv; exact ⟨_, _, hx⟩
      | some p => obtain ⟨q, m', hx, _⟩ := VR_slc_some hdv; exact ⟨_, _, hx⟩
    obtain ⟨q, m', hx⟩ := hdl
    have hrun : ∀ w', (match q with | some a => storeCells a xs.toList | none => pure ()).run P w = .ok () w' →
        (execOp a.eval ⟨dst, .call ⟨.builtin .copy, #[x, y], ts⟩, ty, pos, aft, g⟩).run P w = .ok (.value (goInt (Nat.min k m))) w' := fun w' hh => by
      cases q with
      | none =>
        simp at hh; subst hh
        simp [execOp, resolve, invoke, builtin, Builtin.copy_, hts, run_underlying w hdt, hx, hlen, run_sizeOf w hsz, hxs]
      | some q =>
        simp at hh
        simp [execOp, resolve, invoke, builtin, Builtin.copy_, hts, run_underlying w hdt, hx, hlen, run_sizeOf w hsz, hxs, hh]
    unfold copyTo at he6
    cases e0 : Nat.beq (Nat.min k m) 0 with
    | true =>
      rw [e0] at he6
      cases he6
      have h0 := Nat.eq_of_beq_eq_true e0
      have hl0 : xs.toList = [] := by
        have hl1 : l = [] := by rw [h0, Nat.zero_mul] at hln; exact List.eq_nil_of_length_eq_zero hln
        subst hl1
        have := hlr.length
        exact List.eq_nil_of_length_eq_zero (by simpa using this)
      refine ⟨_, _, w, β, hrun w ?_, .inl rfl, by simp [VR, goInt, h0], Good.refl h⟩
      rw [hl0]; cases q <;> simp [storeCells]
    | false =>
      rw [e0] at he6
      have hne : Nat.min k m ≠ 0 := fun hh => by rw [hh] at e0; cases e0
      obtain ⟨p, hp, he7⟩ := ob_eq.1 (show ob base (fun a => ob (writeCells σ a l) fun σ => some (V.int .i64 (.ofNat (Nat.min k m)), σ)) = some (v, σ') from he6)
      obtain ⟨σ1, hw, he8⟩ := ob_eq.1 he7
      cases he8
      cases hp
      obtain ⟨q', c', w', hq, h1, h2⟩ := storeAt_slc h hdv hw hlr (by omega)
      rw [hx] at hq; cases hq
      exact ⟨_, _, w', β, hrun w' h1, .inl rfl, by simp [VR, goInt], h2⟩
  · cases he3
end
end Go.Am
namespace Go.Am
section
variable {P : Program} {β : BM} {σ σ' : St} {w : World} {a : Act} {fr : Fr} {dst : Option Tmp} {ty : TypeId} {pos : String} {aft : Array Edge} {g : Option (Nat × Bool)}

theorem zeroCells_made (z : Array Value) (n : Nat) : Builtin.zeroCells z n = madeCells z (n * z.size) := rfl

theorem t_clear {t : TypeId} {x : Operand} {ts : Array TypeId} {v : V} (hts : ts[0]? = some t) (h : HRel P β σ w) (ha : TR β fr a.tmps) (he : cClear P t x fr σ = some (v, σ')) :
    Turned P β σ w ((execOp a.eval ⟨dst, .call ⟨.builtin .clear, #[x], ts⟩, ty, pos, aft, g⟩).run P w) σ' v := by
  unfold cClear at he
  obtain ⟨d, hd, he1⟩ := ob_eq.1 he
  obtain ⟨u, hu, he2⟩ := ob_eq.1 he1
  have hx := ev_sound ha hu
  unfold clearV at he2
  split at he2
  · cases he2
    simp only [VR] at hx
    exact ⟨.value (.tuple #[]), _, w, β, by simp [execOp, resolve, invoke, builtin, Builtin.clear_, hts, run_underlying w hd, hx], .inl rfl, VR_unit β, Good.refl h⟩
  · cases he2
    obtain ⟨m', hx⟩ := VR_slc_none hx
    exact ⟨.value (.tuple #[]), _, w, β, by simp [execOp, resolve, invoke, builtin, Builtin.clear_, hts, run_underlying w hd, hx], .inl rfl, VR_unit β, Good.refl h⟩
  · rename_i p n c
    cases e0 : Nat.beq n 0 with
    | true =>
      rw [e0] at he2
      cases he2
      have h0 := Nat.eq_of_beq_eq_true e0
      subst h0
      obtain ⟨q, m', hx, _⟩ := VR_slc_some hx
      exact ⟨.value (.tuple #[]), _, w, β, by simp [execOp, resolve, invoke, builtin, Builtin.clear_, hts, run_underlying w hd, hx], .inl rfl, VR_unit β, Good.refl h⟩
    | false =>
      rw [e0] at he2
      have hne : n ≠ 0 := fun hh => by rw [hh] at e0; cases e0
      obtain ⟨⟨e, s, z⟩, hz, he3⟩ := ob_eq.1 (show ob (zeroElem P t) (fun z => ob (writeCells σ p (zeros z.2.2 n)) fun σ => some (V.tup [], σ)) = some (v, σ') from he2)
      obtain ⟨σ1, hw, he4⟩ := ob_eq.1 he3
      cases he4
      obtain ⟨hdt, hsz, hpos, hzl, it, zv, hit, hitz, his, hlr⟩ := zeroElem_some hz
      have hzs := zeros_sound (hlr β) n
      have hzsz : zv.cells.size = z.length := by have := (hlr β).length; simpa using this
      rw [← hzsz, ← zeroCells_made] at hzs
      obtain ⟨q, c', w', hq, h1, h2⟩ := storeAt_slc h hx hw hzs (by omega)
      have hzr : (zeroValue e).run P w = .ok zv w := by simp [zeroValue, typeInfo, hit, hitz]
      refine ⟨.value (.tuple #[]), _, w', β, ?_, .inl rfl, VR_unit β, h2⟩
      have hn0 : ∃ k, n = k + 1 := ⟨n - 1, by omega⟩
      obtain ⟨k, rfl⟩ := hn0
      simp [execOp, resolve, invoke, builtin, Builtin.clear_, hts, run_underlying w hdt, hq, hzr, h1]
  · cases he2

/-! append -/
/-- How much an append asks. -/
theorem growBy_le (n : Nat) : ∀ (r c : Nat), c ≤ 2 * n + 768 → Builtin.growBy n r c ≤ 2 * n + 768
  | 0, c, h => h
  | r + 1, c, h => by
    unfold Builtin.growBy
    split
    · exact h
    · exact growBy_le n r _ (by omega)
theorem nextslicecap_le (n c : Nat) (h : c < n) : Builtin.nextslicecap n c ≤ 2 * n + 768 := by
  unfold Builtin.nextslicecap
  split
  · omega
  · split
    · omega
    · exact growBy_le n 4 c (by omega)


theorem notInt {d : TypeDesc} (hd : ∀ k, d ≠ .int k) : (match d with | .int _ => true | _ => false) = false := by
  cases d <;> first | rfl | exact absurd rfl (hd _)

section
variable {t u e size n sLen sCap : Nat} {d : TypeDesc} {ts : Array TypeId} {x' : Value} {base : Option Addr} {it : TypeInfo} {zv : Value} {xs olds : Array Value} {w' : World} {k : IntKind}

theorem run_append_place (h0 : ts[0]? = some t) (h1 : ts[1]? = some u) (hdt : undT P t = some (.slice e)) (hsz : sizeT P e = some size) (hu : undT P u = some d) (hd : ∀ k, d = .int k → False)
    (hlen : (Builtin.lenOf x').run P w = .ok n w) (hc : sLen + n ≤ sCap) (hx : (Builtin.firstCells size n x').run P w = .ok xs w)
    (hst : (match base with | some a => storeCells (a.add (sLen * size)) xs.toList | none => pure ()).run P w = .ok () w') :
    (Builtin.append_ ts ty #[.slice base sLen sCap, x']).run P w = .ok (.slice base (sLen + n) sCap) w' := by
  cases base with
  | none =>
    simp at hst; subst hst
    simp [Builtin.append_, h0, h1, run_underlying w hdt, run_underlying w hu, run_sizeOf w hsz, hlen, hc, hx]
  | some b =>
    simp at hst
    simp [Builtin.append_, h0, h1, run_underlying w hdt, run_underlying w hu, run_sizeOf w hsz, hlen, hc, hx, hst]

theorem run_append_more (h0 : ts[0]? = some t) (h1 : ts[1]? = some u) (hdt : undT P t = some (.slice e)) (hsz : sizeT P e = some size) (hu : undT P u = some d) (hd : ∀ k, d = .int k → False)
    (hlen : (Builtin.lenOf x').run P w = .ok n w) (hc : sCap < sLen + n) (h63 : sLen + n ≤ 1000000000) (hit : P.info? e = some it) (hitz : it.zero = some zv) (h48 : Builtin.nextslicecap (sLen + n) sCap * it.bytes ≤ 281474976710656)
    (ho : (Builtin.firstCells size sLen (.slice base sLen sCap)).run P w.drew = .ok olds w.drew) (hx : (Builtin.firstCells size n x').run P w.drew = .ok xs w.drew) :
    (Builtin.append_ ts ty #[.slice base sLen sCap, x']).run P w = .ok (.slice (some ⟨w.heap.size, 0, none⟩) (sLen + n) (grownCap w (sLen + n) sCap e))
      (w.drew.alloc (.cells (olds ++ xs ++ Builtin.zeroCells zv.cells (grownCap w (sLen + n) sCap e - (sLen + n))) e)) := by
  have hn : ¬ (sLen + n ≤ sCap) := by omega
  have h63' : ¬ (9223372036854775807 < ((sLen : Int) + (n : Int))) := by omega
  have h48' : ¬ (281474976710656 < Builtin.nextslicecap (sLen + n) sCap * it.bytes) := by omega
  simp [Builtin.append_, h0, h1, run_underlying w hdt, run_underlying w hu, run_sizeOf w hsz, typeInfo, zeroValue, hit, hitz, hlen, hn, h63', h48', Question.forced, ho, hx, newRow, grownCap]

theorem run_append_place0 (h0 : ts[0]? = some t) (h1 : ts[1]? = some u) (hdt : undT P t = some (.slice e)) (hsz : sizeT P e = some size) (hu : undT P u = some (.int k))
    {k' : IntKind} (hxn : x' = .int k' n) (hn6 : n ≤ 1000000) (hit : P.info? e = some it) (hitz : it.zero = some zv) (hb : n * it.bytes ≤ 281474976710656) (hpos : 0 < size) (hc : sLen + n ≤ sCap)
    (hst : (match base with | some a => storeCells (a.add (sLen * size)) (Builtin.zeroCells zv.cells n).toList | none => pure ()).run P w = .ok () w') :
    (Builtin.append_ ts ty #[.slice base sLen sCap, x']).run P w = .ok (.slice base (sLen + n) sCap) w' := by
  subst hxn
  have wl : IntKind.i64.wrap (n : Int) = (n : Int) := by simp [IntKind.wrap, IntKind.signed, IntKind.bits]; omega
  have n1 : ¬ ((n : Int) < 0) := by omega
  have n2 : ¬ (281474976710656 < (n : Int) * (it.bytes : Int)) := by
    have h : ((n * it.bytes : Nat) : Int) ≤ 281474976710656 := by omega
    rw [Int.natCast_mul] at h; omega
  have hzv : ∀ w : World, (zeroValue e).run P w = .ok zv w := fun w => by simp [zeroValue, typeInfo, hit, hitz]
  cases base with
  | none =>
    simp at hst; subst hst
    simp [Builtin.append_, h0, h1, run_underlying w hdt, run_underlying w hu, run_sizeOf w hsz, asInt, asIntOf, wl, n1, typeInfo, hit, n2, hc]
    intro _; simp [hzv]
  | some b =>
    simp at hst
    simp [Builtin.append_, h0, h1, run_underlying w hdt, run_underlying w hu, run_sizeOf w hsz, asInt, asIntOf, wl, n1, typeInfo, hit, n2, hc]
    split
    · rename_i h
      have h0 : n = 0 := by rcases Nat.mul_eq_zero.1 h with h | h <;> omega
      subst h0
      have e0 : (Builtin.zeroCells zv.cells 0).toList = [] := by simp [Builtin.zeroCells]
      rw [e0] at hst
      simp [hst]
    · simp [hzv, hst]

theorem run_append_more0 (h0 : ts[0]? = some t) (h1 : ts[1]? = some u) (hdt : undT P t = some (.slice e)) (hsz : sizeT P e = some size) (hu : undT P u = some (.int k))
    {k' : IntKind} (hxn : x' = .int k' n) (hn6 : n ≤ 1000000) (hb : n * it.bytes ≤ 281474976710656) (hpos : 0 < size) (hn0 : 0 < n) (hc : sCap < sLen + n) (h63 : sLen + n ≤ 1000000000) (hit : P.info? e = some it) (hitz : it.zero = some zv) (h48 : Builtin.nextslicecap (sLen + n) sCap * it.bytes ≤ 281474976710656)
    (ho : (Builtin.firstCells size sLen (.slice base sLen sCap)).run P w.drew = .ok olds w.drew) :
    (Builtin.append_ ts ty #[.slice base sLen sCap, x']).run P w = .ok (.slice (some ⟨w.heap.size, 0, none⟩) (sLen + n) (grownCap w (sLen + n) sCap e))
      (w.drew.alloc (.cells (olds ++ Builtin.zeroCells zv.cells n ++ Builtin.zeroCells zv.cells (grownCap w (sLen + n) sCap e - (sLen + n))) e)) := by
  subst hxn
  have wl : IntKind.i64.wrap (n : Int) = (n : Int) := by simp [IntKind.wrap, IntKind.signed, IntKind.bits]; omega
  have n1 : ¬ ((n : Int) < 0) := by omega
  have n2 : ¬ (281474976710656 < (n : Int) * (it.bytes : Int)) := by
    have h : ((n * it.bytes : Nat) : Int) ≤ 281474976710656 := by omega
    rw [Int.natCast_mul] at h; omega
  have hzv : ∀ w : World, (zeroValue e).run P w = .ok zv w := fun w => by simp [zeroValue, typeInfo, hit, hitz]
  have hn : ¬ (sLen + n ≤ sCap) := by omega
  have h63' : ¬ (9223372036854775807 < ((sLen : Int) + (n : Int))) := by omega
  have h48' : ¬ (281474976710656 < Builtin.nextslicecap (sLen + n) sCap * it.bytes) := by omega
  have hz : ¬ n * size = 0 := fun h => by rcases Nat.mul_eq_zero.1 h with h | h <;> omega
  simp [Builtin.append_, h0, h1, run_underlying w hdt, run_underlying w hu, run_sizeOf w hsz, asInt, asIntOf, wl, n1, typeInfo, hit, n2, hn, h63', h48', Question.forced, ho, newRow, grownCap, hzv, hz]

end
end
end Go.Am
namespace Go.Am
section
variable {P : Program} {β : BM} {σ σ' : St} {w w' : World} {e size m : Nat} {p : Nat × Nat} {new : List V} {k since : Nat} {cs old : List V} {grp : Nat}

theorem Crossed.good (h : HRel P β σ w) (hc : Crossed σ e size p m new k since cs old grp σ') {i ik : BI} (hb : β p.1 = some i) (hr : HRel P (upd β k ik) σ' w') (hs : w.heap.size ≤ w'.heap.size)
    (hin : ik.blk = i.blk ∨ w.heap.size ≤ ik.blk) (hcf : ∀ c, c < w.heap.size → c ≠ i.blk → w'.heap[c]? = w.heap[c]?)
    (hcalm : w'.os = w.os ∧ w'.output = w.output ∧ w'.tape = w.tape) : Good P β σ w (upd β k ik) σ' w' := by
  have hkn : β k = none := by
    cases hbk : β k with
    | none => rfl
    | some j => have := h.dom k j hbk; have := hc.next; omega
  refine ⟨upd_ext ik hkn, hr, hs, fun b j hbj hlt => ?_, fun c hlt hn => hcf c hlt (fun e => hn _ _ hb e.symm), hcalm, by rw [hc.next, hc.next']; omega, fun b hb1 hbn => ?_⟩
  · by_cases e1 : b = k
    · subst e1
      rw [upd_self] at hbj; cases hbj
      rcases hin with h1 | h1
      · exact ⟨p.1, i, hb, h1.symm⟩
      · omega
    · rw [upd_ne _ _ e1] at hbj; exact ⟨b, j, hbj, rfl⟩
  · have hbk : k ≠ b := by have := hc.next; omega
    refine ⟨by rw [hc.heap, if_neg hbk], ?_, by rw [upd_ne _ _ (fun e => hbk e.symm)]; exact hbn⟩
    rw [hc.grps, if_neg]
    intro e1
    subst e1
    obtain ⟨i', hi'⟩ := h.gm p.1 i _ hb hc.row
    have hi' : β grp = some i' := hi'
    rw [hbn] at hi'; cases hi'

/-- What is appended stands in place. -/
theorem Crossed.place (h : HRel P β σ w) (hc : Crossed σ e size p m new k since cs old grp σ') {i : BI} (hb : β p.1 = some i) {c n : Nat} {xs : List Value} (hsz : sizeT P e = some size) (hpe : p.2 + c * size = i.e) (hxl : LR β new xs) (hnl : new.length = n * size) (hfit : m + n ≤ c) :
    ∃ w', (storeCells ((⟨i.blk, i.off + p.2, none⟩ : Addr).add (m * size)) xs).run P w = .ok () w' ∧ ∃ β', Good P β σ w β' σ' w' ∧ ∀ z, z = Value.slice (some ⟨i.blk, i.off + p.2, none⟩) (m + n) c → VR β' (.slc (some (k, 0)) (m + n) none) z := by
  obtain ⟨arr, fz, hwa, hcr⟩ := h.row hb hc.row
  have hkn : β k = none := by
    cases hbk : β k with
    | none => rfl
    | some j => have := h.dom k j hbk; have := hc.next; omega
  have hsize : i.size = size := by have := hcr.size; rw [hsz] at this; exact (Option.some.inj this).symm
  obtain ⟨xo, _, hxo2, hxo3, hxo5, hxo4⟩ := h.readCells (P := P) hc.hold hb
  have hxo3' : ∀ q v, old[q]? = some v → ∃ x, arr[i.off + p.2 + q]? = some x ∧ VR β v x := fun q v hq => by
    obtain ⟨x, hx, hv⟩ := hxo5.get hq
    have := hxo4 q x hx
    simp [World.cell?, hwa] at this
    exact ⟨x, this, hv⟩
  have hxlen := hxl.length
  have hmn : (m + n) * size ≤ c * size := Nat.mul_le_mul_right _ hfit
  rw [Nat.add_mul] at hmn
  have hroom : i.off + p.2 + m * size + xs.length ≤ arr.size := by have := hcr.room; omega
  have hone : ∀ x ∈ xs, x.oneCell' = true := by
    intro x hx'
    obtain ⟨n', hn'⟩ := List.mem_iff_getElem?.1 hx'
    have hlt : n' < new.length := by have := (List.getElem?_eq_some_iff.1 hn').1; omega
    obtain ⟨y, hy, hv⟩ := hxl.get (n := n') (v := new[n']) (by rw [List.getElem?_eq_getElem hlt])
    rw [hn'] at hy; cases hy
    exact hv.one (hc.ones _ (List.getElem_mem hlt))
  have hold : old.length = m * size := hxo3
  have hrun := run_storeCells_any P i.blk (i.off + p.2 + m * size) e fz xs 0 arr w hwa hcr.thaw (by omega) hone
  have hput : ∀ q, (putRow arr (i.off + p.2 + m * size) xs)[q]? = if i.off + p.2 + m * size ≤ q ∧ q < i.off + p.2 + m * size + xs.length then xs[q - (i.off + p.2 + m * size)]? else arr[q]? := fun q => putRow_get arr q hroom
  have hps : (putRow arr (i.off + p.2 + m * size) xs).size = arr.size := putRow_size arr hroom
  have hseen : ∀ b j e' cs', β b = some j → heapAt σ b = some (.cells e' cs' grp) → since ≤ b → j.blk = i.blk → j.off + cs'.length ≤ i.off + p.2 + m * size := fun b j e' cs' hbj hbc hsb hblk => by
    obtain ⟨_, h1, h2⟩ := hc.seen h hb hbj hbc hsb
    have := h2 hblk; omega
  have hgrp : ∀ b j o, β b = some j → heapAt σ b = some o → j.blk = i.blk → grpOf b o = grp := fun b j o hbj hbo hblk => h.inj b p.1 j i o _ hbj hb hbo hc.row hblk
  have hrow : (w.setRow i.blk (putRow arr (i.off + p.2 + m * size) xs)).heap[i.blk]? = some (.cells (putRow arr (i.off + p.2 + m * size) xs) e fz) := setRow_heap _ _ _ _ _ _ hwa
  have hadd : (⟨i.blk, i.off + p.2, none⟩ : Addr).add (m * size) = ⟨i.blk, i.off + p.2 + m * size, none⟩ := add_none _ _ _
  have hrel : HRel P (upd β k ⟨i.blk, i.off + p.2, size, i.e - p.2⟩) σ' (w.setRow i.blk (putRow arr (i.off + p.2 + m * size) xs)) := by
    refine hc.rel h hb (ik := ⟨i.blk, i.off + p.2, size, i.e - p.2⟩) hrow ⟨hsz, ?_, ?_, by rw [hps]; exact hcr.thaw, hcr.plain, fun _ q v hq => ?_⟩ ?_ ?_ ?_ ?_
    · rw [hps]; have := hcr.room; show i.off + p.2 + (i.e - p.2) ≤ arr.size; omega
    · show (old ++ new).length ≤ i.e - p.2
      rw [List.length_append, hold, hnl]; omega
    · show ∃ x, (putRow arr (i.off + p.2 + m * size) xs)[i.off + p.2 + q]? = some x ∧ _
      rw [hput]
      rw [List.getElem?_append] at hq
      have hx := upd_ext (⟨i.blk, i.off + p.2, size, i.e - p.2⟩ : BI) hkn
      split at hq
      · rename_i hlt
        rw [if_neg (by omega)]
        obtain ⟨x, hx1, hv⟩ := hxo3' q v hq
        exact ⟨x, hx1, VR.mono hx _ _ hv⟩
      · rename_i hge
        obtain ⟨x, hx1, hv⟩ := hxl.get hq
        have hlt := (List.getElem?_eq_some_iff.1 hx1).1
        rw [if_pos (by omega)]
        refine ⟨x, ?_, VR.mono hx _ _ hv⟩
        rw [← hx1]; congr 1; omega
    · intro b j e' cs' g' hbj hbc arr0 fz0 hw0
      by_cases hblk : j.blk = i.blk
      · rw [hblk] at hw0 ⊢
        rw [hwa] at hw0; cases hw0
        have hg' : g' = grp := hgrp b j _ hbj hbc hblk
        refine ⟨_, hrow, hps, fun hs q h1 h2 => ?_⟩
        subst hg'
        have := hseen b j _ cs' hbj hbc (hs rfl) hblk
        rw [hput, if_neg (by omega)]
      · exact ⟨arr0, by rw [setRow_other _ _ _ _ hblk]; exact hw0, rfl, fun _ _ _ _ => rfl⟩
    · intro b j o hbj hbo hn
      by_cases hbp : p.1 = b
      · subst hbp; rw [hc.row] at hbo; cases hbo; exact absurd rfl (hn _ _ _)
      · exact setRow_other _ _ _ _ (h.alone hbj hb hbo hn hbp).symm
    · intro b j o hbj hbo hblk; exact hgrp b j o hbj hbo hblk
    · intro b j e' cs' hbj hbc hs hblk
      have := hseen b j e' cs' hbj hbc hs hblk
      rw [List.length_append, hold]
      show _ ≤ i.off + p.2 + _
      omega
  rw [hadd]
  refine ⟨_, hrun, _, hc.good h hb hrel (by simp) (.inl rfl) (fun c _ hne => setRow_other _ _ _ _ hne) ⟨rfl, rfl, rfl⟩, fun z hz => ?_⟩
  · subst hz
    simp only [VR]
    refine ⟨_, c, rfl, hfit, _, upd_self β k _, .inl ⟨rfl, ?_⟩⟩
    show 0 + c * size = i.e - p.2
    omega

/-- What is appended stands in new memory. -/
theorem Crossed.more (h : HRel P β σ w) (hc : Crossed σ e size p m new k since cs old grp σ') {i : BI} (hb : β p.1 = some i) {n nc : Nat} {xo xs rest : Array Value} (hsz : sizeT P e = some size) (hol : LR β old xo.toList) (hxl : LR β new xs.toList)
    (hnl : new.length = n * size) (hcap : m + n ≤ nc) (hrest : rest.size = (nc - (m + n)) * size) (hw : w'.heap = w.heap.push (.cells (xo ++ xs ++ rest) e)) (hcalm : w'.os = w.os ∧ w'.output = w.output ∧ w'.tape = w.tape) :
    ∃ β', Good P β σ w β' σ' w' ∧ ∀ z, z = Value.slice (some ⟨w.heap.size, 0, none⟩) (m + n) nc → VR β' (.slc (some (k, 0)) (m + n) none) z := by
  have hkn : β k = none := by
    cases hbk : β k with
    | none => rfl
    | some j => have := h.dom k j hbk; have := hc.next; omega
  obtain ⟨_, _, _, hold, _⟩ := h.readCells (P := P) hc.hold hb
  have h1 := hol.length
  have h2 := hxl.length
  simp only [Array.length_toList] at h1 h2
  have hlt : ∀ b j, β b = some j → j.blk < w.heap.size := fun b j hbj => by
    obtain ⟨_, _, _, hw, _⟩ := h.obj b j hbj
    exact (Array.getElem?_eq_some_iff.1 hw).1
  have hkeep : ∀ c, c < w.heap.size → w'.heap[c]? = w.heap[c]? := fun c hc => by rw [hw, Array.getElem?_push, if_neg (by omega)]
  have hsize : (xo ++ xs ++ rest).size = nc * size := by
    simp only [Array.size_append, hrest, h1, h2, hold, hnl]
    rw [← Nat.add_mul, ← Nat.add_mul]; congr 1; omega
  have hrow : w'.heap[w.heap.size]? = some (.cells (xo ++ xs ++ rest) e) := by rw [hw, Array.getElem?_push, if_pos rfl]
  have hrel : HRel P (upd β k ⟨w.heap.size, 0, size, nc * size⟩) σ' w' := by
    refine hc.rel h hb (ik := ⟨w.heap.size, 0, size, nc * size⟩) hrow ⟨hsz, by rw [hsize]; simp, ?_, .inl rfl, fun _ => rfl, fun _ q v hq => ?_⟩ ?_ ?_ ?_ ?_
    · show (old ++ new).length ≤ nc * size
      rw [List.length_append, hold, hnl, ← Nat.add_mul]
      exact Nat.mul_le_mul_right _ hcap
    · have hx := upd_ext (⟨w.heap.size, 0, size, nc * size⟩ : BI) hkn
      obtain ⟨x, hx1, hv⟩ := (LR.append hol hxl).get hq
      have hlt := (List.getElem?_eq_some_iff.1 hx1).1
      refine ⟨x, ?_, VR.mono hx _ _ hv⟩
      show (xo ++ xs ++ rest)[0 + q]? = some x
      rw [Nat.zero_add, ← Array.getElem?_toList, Array.toList_append, Array.toList_append, List.getElem?_append_left hlt]
      exact hx1
    · intro b j e' cs' g' hbj hbc arr0 fz0 hw0
      exact ⟨arr0, by rw [hkeep _ (hlt b j hbj)]; exact hw0, rfl, fun _ _ _ _ => rfl⟩
    · intro b j o hbj _ _; exact hkeep _ (hlt b j hbj)
    · intro b j o hbj _ hblk
      have := hlt b j hbj
      exact absurd hblk (by show ¬ j.blk = w.heap.size; omega)
    · intro b j e' cs' hbj _ _ hblk
      have := hlt b j hbj
      exact absurd hblk (by show ¬ j.blk = w.heap.size; omega)
  refine ⟨_, hc.good h hb hrel (by rw [hw]; simp) (.inr (Nat.le_refl _)) (fun c hcl _ => hkeep c hcl) hcalm, fun z hz => ?_⟩
  subst hz
  simp only [VR]
  exact ⟨_, nc, rfl, hcap, _, upd_self β k _, .inl ⟨rfl, by show 0 + nc * size = nc * size; omega⟩⟩
end
end Go.Am
namespace Go.Am
section
variable {P : Program} {β : BM} {σ σ' : St} {w : World} {a : Act} {fr : Fr} {dst : Option Tmp} {ty : TypeId} {pos : String} {aft : Array Edge} {g : Option (Nat × Bool)}

/-- What the model's append does, at a slice of length m, for what is added. -/
structure App (P : Program) (β : BM) (w : World) (ts : Array TypeId) (ty e size m n : Nat) (y' : Value) (l : List V) : Prop where
  lay : ∃ (xs : Array Value) (zv : Value), LR β l xs.toList ∧ l.length = n * size ∧ zv.cells.size = size ∧
    (∀ (base : Option Addr) (c : Nat) (w' : World), m + n ≤ c → (match base with | some a => storeCells (a.add (m * size)) xs.toList | none => pure ()).run P w = .ok () w' →
      (Builtin.append_ ts ty #[.slice base m c, y']).run P w = .ok (.slice base (m + n) c) w') ∧
    ∃ xs : Array Value, LR β l xs.toList ∧ (∀ (base : Option Addr) (c : Nat) (olds : Array Value), 0 < n → c < m + n → (Builtin.firstCells size m (.slice base m c)).run P w.drew = .ok olds w.drew →
      (Builtin.append_ ts ty #[.slice base m c, y']).run P w = .ok (.slice (some ⟨w.heap.size, 0, none⟩) (m + n) (grownCap w (m + n) c e))
        (w.drew.alloc (.cells (olds ++ xs ++ Builtin.zeroCells zv.cells (grownCap w (m + n) c e - (m + n))) e)))

theorem inPlace_eq {size m n : Nat} {p : Nat × Nat} {cap : Option Nat} {l : List V} {v : V} (h : inPlace σ size p m n cap l = some (v, σ')) : writeCells σ (shift p (m * size)) l = some σ' ∧ v = .slc (some p) (m + n) cap := by
  unfold inPlace at h
  obtain ⟨σ1, hw, h1⟩ := ob_eq.1 h
  cases h1; exact ⟨hw, rfl⟩

theorem appendS_sound {e size m n : Nat} {base : Option (Nat × Nat)} {cap : Option Nat} {l : List V} {v : V} {s' y' : Value} {ts : Array TypeId} (h : HRel P β σ w) (hs : VR β (.slc base m cap) s') (hsz : sizeT P e = some size) (hpos : 0 < size)
    (hA : App P β w ts ty e size m n y' l) (he : appendS σ e size base m cap n l = some (v, σ')) :
    ∃ z w' β', (Builtin.append_ ts ty #[s', y']).run P w = .ok z w' ∧ VR β' v z ∧ Good P β σ w β' σ' w' := by
  obtain ⟨xs, zv, hxl, hln, hzl, hplace, xs2, hxl2, hmore⟩ := hA.lay
  have hx0 : n = 0 → xs.toList = [] := fun h0 => by
    have := hxl.length
    rw [hln, h0, Nat.zero_mul] at this
    exact List.eq_nil_of_length_eq_zero this
  unfold appendS at he
  cases e0 : Nat.beq n 0 with
  | true =>
    rw [e0] at he
    obtain ⟨hc, he1⟩ := ok_eq.1 (show ok (Option.rec true (fun c => Nat.ble m c) cap) (some (V.slc base m cap, σ)) = some (v, σ') from he)
    cases he1
    have h0 := Nat.eq_of_beq_eq_true e0
    have hsx : ∃ q c, s' = .slice q m c ∧ m ≤ c := by
      cases cap with
      | none =>
        cases base with
        | none => simp only [VR] at hs
        | some p => obtain ⟨q, c, h1, h2⟩ := VR_slc_some hs; exact ⟨_, c, h1, h2⟩
      | some c =>
        have hc : m ≤ c := Nat.le_of_ble_eq_true hc
        cases base with
        | none => simp only [VR] at hs; exact ⟨_, _, hs, hc⟩
        | some p => simp only [VR] at hs; obtain ⟨q, h1, h2, _⟩ := hs; exact ⟨_, _, h1, h2⟩
    obtain ⟨q, c, rfl, hmc⟩ := hsx
    have hr := hplace q c w (by omega) (by rw [hx0 h0]; cases q <;> simp [storeCells])
    rw [h0, Nat.add_zero] at hr
    exact ⟨_, w, β, hr, hs, Good.refl h⟩
  | false =>
    rw [e0] at he
    have hne : 0 < n := Nat.pos_of_ne_zero fun hh => by rw [hh] at e0; cases e0
    cases cap with
    | some c =>
      have he1 : appendKnown σ e size base m n c l = some (v, σ') := he
      unfold appendKnown at he1
      cases e1 : Nat.ble (m + n) c with
      | true =>
        rw [e1] at he1
        have hle := Nat.le_of_ble_eq_true e1
        obtain ⟨p, hp, he2⟩ := ob_eq.1 (show ob base (fun a => inPlace σ size a m n (some c) l) = some (v, σ') from he1)
        subst hp
        obtain ⟨hw, rfl⟩ := inPlace_eq he2
        simp only [VR] at hs
        obtain ⟨q, rfl, hmc, i, hi, rfl⟩ := hs
        obtain ⟨w', h1, h2⟩ := storeCells_sound (q := ⟨i.blk, i.off + (p.2 + m * size), none⟩) h hw ⟨i, by rw [shift_eq]; exact hi, by rw [shift_eq]⟩ hxl
        refine ⟨_, w', β, hplace (some ⟨i.blk, i.off + p.2, none⟩) c w' hle (by simp only [add_none, Nat.add_assoc]; exact h1), ?_, h2⟩
        simp only [VR]
        exact ⟨_, rfl, hle, i, hi, rfl⟩
      | false =>
        rw [e1] at he1
        have hlt : c < m + n := by
          refine Nat.lt_of_not_le fun hh => ?_
          rw [Nat.ble_eq_true_of_le hh] at e1; cases e1
        obtain ⟨old, hold, he2⟩ := ob_eq.1 (show ob (Option.rec (ok (Nat.beq m 0) (some [])) (fun a => readCells σ a (m * size)) base) (fun old => ob2 (allocCells σ e (old ++ l)) (slcTo (m + n) none)) = some (v, σ') from he1)
        obtain ⟨k, σ1, hal, he3⟩ := ob2_eq.1 he2
        cases he3
        have hd := (Good.drew h).rel
        have hol : ∃ (q : Option Addr) (olds : Array Value), s' = .slice q m c ∧ (Builtin.firstCells size m (.slice q m c)).run P w.drew = .ok olds w.drew ∧ LR β old olds.toList ∧ old.length = m * size := by
          cases base with
          | none =>
            obtain ⟨h0, h1⟩ := ok_eq.1 (show ok (Nat.beq m 0) (some []) = some old from hold)
            cases h1
            have h0 := Nat.eq_of_beq_eq_true h0
            simp only [VR] at hs
            exact ⟨none, #[], hs, by simp [Builtin.firstCells], LR.nil _, by simp [h0]⟩
          | some p =>
            simp only [VR] at hs
            obtain ⟨q, hq, _, i, hi, rfl⟩ := hs
            obtain ⟨xo, h1, h2, h3, h4, _⟩ := hd.readCells (P := P) (show readCells σ p (m * size) = some old from hold) hi
            exact ⟨_, xo.toArray, hq, by simp [Builtin.firstCells, h1], by simpa using h4, h3⟩
        obtain ⟨q, olds, rfl, hfc, hlo, hlol⟩ := hol
        have hr := hmore q c olds hne hlt hfc
        have hcap := le_grownCap w (m + n) c e
        have h1 := hlo.length
        have h2 := hxl2.length
        simp only [Array.length_toList] at h1 h2
        have hzs : (Builtin.zeroCells zv.cells (grownCap w (m + n) c e - (m + n))).size = (grownCap w (m + n) c e - (m + n)) * size := by rw [zeroCells_made, size_madeCells, hzl]
        have hsize : (olds ++ xs2 ++ Builtin.zeroCells zv.cells (grownCap w (m + n) c e - (m + n))).size = grownCap w (m + n) c e * size := by
          simp only [Array.size_append, hzs, h1, h2, hlol, hln]
          rw [← Nat.add_mul, ← Nat.add_mul]; congr 1; omega
        refine ⟨_, _, upd β k ⟨w.heap.size, 0, size, grownCap w (m + n) c e * size⟩, hr, ?_, Good.lay h hal rfl rfl ⟨rfl, rfl, rfl⟩ rfl fun β' hx hk => ?_⟩
        · simp only [VR]
          exact ⟨_, _, rfl, hcap, _, upd_self β k _, .inl ⟨rfl, by show 0 + grownCap w (m + n) c e * size = grownCap w (m + n) c e * size; rw [Nat.zero_add]⟩⟩
        · have := laid_cells (P := P) (β := β) (e := e) (s := size) (n := m * size + n * size) (k := k) (cs := old ++ l) (arr := olds ++ xs2 ++ Builtin.zeroCells zv.cells (grownCap w (m + n) c e - (m + n))) (fz := (0, 0)) hsz (by
            have ht : (olds ++ xs2 ++ Builtin.zeroCells zv.cells (grownCap w (m + n) c e - (m + n))).toList.take (m * size + n * size) = olds.toList ++ xs2.toList := by
              rw [Array.toList_append, Array.toList_append, List.take_append_of_le_length (by simp; omega), List.take_of_length_le (by simp; omega)]
            rw [ht]; exact LR.append hlo hxl2) (by simp only [Array.size_append]; omega) (.inl rfl) (fun _ => rfl) w.heap.size β' hx σ'
          rw [hsize] at this
          exact this
    | none =>
      obtain ⟨p, hp, he1⟩ := ob_eq.1 (show ob base (fun a => appendOpen σ e size a m n l) = some (v, σ') from he)
      subst hp
      obtain ⟨L, hL, he2⟩ := ob_eq.1 (show ob (seen σ e p.1) (fun L => Bool.rec (cross σ e size p m n l) (inPlace σ size p m n none l) (Nat.ble (p.2 + (m + n) * size) L)) = some (v, σ') from he1)
      simp only [VR] at hs
      obtain ⟨q, c, rfl, hmc, i, hi, hq⟩ := hs
      obtain ⟨hsi, hLe⟩ := seen_some h hi hL
      rw [hsz] at hsi
      have hsi : size = i.size := Option.some.inj hsi
      subst hsi
      have hmul : ∀ x y : Nat, x * i.size ≤ y * i.size → x ≤ y := fun x y hh => Nat.le_of_mul_le_mul_right hh hpos
      cases e1 : Nat.ble (p.2 + (m + n) * i.size) L with
      | true =>
        rw [e1] at he2
        have hle := Nat.le_of_ble_eq_true e1
        obtain ⟨hw, rfl⟩ := inPlace_eq he2
        rcases hq with ⟨rfl, hq⟩ | ⟨_, hc0, hq⟩
        · have hcc : m + n ≤ c := hmul _ _ (by omega)
          obtain ⟨w', h1, h2⟩ := storeCells_sound (q := ⟨i.blk, i.off + (p.2 + m * i.size), none⟩) h hw ⟨i, by rw [shift_eq]; exact hi, by rw [shift_eq]⟩ hxl
          refine ⟨_, w', β, hplace (some ⟨i.blk, i.off + p.2, none⟩) c w' hcc (by simp only [add_none, Nat.add_assoc]; exact h1), ?_, h2⟩
          simp only [VR]
          exact ⟨_, c, rfl, hcc, i, hi, .inl ⟨rfl, hq⟩⟩
        · have h0 : m + n ≤ 0 := hmul _ _ (by omega)
          omega
      | false =>
        rw [e1] at he2
        obtain ⟨k, since, cs, old, grp, rfl, hc⟩ := cross_eq he2
        by_cases hcc : m + n ≤ c
        · rcases hq with ⟨rfl, hq⟩ | ⟨_, hc0, hq⟩
          · obtain ⟨w', h1, β', h2, h3⟩ := hc.place h hi hsz hq hxl hln hcc
            exact ⟨_, w', β', hplace _ c w' hcc h1, h3 _ rfl, h2⟩
          · omega
        · have hlt : c < m + n := by omega
          have hd := (Good.drew h).rel
          have hol : ∃ olds : Array Value, (Builtin.firstCells i.size m (.slice (some q) m c)).run P w.drew = .ok olds w.drew ∧ LR β old olds.toList := by
            obtain ⟨xo, h1, h2, h3, h4, _⟩ := hd.readCells (P := P) hc.hold hi
            rcases hq with ⟨rfl, hq⟩ | ⟨hm0, hc0, hq⟩
            · exact ⟨xo.toArray, by simp [Builtin.firstCells, h1], by simpa using h4⟩
            · subst hm0
              have : xo = [] := List.eq_nil_of_length_eq_zero (by simpa using h2)
              subst this
              exact ⟨#[], by simp [Builtin.firstCells, loadCells, loadCellsFrom], h4⟩
          obtain ⟨olds, hfc, hlo⟩ := hol
          have hr := hmore (some q) c olds hne hlt hfc
          obtain ⟨β', h1, h2⟩ := hc.more h hi (nc := grownCap w (m + n) c e) (n := n) (xo := olds) (xs := xs2) (rest := Builtin.zeroCells zv.cells (grownCap w (m + n) c e - (m + n))) hsz hlo hxl2 hln (le_grownCap w (m + n) c e)
            (by rw [zeroCells_made, size_madeCells, hzl]) (w' := w.drew.alloc (.cells (olds ++ xs2 ++ Builtin.zeroCells zv.cells (grownCap w (m + n) c e - (m + n))) e)) rfl ⟨rfl, rfl, rfl⟩
          exact ⟨_, _, β', hr, h2 _ rfl, h1⟩
end
end Go.Am
namespace Go.Am
section
variable {P : Program} {β : BM} {σ σ' : St} {w : World} {a : Act} {fr : Fr} {dst : Option Tmp} {ty : TypeId} {pos : String} {aft : Array Edge} {g : Option (Nat × Bool)}

theorem roomOk_some {m n b size : Nat} (h : roomOk m n b size = true) (hpos : 0 < size) : m + n ≤ 1000000000 ∧ (∀ c, c < m + n → Builtin.nextslicecap (m + n) c * b ≤ 281474976710656) ∧ n * b ≤ 281474976710656 := by
  have h1 : (m + n) * (b + size) ≤ 1000000000 := Nat.le_of_ble_eq_true h
  rw [Nat.mul_add] at h1
  have h2 : m + n ≤ (m + n) * size := Nat.le_mul_of_pos_right _ hpos
  have h3 : n * b ≤ (m + n) * b := Nat.mul_le_mul_right _ (by omega)
  refine ⟨by omega, fun c hc => ?_, by omega⟩
  have h4 := nextslicecap_le (m + n) c hc
  have h5 : 2 * (m + n) + 768 ≤ 770 * (m + n) := by omega
  have h6 : Builtin.nextslicecap (m + n) c * b ≤ 770 * (m + n) * b := Nat.mul_le_mul_right _ (by omega)
  rw [Nat.mul_assoc] at h6
  omega

theorem t_append {t u : TypeId} {x y : Operand} {ts : Array TypeId} {v : V} (hts : ts[0]? = some t) (hts1 : ts[1]? = some u) (h : HRel P β σ w) (ha : TR β fr a.tmps) (he : cAppend P t u x y fr σ = some (v, σ')) :
    Turned P β σ w ((execOp a.eval ⟨dst, .call ⟨.builtin .append, #[x, y], ts⟩, ty, pos, aft, g⟩).run P w) σ' v := by
  unfold cAppend at he
  obtain ⟨d, hd, he1⟩ := ob_eq.1 he
  obtain ⟨s, hs, he2⟩ := ob_eq.1 he1
  obtain ⟨z, hz, he3⟩ := ob_eq.1 he2
  have hsv := ev_sound ha hs
  have hzv := ev_sound ha hz
  have fin : (∃ z w' β', (Builtin.append_ ts ty #[a.eval x, a.eval y]).run P w = .ok z w' ∧ VR β' v z ∧ Good P β σ w β' σ' w') →
      Turned P β σ w ((execOp a.eval ⟨dst, .call ⟨.builtin .append, #[x, y], ts⟩, ty, pos, aft, g⟩).run P w) σ' v := fun ⟨z, w', β', h1, h2, h3⟩ =>
    ⟨.value z, z, w', β', by simp [execOp, resolve, invoke, builtin, h1], .inl rfl, h2, h3⟩
  have key : ∀ (n : Nat) (new : TypeId × Nat × List V → Option (List V)), appendV P σ t s n new = some (v, σ') →
      (∀ e size zl l m base cap, s = .slc base m cap → zeroElem P t = some (e, size, zl) → new (e, size, zl) = some l → (∃ b, bytesT P e = some b ∧ roomOk m n b size = true) → App P β w ts ty e size m n (a.eval y) l) →
      Turned P β σ w ((execOp a.eval ⟨dst, .call ⟨.builtin .append, #[x, y], ts⟩, ty, pos, aft, g⟩).run P w) σ' v := fun n new hav hA => by
    unfold appendV at hav
    split at hav
    · rename_i base m cap
      obtain ⟨⟨e, size, zl⟩, hze, h1⟩ := ob_eq.1 hav
      obtain ⟨b, hb, h2⟩ := ob_eq.1 h1
      obtain ⟨hr, h3⟩ := ok_eq.1 h2
      obtain ⟨l, hl, h4⟩ := ob_eq.1 h3
      obtain ⟨hdt, hsz, hpos, _⟩ := zeroElem_some hze
      exact fin (appendS_sound h hsv hsz hpos (hA e size zl l m base cap rfl hze hl ⟨b, hb, hr⟩) h4)
    · cases hav
  have known : ∀ e size zl m n, zeroElem P t = some (e, size, zl) → (∃ b, bytesT P e = some b ∧ roomOk m n b size = true) → ∃ it zv, undT P t = some (.slice e) ∧ sizeT P e = some size ∧ 0 < size ∧ zl.length = size ∧ P.info? e = some it ∧ it.zero = some zv ∧ (∀ β, LR β zl zv.cells.toList) ∧
      m + n ≤ 1000000000 ∧ (∀ c, c < m + n → Builtin.nextslicecap (m + n) c * it.bytes ≤ 281474976710656) ∧ n * it.bytes ≤ 281474976710656 := fun e size zl m n hze ⟨b, hb, hr⟩ => by
    obtain ⟨hdt, hsz, hpos, hzl, it, zv, hit, hitz, his, hlr⟩ := zeroElem_some hze
    obtain ⟨it', hit', hib⟩ := bytesT_some hb
    rw [hit] at hit'; cases hit'
    subst hib
    obtain ⟨h1, h2, h3⟩ := roomOk_some hr hpos
    exact ⟨it, zv, hdt, hsz, hpos, hzl, hit, hitz, hlr, h1, h2, h3⟩
  split at he3
  · rename_i kk
    obtain ⟨n, hn, he4⟩ := ob_eq.1 he3
    obtain ⟨h6, he5⟩ := ok_eq.1 he4
    have h6 := Nat.le_of_ble_eq_true h6
    obtain ⟨k, rfl⟩ := asNat_some hn
    simp only [VR] at hzv
    refine key n _ he5 fun e size zl l m base cap hsl hze hl hb => ⟨?_⟩
    obtain ⟨it, zv, hdt, hsz, hpos, hzl, hit, hitz, hlr, h1, h2, h3⟩ := known e size zl m n hze hb
    cases hl
    have hzc : zv.cells.size = zl.length := by have := (hlr β).length; simpa using this
    refine ⟨Builtin.zeroCells zv.cells n, zv, by rw [zeroCells_made, hzc]; exact zeros_sound (hlr β) n, by rw [zeros_length, hzl], by rw [hzc, hzl], fun base c w' hc hst => ?_, Builtin.zeroCells zv.cells n, by rw [zeroCells_made, hzc]; exact zeros_sound (hlr β) n, fun base c olds h0 hc ho => ?_⟩
    · exact run_append_place0 hts hts1 hdt hsz hd hzv h6 hit hitz h3 hpos hc hst
    · exact run_append_more0 hts hts1 hdt hsz hd hzv h6 h3 hpos h0 hc h1 hit hitz (h2 c hc) ho
  · rename_i hnd
    obtain ⟨n, hn, he4⟩ := ob_eq.1 he3
    refine key n _ he4 fun e size zl l m base cap hsl hze hl hb => ⟨?_⟩
    obtain ⟨it, zv, hdt, hsz, hpos, hzl, hit, hitz, hlr, h1, h2, h3⟩ := known e size zl m n hze hb
    have hzc : zv.cells.size = zl.length := by have := (hlr β).length; simpa using this
    have hlen := lenOf_sound (P := P) (w := w) hn hzv
    obtain ⟨xs, hx1, hx2, hx3⟩ := source_sound h hl hzv (fun a' m' c' e1 => by subst e1; cases hn; exact ⟨Nat.le_refl _, hpos⟩)
    obtain ⟨xs2, hy1, hy2, hy3⟩ := source_sound (Good.drew h).rel hl hzv (fun a' m' c' e1 => by subst e1; cases hn; exact ⟨Nat.le_refl _, hpos⟩)
    refine ⟨xs, zv, hx2, hx3, by rw [hzc, hzl], fun base c w' hc hst => ?_, xs2, hy2, fun base c olds h0 hc ho => ?_⟩
    · exact run_append_place hts hts1 hdt hsz hd (fun k e => hnd k e) hlen hc hx1 hst
    · exact run_append_more hts hts1 hdt hsz hd (fun k e => hnd k e) hlen hc h1 hit hitz (h2 c hc) ho hy1
end
end Go.Am
namespace Go.Am
section
variable {P : Program} {β : BM} {σ σ' : St} {w : World} {a : Act} {fr : Fr} {dst : Option Tmp} {ty : TypeId} {pos : String} {aft : Array Edge} {g : Option (Nat × Bool)}

theorem arrH1 {α : Type} {xs : Array α} {x y : α} {l : List α} (h : xs.toList = x :: y :: l) : xs[1]? = some y := by
  rw [← Array.getElem?_toList, h]; rfl

theorem trn_sound {o : Op} {f : Es} {v : V} (hw : opw P o = .trn f) (h : HRel P β σ w) (ha : TR β fr a.tmps) (he : f fr σ = some (v, σ')) :
    Turned P β σ w ((execOp a.eval ⟨dst, o, ty, pos, aft, g⟩).run P w) σ' v := by
  cases o
  case store t x y => cases hw; exact t_store h ha he
  case mapUpdate t m k x => cases hw; exact t_update h ha he
  case insert t m k x => cases hw; exact t_insert h ha he
  case range t x => cases hw; exact t_range h ha he
  case next x s => cases hw; exact t_next h ha he
  case convert s d x =>
    have hw : convW P s d x = .trn f := hw
    unfold convW at hw
    cases hd : elemT P d with
    | some e => rw [hd] at hw; cases hw
    | none => rw [hd] at hw; cases hw
  case call c =>
    obtain ⟨callee, args, ts⟩ := c
    have hw : callW P callee args.toList ts.toList = .trn f := hw
    cases callee with
    | value x => cases hw
    | invoke x n => cases hw
    | builtin b =>
      cases b
      case len => have hw : bLen P args.toList ts.toList = .trn f := hw; unfold bLen at hw; split at hw <;> cases hw
      case cap => have hw : bCap P args.toList ts.toList = .trn f := hw; unfold bCap at hw; split at hw <;> cases hw
      case min => have hw : bLeast false args.toList = .trn f := hw; unfold bLeast at hw; split at hw <;> cases hw
      case max => have hw : bLeast true args.toList = .trn f := hw; unfold bLeast at hw; split at hw <;> cases hw
      case append =>
        have hw : bAppend P args.toList ts.toList = .trn f := hw
        unfold bAppend at hw
        split at hw
        · rename_i h1 h2; cases hw
          have := arr2 h1; subst this
          exact t_append (arrH h2) (arrH1 h2) h ha he
        · cases hw
      case copy =>
        have hw : bCopy P args.toList ts.toList = .trn f := hw
        unfold bCopy at hw
        split at hw
        · rename_i h1 h2; cases hw
          have := arr2 h1; subst this
          exact t_copy (arrH h2) h ha he
        · cases hw
      case delete =>
        have hw : bDelete P args.toList ts.toList = .trn f := hw
        unfold bDelete at hw
        split at hw
        · rename_i h1 h2; cases hw
          have := arr2 h1; subst this
          exact t_delete (arrH h2) h ha he
        · cases hw
      case clear =>
        have hw : bClear P args.toList ts.toList = .trn f := hw
        unfold bClear at hw
        split at hw
        · rename_i h1 h2; cases hw
          have := arr1 h1; subst this
          exact t_clear (arrH h2) h ha he
        · cases hw
      all_goals cases hw
  case defer c =>
    have hw : deferW c.callee c.args.toList = .trn f := hw
    unfold deferW at hw; split at hw <;> cases hw
  all_goals cases hw
end
end Go.Am
