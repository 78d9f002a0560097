/-
  Each operation that turns no memory agrees.
-/
import Derived.Test.YtkhdihajdbgifaaGreatDoorAm2
import Derived.ChangeKeysEq
import Derived.Sort.Walk0
import Derived.Laws.StructEq
import Derived.Great.BuildSlice
import Derived.Laws.BytesString
import Derived.Laws.IdiomStrings
import Derived.Laws.MakeOwn
namespace Go.Am

theorem eqInt_iff (a b : Int) : eqInt a b = true ↔ a = b := by
  cases a <;> cases b <;> simp [eqInt] <;> omega
theorem eqInt_eq (a b : Int) : eqInt a b = (a == b) := by
  rw [Bool.eq_iff_iff, eqInt_iff]; simp
theorem ltInt_iff (a b : Int) : ltInt a b = true ↔ a < b := by
  cases a <;> cases b <;> simp [ltInt, Nat.blt_eq] <;> omega
theorem ltInt_eq (a b : Int) : ltInt a b = decide (a < b) := by
  rw [Bool.eq_iff_iff, ltInt_iff]; simp
theorem eqNats_iff : ∀ (a b : List Nat), eqNats a b = true ↔ a = b
  | [], [] => by simp [eqNats]
  | [], b :: bs => by constructor <;> intro h <;> cases h
  | a :: as2, [] => by constructor <;> intro h <;> cases h
  | a :: as2, b :: bs => by
    have h : eqNats (a :: as2) (b :: bs) = Bool.rec false (eqNats as2 bs) (Nat.beq a b) := rfl
    rw [h]
    cases e : Nat.beq a b with
    | false => simp; intro h1; exact absurd h1 (by intro h2; subst h2; rw [Nat.beq_refl] at e; cases e)
    | true =>
      have := Nat.eq_of_beq_eq_true e; subst this
      show eqNats as2 bs = true ↔ _
      rw [eqNats_iff]; simp
theorem eqK_iff (a b : IntKind) : eqK a b = true ↔ a = b := by simp [eqK]
theorem intV_eq (k : IntKind) (n : Int) : intV k n = .int k n := by
  unfold intV
  cases n with
  | ofNat m => cases m <;> rfl
  | negSucc m => cases m <;> rfl

section
variable {P : Program} {β : BM} {σ : St} {w : World} {a : Act} {fr : Fr} {dst : Option Tmp} {ty : TypeId} {pos : String} {aft : Array Edge} {g : Option (Nat × Bool)}

theorem p_move {x : Operand} {v : V} (ha : TR β fr a.tmps) (he : ev x fr = some v) : VR β v (a.eval x) := ev_sound ha he

theorem p_pick {c x y : Operand} {v : V} (ha : TR β fr a.tmps) (he : ePick c x y fr σ = some v) :
    ∃ z, (execOp a.eval ⟨dst, .pick c x y, ty, pos, aft, g⟩).run P w = .ok (.value z) w ∧ VR β v z := by
  unfold ePick at he
  obtain ⟨t, ht, he⟩ := ob_eq.1 he
  obtain ⟨u, hu, ht⟩ := ob_eq.1 ht
  have := asBool_some ht; subst this
  have h1 := ev_sound ha hu
  simp only [VR] at h1
  cases t with
  | true => exact ⟨_, by simp [execOp, h1, asBool], ev_sound ha he⟩
  | false => exact ⟨_, by simp [execOp, h1, asBool], ev_sound ha he⟩

theorem p_load {t : TypeId} {x : Operand} {v : V} (h : HRel P β σ w) (ha : TR β fr a.tmps) (he : eLoad P t x fr σ = some v) :
    ∃ z, (execOp a.eval ⟨dst, .load t x, ty, pos, aft, g⟩).run P w = .ok (.value z) w ∧ VR β v z := by
  unfold eLoad at he
  obtain ⟨s, hs, he⟩ := ob_eq.1 he
  obtain ⟨p, hp, he⟩ := ob_eq.1 he
  obtain ⟨u, hu, hp⟩ := ob_eq.1 hp
  have := asPtr_some hp; subst this
  have h1 := ev_sound ha hu
  simp only [VR] at h1
  obtain ⟨q, hq, i, hi, rfl⟩ := h1
  obtain ⟨z, hz, hv⟩ := h.loadS hs he hi
  exact ⟨z, by simp [execOp, Instr.loadAt, Instr.sureAddr, hq, hz], hv⟩

theorem p_nilCheck {x : Operand} {v : V} (ha : TR β fr a.tmps) (he : eNilCheck x fr σ = some v) :
    ∃ z, (execOp a.eval ⟨dst, .nilCheck x, ty, pos, aft, g⟩).run P w = .ok (.value z) w ∧ VR β v z := by
  unfold eNilCheck at he
  obtain ⟨u, hu, he⟩ := ob_eq.1 he
  obtain ⟨hs, he⟩ := ok_eq.1 he
  have e1 : u = v := Option.some.inj he
  subst e1
  have h1 := ev_sound ha hu
  refine ⟨a.eval x, ?_, h1⟩
  cases u with
  | ptr p => cases p with
    | none => cases hs
    | some p => simp only [VR] at h1; obtain ⟨q, hq, _⟩ := h1; simp [execOp, hq]
  | fn f b c => cases f with
    | func f => simp only [VR, FnR] at h1; obtain ⟨_, _, _, hq, rfl, _⟩ := h1; simp [execOp, hq]
    | yield f => simp only [VR, FnR] at h1; obtain ⟨_, _, _, hq, ⟨i, _, rfl⟩, _⟩ := h1; simp [execOp, hq]
    | _ => cases hs
  | ifc t u => simp only [VR] at h1; obtain ⟨_, hq, _⟩ := h1; simp [execOp, hq]
  | _ => cases hs

theorem p_unOp {op : UnOp} {t : TypeId} {x : Operand} {v : V} (ha : TR β fr a.tmps) (he : eUn op t x fr σ = some v) :
    ∃ z, (execOp a.eval ⟨dst, .unOp op t x, ty, pos, aft, g⟩).run P w = .ok (.value z) w ∧ VR β v z := by
  unfold eUn at he
  obtain ⟨u, hu, he⟩ := ob_eq.1 he
  have h1 := ev_sound ha hu
  cases op <;> cases u <;> first | (cases he; done) | skip
  · simp only [VR] at h1
    cases he
    refine ⟨_, by simp [execOp, h1, Op.unary, Op.intArith]; rfl, ?_⟩
    rw [intV_eq]; simp [VR]
  · simp only [VR] at h1
    cases he
    exact ⟨_, by simp [execOp, h1, Op.unary]; rfl, by simp [VR]⟩

theorem p_iface {t : TypeId} {x : Operand} {v : V} (ha : TR β fr a.tmps) (he : eIface P t x fr σ = some v) :
    ∃ z, (execOp a.eval ⟨dst, .makeInterface t x, ty, pos, aft, g⟩).run P w = .ok (.value z) w ∧ VR β v z := by
  unfold eIface at he
  obtain ⟨hc, he⟩ := ok_eq.1 he
  obtain ⟨u, hu, he⟩ := ob_eq.1 he
  cases he
  have h1 := ev_sound ha hu
  refine ⟨.iface t (a.eval x), ?_, by simp only [VR]; exact ⟨_, rfl, h1⟩⟩
  unfold concrete at hc
  cases hd : undT P t with
  | none => simp [hd] at hc
  | some d =>
    rw [hd] at hc
    have := run_underlying w hd
    cases d <;> simp at hc <;> simp [execOp, Instr.makeInterface, this]

theorem p_func {fn : Fn} {x y : Array Operand} {v : V} (ha : TR β fr a.tmps) (he : eFunc fn x y fr σ = some v) :
    ∃ z, (execOp a.eval ⟨dst, .makeFunc fn x y, ty, pos, aft, g⟩).run P w = .ok (.value z) w ∧ VR β v z := by
  unfold eFunc at he
  obtain ⟨hfn, he⟩ := ok_eq.1 he
  have hfn : ∃ f, fn = .func f := by cases fn <;> first | exact ⟨_, rfl⟩ | cases hfn
  obtain ⟨f, rfl⟩ := hfn
  obtain ⟨us, hus, he⟩ := ob_eq.1 he
  obtain ⟨us', hus', he⟩ := ob_eq.1 he
  cases he
  refine ⟨_, by simp [execOp, Instr.makeFunc]; rfl, ?_⟩
  simp only [VR, FnR]
  exact ⟨_, _, _, rfl, rfl, by simpa using evs_sound ha hus, by simpa using evs_sound ha hus'⟩

theorem p_extract {x : Operand} {n : Nat} {v : V} (ha : TR β fr a.tmps) (he : eExtract x n fr σ = some v) :
    ∃ z, (execOp a.eval ⟨dst, .extract x n, ty, pos, aft, g⟩).run P w = .ok (.value z) w ∧ VR β v z := by
  unfold eExtract at he
  obtain ⟨us, hus, he⟩ := ob_eq.1 he
  obtain ⟨u, hu, hus⟩ := ob_eq.1 hus
  have := asTup_some hus; subst this
  have h1 := ev_sound ha hu
  simp only [VR] at h1
  obtain ⟨xs, hxs, hl⟩ := h1
  rw [nth_eq] at he
  obtain ⟨z, hz, hv⟩ := hl.get he
  rw [Array.getElem?_toList] at hz
  exact ⟨z, by simp [execOp, Instr.extract, hxs, hz], hv⟩

theorem p_field {t : TypeId} {x : Operand} {n : Nat} {v : V} (ha : TR β fr a.tmps) (he : eField P t x n fr σ = some v) :
    ∃ z, (execOp a.eval ⟨dst, .field t x n, ty, pos, aft, g⟩).run P w = .ok (.value z) w ∧ VR β v z := by
  unfold eField at he
  obtain ⟨f, hf, he⟩ := ob_eq.1 he
  obtain ⟨cs, hcs, he⟩ := ob_eq.1 he
  obtain ⟨u, hu, hcs⟩ := ob_eq.1 hcs
  have := asAgg_some hcs; subst this
  have h1 := ev_sound ha hu
  simp only [VR] at h1
  obtain ⟨xs, hxs, hl⟩ := h1
  obtain ⟨fs, hd, hfs⟩ := fieldT_some hf
  obtain ⟨z, hz, hv⟩ := part_sound (w := w) he hl
  exact ⟨z, by simp [execOp, Instr.field, run_underlying w hd, hfs, hxs, asAgg, hz], hv⟩

theorem shift_eq (p : Nat × Nat) (n : Nat) : shift p n = (p.1, p.2 + n) := rfl

theorem p_fieldAddr {t : TypeId} {x : Operand} {n : Nat} {v : V} (ha : TR β fr a.tmps) (he : eFieldAddr P t x n fr σ = some v) :
    ∃ z, (execOp a.eval ⟨dst, .fieldAddr t x n, ty, pos, aft, g⟩).run P w = .ok (.value z) w ∧ VR β v z := by
  unfold eFieldAddr at he
  obtain ⟨o, ho, he⟩ := ob_eq.1 he
  obtain ⟨p, hp, he⟩ := ob_eq.1 he
  obtain ⟨u, hu, hp⟩ := ob_eq.1 hp
  have := asPtr_some hp; subst this
  cases he
  unfold offsetT at ho
  obtain ⟨f, hf, ho⟩ := ob_eq.1 ho
  obtain ⟨sz, hsz, ho⟩ := ob_eq.1 ho
  cases ho
  obtain ⟨fs, hd, hfs⟩ := fieldT_some hf
  obtain ⟨hsz, hpos⟩ := sizedT_some hsz
  have h1 := ev_sound ha hu
  simp only [VR] at h1
  obtain ⟨q, hq, i, hi, rfl⟩ := h1
  refine ⟨.pointer (some ⟨i.blk, i.off + p.2 + f.offset, none⟩), ?_, ?_⟩
  · have hne : sz ≠ 0 := by omega
    simp [execOp, Instr.fieldAt, run_underlying w hd, hfs, Instr.sureAddr, hq, fieldPlace, run_sizeOf w hsz, hne, add_none]
  · simp only [VR, shift_eq]; exact ⟨_, rfl, i, hi, by simp only; congr 1; omega⟩

end
end Go.Am
namespace Go.Am

theorem bytes_map_inj : ∀ {x y : List UInt8}, x.map UInt8.toNat = y.map UInt8.toNat → x = y
  | [], [], _ => rfl
  | [], _ :: _, h => by simp at h
  | _ :: _, [], h => by simp at h
  | a :: x, b :: y, h => by
    simp only [List.map_cons, List.cons.injEq] at h
    have h1 : a = b := UInt8.toNat_inj.1 h.1
    rw [h1, bytes_map_inj h.2]
theorem bytesLess_eq' : ∀ (x y : List UInt8), Op.bytesLess x y = bytesLess (x.map UInt8.toNat) (y.map UInt8.toNat)
  | [], [] => rfl
  | [], _ :: _ => rfl
  | _ :: _, [] => rfl
  | a :: x, b :: y => by
    have h : bytesLess ((a :: x).map UInt8.toNat) ((b :: y).map UInt8.toNat) =
      Bool.rec (Bool.rec false (bytesLess (x.map UInt8.toNat) (y.map UInt8.toNat)) (Nat.beq a.toNat b.toNat)) true (Nat.blt a.toNat b.toNat) := rfl
    rw [h, Op.bytesLess, bytesLess_eq' x y]
    have h1 : decide (a < b) = Nat.blt a.toNat b.toNat := by
      rw [Bool.eq_iff_iff]; simp [UInt8.lt_iff_toNat_lt, Nat.blt_eq]
    have h2 : (a == b) = Nat.beq a.toNat b.toNat := by
      rw [Bool.eq_iff_iff]; simp [UInt8.toNat_inj]
    rw [h1, h2]
    cases Nat.blt a.toNat b.toNat <;> cases Nat.beq a.toNat b.toNat <;> simp

theorem strEq {s t : ByteArray} : (s.toList == t.toList) = eqNats (s.data.toList.map UInt8.toNat) (t.data.toList.map UInt8.toNat) := by
  rw [ByteArray.toList_eq, ByteArray.toList_eq, Bool.eq_iff_iff, eqNats_iff]
  simp only [beq_iff_eq]
  exact ⟨fun h => by rw [h], bytes_map_inj⟩
theorem strLt {s t : ByteArray} : Op.bytesLess s.toList t.toList = bytesLess (s.data.toList.map UInt8.toNat) (t.data.toList.map UInt8.toNat) := by
  rw [ByteArray.toList_eq, ByteArray.toList_eq, bytesLess_eq']

section
variable {P : Program} {β : BM} {σ : St} {w : World} {a : Act} {fr : Fr} {dst : Option Tmp} {ty : TypeId} {pos : String} {aft : Array Edge} {g : Option (Nat × Bool)}

theorem binInt_sound {op : BinOp} {k : IntKind} {m n : Int} {v : V} (h : binInt op k m n = some v) (t : TypeId) (h1 : op ≠ .shl) (h2 : op ≠ .shr) :
    ∃ z, (binOp op t (.int k m) (.int k n)).run P w = .ok z w ∧ VR β v z := by
  cases op <;> first | (exact absurd rfl h1) | (exact absurd rfl h2) | (cases h; done) | skip
  all_goals simp only [binInt, bAdd, bSub, bMul, bQuo, bRem, bAnd, bOr, bXor, bEql, bNeq, bLss, bLeq, bGtr, bGeq] at h
  case quo =>
    split at h
    · cases h
    · rename_i hn; cases h
      exact ⟨_, by simp [binOp, Op.intDiv, hn]; rfl, by rw [intV_eq]; simp [VR]⟩
  case rem =>
    split at h
    · cases h
    · rename_i hn; cases h
      exact ⟨_, by simp [binOp, Op.intDiv, hn]; rfl, by rw [intV_eq]; simp [VR]⟩
  all_goals cases h
  case add => exact ⟨_, by simp [binOp, Op.intArith]; rfl, by rw [intV_eq]; simp [VR]⟩
  case sub => exact ⟨_, by simp [binOp, Op.intArith]; rfl, by rw [intV_eq]; simp [VR]⟩
  case mul => exact ⟨_, by simp [binOp, Op.intArith]; rfl, by rw [intV_eq]; simp [VR]⟩
  case and => exact ⟨_, by simp [binOp, Op.intBits]; rfl, by rw [intV_eq]; simp [VR]⟩
  case or => exact ⟨_, by simp [binOp, Op.intBits]; rfl, by rw [intV_eq]; simp [VR]⟩
  case xor => exact ⟨_, by simp [binOp, Op.intBits]; rfl, by rw [intV_eq]; simp [VR]⟩
  case eql => exact ⟨_, by simp [binOp, Op.intCmp]; rfl, by simp [VR, eqInt_eq]⟩
  case neq => exact ⟨_, by simp [binOp, Op.intCmp]; rfl, by simp [VR, eqInt_eq]; rw [Bool.eq_iff_iff]; simp⟩
  case lss => exact ⟨_, by simp [binOp, Op.intCmp]; rfl, by simp [VR, ltInt_eq]⟩
  case leq => exact ⟨_, by simp [binOp, Op.intCmp]; rfl, by simp [VR, ltInt_eq]; rw [Bool.eq_iff_iff]; simp⟩
  case gtr => exact ⟨_, by simp [binOp, Op.intCmp]; rfl, by simp [VR, ltInt_eq]⟩
  case geq => exact ⟨_, by simp [binOp, Op.intCmp]; rfl, by simp [VR, ltInt_eq]; rw [Bool.eq_iff_iff]; simp⟩

theorem binStr_sound {op : BinOp} {m n : List Nat} {v : V} (h : binStr op m n = some v) (t : TypeId) {s u : ByteArray} (hs : s.data.toList.map UInt8.toNat = m) (hu : u.data.toList.map UInt8.toNat = n) :
    ∃ z, (binOp op t (.string s) (.string u)).run P w = .ok z w ∧ VR β v z := by
  subst hs; subst hu
  cases op <;> simp only [binStr] at h <;> first | (cases h; done) | skip
  case add =>
    obtain ⟨hr, h⟩ := ok_eq.1 h
    cases h
    have hr : s.size + u.size ≤ 1000000000 := by have := Nat.le_of_ble_eq_true hr; simpa using this
    refine ⟨.string (s ++ u), ?_, ?_⟩
    · have hmax : IntKind.i64.max = 9223372036854775807 := rfl
      have : ¬ ((s.size + u.size : Nat) : Int) > IntKind.i64.max := by rw [hmax]; omega
      simp only [binOp, Op.stringOp]
      rw [if_neg this]; rfl
    · simp only [VR]; exact ⟨_, rfl, by simp⟩
  all_goals cases h
  case eql => exact ⟨_, by simp [binOp, Op.stringOp]; rfl, by simp [VR, ← strEq]⟩
  case neq => exact ⟨_, by simp [binOp, Op.stringOp]; rfl, by simp [VR, ← strEq]⟩
  case lss => exact ⟨_, by simp [binOp, Op.stringOp]; rfl, by simp [VR, ← strLt]⟩
  case leq => exact ⟨_, by simp [binOp, Op.stringOp]; rfl, by simp [VR, ← strLt, ← strEq]⟩
  case gtr => exact ⟨_, by simp [binOp, Op.stringOp]; rfl, by simp [VR, ← strLt, ← strEq]⟩
  case geq => exact ⟨_, by simp [binOp, Op.stringOp]; rfl, by simp [VR, ← strLt]⟩
end
end Go.Am
namespace Go.Am
section
variable {P : Program} {β : BM} {σ : St} {w : World} {a : Act} {fr : Fr} {dst : Option Tmp} {ty : TypeId} {pos : String} {aft : Array Edge} {g : Option (Nat × Bool)}

theorem eqList_nil (d : TypeDesc) : eqList d [] [] = some true := rfl
theorem eqList_cons (d : TypeDesc) (x y : V) (xs ys : List V) : eqList d (x :: xs) (y :: ys) = ok (fitsE d x) (ob (eqV x y) fun r => Bool.rec (some false) (eqList d xs ys) r) := rfl

/-- One-celled elements, compared. -/
theorem eqElem_sound {e : TypeId} {d : TypeDesc} (hd : undT P e = some d) {x y : V} (hp : fitsE d x = true) {x' y' : Value} {r : Bool} (h : eqV x y = some r)
    (hx : VR β x x') (hy : VR β y y') (k : Nat) : (Op.equalIn (k + 1) e x' y').run P w = .ok r w := by
  cases d <;> cases x <;> first | (cases hp; done) | skip
  · cases y <;> first | (cases h; done) | skip
    cases h
    simp only [VR] at hx hy
    subst hx; subst hy
    simp [Op.equalIn, run_underlying w hd]
  · cases y <;> first | (cases h; done) | skip
    obtain ⟨h1, h2⟩ := ok_eq.1 h
    cases h2
    have := (eqK_iff _ _).1 h1; subst this
    simp only [VR] at hx hy
    subst hx; subst hy
    simp [Op.equalIn, run_underlying w hd, eqInt_eq]
  · cases y <;> first | (cases h; done) | skip
    cases h
    simp only [VR] at hx hy
    obtain ⟨t, rfl, rfl⟩ := hx
    obtain ⟨u, rfl, rfl⟩ := hy
    have : (Op.equalIn (k + 1) e (.string t) (.string u)).run P w = .ok (t == u) w := by simp [Op.equalIn, run_underlying w hd]
    rw [this, ← strEq, beq_toListBytes]

theorem eqItems_sound {e : TypeId} {d : TypeDesc} (hd : undT P e = some d) (hagg : isAggD d = false) {xs ys : Array Value} (k : Nat) : ∀ {us vs : List V} {r : Bool} (o : Nat), eqList d us vs = some r →
    LR β us (xs.toList.drop o) → LR β vs (ys.toList.drop o) → (Op.eqItems (k + 1) e 1 xs ys (List.range' o us.length)).run P w = .ok r w
  | [], [], r, o, h, _, _ => by rw [eqList_nil] at h; cases h; simp [Op.eqItems]
  | [], _ :: _, _, _, h, _, _ => by cases h
  | _ :: _, [], _, _, h, _, _ => by cases h
  | a :: us, b :: vs, r, o, h, hx, hy => by
    rw [eqList_cons] at h
    obtain ⟨hf, h⟩ := ok_eq.1 h
    obtain ⟨r1, h1, h⟩ := ob_eq.1 h
    have hag : aggT P e = some false := by unfold aggT; rw [hd]; exact congrArg some hagg
    simp only [LR] at hx hy
    obtain ⟨x, xs', ex, hxv, hxs⟩ := hx
    obtain ⟨y, ys', ey, hyv, hys⟩ := hy
    have hx0 : xs[o]? = some x := by
      have := congrArg (fun l => l[0]?) ex
      simpa [List.getElem?_drop] using this
    have hy0 : ys[o]? = some y := by
      have := congrArg (fun l => l[0]?) ey
      simpa [List.getElem?_drop] using this
    have hx1 : xs.toList.drop (o + 1) = xs' := by
      have := congrArg (List.drop 1) ex
      simpa [List.drop_drop, Nat.add_comm] using this
    have hy1 : ys.toList.drop (o + 1) = ys' := by
      have := congrArg (List.drop 1) ey
      simpa [List.drop_drop, Nat.add_comm] using this
    have p1 : (Go.part e xs (o * 1)).run P w = .ok x w := by simp [Go.part, run_isAgg w hag, hx0]
    have p2 : (Go.part e ys (o * 1)).run P w = .ok y w := by simp [Go.part, run_isAgg w hag, hy0]
    have p3 := eqElem_sound (w := w) hd hf h1 hxv hyv k
    rw [List.length_cons, List.range'_succ]
    simp only [Op.eqItems, Sem.run_bind, p1, p2, p3, Result.andThen_ok]
    cases r1 with
    | false => cases h; simp
    | true =>
      have := eqItems_sound hd hagg k (o + 1) h (by rw [hx1]; exact hxs) (by rw [hy1]; exact hys)
      simpa using this

theorem eqArr_sound {t : TypeId} {us vs : List V} {r : Bool} (h : eqArr P t us vs = some r) {xs ys : Array Value} (hx : LR β us xs.toList) (hy : LR β vs ys.toList) :
    (Op.equal t (.agg xs) (.agg ys)).run P w = .ok r w ∧ P.eqGuardType P.depth t = false := by
  unfold eqArr at h
  obtain ⟨n, e, d, hp, h⟩ := ob3_eq.1 h
  obtain ⟨hn, h⟩ := ok_eq.1 h
  unfold plainArr at hp
  obtain ⟨n', e', ha, hp⟩ := ob2_eq.1 hp
  obtain ⟨d', hd, hp⟩ := ob_eq.1 hp
  obtain ⟨s, hs, hp⟩ := ob_eq.1 hp
  obtain ⟨hq, hp⟩ := ok_eq.1 hp
  cases hp
  simp only [Bool.and_eq_true, Bool.not_eq_true'] at hq hn
  obtain ⟨⟨hs1, hg⟩, hagg⟩ := hq
  have hs1 := Nat.eq_of_beq_eq_true hs1; subst hs1
  obtain ⟨i, hi, hsz⟩ := sizeT_some hs
  have hlen : us.length = n := by have := Nat.eq_of_beq_eq_true hn.1; simpa using this
  refine ⟨?_, hg⟩
  unfold Op.equal
  rw [show Op.maxDepth = 9999 + 1 from rfl, run_equalIn_array w 9999 xs ys (undT_some (arrayT_some ha)) hi]
  have hc : P.cellsOf e = 1 := by simp [Program.cellsOf, hi, hsz]
  have := eqItems_sound (w := w) (β := β) hd hagg 9998 0 h (by simpa using hx) (by simpa using hy)
  rw [hlen, ← List.range_eq_range'] at this
  simpa [hc, hsz] using this
end
end Go.Am
namespace Go.Am
section
variable {P : Program} {β : BM} {σ : St} {w : World} {a : Act} {fr : Fr} {dst : Option Tmp} {ty : TypeId} {pos : String} {aft : Array Edge} {g : Option (Nat × Bool)}

theorem VR_slc_none {n : Nat} {c : Option Nat} {x : Value} (h : VR β (.slc none n c) x) : ∃ m, x = .slice none n m := by
  cases c <;> simp only [VR] at h
  exact ⟨_, h⟩
theorem VR_slc_some {p : Nat × Nat} {n : Nat} {c : Option Nat} {x : Value} (h : VR β (.slc (some p) n c) x) : ∃ q m, x = .slice (some q) n m ∧ n ≤ m := by
  cases c <;> simp only [VR] at h
  · obtain ⟨q, m, rfl, hn, _⟩ := h; exact ⟨q, m, rfl, hn⟩
  · obtain ⟨q, rfl, hn, _⟩ := h; exact ⟨q, _, rfl, hn⟩
theorem VR_agg_inv {v : V} {xs : Array Value} (h : VR β v (.agg xs)) : ∃ cs, v = .agg cs := by
  cases v with
  | agg cs => exact ⟨cs, rfl⟩
  | ptr p => cases p <;> simp [VR] at h
  | slc p n c => cases p <;> cases c <;> simp [VR] at h
  | map p => cases p <;> simp [VR] at h
  | _ => simp [VR] at h
theorem apartRow_some {b : Nat} (h : apartRow P σ b = true) : ∃ e cs g, heapAt σ b = some (.cells e cs g) ∧ grpAt σ g = none ∧ notBytes P e = true := by
  unfold apartRow at h
  cases hc : cellsAt σ b with
  | none => rw [hc] at h; cases h
  | some c =>
    obtain ⟨e, cs, g⟩ := c
    rw [hc] at h
    cases hg : grpAt σ g with
    | none =>
      have h' : (Option.rec (notBytes P e) (fun _ => false) (grpAt σ g) : Bool) = true := h
      rw [hg] at h'
      exact ⟨e, cs, g, cellsAt_eq.1 hc, hg, h'⟩
    | some q =>
      have h' : (Option.rec (notBytes P e) (fun _ => false) (grpAt σ g) : Bool) = true := h
      rw [hg] at h'; cases h'

theorem eqPtr_sound (h : HRel P β σ w) {t : TypeId} {p q : Nat × Nat} {r : Bool} (he : eqPtr P σ t p q = some r) {p' q' : Addr} (hp : PtrR β p p') (hq : PtrR β q q') (k : Nat) :
    (Op.equalIn (k + 1) t (.pointer (some p')) (.pointer (some q'))).run P w = .ok r w := by
  unfold eqPtr at he
  obtain ⟨d, hd, he⟩ := ob_eq.1 he
  obtain ⟨e, hde, he⟩ := ob_eq.1 he
  obtain ⟨s, hs, he2⟩ := ob_eq.1 he
  have hd' : d = .pointer e := by cases d <;> first | (cases hde; done) | (cases hde; rfl)
  subst hd'
  obtain ⟨hs, hpos⟩ := sizedT_some hs
  obtain ⟨i, hi, rfl⟩ := hp
  obtain ⟨j, hj, rfl⟩ := hq
  have hne : s ≠ 0 := by omega
  simp only [Op.equalIn, Sem.run_bind, run_underlying w hd, Result.andThen_ok, run_sizeOf w hs, if_pos hne, sameAddr]
  cases hb : Nat.beq p.1 q.1 with
  | true =>
    rw [hb] at he2
    have := Nat.eq_of_beq_eq_true hb
    rw [← this, hi] at hj; cases hj
    have he' : some (Nat.beq p.2 q.2) = some r := he2
    cases he'
    simp
    by_cases e1 : p.2 = q.2
    · rw [e1]; simp
    · have : Nat.beq p.2 q.2 = false := by rw [Bool.eq_false_iff]; intro e2; exact e1 (Nat.eq_of_beq_eq_true e2)
      rw [this]; simp; omega
  | false =>
    rw [hb] at he2
    have he' : ok (apartRow P σ p.1 && apartRow P σ q.1) (some false) = some r := he2
    obtain ⟨h1, h2⟩ := ok_eq.1 he'
    cases h2
    rw [Bool.and_eq_true] at h1
    obtain ⟨e1, cs1, g1, hc1, hg1, hn1⟩ := apartRow_some h1.1
    obtain ⟨e2, cs2, g2, hc2, hg2, hn2⟩ := apartRow_some h1.2
    obtain ⟨arr1, fz1, hw1, hr1⟩ := h.row hi hc1
    obtain ⟨arr2, fz2, hw2, hr2⟩ := h.row hj hc2
    have hz1 := hr1.plain hn1; subst hz1
    have hz2 := hr2.plain hn2; subst hz2
    have hblk : i.blk ≠ j.blk := by
      intro ee
      have e3 := h.inj _ _ i j _ _ hi hj hc1 hc2 ee
      have e4 := h.own _ i _ _ _ hi hc1 hg1
      have e5 := h.own _ j _ _ _ hj hc2 hg2
      have e3' : g1 = g2 := e3
      have : p.1 = q.1 := by rw [← e4, ← e5]; exact e3'
      rw [this, Nat.beq_refl] at hb; cases hb
    have hbe : (i.blk == j.blk) = false := by simpa using hblk
    have f1 : ∀ o, w.frozen? ⟨i.blk, o, none⟩ = false := fun o => by simp [World.frozen?, hw1]
    have f2 : ∀ o, w.frozen? ⟨j.blk, o, none⟩ = false := fun o => by simp [World.frozen?, hw2]
    have s1 : w.shape? i.blk = some (e1, arr1.size) := by simp [World.shape?, hw1]
    have s2 : w.shape? j.blk = some (e2, arr2.size) := by simp [World.shape?, hw2]
    simp [hbe, f1, f2, noView, viewAt, mayBeOne, stringish, s1, s2]

theorem eqV_sound {t : TypeId} {d : TypeDesc} {x y : V} {r : Bool} (hd : undT P t = some d) (hf : fitsD d x = true) (he : eqV x y = some r) {x' y' : Value} (hx : VR β x x') (hy : VR β y y') (k : Nat) :
    (Op.equalIn (k + 1) t x' y').run P w = .ok r w := by
  unfold eqV at he
  split at he
  case h_15 => cases he
  case h_2 => cases d <;> cases hf
  case h_3 => cases d <;> cases hf
  all_goals (cases d <;> first | (cases hf; done) | skip)
  all_goals (cases he)
  case h_1 =>
    simp only [VR] at hx hy
    subst hx; subst hy
    simp [Op.equalIn, run_underlying w hd]
  case h_4 => simp only [VR] at hx hy; subst hx; subst hy; simp [Op.equalIn, run_underlying w hd]
  case h_5 => simp only [VR] at hx hy; obtain ⟨q', rfl, _⟩ := hy; subst hx; simp [Op.equalIn, run_underlying w hd]
  case h_6 => simp only [VR] at hx hy; obtain ⟨q', rfl, _⟩ := hx; subst hy; simp [Op.equalIn, run_underlying w hd]
  case h_7 => obtain ⟨_, rfl⟩ := VR_slc_none hx; obtain ⟨_, rfl⟩ := VR_slc_none hy; simp [Op.equalIn, run_underlying w hd]
  case h_8 => obtain ⟨_, _, rfl, _⟩ := VR_slc_some hx; obtain ⟨_, rfl⟩ := VR_slc_none hy; simp [Op.equalIn, run_underlying w hd]
  case h_9 => simp only [VR] at hx hy; subst hx; subst hy; simp [Op.equalIn, run_underlying w hd]
  case h_10 => simp only [VR] at hx hy; obtain ⟨q', _, rfl⟩ := hx; subst hy; simp [Op.equalIn, run_underlying w hd]
  case h_11 => simp only [VR] at hx hy; subst hx; subst hy; simp [Op.equalIn, run_underlying w hd]
  case h_12 => simp only [VR] at hx hy; obtain ⟨_, _, _, rfl, _⟩ := hx; subst hy; simp [Op.equalIn, run_underlying w hd]
  case h_13 => simp only [VR] at hx hy; subst hx; subst hy; simp [Op.equalIn, run_underlying w hd]
  case h_14 => simp only [VR] at hx hy; obtain ⟨_, rfl, _⟩ := hx; subst hy; simp [Op.equalIn, run_underlying w hd]

theorem equal_sound (h : HRel P β σ w) {t : TypeId} {x y : V} {r : Bool} (he : eqT P σ t x y = some r) {x' y' : Value} (hx : VR β x x') (hy : VR β y y') :
    (Op.equal t x' y').run P w = .ok r w ∧ ∀ xs ys, x' = .agg xs → y' = .agg ys → P.eqGuardType P.depth t = false := by
  unfold eqT at he
  split at he
  · simp only [VR] at hx hy
    obtain ⟨p, rfl, hp⟩ := hx
    obtain ⟨q, rfl, hq⟩ := hy
    exact ⟨eqPtr_sound h he hp hq 9999, fun _ _ e => by cases e⟩
  · simp only [VR] at hx hy
    obtain ⟨xs, rfl, hxs⟩ := hx
    obtain ⟨ys, rfl, hys⟩ := hy
    have := eqArr_sound (w := w) he hxs hys
    exact ⟨this.1, fun _ _ _ _ => this.2⟩
  · obtain ⟨d, hd, he⟩ := ob_eq.1 he
    obtain ⟨hf, he⟩ := ok_eq.1 he
    refine ⟨eqV_sound hd hf he hx hy 9999, fun xs ys e => ?_⟩
    subst e
    obtain ⟨cs, rfl⟩ := VR_agg_inv hx
    cases d <;> cases hf
end
end Go.Am
namespace Go.Am
section
variable {P : Program} {β : BM} {σ : St} {w : World} {a : Act} {fr : Fr} {dst : Option Tmp} {ty : TypeId} {pos : String} {aft : Array Edge} {g : Option (Nat × Bool)}

def plainV (x : Value) : Bool := match x with | .int _ _ => false | .float _ _ => false | .complex _ _ _ => false | .string _ => false | _ => true
theorem binOp_eql (t : TypeId) (x y : Value) (h : plainV x = true) : binOp .eql t x y = (do pure (.bool (← Op.equal t x y))) := by
  cases x <;> first | (cases h; done) | rfl
theorem binOp_neq (t : TypeId) (x y : Value) (h : plainV x = true) : binOp .neq t x y = (do pure (.bool (!(← Op.equal t x y)))) := by
  cases x <;> first | (cases h; done) | rfl
theorem fits_plain {d : TypeDesc} {p : V} (hf : fitsD d p = true) {x : Value} (hx : VR β p x) : plainV x = true := by
  cases p with
  | bool b => simp only [VR] at hx; subst hx; rfl
  | int k n => cases d <;> cases hf
  | str s => cases d <;> cases hf
  | ptr q => cases q <;> simp only [VR] at hx
             · subst hx; rfl
             · obtain ⟨_, rfl, _⟩ := hx; rfl
  | slc q n c => cases q with
    | none => obtain ⟨_, rfl⟩ := VR_slc_none hx; rfl
    | some q => obtain ⟨_, _, rfl, _⟩ := VR_slc_some hx; rfl
  | map q => cases q <;> simp only [VR] at hx
             · subst hx; rfl
             · obtain ⟨_, _, rfl⟩ := hx; rfl
  | fn f b c => simp only [VR] at hx; obtain ⟨_, _, _, rfl, _⟩ := hx; rfl
  | nilfn => simp only [VR] at hx; subst hx; rfl
  | ifc t v => simp only [VR] at hx; obtain ⟨_, rfl, _⟩ := hx; rfl
  | nilifc => simp only [VR] at hx; subst hx; rfl
  | agg cs => simp only [VR] at hx; obtain ⟨_, rfl, _⟩ := hx; rfl
  | tup cs => simp only [VR] at hx; obtain ⟨_, rfl, _⟩ := hx; rfl
  | osl q n c => simp only [VR] at hx; subst hx; rfl
theorem eqT_plain {t : TypeId} {p q : V} {r : Bool} (h : eqT P σ t p q = some r) {x : Value} (hx : VR β p x) : plainV x = true := by
  unfold eqT at h
  split at h
  · simp only [VR] at hx; obtain ⟨_, rfl, _⟩ := hx; rfl
  · simp only [VR] at hx; obtain ⟨_, rfl, _⟩ := hx; rfl
  · obtain ⟨d, hd, h⟩ := ob_eq.1 h
    exact fits_plain (ok_eq.1 h).1 hx
theorem VR_nilifc_inv {v : V} (h : VR β v .nilIface) : v = .nilifc := by
  cases v with
  | nilifc => rfl
  | ptr p => cases p <;> simp [VR] at h
  | slc p n c => cases p <;> cases c <;> simp [VR] at h
  | map p => cases p <;> simp [VR] at h
  | _ => simp [VR] at h

theorem eqGuard_run (op : BinOp) (t : TypeId) (x y : Operand) (u v : Value) (h1 : u = .nilIface → v = .nilIface → (Region.isConst x || Region.isConst y) = true)
    (h2 : ∀ xs ys, u = .agg xs → v = .agg ys → P.eqGuardType P.depth t = false) : (eqGuard op t x y u v).run P w = .ok () w := by
  cases op <;> first | rfl | skip
  all_goals (cases u <;> first | rfl | skip)
  all_goals (cases v <;> first | rfl | skip)
  all_goals first
    | (have h := h1 rfl rfl
       cases x <;> first | rfl | skip
       all_goals (cases y <;> first | rfl | cases h))
    | (have h := h2 _ _ rfl rfl
       simp [eqGuard, h])

theorem p_bin {op : BinOp} {t u : TypeId} {x y : Operand} {v : V} (h : HRel P β σ w) (ha : TR β fr a.tmps) (he : eBin P op t x y u fr σ = some v) :
    ∃ z, (execOp a.eval ⟨dst, .binOp op t x y u, ty, pos, aft, g⟩).run P w = .ok (.value z) w ∧ VR β v z := by
  unfold eBin at he
  obtain ⟨p, hp, he⟩ := ob_eq.1 he
  obtain ⟨q, hq, he⟩ := ob_eq.1 he
  obtain ⟨hg, he⟩ := ok_eq.1 he
  have h1 := ev_sound ha hp
  have h2 := ev_sound ha hq
  suffices H : (eqGuard op t x y (a.eval x) (a.eval y)).run P w = .ok () w ∧ ∃ z, (binOp op t (a.eval x) (a.eval y)).run P w = .ok z w ∧ VR β v z by
    obtain ⟨hg', z, hz, hv⟩ := H
    exact ⟨z, by simp [execOp, hg', hz], hv⟩
  unfold binT at he
  split at he
  · -- integers
    simp only [VR] at h1 h2
    rw [h1, h2]
    refine ⟨by unfold eqGuard; split <;> rfl, ?_⟩
    split at he
    · unfold bShl at he
      split at he
      · cases he
      · rename_i hn; cases he
        exact ⟨_, by simp [binOp, Op.shift, hn]; rfl, by rw [intV_eq]; simp [VR]⟩
    · unfold bShr at he
      split at he
      · cases he
      · rename_i hn; cases he
        exact ⟨_, by simp [binOp, Op.shift, hn]; rfl, by rw [intV_eq]; simp [VR]⟩
    · rename_i hs1 hs2
      obtain ⟨hk, he2⟩ := ok_eq.1 he
      have := (eqK_iff _ _).1 hk; subst this
      exact binInt_sound he2 t (by intro e; subst e; first | exact hs1 rfl | exact hs2 rfl) (by intro e; subst e; first | exact hs1 rfl | exact hs2 rfl)
  · -- strings
    simp only [VR] at h1 h2
    obtain ⟨s1, e1, hs1⟩ := h1
    obtain ⟨s2, e2, hs2⟩ := h2
    rw [e1, e2]
    exact ⟨by unfold eqGuard; split <;> rfl, binStr_sound he t hs1 hs2⟩
  · rename_i hni hns
    have key : ∀ r, eqT P σ t p q = some r → (eqGuard op t x y (a.eval x) (a.eval y)).run P w = .ok () w ∧
        (binOp .eql t (a.eval x) (a.eval y)).run P w = .ok (.bool r) w ∧ (binOp .neq t (a.eval x) (a.eval y)).run P w = .ok (.bool !r) w := by
      intro r hr
      obtain ⟨h3, h4⟩ := equal_sound h hr h1 h2
      refine ⟨?_, ?_, ?_⟩
      · refine eqGuard_run op t x y _ _ (fun e1 e2 => ?_) h4
        have hp' : p = .nilifc := VR_nilifc_inv (by rw [← e1]; exact h1)
        have hq' : q = .nilifc := VR_nilifc_inv (by rw [← e2]; exact h2)
        subst hp'; subst hq'
        exact hg
      · rw [binOp_eql t _ _ (eqT_plain hr h1)]; simp [h3]
      · rw [binOp_neq t _ _ (eqT_plain hr h1)]; simp [h3]
    split at he
    · obtain ⟨r, hr, he⟩ := ob_eq.1 he
      cases he
      obtain ⟨k1, k2, k3⟩ := key r hr
      exact ⟨k1, _, k2, by simp [VR]⟩
    · obtain ⟨r, hr, he⟩ := ob_eq.1 he
      cases he
      obtain ⟨k1, k2, k3⟩ := key r hr
      exact ⟨k1, _, k3, by simp [VR]⟩
    · cases he
end
end Go.Am
namespace Go.Am
section
variable {P : Program} {β : BM} {σ : St} {w : World} {a : Act} {fr : Fr} {dst : Option Tmp} {ty : TypeId} {pos : String} {aft : Array Edge} {g : Option (Nat × Bool)}

theorem VR_int_nat {k : IntKind} {n : Nat} {x : Value} (h : VR β (.int k (n : Nat)) x) : x = .int k n := by simpa only [VR] using h

theorem asNat_ev {x : Operand} {n : Nat} (ha : TR β fr a.tmps) (h : ob (ev x fr) V.asNat = some n) : ∃ k, a.eval x = .int k n := by
  obtain ⟨u, hu, h⟩ := ob_eq.1 h
  obtain ⟨k, rfl⟩ := asNat_some h
  exact ⟨k, VR_int_nat (ev_sound ha hu)⟩

theorem p_indexAddr {t : TypeId} {x i : Operand} {v : V} (ha : TR β fr a.tmps) (he : eIndexAddr P t x i fr σ = some v) :
    ∃ z, (execOp a.eval ⟨dst, .indexAddr t x i, ty, pos, aft, g⟩).run P w = .ok (.value z) w ∧ VR β v z := by
  unfold eIndexAddr at he
  obtain ⟨n, hn, he⟩ := ob_eq.1 he
  obtain ⟨u, hu, he⟩ := ob_eq.1 he
  obtain ⟨k, hk⟩ := asNat_ev ha hn
  have h1 := ev_sound ha hu
  unfold indexAt at he
  split at he
  · rename_i p m c
    obtain ⟨⟨e, s⟩, hes, he⟩ := ob_eq.1 he
    obtain ⟨hlt, he⟩ := ok_eq.1 he
    cases he
    obtain ⟨hd, hs, _⟩ := elemSized_some hes
    have hlt : n < m := Nat.le_of_ble_eq_true hlt
    have hpos : 0 < m := by omega
    have hq : ∃ q c', a.eval x = .slice (some q) m c' ∧ PtrR β p q := by
      cases c with
      | some c => simp only [VR] at h1; obtain ⟨q, hq, _, hr⟩ := h1; exact ⟨q, c, hq, hr⟩
      | none =>
        simp only [VR] at h1
        obtain ⟨q, c', hq, _, j, hj, hr⟩ := h1
        rcases hr with ⟨hr, _⟩ | ⟨hr, _⟩
        · exact ⟨q, c', hq, j, hj, hr⟩
        · omega
    obtain ⟨q, c', hq, j, hj, rfl⟩ := hq
    refine ⟨.pointer (some ⟨j.blk, j.off + p.2 + n * s, none⟩), ?_, ?_⟩
    · have h3 : (0 : Int) ≤ (n : Int) ∧ (n : Int) < (m : Int) := by omega
      simp [execOp, Instr.indexAt, hk, asIntOf, run_underlying w hd, hq, run_sizeOf w hs, hlt, add_none]
    · simp only [VR, shift_eq]; exact ⟨_, rfl, j, hj, by simp only; congr 1; omega⟩
  · rename_i p
    obtain ⟨⟨m, e⟩, hes, he⟩ := ob_eq.1 he
    obtain ⟨s, hs, he⟩ := ob_eq.1 he
    obtain ⟨hlt, he⟩ := ok_eq.1 he
    cases he
    have hd := arrayT_some hes
    have hlt : n < m := Nat.le_of_ble_eq_true hlt
    simp only [VR] at h1
    obtain ⟨q, hq, j, hj, rfl⟩ := h1
    refine ⟨.pointer (some ⟨j.blk, j.off + p.2 + n * s, none⟩), ?_, ?_⟩
    · simp [execOp, Instr.indexAt, hk, asIntOf, run_underlying w hd, Instr.sureAddr, hq, run_sizeOf w hs, hlt, add_none]
    · simp only [VR, shift_eq]; exact ⟨_, rfl, j, hj, by simp only; congr 1; omega⟩
  · cases he

theorem p_index {t : TypeId} {x i : Operand} {v : V} (ha : TR β fr a.tmps) (he : eIndex P t x i fr σ = some v) :
    ∃ z, (execOp a.eval ⟨dst, .index t x i, ty, pos, aft, g⟩).run P w = .ok (.value z) w ∧ VR β v z := by
  unfold eIndex at he
  obtain ⟨n, hn, he⟩ := ob_eq.1 he
  obtain ⟨u, hu, he⟩ := ob_eq.1 he
  obtain ⟨k, hk⟩ := asNat_ev ha hn
  have h1 := ev_sound ha hu
  unfold indexV at he
  split at he
  · rename_i s
    obtain ⟨hd, he⟩ := ok_eq.1 he
    obtain ⟨b, hb, he⟩ := ob_eq.1 he
    cases he
    have hd : undT P t = some .string := by
      revert hd; cases hq : undT P t with
      | none => intro hd; cases hd
      | some d => cases d <;> intro hd <;> first | rfl | cases hd
    simp only [VR] at h1
    obtain ⟨q, hq, rfl⟩ := h1
    rw [nth_eq, List.getElem?_map] at hb
    obtain ⟨c, hc, rfl⟩ := Option.map_eq_some_iff.1 hb
    refine ⟨.int .u8 (c.toNat : Nat), ?_, by simp [VR]⟩
    have hc' : q[n]? = some c := by
      rw [Array.getElem?_toList] at hc
      have hlt : n < q.data.size := (Array.getElem?_eq_some_iff.1 hc).1
      have hlt' : n < q.size := hlt
      rw [getElem?_pos q n hlt']
      rw [getElem?_pos q.data n hlt] at hc
      exact hc
    simp [execOp, Instr.index, hk, asIntOf, run_underlying w hd, hq, hc']
  · rename_i cs
    obtain ⟨⟨m, e⟩, hes, he⟩ := ob_eq.1 he
    obtain ⟨s, hs, he⟩ := ob_eq.1 he
    obtain ⟨hlt, he⟩ := ok_eq.1 he
    have hd := arrayT_some hes
    have hlt : n < m := Nat.le_of_ble_eq_true hlt
    simp only [VR] at h1
    obtain ⟨xs, hxs, hl⟩ := h1
    obtain ⟨z, hz, hv⟩ := part_sound (w := w) he hl
    exact ⟨z, by simp [execOp, Instr.index, hk, asIntOf, run_underlying w hd, hxs, run_sizeOf w hs, hlt, hz], hv⟩
  · cases he

theorem p_assert {x : Operand} {t u : TypeId} {c : Bool} {v : V} (ha : TR β fr a.tmps) (he : eAssert P x t u c fr σ = some v) :
    ∃ z, (execOp a.eval ⟨dst, .typeAssert x t u c, ty, pos, aft, g⟩).run P w = .ok (.value z) w ∧ VR β v z := by
  unfold eAssert at he
  obtain ⟨hc, he⟩ := ok_eq.1 he
  obtain ⟨q, hq, he⟩ := ob_eq.1 he
  have h1 := ev_sound ha hq
  unfold assertTo at he
  split at he
  · rename_i t' y
    obtain ⟨ht, he2⟩ := ok_eq.1 he
    have := Nat.eq_of_beq_eq_true ht; subst this
    cases he2
    simp only [VR] at h1
    obtain ⟨y', hy, hv⟩ := h1
    unfold concrete at hc
    cases hd : undT P t' with
    | none => rw [hd] at hc; cases hc
    | some d =>
      rw [hd] at hc
      have hu := run_underlying w hd
      cases c with
      | true =>
        refine ⟨.tuple #[y', .bool true], ?_, ?_⟩
        · cases d <;> first | (cases hc; done) | simp [execOp, Instr.typeAssert, hu, hy]
        · simp only [commaOk, VR]; exact ⟨_, rfl, LR.cons hv (LR.cons (by simp only [VR]) (LR.nil _))⟩
      | false =>
        refine ⟨y', ?_, hv⟩
        cases d <;> first | (cases hc; done) | simp [execOp, Instr.typeAssert, hu, hy]
  · cases he

/-! Maps -/
theorem keyEq_sound {d : TypeDesc} {x y : V} {r : Bool} (hf : fitsE d x = true) (h : keyEq x y = some r) {x' y' : Value} (hx : VR β x x') (hy : VR β y y') : Instr.sameNow d x' y' = some r := by
  unfold keyEq at h
  split at h
  · obtain ⟨h1, h2⟩ := ok_eq.1 h
    have := (eqK_iff _ _).1 h1; subst this
    simp only [VR] at hx hy; subst hx; subst hy
    cases h2
    cases d <;> first | (cases hf; done) | simp [Instr.sameNow, eqInt_eq]
  · simp only [VR] at hx hy
    obtain ⟨s1, rfl, rfl⟩ := hx
    obtain ⟨s2, rfl, rfl⟩ := hy
    cases h
    cases d <;> first | (cases hf; done) | simp [Instr.sameNow, ← strEq, beq_toListBytes]
  · simp only [VR] at hx hy; subst hx; subst hy
    cases h
    cases d <;> first | (cases hf; done) | simp [Instr.sameNow]
  · cases h

theorem keyFits_some {t : TypeId} {k : V} (h : keyFits P t k = true) : ∃ d, undT P t = some d ∧ fitsE d k = true := by
  unfold keyFits at h
  cases hd : undT P t with
  | none => rw [hd] at h; cases h
  | some d => rw [hd] at h; exact ⟨d, rfl, h⟩

/-- What a search in a map finds, and what the world's finds. -/
def FoundR (β : BM) (r : Option (Nat × V)) (r' : Option (Nat × Value)) : Prop :=
  match r with
  | none => r' = none
  | some (j, v) => ∃ v', r' = some (j, v') ∧ VR β v v'

theorem findKey_cons (k : V) (e : ME) (es : List ME) (i : Nat) : findKey k (e :: es) i = ob (keyEq k e.key) fun b => Bool.rec (findKey k es (i + 1)) (some (some (i, e.val))) b := rfl
theorem findKey_sound {d : TypeDesc} {k : V} {k' : Value} (hf : fitsE d k = true) (hk : VR β k k') : ∀ {es : List ME} {es' : List MapEntry} {i : Nat} {r : Option (Nat × V)}, ER β es es' → findKey k es i = some r →
    ∃ r', Instr.findNow d k' es' i = some r' ∧ FoundR β r r'
  | [], _, i, r, .nil, h => by cases h; exact ⟨none, rfl, rfl⟩
  | e :: es, _, i, r, .cons (e' := e') h1 hs, h => by
    rw [findKey_cons] at h
    obtain ⟨b, hb, h⟩ := ob_eq.1 h
    have := keyEq_sound hf hb hk h1.key
    cases b with
    | true => cases h; exact ⟨some (i, e'.val), by simp [Instr.findNow, this], _, rfl, h1.val⟩
    | false =>
      obtain ⟨r', h2, h3⟩ := findKey_sound hf hk hs h
      exact ⟨r', by simp [Instr.findNow, this, h2], h3⟩

theorem run_checkKey {e : Bool} {t : TypeId} {d : TypeDesc} {k : V} {k' : Value} (hd : undT P t = some d) (hf : fitsE d k = true) (hk : VR β k k') (n : Nat) : (Instr.checkKey e (n + 1) t k').run P w = .ok () w := by
  cases d <;> cases k <;> first | (cases hf; done) | skip
  · simp only [VR] at hk; subst hk; simp [Instr.checkKey, run_underlying w hd]
  · simp only [VR] at hk; subst hk; simp [Instr.checkKey, run_underlying w hd]
  · simp only [VR] at hk; obtain ⟨_, rfl, _⟩ := hk; simp [Instr.checkKey, run_underlying w hd]

theorem run_findKey {t : TypeId} {d : TypeDesc} {k : V} {k' : Value} (hd : undT P t = some d) (hf : fitsE d k = true) (hk : VR β k k') {es : List ME} {es' : List MapEntry} {r : Option (Nat × V)} (he : ER β es es') (h : findKey k es 0 = some r) :
    ∃ r', (Instr.findKey t k' es').run P w = .ok r' w ∧ FoundR β r r' := by
  obtain ⟨r', h1, h2⟩ := findKey_sound hf hk he h
  exact ⟨r', by simp [Instr.findKey, run_underlying w hd, h1], h2⟩

theorem HRel.map (h : HRel P β σ w) {r : Nat} {i : BI} (hb : β r = some i) {es : List ME} {c : Nat} (hm : getMap σ r = some (es, c)) :
    ∃ es', w.heap[i.blk]? = some (.map es' c) ∧ ER β es es'.toList := by
  unfold getMap at hm
  obtain ⟨o, ho, hm⟩ := ob_eq.1 hm
  cases o <;> first | (cases hm; done) | skip
  cases hm
  obtain ⟨o', obj, ho', hw, hr⟩ := h.obj r i hb
  rw [ho] at ho'; cases ho'
  obtain ⟨_, es', rfl, he⟩ := hr
  exact ⟨es', hw, he⟩

theorem run_getObj_map {r : Nat} {es : Array MapEntry} {c : Nat} (h : w.heap[r]? = some (.map es c)) : (getObj r).run P w = .ok (.map es c) w := by
  simp [getObj, Sem.run, h]

theorem run_lookup {t kt et : TypeId} {x' idx zv : Value} {c : Bool} {es' : Array MapEntry} {r' : Option (Nat × Value)} (hmt : undT P t = some (.map kt et))
    (hx : (x' = .map none ∧ es' = #[]) ∨ ∃ r clk, x' = .map (some r) ∧ w.heap[r]? = some (.map es' clk)) (hck : (Instr.checkKey es'.isEmpty 10000 kt idx).run P w = .ok () w)
    (hfr : (Instr.findKey kt idx es'.toList).run P w = .ok r' w) (hz : (zeroValue et).run P w = .ok zv w) :
    (Instr.lookup t x' idx c).run P w = .ok (if c then .tuple #[(r'.map (·.2)).getD zv, .bool r'.isSome] else (r'.map (·.2)).getD zv) w := by
  rcases hx with ⟨rfl, rfl⟩ | ⟨r, clk, rfl, hw⟩
  · cases r' with
    | none => simp [Instr.lookup, run_underlying w hmt] at hck hfr ⊢; simp [hck, hfr, hz]
    | some p => obtain ⟨j, u⟩ := p; simp [Instr.lookup, run_underlying w hmt] at hck hfr ⊢; simp [hck, hfr]
  · cases r' with
    | none => simp [Instr.lookup, run_underlying w hmt, run_getObj_map hw] at hck hfr ⊢; simp [hck, hfr, hz]
    | some p => obtain ⟨j, u⟩ := p; simp [Instr.lookup, run_underlying w hmt, run_getObj_map hw] at hck hfr ⊢; simp [hck, hfr]

theorem p_lookup {t : TypeId} {x i : Operand} {c : Bool} {v : V} (h : HRel P β σ w) (ha : TR β fr a.tmps) (he : eLookup P t x i c fr σ = some v) :
    ∃ z, (execOp a.eval ⟨dst, .lookup t x i c, ty, pos, aft, g⟩).run P w = .ok (.value z) w ∧ VR β v z := by
  unfold eLookup at he
  obtain ⟨⟨kt, et⟩, hke, he⟩ := ob_eq.1 he
  obtain ⟨k, hk, he⟩ := ob_eq.1 he
  obtain ⟨hf, he⟩ := ok_eq.1 he
  obtain ⟨es, hes, he⟩ := ob_eq.1 he
  obtain ⟨z, hz, he⟩ := ob_eq.1 he
  obtain ⟨r, hr, he⟩ := ob_eq.1 he
  obtain ⟨m, hm, hes⟩ := ob_eq.1 hes
  have hmt := mapT_some hke
  obtain ⟨d, hd, hf⟩ := keyFits_some hf
  have h1 := ev_sound ha hk
  have h2 := ev_sound ha hm
  have hes' : ∃ es' : Array MapEntry, ((a.eval x = .map none ∧ es' = #[]) ∨ ∃ r clk, a.eval x = .map (some r) ∧ w.heap[r]? = some (.map es' clk)) ∧ ER β es es'.toList := by
    unfold entriesOf at hes
    split at hes
    · cases hes; simp only [VR] at h2; exact ⟨#[], .inl ⟨h2, rfl⟩, .nil⟩
    · obtain ⟨⟨es0, c0⟩, hg, hes⟩ := ob_eq.1 hes
      cases hes
      simp only [VR] at h2
      obtain ⟨j, hj, e2⟩ := h2
      obtain ⟨es', hw, hr'⟩ := h.map hj hg
      exact ⟨es', .inr ⟨_, _, e2, hw⟩, hr'⟩
    · cases hes
  obtain ⟨es', hx, her⟩ := hes'
  obtain ⟨r', hfr, hfound⟩ := run_findKey (w := w) hd hf h1 her hr
  obtain ⟨zv, hzr, hzv, _⟩ := run_zeroValue w hz
  have hck := run_checkKey (w := w) (e := es'.isEmpty) hd hf h1 9999
  have key := run_lookup (c := c) hmt hx hck hfr hzr
  have hzz := ofValue_sound (β := β) hzv
  refine ⟨_, by simp [execOp, key]; rfl, ?_⟩
  cases r with
  | none =>
    have hfound : r' = none := hfound
    subst hfound
    cases he
    cases c with
    | true => simp only [commaOk, VR]; exact ⟨_, rfl, LR.cons hzz (LR.cons (by simp only [VR]; rfl) (LR.nil _))⟩
    | false => exact hzz
  | some p =>
    obtain ⟨j, u⟩ := p
    obtain ⟨u', hfound, hu⟩ := hfound
    subst hfound
    cases he
    cases c with
    | true => simp only [commaOk, VR]; exact ⟨_, rfl, LR.cons hu (LR.cons (by simp only [VR]; rfl) (LR.nil _))⟩
    | false => exact hu
end
end Go.Am
namespace Go.Am
section
variable {P : Program} {β : BM} {σ : St} {w : World} {a : Act} {fr : Fr} {dst : Option Tmp} {ty : TypeId} {pos : String} {aft : Array Edge} {g : Option (Nat × Bool)}

/-! Conversions -/
theorem bytes_of : ∀ {cs : List V} {l : List Nat}, mapO V.asByte cs = some l → ∀ {xs : List Value}, LR β cs xs → xs = l.map (fun n => Value.int .u8 (n : Nat)) ∧ ∀ n ∈ l, n < 256
  | [], l, h, xs, hx => by rw [mapO_nil] at h; cases h; simp only [LR] at hx; subst hx; simp
  | c :: cs, l, h, xs, hx => by
    rw [mapO_cons] at h
    obtain ⟨n, hn, h⟩ := ob_eq.1 h
    obtain ⟨l', hl, h⟩ := ob_eq.1 h
    cases h
    obtain ⟨rfl, hlt⟩ := asByte_some hn
    simp only [LR] at hx
    obtain ⟨x, xs', rfl, hx1, hx2⟩ := hx
    have := VR_int_nat hx1; subst this
    obtain ⟨e, hall⟩ := bytes_of hl hx2
    subst e
    refine ⟨rfl, fun m hm => ?_⟩
    cases hm with
    | head => exact hlt
    | tail _ hm => exact hall m hm

theorem byteT_some {e : TypeId} (h : byteT P e = true) : undT P e = some (.int .u8) := by
  unfold byteT at h
  cases hd : undT P e with
  | none => rw [hd] at h; cases h
  | some d =>
    rw [hd] at h
    cases d <;> first | (cases h; done) | skip
    rename_i k; cases k <;> first | rfl | cases h

theorem foldl_push : ∀ (l : List Nat) (s : ByteArray), (∀ n ∈ l, n < 256) →
    ((l.map Int.ofNat).foldl (fun r n => r.push (UInt8.ofNat n.toNat)) s).data.toList.map UInt8.toNat = s.data.toList.map UInt8.toNat ++ l
  | [], s, _ => by simp
  | n :: l, s, h => by
    simp only [List.map_cons, List.foldl_cons]
    rw [foldl_push l _ (fun m hm => h m (by simp [hm]))]
    have : n < 256 := h n (by simp)
    simp [ByteArray.push, Nat.mod_eq_of_lt this]

theorem p_conv {s d : TypeId} {x : Operand} {v : V} (h : HRel P β σ w) (ha : TR β fr a.tmps) (he : eConv P s d x fr σ = some v) :
    ∃ z, (execOp a.eval ⟨dst, .convert s d x, ty, pos, aft, g⟩).run P w = .ok (.value z) w ∧ VR β v z := by
  unfold eConv at he
  obtain ⟨u, hu, he⟩ := ob_eq.1 he
  have h1 := ev_sound ha hu
  unfold convV at he
  split at he
  · rename_i d1 k k' n hs hd
    cases he
    simp only [VR] at h1
    refine ⟨_, by simp [execOp, convert, run_underlying w hs, run_underlying w hd, h1, Conv.intToInt]; rfl, ?_⟩
    rw [intV_eq]; simp [VR]
  · rename_i d1 l hs hd
    cases he
    have h2 := h1
    simp only [VR] at h1
    obtain ⟨t, ht, hl⟩ := h1
    refine ⟨a.eval x, ?_, h2⟩
    rw [ht]
    cases d1 <;> simp [execOp, convert, run_underlying w hs, run_underlying w hd, ht]
  · rename_i e base n c hs hd
    obtain ⟨hb, he⟩ := ok_eq.1 he
    have hbt := byteT_some hb
    cases base with
    | none =>
      cases he
      obtain ⟨m, hm⟩ := VR_slc_none h1
      refine ⟨.string .empty, ?_, by simp only [VR]; exact ⟨_, rfl, rfl⟩⟩
      simp [execOp, convert, run_underlying w hs, run_underlying w hd, run_underlying w hbt, hm, Conv.bytesToString]
    | some p =>
      obtain ⟨cs, hcs, he⟩ := ob_eq.1 (he : ob (Am.readCells σ p n) (fun cs => ob (mapO V.asByte cs) fun l => some (V.str l)) = some v)
      obtain ⟨l, hl, he⟩ := ob_eq.1 he
      cases he
      have hq : ∃ q m i, a.eval x = .slice (some q) n m ∧ β p.1 = some i ∧ (n = 0 ∨ q = ⟨i.blk, i.off + p.2, none⟩) := by
        cases c with
        | some c => simp only [VR] at h1; obtain ⟨q, hq, _, i, hi, hr⟩ := h1; exact ⟨q, c, i, hq, hi, .inr hr⟩
        | none =>
          simp only [VR] at h1
          obtain ⟨q, c', hq, _, i, hi, hr⟩ := h1
          rcases hr with ⟨hr, _⟩ | ⟨hr, _⟩
          · exact ⟨q, c', i, hq, hi, .inr hr⟩
          · exact ⟨q, c', i, hq, hi, .inl hr⟩
      obtain ⟨q, m, i, hq, hi, hqa⟩ := hq
      obtain ⟨xs, hx, hxl, _, hlr, _⟩ := h.readCells hcs hi
      have hload : (loadCells q n).run P w = .ok xs.toArray w := by
        rcases hqa with hz | hr
        · subst hz
          have : xs = [] := List.eq_nil_of_length_eq_zero hxl
          subst this; rfl
        · rw [hr]; exact hx
      obtain ⟨hxs, hall⟩ := bytes_of hl hlr
      have hb2 := run_bytesToString (P := P) w q n m (l.map Int.ofNat) (by rw [hload, hxs, List.map_map]; rfl)
      refine ⟨.string _, ?_, by simp only [VR]; exact ⟨_, rfl, by simpa using foldl_push l .empty hall⟩⟩
      simp [execOp, convert, run_underlying w hs, run_underlying w hd, run_underlying w hbt, hq, hb2]
  · cases he
end
end Go.Am
namespace Go.Am
section
variable {P : Program} {β : BM} {σ : St} {w : World} {a : Act} {fr : Fr} {dst : Option Tmp} {ty : TypeId} {pos : String} {aft : Array Edge} {g : Option (Nat × Bool)}

/-! Parts -/
inductive PR (β : BM) : List (Nat × V) → List (Nat × Value) → Prop
  | nil : PR β [] []
  | cons {i : Nat} {v : V} {x : Value} {l : List (Nat × V)} {xs : List (Nat × Value)} (h : VR β v x) (hs : PR β l xs) : PR β ((i, v) :: l) ((i, x) :: xs)

theorem evParts_cons (p : Nat × Operand) (l : List (Nat × Operand)) (fr : Fr) : evParts (p :: l) fr = ob (ev p.2 fr) fun v => ob (evParts l fr) fun vs => some ((p.1, v) :: vs) := rfl
theorem evParts_sound (ha : TR β fr a.tmps) : ∀ {l : List (Nat × Operand)} {ps : List (Nat × V)}, evParts l fr = some ps → PR β ps (l.map fun (i, x) => (i, a.eval x))
  | [], ps, h => by cases h; exact .nil
  | (i, x) :: l, ps, h => by
    rw [evParts_cons] at h
    obtain ⟨v, hv, h⟩ := ob_eq.1 h
    obtain ⟨vs, hvs, h⟩ := ob_eq.1 h
    cases h
    exact .cons (ev_sound ha hv) (evParts_sound ha hvs)

theorem fillParts_cons (place : Nat → Option (Nat × Nat)) (p : Nat × V) (l : List (Nat × V)) (cs : List V) :
    fillParts place (p :: l) cs = ob (place p.1) fun q => ok (Nat.beq (len p.2.cells) q.2) (ob (splice p.2.cells q.1 cs) (fillParts place l)) := rfl

theorem fill_sound {place place' : Nat → Option (Nat × Nat)} (hp : ∀ i q, place i = some q → place' i = some q) : ∀ {l : List (Nat × V)} {parts : List (Nat × Value)} {cs cs' : List V} {cells : Array Value}, fillParts place l cs = some cs' → PR β l parts → LR β cs cells.toList →
    ∃ cells', Instr.fill place' cells parts = some cells' ∧ LR β cs' cells'.toList
  | [], _, cs, cs', cells, h, .nil, hl => by cases h; exact ⟨cells, rfl, hl⟩
  | (i, v) :: l, _, cs, cs', cells, h, .cons (x := x) (xs := xs) hv hs, hl => by
    rw [fillParts_cons] at h
    obtain ⟨⟨off, size⟩, hq, h⟩ := ob_eq.1 h
    obtain ⟨hsz, h⟩ := ok_eq.1 h
    obtain ⟨cs1, hsp, h⟩ := ob_eq.1 h
    obtain ⟨hb0, hcs1, _⟩ := splice_some hsp
    have hb : off + v.cells.length ≤ cs.length := hb0
    have hvc := hv.cells
    have hlen : x.cells.size = v.cells.length := by have := hvc.length; simpa using this
    have hsz' : v.cells.length = size := by have := Nat.eq_of_beq_eq_true hsz; simpa using this
    have hcl : cells.size = cs.length := by have := hl.length; simpa using this
    have hfs := Great.foldl_set off x.cells.toList 0 cells
    simp only [Nat.add_zero] at hfs
    have hstep : LR β cs1 (((x.cells.toList.zipIdx 0).foldl (fun cs (x : Value × Nat) => cs.setIfInBounds (off + x.2) x.1) cells)).toList := by
      refine LR.of_get ?_ fun n u hn => ?_
      · have := splice_length hsp
        simp only [Array.length_toList]; omega
      · have hn0 := hn
        have hcs1' : cs1 = cs.take off ++ v.cells ++ cs.drop (off + v.cells.length) := hcs1
        rw [hcs1', seg_get cs v.cells off n hb] at hn
        rw [Array.getElem?_toList, hfs.2 n]
        by_cases hin : off ≤ n ∧ n < off + v.cells.length
        · rw [if_pos hin] at hn
          rw [if_pos ⟨hin.1, by rw [Array.length_toList]; omega, by omega⟩]
          exact hvc.get hn
        · rw [if_neg hin] at hn
          rw [if_neg (by rw [Array.length_toList]; omega)]
          obtain ⟨y, hy, hyv⟩ := hl.get hn
          exact ⟨y, by rw [← Array.getElem?_toList]; exact hy, hyv⟩
    obtain ⟨cells', h1, h2⟩ := fill_sound hp h hs hstep
    refine ⟨cells', ?_, h2⟩
    simp only [Instr.fill, hp _ _ hq]
    rw [if_neg (by simp; omega)]
    have e : (x.cells.zipIdx.foldl (fun cs (c, j) => cs.setIfInBounds (off + j) c) cells) = ((x.cells.toList.zipIdx 0).foldl (fun cs (x : Value × Nat) => cs.setIfInBounds (off + x.2) x.1) cells) := by
      rw [← Array.foldl_toList, Array.toList_zipIdx]
    rw [e]; exact h1

theorem places_sound : ∀ {fs : List Field} {l : List (Nat × Nat)}, mapO (fieldPlaceT P) fs = some l → fs.mapM (fun f => (P.info? f.type).map fun i => (f.offset, i.size)) = some l
  | [], l, h => by cases h; rfl
  | f :: fs, l, h => by
    rw [mapO_cons] at h
    obtain ⟨q, hq, h⟩ := ob_eq.1 h
    obtain ⟨l', hl, h⟩ := ob_eq.1 h
    cases h
    unfold fieldPlaceT at hq
    obtain ⟨n, hn, hq⟩ := ob_eq.1 hq
    cases hq
    obtain ⟨i, hi, rfl⟩ := sizeT_some hn
    rw [List.mapM_cons]
    simp [hi, places_sound hl]

theorem p_build {t : TypeId} {ps : Array (Nat × Operand)} {v : V} (ha : TR β fr a.tmps) (he : eBuild P t ps fr σ = some v) :
    ∃ z, (execOp a.eval ⟨dst, .build t ps, ty, pos, aft, g⟩).run P w = .ok (.value z) w ∧ VR β v z := by
  unfold eBuild at he
  obtain ⟨z, hz, he⟩ := ob_eq.1 he
  obtain ⟨l, hl, he⟩ := ob_eq.1 he
  obtain ⟨pl, hpl, he⟩ := ob_eq.1 he
  obtain ⟨cs, hcs, he⟩ := ob_eq.1 he
  cases he
  obtain ⟨zv, _, hzv, it, hit, hitz⟩ := run_zeroValue w hz
  have hzl := (ofValue_sound (β := β) hzv).cells
  have hpr := evParts_sound ha hl
  have hb : ∃ cells, P.built t (ps.map fun (i, x) => (i, a.eval x)).toList = some cells ∧ LR β cs cells.toList := by
    rw [Array.toList_map]
    unfold placesT at hpl
    split at hpl
    · rename_i fs hd
      obtain ⟨pls, hpls, hpl⟩ := ob_eq.1 hpl
      cases hpl
      have hm := places_sound hpls
      obtain ⟨cells, h1, h2⟩ := fill_sound (place' := (pls.toArray[·]?)) (fun i q hq => by
        unfold placeIn at hq; rw [nth_eq] at hq; simpa using hq) hcs hpr hzl
      exact ⟨cells, by simp [Program.built, hit, undT_some hd, hitz, hm]; simpa using h1, h2⟩
    · rename_i n e hd
      obtain ⟨s, hs, hpl⟩ := ob_eq.1 hpl
      cases hpl
      obtain ⟨ie, hie, rfl⟩ := sizeT_some hs
      obtain ⟨cells, h1, h2⟩ := fill_sound (place' := fun i => some (i * ie.size, ie.size)) (fun i q hq => hq) hcs hpr hzl
      exact ⟨cells, by simp [Program.built, hit, undT_some hd, hitz, hie]; exact h1, h2⟩
    · cases hpl
  obtain ⟨cells, hb1, hb2⟩ := hb
  refine ⟨.agg cells, by simp [execOp, run_build w t _ cells hb1], by simp only [VR]; exact ⟨_, rfl, hb2⟩⟩

/-! len, cap, min, max -/
theorem lenFits_inv {t : TypeId} {u : V} (hf : lenFits P t u = true) : (undT P t = some .string ∧ ∃ s, u = .str s) ∨ (∃ e p n c, undT P t = some (.slice e) ∧ u = .slc p n c) ∨
    (∃ k e r, undT P t = some (.map k e) ∧ u = .map r) ∨ (∃ e q n c, undT P t = some (.slice e) ∧ u = .osl q n c) ∨ ∃ n e, undT P t = some (.array n e) ∧ ∀ x σ, lenV P σ t u = some x → x = .int .i64 (n : Nat) := by
  unfold lenFits at hf
  split at hf
  · rename_i h; exact .inl ⟨h, _, rfl⟩
  · rename_i h; exact .inr (.inl ⟨_, _, _, _, h, rfl⟩)
  · rename_i h; exact .inr (.inr (.inr (.inl ⟨_, _, _, _, h, rfl⟩)))
  · rename_i h; exact .inr (.inr (.inl ⟨_, _, _, h, rfl⟩))
  · rename_i h
    refine .inr (.inr (.inr (.inr ⟨_, _, h, fun x σ hx => ?_⟩)))
    obtain ⟨⟨m, e'⟩, hm, hx⟩ := ob_eq.1 (show ob (arrayT P t) (fun ne => some (V.int .i64 (.ofNat ne.1))) = some x from hx)
    have hd2 := arrayT_some hm
    rw [h] at hd2; cases hd2; cases hx; rfl
  · rename_i h
    refine .inr (.inr (.inr (.inr ⟨_, _, h, fun x σ hx => ?_⟩)))
    obtain ⟨⟨m, e'⟩, hm, hx⟩ := ob_eq.1 (show ob (arrayT P t) (fun ne => some (V.int .i64 (.ofNat ne.1))) = some x from hx)
    have hd2 := arrayT_some hm
    rw [h] at hd2; cases hd2; cases hx; rfl
  · cases hf

theorem ER.length : ∀ {es : List ME} {l : List MapEntry}, ER β es l → l.length = es.length
  | _, _, .nil => rfl
  | _, _, .cons _ h => by simp [h.length]

theorem p_len {t : TypeId} {x : Operand} {v : V} {ts : Array TypeId} (hts : ts[0]? = some t) (h : HRel P β σ w) (ha : TR β fr a.tmps) (he : eLen P t x fr σ = some v) :
    ∃ z, (execOp a.eval ⟨dst, .call ⟨.builtin .len, #[x], ts⟩, ty, pos, aft, g⟩).run P w = .ok (.value z) w ∧ VR β v z := by
  unfold eLen at he
  obtain ⟨u, hu, he1⟩ := ob_eq.1 he
  obtain ⟨hf, he2⟩ := ok_eq.1 he1
  have h1 := ev_sound ha hu
  rcases lenFits_inv hf with ⟨hd, s, rfl⟩ | ⟨e, p, n, c, hd, rfl⟩ | ⟨k, e, r, hd, rfl⟩ | ⟨e, q, n, c, hd, rfl⟩ | ⟨n, e, hd, hall⟩
  · simp only [VR] at h1
    obtain ⟨q, hs, hq⟩ := h1
    cases he2
    refine ⟨.int .i64 (q.size : Nat), ?_, ?_⟩
    · simp [execOp, resolve, invoke, builtin, Builtin.len_, hts, run_underlying w hd, hs, goInt]
    · have e : q.size = s.length := by subst hq; rw [List.length_map]; rfl
      simp [VR, e]
  · cases he2
    have : ∃ q m, a.eval x = .slice q n m := by
      cases p with
      | none => obtain ⟨m, h⟩ := VR_slc_none h1; exact ⟨_, _, h⟩
      | some p => obtain ⟨q, m, hq, _⟩ := VR_slc_some h1; exact ⟨_, _, hq⟩
    obtain ⟨q, m, hq⟩ := this
    refine ⟨.int .i64 (n : Nat), ?_, by simp [VR]⟩
    simp [execOp, resolve, invoke, builtin, Builtin.len_, hts, run_underlying w hd, hq, goInt]
  · cases r with
    | none =>
      cases he2
      simp only [VR] at h1
      refine ⟨.int .i64 0, ?_, by simp [VR]⟩
      simp [execOp, resolve, invoke, builtin, Builtin.len_, hts, run_underlying w hd, h1, goInt]
    | some r =>
      obtain ⟨⟨es, c⟩, hm, he3⟩ := ob_eq.1 (show ob (getMap σ r) (fun m => some (V.int .i64 (.ofNat (len m.1)))) = some v from he2)
      cases he3
      simp only [VR] at h1
      obtain ⟨i, hi, hx⟩ := h1
      obtain ⟨es', hw, her⟩ := h.map hi hm
      have hel : es'.size = es.length := by simpa using her.length
      refine ⟨.int .i64 (es'.size : Nat), ?_, by simp [VR, hel]⟩
      simp [execOp, resolve, invoke, builtin, Builtin.len_, hts, run_underlying w hd, hx, run_getObj_map hw, goInt]
  · cases he2
    simp only [VR] at h1
    refine ⟨.int .i64 (n : Nat), ?_, by simp [VR]⟩
    simp [execOp, resolve, invoke, builtin, Builtin.len_, hts, run_underlying w hd, h1, goInt]
  · have hv := hall _ _ he2
    subst hv
    refine ⟨.int .i64 (n : Nat), ?_, by simp [VR]⟩
    simp [execOp, resolve, invoke, builtin, Builtin.len_, hts, run_underlying w hd, goInt]
end
end Go.Am
namespace Go.Am
section
variable {P : Program} {β : BM} {σ : St} {w : World} {a : Act} {fr : Fr} {dst : Option Tmp} {ty : TypeId} {pos : String} {aft : Array Edge} {g : Option (Nat × Bool)}

theorem elemT_und {t e : TypeId} (h : elemT P t = some e) : undT P t = some (.slice e) := elemT_some h

theorem p_cap {t : TypeId} {x : Operand} {v : V} {ts : Array TypeId} (hts : ts[0]? = some t) (ha : TR β fr a.tmps) (he : eCap P t x fr σ = some v) :
    ∃ z, (execOp a.eval ⟨dst, .call ⟨.builtin .cap, #[x], ts⟩, ty, pos, aft, g⟩).run P w = .ok (.value z) w ∧ VR β v z := by
  unfold eCap at he
  obtain ⟨e, hd, he1⟩ := ob_eq.1 he
  obtain ⟨u, hu, he2⟩ := ob_eq.1 he1
  have h1 := ev_sound ha hu
  have hd' := elemT_some hd
  unfold capV at he2
  split at he2
  · rename_i p n m
    cases he2
    have : ∃ q, a.eval x = .slice q n m := by
      cases p with
      | none => simp only [VR] at h1; exact ⟨_, h1⟩
      | some p => simp only [VR] at h1; obtain ⟨q, hq, _⟩ := h1; exact ⟨_, hq⟩
    obtain ⟨q, hq⟩ := this
    refine ⟨.int .i64 (m : Nat), ?_, by simp [VR]⟩
    simp [execOp, resolve, invoke, builtin, Builtin.cap_, hts, run_underlying w hd', hq, goInt]
  · cases he2

theorem p_least {gt : Bool} {x y : Operand} {v : V} {ts : Array TypeId} (ha : TR β fr a.tmps) (he : eLeast gt x y fr σ = some v) :
    ∃ z, (execOp a.eval ⟨dst, .call ⟨.builtin (if gt then .max else .min), #[x, y], ts⟩, ty, pos, aft, g⟩).run P w = .ok (.value z) w ∧ VR β v z := by
  unfold eLeast at he
  obtain ⟨u, hu, he1⟩ := ob_eq.1 he
  obtain ⟨u', hu', he2⟩ := ob_eq.1 he1
  have h1 := ev_sound ha hu
  have h2 := ev_sound ha hu'
  unfold least at he2
  split at he2
  · rename_i k p k' q
    obtain ⟨hk, he3⟩ := ok_eq.1 he2
    cases he3
    simp only [VR] at h1 h2
    cases gt with
    | false =>
      refine ⟨.int k (if q < p then q else p), ?_, ?_⟩
      · simp [execOp, resolve, invoke, builtin, Builtin.min_, Builtin.min2, h1, h2, List.foldlM]
      · simp only [VR]
        by_cases hqp : q < p
        · simp [hqp, ltInt_eq]
        · simp [hqp, ltInt_eq]
    | true =>
      refine ⟨.int k (if q > p then q else p), ?_, ?_⟩
      · simp [execOp, resolve, invoke, builtin, Builtin.max_, Builtin.max2, h1, h2, List.foldlM]
      · simp only [VR]
        by_cases hqp : p < q
        · simp [hqp, ltInt_eq]
        · simp [hqp, ltInt_eq]
  · cases he2

/-! slices -/
theorem bound_none {d n : Nat} (h : bound none fr d = some n) : n = d := by cases h; rfl
theorem bound_some {x : Operand} {d n : Nat} (ha : TR β fr a.tmps) (h : bound (some x) fr d = some n) : ∃ k, a.eval x = .int k n := asNat_ev ha h

theorem run_sliceBound {k : IntKind} {n y : Nat} {code : BoundsCode} (h : n ≤ y) : (Instr.sliceBound (.int k n) y code).run P w = .ok n w := by
  simp [Instr.sliceBound, asIntOf, h]

theorem run_sliceBounds {b : Bool} {len cap m h l : Nat} {lo hi mx : Option Operand} (ha : TR β fr a.tmps) (hm : bound mx fr cap = some m) (hh : hiB hi mx fr len = some h) (hl : bound lo fr 0 = some l)
    (hlh : l ≤ h) (hhm : h ≤ m) (hmc : m ≤ cap) : (Instr.sliceBounds b len cap (lo.map a.eval) (hi.map a.eval) (mx.map a.eval)).run P w = .ok (l, h, m) w := by
  have hlo : (lo.map a.eval = none ∧ l = 0) ∨ ∃ k, lo.map a.eval = some (.int k l) := by
    cases lo with
    | none => exact .inl ⟨rfl, bound_none hl⟩
    | some x => obtain ⟨k, hk⟩ := bound_some ha hl; exact .inr ⟨k, by simp [hk]⟩
  cases mx with
  | none =>
    cases bound_none hm
    cases hi with
    | none =>
      cases bound_none (show bound none fr len = some h from hh)
      unfold Instr.sliceBounds
      rcases hlo with ⟨h1, rfl⟩ | ⟨k1, h1⟩ <;> simp [h1, run_sliceBound hlh]
    | some y =>
      obtain ⟨k, hk⟩ := bound_some ha (show bound (some y) fr len = some h from hh)
      unfold Instr.sliceBounds
      rcases hlo with ⟨h1, rfl⟩ | ⟨k1, h1⟩ <;> simp [h1, hk, run_sliceBound hhm, run_sliceBound hlh]
  | some z =>
    obtain ⟨kz, hkz⟩ := bound_some ha hm
    cases hi with
    | none => cases hh
    | some y =>
      obtain ⟨k, hk⟩ := asNat_ev ha (show ob (ev y fr) V.asNat = some h from hh)
      unfold Instr.sliceBounds
      rcases hlo with ⟨h1, rfl⟩ | ⟨k1, h1⟩ <;> simp [h1, hkz, run_sliceBound hmc, hk, run_sliceBound hhm, run_sliceBound hlh]

theorem seen_some (h : HRel P β σ w) {b e L : Nat} {i : BI} (hb : β b = some i) (hs : seen σ e b = some L) : sizeT P e = some i.size ∧ L ≤ i.e := by
  unfold seen at hs
  obtain ⟨e', cs, g', hc, hs1⟩ := ob3_eq.1 hs
  obtain ⟨he, hs2⟩ := ok_eq.1 hs1
  cases hs2
  have he' := Nat.eq_of_beq_eq_true he
  subst he'
  rw [cellsAt_eq] at hc
  obtain ⟨o, obj, ho, hw, hr⟩ := h.obj b i hb
  rw [hc] at ho; cases ho
  obtain ⟨arr, fz, _, hr⟩ := hr
  exact ⟨hr.size, by have := hr.fit; simpa using this⟩

theorem stringT_some {t : TypeId} (h : stringT P t = true) : undT P t = some .string := by
  unfold stringT at h
  split at h
  · assumption
  · cases h

theorem p_sliceStr {t : TypeId} {x : Operand} {lo hi : Option Operand} {v : V} {s : List Nat} (ha : TR β fr a.tmps) (hu : ev x fr = some (.str s)) (hd : undT P t = some .string) (he : sliceStr fr s lo hi = some v) :
    ∃ z, (execOp a.eval ⟨dst, .slice t x lo hi none, ty, pos, aft, g⟩).run P w = .ok (.value z) w ∧ VR β v z := by
  have h1 := ev_sound ha hu
  simp only [VR] at h1
  obtain ⟨q, hq, hqs⟩ := h1
  unfold sliceStr at he
  obtain ⟨m, hm, he1⟩ := ob_eq.1 he
  obtain ⟨l, hl, he2⟩ := ob_eq.1 he1
  obtain ⟨hle, he3⟩ := ok_eq.1 he2
  obtain ⟨r, hr, he4⟩ := ob_eq.1 he3
  cases he4
  rw [Bool.and_eq_true] at hle
  have hle' := Nat.le_of_ble_eq_true hle.1
  have hms : m ≤ s.length := by have := Nat.le_of_ble_eq_true hle.2; simpa using this
  rw [dropN_eq] at hr
  obtain ⟨hlen, hr'⟩ := takeN_some.1 hr
  have hqn : q.size = s.length := by subst hqs; rw [List.length_map]; rfl
  have hm' : bound hi fr q.size = some m := by rw [hqn]; simpa using hm
  have hb := run_sliceBounds (P := P) (w := w) (b := false) (len := q.size) (cap := q.size) (m := q.size) (mx := none) ha rfl hm' hl hle' (by omega) (Nat.le_refl _)
  simp only [Option.map_none] at hb
  refine ⟨.string (q.extract l m), ?_, ?_⟩
  · simp [execOp, Instr.sliceAt, Instr.slice, run_underlying w hd, hq, hb]
  · simp only [VR]
    refine ⟨_, rfl, ?_⟩
    subst hqs
    rw [hr', ByteArray.data_extract, Array.toList_extract, List.extract_eq_take_drop, List.map_take, List.map_drop]

theorem p_sliceKnown {t : TypeId} {x : Operand} {lo hi mx : Option Operand} {v : V} {base : Option (Nat × Nat)} {n c s : Nat} {q : Option Addr} (ha : TR β fr a.tmps)
    (hq : (∃ p, base = some p ∧ ∃ r, q = some r ∧ PtrR β p r) ∨ (base = none ∧ q = none))
    (hrun : ∀ l h m : Nat, (∀ b, (Instr.sliceBounds b n c (lo.map a.eval) (hi.map a.eval) (mx.map a.eval)).run P w = .ok (l, h, m) w) →
      (execOp a.eval ⟨dst, .slice t x lo hi mx, ty, pos, aft, g⟩).run P w = .ok (.value (.slice (if m = l then q else q.map (·.add (l * s))) (h - l) (m - l))) w)
    (he : sliceKnown fr base s n c lo hi mx = some v) :
    ∃ z, (execOp a.eval ⟨dst, .slice t x lo hi mx, ty, pos, aft, g⟩).run P w = .ok (.value z) w ∧ VR β v z := by
  unfold sliceKnown at he
  obtain ⟨m, hm, he1⟩ := ob_eq.1 he
  obtain ⟨h, hh, he2⟩ := ob_eq.1 he1
  obtain ⟨l, hl, he3⟩ := ob_eq.1 he2
  obtain ⟨hle, he4⟩ := ok_eq.1 he3
  cases he4
  simp only [Bool.and_eq_true] at hle
  have h1 := Nat.le_of_ble_eq_true hle.1.1
  have h2 := Nat.le_of_ble_eq_true hle.1.2
  have h3 := Nat.le_of_ble_eq_true hle.2
  refine ⟨_, hrun l h m (fun b => run_sliceBounds ha hm hh hl h1 h2 h3), ?_⟩
  by_cases hml : m = l
  · have hb : Nat.beq m l = true := by rw [hml]; exact Nat.beq_refl l
    rw [hb, if_pos hml]
    show VR β (.slc base (h - l) (some (m - l))) _
    rcases hq with ⟨p, rfl, r, rfl, hr⟩ | ⟨rfl, rfl⟩
    · simp only [VR]; exact ⟨r, rfl, by omega, hr⟩
    · simp only [VR]
  · have hb : Nat.beq m l = false := by
      cases e : Nat.beq m l with
      | false => rfl
      | true => exact absurd (Nat.eq_of_beq_eq_true e) hml
    rw [hb, if_neg hml]
    show VR β (.slc (moved base (l * s)) (h - l) (some (m - l))) _
    rcases hq with ⟨p, rfl, r, rfl, hr⟩ | ⟨rfl, rfl⟩
    · show VR β (.slc (some (shift p (l * s))) (h - l) (some (m - l))) _
      simp only [VR]
      obtain ⟨i, hi, rfl⟩ := hr
      refine ⟨⟨i.blk, i.off + (p.2 + l * s), none⟩, ?_, by omega, i, hi, rfl⟩
      simp [add_none, Nat.add_assoc]
    · show VR β (.slc none (h - l) (some (m - l))) _
      simp only [VR, Option.map_none]

theorem p_slice {t : TypeId} {x : Operand} {lo hi mx : Option Operand} {v : V} (hH : HRel P β σ w) (ha : TR β fr a.tmps) (he : eSlice P t x lo hi mx fr σ = some v) :
    ∃ z, (execOp a.eval ⟨dst, .slice t x lo hi mx, ty, pos, aft, g⟩).run P w = .ok (.value z) w ∧ VR β v z := by
  unfold eSlice at he
  obtain ⟨u, hu, he1⟩ := ob_eq.1 he
  have hv := ev_sound ha hu
  unfold sliceV at he1
  split at he1
  · obtain ⟨hs, he2⟩ := ok_eq.1 he1
    cases mx with
    | none => exact p_sliceStr ha hu (stringT_some hs) he2
    | some _ => cases he2
  · rename_i base n cap
    obtain ⟨⟨e, s⟩, hes, he2⟩ := ob_eq.1 he1
    obtain ⟨hd, hsz, hpos⟩ := elemSized_some hes
    have hrun : ∀ (q : Option Addr) (c : Nat), a.eval x = .slice q n c → ∀ l h m : Nat, (∀ b, (Instr.sliceBounds b n c (lo.map a.eval) (hi.map a.eval) (mx.map a.eval)).run P w = .ok (l, h, m) w) →
      (execOp a.eval ⟨dst, .slice t x lo hi mx, ty, pos, aft, g⟩).run P w = .ok (.value (.slice (if m = l then q else q.map (·.add (l * s))) (h - l) (m - l))) w := fun q c hx l h m hb => by
      simp [execOp, Instr.sliceAt, Instr.slice, run_underlying w hd, hx, hb true, run_sizeOf w hsz]
    cases cap with
    | some c =>
      cases base with
      | none =>
        simp only [VR] at hv
        exact p_sliceKnown ha (.inr ⟨rfl, rfl⟩) (hrun none c hv) he2
      | some p =>
        simp only [VR] at hv
        obtain ⟨q, hx, _, hr⟩ := hv
        exact p_sliceKnown ha (.inl ⟨p, rfl, q, rfl, hr⟩) (hrun (some q) c hx) he2
    | none =>
      cases base with
      | none => cases he2
      | some p =>
        simp only [VR] at hv
        obtain ⟨q, c, hx, hnc, i, hbi, hq⟩ := hv
        have hrun' := hrun (some q) c hx
        cases mx with
        | none =>
          obtain ⟨h, hh, he3⟩ := ob_eq.1 (show sliceOpen σ fr p e s n lo hi = some v from he2)
          obtain ⟨l, hl, he4⟩ := ob_eq.1 he3
          obtain ⟨L, hL, he5⟩ := ob_eq.1 he4
          obtain ⟨hle, he6⟩ := ok_eq.1 he5
          cases he6
          simp only [Bool.and_eq_true] at hle
          have h1 := Nat.le_of_ble_eq_true hle.1
          have h2 := Nat.le_of_ble_eq_true hle.2
          obtain ⟨hsi, hLe⟩ := seen_some hH hbi hL
          rw [hsz] at hsi; cases hsi
          have hhc : h ≤ c := by
            rcases hq with ⟨_, hq⟩ | ⟨_, hc, hq⟩
            · have : h * i.size ≤ c * i.size := by omega
              exact Nat.le_of_mul_le_mul_right this hpos
            · have h0 : h * i.size = 0 := by omega
              rcases Nat.mul_eq_zero.1 h0 with h0 | h0 <;> omega
          refine ⟨_, hrun' l h c (fun b => run_sliceBounds ha rfl hh hl h1 hhc (Nat.le_refl _)), ?_⟩
          simp only [VR]
          by_cases hcl : c = l
          · refine ⟨q, 0, by rw [if_pos hcl]; congr 1; omega, by omega, i, hbi, .inr ⟨by omega, rfl, ?_⟩⟩
            rw [shift_eq]
            rcases hq with ⟨_, hq⟩ | ⟨_, hc, hq⟩
            · subst hcl; exact hq
            · have : l = 0 := by omega
              subst this; simpa using hq
          · rcases hq with ⟨hq0, hq⟩ | ⟨_, hc, hq⟩
            · refine ⟨⟨i.blk, i.off + (p.2 + l * i.size), none⟩, c - l, ?_, by omega, i, hbi, .inl ⟨rfl, ?_⟩⟩
              · rw [if_neg hcl, hq0]; simp [add_none, Nat.add_assoc]
              · show p.2 + l * i.size + (c - l) * i.size = i.e
                rw [Nat.add_assoc, ← Nat.add_mul, ← hq]; congr 2; omega
            · omega
        | some y =>
          obtain ⟨m, hm, he3⟩ := ob_eq.1 (show sliceOpen3 σ fr p e s lo hi y = some v from he2)
          obtain ⟨h, hh, he4⟩ := ob_eq.1 he3
          obtain ⟨l, hl, he5⟩ := ob_eq.1 he4
          obtain ⟨L, hL, he6⟩ := ob_eq.1 he5
          obtain ⟨hle, he7⟩ := ok_eq.1 he6
          cases he7
          simp only [Bool.and_eq_true] at hle
          have h1 := Nat.le_of_ble_eq_true hle.1.1.1
          have h2 := Nat.le_of_ble_eq_true hle.1.1.2
          have h3 := Nat.le_of_ble_eq_true hle.1.2
          have h4 : l < m := Nat.le_of_ble_eq_true hle.2
          obtain ⟨hsi, hLe⟩ := seen_some hH hbi hL
          rw [hsz] at hsi; cases hsi
          have hmc : m ≤ c := by
            rcases hq with ⟨_, hq⟩ | ⟨_, hc, hq⟩
            · have : m * i.size ≤ c * i.size := by omega
              exact Nat.le_of_mul_le_mul_right this hpos
            · have h0 : m * i.size = 0 := by omega
              rcases Nat.mul_eq_zero.1 h0 with h0 | h0 <;> omega
          have hml : ¬ m = l := by omega
          refine ⟨_, hrun' l h m (fun b => run_sliceBounds (mx := some y) ha hm hh hl h1 h2 hmc), ?_⟩
          simp only [VR]
          rcases hq with ⟨hq0, hq⟩ | ⟨_, hc, hq⟩
          · refine ⟨⟨i.blk, i.off + (p.2 + l * i.size), none⟩, ?_, by omega, i, hbi, rfl⟩
            rw [if_neg hml, hq0]; simp [add_none, Nat.add_assoc]
          · omega
  · rename_i p
    obtain ⟨⟨n, e⟩, hne, he2⟩ := ob_eq.1 he1
    obtain ⟨s, hs, he3⟩ := ob_eq.1 he2
    have hd := arrayT_some hne
    obtain ⟨hsz, hpos⟩ := sizedT_some hs
    simp only [VR] at hv
    obtain ⟨q, hx, hr⟩ := hv
    refine p_sliceKnown ha (.inl ⟨p, rfl, q, rfl, hr⟩) (fun l h m hb => ?_) he3
    have e : (if m = l then some q else (some q).map (·.add (l * s))) = some (if m = l then q else q.add (l * s)) := by split <;> rfl
    rw [e]
    simp [execOp, Instr.sliceAt, run_underlying w hd, hx, Instr.sureAddr, hb false, run_sizeOf w hsz]
  · cases he1
end
end Go.Am
namespace Go.Am
section
variable {P : Program} {β : BM} {σ : St} {w : World} {a : Act} {fr : Fr} {dst : Option Tmp} {ty : TypeId} {pos : String} {aft : Array Edge} {g : Option (Nat × Bool)}

theorem arr1 {α : Type} {xs : Array α} {x : α} (h : xs.toList = [x]) : xs = #[x] := by
  have := congrArg List.toArray h; simpa using this
theorem arr2 {α : Type} {xs : Array α} {x y : α} (h : xs.toList = [x, y]) : xs = #[x, y] := by
  have := congrArg List.toArray h; simpa using this
theorem arrH {α : Type} {xs : Array α} {x : α} {l : List α} (h : xs.toList = x :: l) : xs[0]? = some x := by
  rw [← Array.getElem?_toList, h]; rfl

theorem pas_sound {o : Op} {f : Ev} {v : V} (hw : opw P o = .pas f) (hH : HRel P β σ w) (ha : TR β fr a.tmps) (he : f fr σ = some v) :
    ∃ z, (execOp a.eval ⟨dst, o, ty, pos, aft, g⟩).run P w = .ok (.value z) w ∧ VR β v z := by
  cases o
  case move x => cases hw; exact ⟨a.eval x, by simp [execOp], p_move ha he⟩
  case assign x => cases hw; exact ⟨a.eval x, by simp [execOp], p_move ha he⟩
  case pick c x y => cases hw; exact p_pick ha he
  case build t ps => cases hw; exact p_build ha he
  case load t x => cases hw; exact p_load hH ha he
  case nilCheck x => cases hw; exact p_nilCheck ha he
  case binOp op t x y u => cases hw; exact p_bin hH ha he
  case unOp op t x => cases hw; exact p_unOp ha he
  case convert s d x =>
    have hw : convW P s d x = .pas f := hw
    unfold convW at hw
    cases hd : elemT P d with
    | some e => rw [hd] at hw; cases hw
    | none => rw [hd] at hw; cases hw; exact p_conv hH ha he
  case makeInterface t x => cases hw; exact p_iface ha he
  case makeFunc fn x y => cases hw; exact p_func ha he
  case slice t x l h m => cases hw; exact p_slice hH ha he
  case fieldAddr t x i => cases hw; exact p_fieldAddr ha he
  case field t x i => cases hw; exact p_field ha he
  case indexAddr t x i => cases hw; exact p_indexAddr ha he
  case index t x i => cases hw; exact p_index ha he
  case lookup t x i c => cases hw; exact p_lookup hH ha he
  case typeAssert x t t' c => cases hw; exact p_assert ha he
  case extract t i => cases hw; exact p_extract ha he
  case call c =>
    obtain ⟨callee, args, ts⟩ := c
    have hw : callW P callee args.toList ts.toList = .pas f := hw
    cases callee with
    | value x => cases hw
    | invoke x n => cases hw
    | builtin b =>
      cases b
      case len =>
        have hw : bLen P args.toList ts.toList = .pas f := hw
        unfold bLen at hw
        split at hw
        · rename_i h1 h2; cases hw
          have := arr1 h1; subst this
          exact p_len (arrH h2) hH ha he
        · cases hw
      case cap =>
        have hw : bCap P args.toList ts.toList = .pas f := hw
        unfold bCap at hw
        split at hw
        · rename_i h1 h2; cases hw
          have := arr1 h1; subst this
          exact p_cap (arrH h2) ha he
        · cases hw
      case min =>
        have hw : bLeast false args.toList = .pas f := hw
        unfold bLeast at hw
        split at hw
        · rename_i h1; cases hw
          have := arr2 h1; subst this
          exact p_least (gt := false) ha he
        · cases hw
      case max =>
        have hw : bLeast true args.toList = .pas f := hw
        unfold bLeast at hw
        split at hw
        · rename_i h1; cases hw
          have := arr2 h1; subst this
          exact p_least (gt := true) ha he
        · cases hw
      case append =>
        have hw : bAppend P args.toList ts.toList = .pas f := hw
        unfold bAppend at hw; split at hw <;> cases hw
      case copy =>
        have hw : bCopy P args.toList ts.toList = .pas f := hw
        unfold bCopy at hw; split at hw <;> cases hw
      case delete =>
        have hw : bDelete P args.toList ts.toList = .pas f := hw
        unfold bDelete at hw; split at hw <;> cases hw
      case clear =>
        have hw : bClear P args.toList ts.toList = .pas f := hw
        unfold bClear at hw; split at hw <;> cases hw
      all_goals cases hw
  case defer c =>
    have hw : deferW c.callee c.args.toList = .pas f := hw
    unfold deferW at hw; split at hw <;> cases hw
  all_goals cases hw
end
end Go.Am
namespace Go.Am
section
variable {P : Program} {β : BM} {σ σ' : St} {w : World} {a : Act} {fr : Fr} {dst : Option Tmp} {ty : TypeId} {pos : String} {aft : Array Edge} {g : Option (Nat × Bool)}

/-! Zeros -/
theorem zeros_zero (z : List V) : zeros z 0 = [] := rfl
theorem zeros_succ (z : List V) (n : Nat) : zeros z (n + 1) = z ++ zeros z n := rfl
theorem zeros_length (z : List V) : ∀ n, (zeros z n).length = n * z.length
  | 0 => by simp [zeros_zero]
  | n + 1 => by rw [zeros_succ, List.length_append, zeros_length z n, Nat.add_mul]; omega
theorem zeros_get (z : List V) : ∀ (n j : Nat) (v : V), (zeros z n)[j]? = some v → z[j % z.length]? = some v
  | 0, j, v, h => by simp [zeros_zero] at h
  | n + 1, j, v, h => by
    rw [zeros_succ, List.getElem?_append] at h
    split at h
    · rw [Nat.mod_eq_of_lt (by assumption)]; exact h
    · rename_i hj
      have := zeros_get z n (j - z.length) v h
      rwa [Nat.mod_eq_sub_mod (by omega)]

theorem zeros_sound {z : List V} {zs : Array Value} (h : LR β z zs.toList) (n : Nat) : LR β (zeros z n) (madeCells zs (n * z.length)).toList := by
  have hl : zs.size = z.length := by have := h.length; simpa using this
  refine LR.of_get (by simp [zeros_length, size_madeCells]) fun j v hj => ?_
  have hlt : j < n * z.length := by
    have := (List.getElem?_eq_some_iff.1 hj).1; rwa [zeros_length] at this
  have hpos : 0 < z.length := by
    cases hz : z.length with
    | zero => rw [hz] at hlt; simp at hlt
    | succ k => omega
  have hm := zeros_get z n j v hj
  obtain ⟨x, hx, hv⟩ := h.get hm
  refine ⟨x, ?_, hv⟩
  rw [Array.getElem?_toList] at hx ⊢
  have hb : j % z.length < zs.size := by rw [hl]; exact Nat.mod_lt _ hpos
  rw [Array.getElem?_eq_getElem hb] at hx
  cases hx
  simp only [madeCells, Array.getElem?_map]
  rw [Array.getElem?_eq_getElem (by simpa using hlt)]
  simp only [Array.getElem_range, Option.map_some, hl]
  rw [getElem!_pos zs _ hb]

theorem zeroElem_some {t e s : Nat} {z : List V} (h : zeroElem P t = some (e, s, z)) : undT P t = some (.slice e) ∧ sizeT P e = some s ∧ 0 < s ∧ z.length = s ∧
    ∃ it zv, P.info? e = some it ∧ it.zero = some zv ∧ it.size = s ∧ ∀ β, LR β z zv.cells.toList := by
  unfold zeroElem at h
  obtain ⟨⟨e', s'⟩, hes, h1⟩ := ob_eq.1 h
  obtain ⟨zz, hz, h2⟩ := ob_eq.1 h1
  obtain ⟨hl, h3⟩ := ok_eq.1 h2
  cases h3
  obtain ⟨hd, hs, hp⟩ := elemSized_some hes
  obtain ⟨zv, _, hzv, it, hit, hitz⟩ := run_zeroValue default hz
  obtain ⟨it', hit', hs'⟩ := sizeT_some hs
  rw [hit] at hit'; cases hit'
  exact ⟨hd, hs, hp, by have := Nat.eq_of_beq_eq_true hl; simpa using this, it, zv, hit, hitz, hs', fun β => (ofValue_sound (β := β) hzv).cells⟩

/-! What a lay lays -/
/-- The block, the number, the value: whatever the blocks laid before. -/
def Laid (P : Program) (β : BM) (w : World) (run : Result Next) (k : Nat) (o : Nat → O) (v : V) : Prop :=
  grpOf k (o k) = k ∧ ∃ z obj w' i, run = .ok (.value z) w' ∧ w'.heap = w.heap.push obj ∧ (w'.os = w.os ∧ w'.output = w.output ∧ w'.tape = w.tape) ∧ i.blk = w.heap.size ∧
    ∀ β', Ext β β' → β' k = some i → VR β' v z ∧ ∀ σ1, ObjR P β' σ1 k i (o k) obj

theorem laid_cells {β : BM} {e s n k : Nat} {cs : List V} {arr : Array Value} {fz : Nat × Nat} (hs : sizeT P e = some s) (hl : LR β cs (arr.toList.take n)) (hn : n ≤ arr.size) (hf : FZ arr.size fz) (hp : notBytes P e = true → fz = (0, 0)) (b : Nat)
    (β' : BM) (hx : Ext β β') (σ1 : St) : ObjR P β' σ1 k ⟨b, 0, s, arr.size⟩ (.cells e cs k) (.cells arr e fz) := by
  have hlen : cs.length ≤ n := by have := hl.length; rw [List.length_take] at this; omega
  refine ⟨arr, fz, rfl, hs, by simp, by show cs.length ≤ arr.size; omega, hf, hp, fun _ j v hj => ?_⟩
  have hl' := LR.mono hx _ _ hl
  obtain ⟨x, hx1, hv⟩ := hl'.get hj
  have : j < n := by have := (List.getElem?_eq_some_iff.1 hj).1; omega
  rw [List.getElem?_take, if_pos this, Array.getElem?_toList] at hx1
  exact ⟨x, by simpa using hx1, hv⟩

theorem zeroT_size {e : TypeId} {z : V} (h : zeroT P e = some z) : ∃ n, sizeT P e = some n := by
  unfold zeroT at h
  obtain ⟨i, hi, _⟩ := ob_eq.1 h
  exact ⟨i.size, by unfold sizeT; rw [hi]; rfl⟩

theorem LR.full {β : BM} {cs : List V} {arr : Array Value} (h : LR β cs arr.toList) : LR β cs (arr.toList.take arr.size) := by
  rw [List.take_of_length_le (by simp)]; exact h

theorem lay_alloc {e : TypeId} {v : V} (he : aAlloc P e fr σ = some (v, σ')) : ∃ k o, alloc σ o = some (k, σ') ∧
    Laid P β w ((execOp a.eval ⟨dst, .alloc e, ty, pos, aft, g⟩).run P w) k o v := by
  unfold aAlloc at he
  obtain ⟨z, hz, he1⟩ := ob_eq.1 he
  obtain ⟨k, σ1, hal, he2⟩ := ob2_eq.1 he1
  cases he2
  obtain ⟨zv, hrz, hzv, it, hit, hitz⟩ := run_zeroValue w hz
  obtain ⟨sz, hsz⟩ := zeroT_size hz
  refine ⟨k, _, hal, rfl, .pointer (some ⟨w.heap.size, 0, none⟩), .cells zv.cells e, w.alloc (.cells zv.cells e), ⟨w.heap.size, 0, sz, zv.cells.size⟩, ?_, rfl, ⟨rfl, rfl, rfl⟩, rfl, fun β' hx hk => ⟨?_, fun σ1 => ?_⟩⟩
  · simp [execOp, Instr.alloc, hrz, newVar, newRow]
  · simp only [VR]; exact ⟨_, rfl, _, hk, rfl⟩
  · exact laid_cells (n := zv.cells.size) hsz (ofValue_sound (β := β) hzv).cells.full (Nat.le_refl _) (.inl rfl) (fun _ => rfl) _ β' hx σ1

theorem lay_box {e : TypeId} {x : Operand} {v : V} (ha : TR β fr a.tmps) (he : aBox P e x fr σ = some (v, σ')) : ∃ k o, alloc σ o = some (k, σ') ∧
    Laid P β w ((execOp a.eval ⟨dst, .box e x, ty, pos, aft, g⟩).run P w) k o v := by
  unfold aBox at he
  obtain ⟨sz, hsz, he0⟩ := ob_eq.1 he
  obtain ⟨u, hu, he1⟩ := ob_eq.1 he0
  obtain ⟨k, σ1, hal, he2⟩ := ob2_eq.1 he1
  cases he2
  have h1 := ev_sound ha hu
  refine ⟨k, _, hal, rfl, .pointer (some ⟨w.heap.size, 0, none⟩), .cells (a.eval x).cells e, w.alloc (.cells (a.eval x).cells e), ⟨w.heap.size, 0, sz, (a.eval x).cells.size⟩, ?_, rfl, ⟨rfl, rfl, rfl⟩, rfl, fun β' hx hk => ⟨?_, fun σ1 => ?_⟩⟩
  · simp [execOp, Instr.box, newVar, newRow]
  · simp only [VR]; exact ⟨_, rfl, _, hk, rfl⟩
  · exact laid_cells (n := (a.eval x).cells.size) hsz h1.cells.full (Nat.le_refl _) (.inl rfl) (fun _ => rfl) _ β' hx σ1

theorem lay_buildSlice {t : TypeId} {n : Nat} {ps : Array (Nat × Operand)} {v : V} (ha : TR β fr a.tmps) (he : aBuildSlice P t n ps fr σ = some (v, σ')) : ∃ k o, alloc σ o = some (k, σ') ∧
    Laid P β w ((execOp a.eval ⟨dst, .buildSlice t n ps, ty, pos, aft, g⟩).run P w) k o v := by
  unfold aBuildSlice at he
  obtain ⟨⟨e, s, z⟩, hz, he0⟩ := ob_eq.1 he
  obtain ⟨hsm, he1⟩ := ok_eq.1 he0
  obtain ⟨l, hl, he2⟩ := ob_eq.1 he1
  obtain ⟨cs, hcs, he3⟩ := ob_eq.1 he2
  obtain ⟨k, σ1, hal, he4⟩ := ob2_eq.1 he3
  cases he4
  have hsm : n * s ≤ 16000000 := Nat.le_of_ble_eq_true hsm
  obtain ⟨hd, hsz, hpos, hzl, it, zv, hit, hitz, his, hlr⟩ := zeroElem_some hz
  subst his
  have hb : ∃ cells, Instr.fill (fun i => some (i * it.size, it.size)) (madeCells zv.cells (n * it.size)) (ps.map fun (i, x) => (i, a.eval x)).toList = some cells ∧ LR β cs cells.toList := by
    rw [Array.toList_map]
    have h0 := zeros_sound (hlr β) n
    rw [hzl] at h0
    exact fill_sound (place' := fun i => some (i * it.size, it.size)) (fun i q hq => hq) hcs (evParts_sound ha hl) h0
  obtain ⟨cells, hb1, hb2⟩ := hb
  refine ⟨k, _, hal, rfl, .slice (some ⟨w.heap.size, 0, none⟩) n n, .cells cells e, w.alloc (.cells cells e), ⟨w.heap.size, 0, it.size, cells.size⟩, ?_, rfl, ⟨rfl, rfl, rfl⟩, rfl, fun β' hx hk => ⟨?_, fun σ1 => ?_⟩⟩
  · by_cases hn : n * it.size = 0
    · have : (execOp a.eval ⟨dst, .buildSlice t n ps, ty, pos, aft, g⟩).run P w = ((Instr.buildSlice t n (ps.map fun (i, x) => (i, a.eval x))).run P w).andThen fun v w => .ok (.value v) w := by simp [execOp]
      have hb1' : Instr.fill (fun i => some (i * it.size, it.size)) #[] (ps.map fun (i, x) => (i, a.eval x)).toList = some cells := by
        rw [hn] at hb1; simpa [madeCells, Array.range_zero'] using hb1
      rw [this]
      simp only [Array.toList_map] at hb1'
      simp [Instr.buildSlice, run_underlying w hd, run_sizeOf w hsz, hn, newRow, Array.range_zero', hb1']
    · simp [execOp, run_buildSlice w t e n _ cells it zv (undT_some hd) hit hitz (by omega) hn hb1]
  · simp only [VR]; exact ⟨_, rfl, Nat.le_refl _, _, hk, rfl⟩
  · exact laid_cells (n := cells.size) hsz hb2.full (Nat.le_refl _) (.inl rfl) (fun _ => rfl) _ β' hx σ1

theorem lay_makeMap {t : TypeId} {r : Option Operand} {v : V} (ha : TR β fr a.tmps) (he : aMakeMap P t r fr σ = some (v, σ')) : ∃ k o, alloc σ o = some (k, σ') ∧
    Laid P β w ((execOp a.eval ⟨dst, .makeMap t r, ty, pos, aft, g⟩).run P w) k o v := by
  unfold aMakeMap at he
  obtain ⟨ke, hke, he0⟩ := ob_eq.1 he
  obtain ⟨n, hn, he1⟩ := ob_eq.1 he0
  obtain ⟨k, σ1, hal, he2⟩ := ob2_eq.1 (show ob2 (alloc σ fun _ => .map [] 0) (fun r σ => some (.map (some r), σ)) = some (v, σ') from he1)
  cases he2
  have hd := mapT_some hke
  refine ⟨k, _, hal, rfl, .map (some w.heap.size), .map #[] 0, w.alloc (.map #[] 0), ⟨w.heap.size, 0, 0, 0⟩, ?_, rfl, ⟨rfl, rfl, rfl⟩, rfl, fun β' hx hk => ⟨?_, fun σ1 => ?_⟩⟩
  · cases r with
    | none => simp [execOp, Instr.makeMap]
    | some x =>
      obtain ⟨kk, hx⟩ := bound_some ha hn
      simp [execOp, Instr.makeMap, run_underlying w hd, hx, asInt, asIntOf]
  · simp only [VR]; exact ⟨_, hk, rfl⟩
  · exact ⟨rfl, #[], rfl, .nil⟩

theorem bytesT_some {t : TypeId} {n : Nat} (h : bytesT P t = some n) : ∃ i, P.info? t = some i ∧ i.bytes = n := by
  unfold bytesT at h
  obtain ⟨i, hi, h⟩ := ob_eq.1 h
  exact ⟨i, infoT_some hi, Option.some.inj h⟩

theorem lay_makeSlice {t : TypeId} {l c : Operand} {v : V} (ha : TR β fr a.tmps) (he : aMakeSlice P t l c fr σ = some (v, σ')) : ∃ k o, alloc σ o = some (k, σ') ∧
    Laid P β w ((execOp a.eval ⟨dst, .makeSlice t l c, ty, pos, aft, g⟩).run P w) k o v := by
  unfold aMakeSlice at he
  obtain ⟨⟨e, s, z⟩, hz, he0⟩ := ob_eq.1 he
  obtain ⟨b, hb, he1⟩ := ob_eq.1 he0
  obtain ⟨n, hn, he2⟩ := ob_eq.1 he1
  obtain ⟨m, hm, he3⟩ := ob_eq.1 he2
  obtain ⟨hle, he4⟩ := ok_eq.1 he3
  obtain ⟨k, σ1, hal, he5⟩ := ob2_eq.1 he4
  cases he5
  simp only [Bool.and_eq_true] at hle
  have hnm : n ≤ m := Nat.le_of_ble_eq_true hle.1
  have hmb : m * (b + s) ≤ 100000000 := Nat.le_of_ble_eq_true hle.2
  obtain ⟨hd, hsz, hpos, hzl, it, zv, hit, hitz, his, hlr⟩ := zeroElem_some hz
  subst his
  obtain ⟨it', hit', hib⟩ := bytesT_some hb
  rw [show P.info? e = some it from hit] at hit'; cases hit'
  subst hib
  obtain ⟨kn, hkn⟩ := asNat_ev ha hn
  obtain ⟨km, hkm⟩ := asNat_ev ha hm
  rw [Nat.mul_add] at hmb
  have h1 : m ≤ m * it.size := Nat.le_mul_of_pos_right m hpos
  have hbm : it.bytes * m = m * it.bytes := Nat.mul_comm _ _
  have h48 : (it.bytes : Int) * (m : Int) ≤ 281474976710656 := by
    have h : ((it.bytes * m : Nat) : Int) ≤ 281474976710656 := by omega
    rwa [Int.natCast_mul] at h
  have hr := run_make (P := P) w t e it zv (undT_some hd) hit hitz kn km (n : Int) (m : Int) (by omega) (by omega) h48 (by omega)
  simp only [Int.toNat_natCast] at hr
  have h0 := zeros_sound (hlr β) m
  rw [hzl] at h0
  refine ⟨k, _, hal, rfl, .slice (some ⟨w.heap.size, 0, none⟩) n m, .cells (madeCells zv.cells (m * it.size)) e, w.alloc (.cells (madeCells zv.cells (m * it.size)) e), ⟨w.heap.size, 0, it.size, (madeCells zv.cells (m * it.size)).size⟩, ?_, rfl, ⟨rfl, rfl, rfl⟩, rfl, fun β' hx hk => ⟨?_, fun σ1 => ?_⟩⟩
  · simp [execOp, hkn, hkm, hr]
  · simp only [VR]; exact ⟨_, rfl, hnm, _, hk, rfl⟩
  · exact laid_cells (n := (madeCells zv.cells (m * it.size)).size) hsz h0.full (Nat.le_refl _) (.inl rfl) (fun _ => rfl) _ β' hx σ1

theorem le_grownCap (w : World) (n o : Nat) (e : TypeId) : n ≤ grownCap w n o e := by
  unfold grownCap Question.cut; exact Nat.le_add_right _ _

theorem lay_conv {s d : TypeId} {x : Operand} {v : V} (ha : TR β fr a.tmps) (he : aConv P s d x fr σ = some (v, σ')) : ∃ k o, alloc σ o = some (k, σ') ∧
    Laid P β w ((execOp a.eval ⟨dst, .convert s d x, ty, pos, aft, g⟩).run P w) k o v := by
  unfold aConv at he
  obtain ⟨⟨e, sz⟩, hes, he0⟩ := ob_eq.1 he
  obtain ⟨hc, he1⟩ := ok_eq.1 he0
  obtain ⟨u, hu, he2⟩ := ob_eq.1 he1
  simp only [Bool.and_eq_true] at hc
  obtain ⟨hd, hsz, _⟩ := elemSized_some hes
  have h1 : sz = 1 := Nat.eq_of_beq_eq_true hc.2
  subst h1
  have hs := stringT_some hc.1.1
  have hb := byteT_some hc.1.2
  have h1 := ev_sound ha hu
  unfold strBytes at he2
  split at he2
  · rename_i l
    obtain ⟨k, σ1, hal, he3⟩ := ob2_eq.1 he2
    cases he3
    simp only [VR] at h1
    obtain ⟨q, hq, hql⟩ := h1
    have hqn : q.size = l.length := by subst hql; rw [List.length_map]; rfl
    have hr := run_bytes_of_string (P := P) w s d e q (undT_some hs) (undT_some hd) (undT_some hb)
    have hge := le_grownCap w q.size 0 e
    have hsize : (bytesRow q (grownCap w q.size 0 e)).size = grownCap w q.size 0 e := by
      simp [bytesRow]
      have : q.data.size = q.size := rfl
      omega
    refine ⟨k, _, hal, rfl, .slice (some ⟨w.heap.size, 0, none⟩) q.size (grownCap w q.size 0 e), .cells (bytesRow q (grownCap w q.size 0 e)) e ((bytesRow q (grownCap w q.size 0 e)).size, (bytesRow q (grownCap w q.size 0 e)).size + 1),
      w.drew.alloc (.cells (bytesRow q (grownCap w q.size 0 e)) e ((bytesRow q (grownCap w q.size 0 e)).size, (bytesRow q (grownCap w q.size 0 e)).size + 1)), ⟨w.heap.size, 0, 1, (bytesRow q (grownCap w q.size 0 e)).size⟩, ?_, rfl, ⟨rfl, rfl, rfl⟩, rfl, fun β' hx hk => ⟨?_, fun σ1 => ?_⟩⟩
    · simp only [execOp, hq, Sem.run_bind, hr]; rfl
    · simp only [VR]
      refine ⟨_, grownCap w q.size 0 e, by rw [hqn]; simp, by rw [len_eq, ← hqn]; exact hge, _, hk, .inl ⟨rfl, ?_⟩⟩
      show 0 + grownCap w q.size 0 e * 1 = (bytesRow q (grownCap w q.size 0 e)).size
      omega
    · refine laid_cells (n := q.size) hsz ?_ (by omega) (.inr (Nat.le_refl _)) (fun h => ?_) _ β' hx σ1
      · have ht : (bytesRow q (grownCap w q.size 0 e)).toList.take q.size = q.data.toList.map fun b => Value.int .u8 b.toNat := by
          have : q.data.size = q.size := rfl
          simp only [bytesRow, Array.toList_append, Array.toList_map]
          rw [List.take_append_of_le_length (by simp), List.take_of_length_le (by simp)]
        rw [ht]
        subst hql
        refine LR.of_get (by simp) fun j v hj => ?_
        simp only [List.map_map, List.getElem?_map, Option.map_eq_some_iff] at hj
        obtain ⟨b, hb, rfl⟩ := hj
        exact ⟨_, by rw [List.getElem?_map, hb]; rfl, by simp [VR]⟩
      · unfold notBytes at h; rw [hb] at h; cases h
  · cases he2

theorem lay_sound {o : Op} {f : Es} {v : V} (hw : opw P o = .lay f) (ha : TR β fr a.tmps) (he : f fr σ = some (v, σ')) : ∃ k ob, alloc σ ob = some (k, σ') ∧
    Laid P β w ((execOp a.eval ⟨dst, o, ty, pos, aft, g⟩).run P w) k ob v := by
  cases o
  case alloc e => cases hw; exact lay_alloc he
  case box e x => cases hw; exact lay_box ha he
  case buildSlice t n ps => cases hw; exact lay_buildSlice ha he
  case makeSlice t l c => cases hw; exact lay_makeSlice ha he
  case makeMap t r => cases hw; exact lay_makeMap ha he
  case convert s d x =>
    have hw : convW P s d x = .lay f := hw
    unfold convW at hw
    cases hd : elemT P d with
    | some e => rw [hd] at hw; cases hw; exact lay_conv ha he
    | none => rw [hd] at hw; cases hw
  case call c =>
    obtain ⟨callee, args, ts⟩ := c
    have hw : callW P callee args.toList ts.toList = .lay f := hw
    cases callee with
    | value x => cases hw
    | invoke x n => cases hw
    | builtin b =>
      cases b
      case len => have hw : bLen P args.toList ts.toList = .lay f := hw; unfold bLen at hw; split at hw <;> cases hw
      case cap => have hw : bCap P args.toList ts.toList = .lay f := hw; unfold bCap at hw; split at hw <;> cases hw
      case min => have hw : bLeast false args.toList = .lay f := hw; unfold bLeast at hw; split at hw <;> cases hw
      case max => have hw : bLeast true args.toList = .lay f := hw; unfold bLeast at hw; split at hw <;> cases hw
      case append => have hw : bAppend P args.toList ts.toList = .lay f := hw; unfold bAppend at hw; split at hw <;> cases hw
      case copy => have hw : bCopy P args.toList ts.toList = .lay f := hw; unfold bCopy at hw; split at hw <;> cases hw
      case delete => have hw : bDelete P args.toList ts.toList = .lay f := hw; unfold bDelete at hw; split at hw <;> cases hw
      case clear => have hw : bClear P args.toList ts.toList = .lay f := hw; unfold bClear at hw; split at hw <;> cases hw
      all_goals cases hw
  case defer c =>
    have hw : deferW c.callee c.args.toList = .lay f := hw
    unfold deferW at hw; split at hw <;> cases hw
  all_goals cases hw
end
end Go.Am
