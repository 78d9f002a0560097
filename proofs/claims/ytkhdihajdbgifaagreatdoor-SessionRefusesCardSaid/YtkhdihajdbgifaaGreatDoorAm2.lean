/-
  The abstract machine and the model: values, memory, loads and stores agree.
-/
import Derived.Test.YtkhdihajdbgifaaGreatDoorAm1
import Derived.Laws.Cells
import Derived.Laws.CopyRow
import Derived.Lib.FrozenHead
namespace Go.Am

@[simp] theorem ob_none {α β : Type} (f : α → Option β) : ob none f = none := rfl
@[simp] theorem ob_some {α β : Type} (a : α) (f : α → Option β) : ob (some a) f = f a := rfl
@[simp] theorem ob2_some {α β γ : Type} (a : α) (b : β) (f : α → β → Option γ) : ob2 (some (a, b)) f = f a b := rfl
@[simp] theorem ob2_none {α β γ : Type} (f : α → β → Option γ) : ob2 none f = none := rfl
@[simp] theorem ob3_some {α β γ δ : Type} (a : α) (b : β) (c : γ) (f : α → β → γ → Option δ) : ob3 (some (a, b, c)) f = f a b c := rfl
@[simp] theorem ob3_none {α β γ δ : Type} (f : α → β → γ → Option δ) : ob3 none f = none := rfl
@[simp] theorem ok_true {β : Type} (x : Option β) : ok true x = x := rfl
@[simp] theorem ok_false {β : Type} (x : Option β) : ok false x = none := rfl

theorem ob_eq {α β : Type} {x : Option α} {f : α → Option β} {b : β} : ob x f = some b ↔ ∃ a, x = some a ∧ f a = some b := by
  cases x <;> simp
theorem ob2_eq {α β γ : Type} {x : Option (α × β)} {f : α → β → Option γ} {c : γ} : ob2 x f = some c ↔ ∃ a b, x = some (a, b) ∧ f a b = some c := by
  cases x with
  | none => simp
  | some p =>
    obtain ⟨a, b⟩ := p
    constructor
    · intro h; exact ⟨a, b, rfl, h⟩
    · rintro ⟨a', b', e, h⟩; cases e; exact h
theorem ob3_eq {α β γ δ : Type} {x : Option (α × β × γ)} {f : α → β → γ → Option δ} {d : δ} : ob3 x f = some d ↔ ∃ a b c, x = some (a, b, c) ∧ f a b c = some d := by
  cases x with
  | none => simp
  | some p =>
    obtain ⟨a, b, c⟩ := p
    constructor
    · intro h; exact ⟨a, b, c, rfl, h⟩
    · rintro ⟨a', b', c', e, h⟩; cases e; exact h
theorem ok_eq {β : Type} {b : Bool} {x : Option β} {y : β} : ok b x = some y ↔ b = true ∧ x = some y := by
  cases b <;> simp

/-! The trie -/

theorem bits_zero : bits 0 = [] := rfl
theorem bitsF_zero (f : Nat) : bitsF f 0 = [] := by cases f <;> rfl
theorem bitsF_succ (f m : Nat) : bitsF (f + 1) (m + 1) = (Nat.beq (Nat.mod m 2) 0) :: bitsF f (Nat.div m 2) := rfl
theorem bitsF_enough : ∀ (n f : Nat), n ≤ f → bitsF f n = bitsF n n := by
  intro n
  induction n using Nat.strongRecOn with
  | _ n ih =>
    intro f h
    cases n with
    | zero => rw [bitsF_zero, bitsF_zero]
    | succ m =>
      cases f with
      | zero => omega
      | succ f =>
        rw [bitsF_succ, bitsF_succ]
        have h2 : Nat.div m 2 ≤ m := Nat.div_le_self m 2
        rw [ih (Nat.div m 2) (by omega) f (by omega), ih (Nat.div m 2) (by omega) m h2]
theorem bits_succ (m : Nat) : bits (m + 1) = (Nat.beq (Nat.mod m 2) 0) :: bits (Nat.div m 2) := by
  unfold bits
  rw [bitsF_succ, bitsF_enough (Nat.div m 2) m (Nat.div_le_self m 2)]
theorem bits_inj : ∀ (n m : Nat), bits n = bits m → n = m := by
  intro n
  induction n using Nat.strongRecOn with
  | _ n ih =>
    intro m h
    cases n with
    | zero => cases m with
      | zero => rfl
      | succ m => rw [bits_zero, bits_succ] at h; cases h
    | succ n => cases m with
      | zero => rw [bits_zero, bits_succ] at h; cases h
      | succ m =>
        rw [bits_succ, bits_succ] at h
        obtain ⟨h1, h2⟩ := List.cons.inj h
        have h3 := ih (Nat.div n 2) (by have : Nat.div n 2 ≤ n := Nat.div_le_self n 2; omega) _ h2
        have h4 : (n % 2 = 0) ↔ (m % 2 = 0) := by
          have e1 : Nat.beq (n % 2) 0 = Nat.beq (m % 2) 0 := h1
          constructor
          · intro h; rw [h] at e1; exact Nat.eq_of_beq_eq_true e1.symm
          · intro h; rw [h] at e1; exact Nat.eq_of_beq_eq_true e1
        have h5 : n / 2 = m / 2 := h3
        omega

section
variable {α : Type}

@[simp] theorem T.getP_e (p : List Bool) : T.getP p (T.e : T α) = none := by
  cases p with
  | nil => rfl
  | cons b p => cases b <;> rfl
@[simp] theorem T.getP_nil (l : T α) (v : Option α) (r : T α) : T.getP [] (.n l v r) = v := rfl
@[simp] theorem T.getP_false (l : T α) (v : Option α) (r : T α) (p : List Bool) : T.getP (false :: p) (.n l v r) = T.getP p l := rfl
@[simp] theorem T.getP_true (l : T α) (v : Option α) (r : T α) (p : List Bool) : T.getP (true :: p) (.n l v r) = T.getP p r := rfl

theorem T.lazy_nil (v : α) (t : T α) : T.lazyP v [] t = match t with | .e => .n .e (some v) .e | .n l _ r => .n l (some v) r := by cases t <;> rfl
theorem T.lazy_false (v : α) (p : List Bool) (t : T α) : T.lazyP v (false :: p) t = match t with | .e => .n (T.lazyP v p .e) none .e | .n l w r => .n (T.lazyP v p l) w r := by cases t <;> rfl
theorem T.lazy_true (v : α) (p : List Bool) (t : T α) : T.lazyP v (true :: p) t = match t with | .e => .n .e none (T.lazyP v p .e) | .n l w r => .n l w (T.lazyP v p r) := by cases t <;> rfl

theorem T.getP_lazy (v : α) : ∀ (p q : List Bool) (t : T α), T.getP q (T.lazyP v p t) = if p = q then some v else T.getP q t := by
  intro p
  induction p with
  | nil =>
    intro q t
    rw [T.lazy_nil]
    cases t <;> cases q with
    | nil => simp
    | cons b q => cases b <;> simp
  | cons b p ih =>
    intro q t
    cases b
    · rw [T.lazy_false]
      cases t <;> cases q with
      | nil => simp
      | cons c q => cases c <;> simp [ih]
    · rw [T.lazy_true]
      cases t <;> cases q with
      | nil => simp
      | cons c q => cases c <;> simp [ih]

theorem T.set_nil (v : α) (t : T α) : T.setP v [] t = T.lazyP v [] t := rfl
theorem T.set_cons (v : α) (b : Bool) (p : List Bool) (t : T α) : T.setP v (b :: p) t = T.hang b t (T.setP v p (T.sub b t)) := rfl
theorem T.hang_n (b : Bool) (t l : T α) (v : Option α) (r : T α) : T.hang b t (.n l v r) = match b, t with
  | false, .e => .n (.n l v r) none .e
  | true, .e => .n .e none (.n l v r)
  | false, .n _ v' r' => .n (.n l v r) v' r'
  | true, .n l' v' _ => .n l' v' (.n l v r) := by cases b <;> cases t <;> rfl

theorem T.lazy_ne (v : α) : ∀ (p : List Bool) (t : T α), ∃ l w r, T.lazyP v p t = .n l w r := by
  intro p t
  cases p with
  | nil => rw [T.lazy_nil]; cases t <;> exact ⟨_, _, _, rfl⟩
  | cons b p => cases b
                · rw [T.lazy_false]; cases t <;> exact ⟨_, _, _, rfl⟩
                · rw [T.lazy_true]; cases t <;> exact ⟨_, _, _, rfl⟩
theorem T.set_eq_lazy (v : α) : ∀ (p : List Bool) (t : T α), T.setP v p t = T.lazyP v p t := by
  intro p
  induction p with
  | nil => intro t; rfl
  | cons b p ih =>
    intro t
    rw [T.set_cons, ih]
    obtain ⟨l, w, r, h⟩ := T.lazy_ne v p (T.sub b t)
    rw [h, T.hang_n]
    cases b
    · rw [T.lazy_false]
      cases t with
      | e => have h' : T.lazyP v p (T.e : T α) = .n l w r := h
             simp only [h']
      | n a b c => have h' : T.lazyP v p a = .n l w r := h
                   simp only [h']
    · rw [T.lazy_true]
      cases t with
      | e => have h' : T.lazyP v p (T.e : T α) = .n l w r := h
             simp only [h']
      | n a b c => have h' : T.lazyP v p c = .n l w r := h
                   simp only [h']

theorem T.lay_eq (t : T α) (i : Nat) (v : α) : t.lay i v = t.put i v := (T.set_eq_lazy v (bits i) t).symm

@[simp] theorem T.get_e (i : Nat) : (T.e : T α).get i = none := T.getP_e _
theorem T.get_put (t : T α) (i j : Nat) (v : α) : (t.put i v).get j = if i = j then some v else t.get j := by
  unfold T.get T.put
  rw [T.set_eq_lazy, T.getP_lazy]
  by_cases h : i = j
  · simp [h]
  · rw [if_neg h, if_neg (fun e => h (bits_inj _ _ e))]
@[simp] theorem T.get_put_self (t : T α) (i : Nat) (v : α) : (t.put i v).get i = some v := by rw [T.get_put, if_pos rfl]
theorem T.get_put_ne (t : T α) {i j : Nat} (v : α) (h : i ≠ j) : (t.put i v).get j = t.get j := by rw [T.get_put, if_neg h]
theorem T.get_lay (t : T α) (i j : Nat) (v : α) : (t.lay i v).get j = if i = j then some v else t.get j := by rw [T.lay_eq, T.get_put]

theorem T.fill_cons (a : α) (l : List α) (i : Nat) (t : T α) : T.fill (a :: l) i t = T.fill l (i + 1) (t.put i a) := by cases t <;> rfl
theorem T.get_fill : ∀ (l : List α) (i : Nat) (t : T α) (j : Nat), (T.fill l i t).get j = if i ≤ j ∧ j < i + l.length then l[j - i]? else t.get j := by
  intro l
  induction l with
  | nil => intro i t j; rw [if_neg (by simp only [List.length_nil]; omega)]; rfl
  | cons a l ih =>
    intro i t j
    rw [T.fill_cons, ih, T.get_put]
    by_cases h : i = j
    · subst h; rw [if_neg (by omega), if_pos rfl, if_pos (by constructor <;> simp)]; simp
    · rw [if_neg h]
      by_cases h2 : i + 1 ≤ j ∧ j < i + 1 + l.length
      · rw [if_pos h2, if_pos (by simp; omega)]
        obtain ⟨k, rfl⟩ : ∃ k, j = i + 1 + k := ⟨j - (i + 1), by omega⟩
        have e1 : i + 1 + k - (i + 1) = k := by omega
        have e2 : i + 1 + k - i = k + 1 := by omega
        rw [e1, e2]; simp
      · rw [if_neg h2, if_neg (by simp; omega)]
end

/-! Lists -/
section
variable {α : Type}
@[simp] theorem len_eq (l : List α) : len l = l.length := by
  induction l with
  | nil => rfl
  | cons a l ih => show Nat.succ (len l) = _; rw [ih]; rfl
@[simp] theorem dropN_eq (n : Nat) (l : List α) : dropN n l = l.drop n := by
  induction n generalizing l with
  | zero => rfl
  | succ n ih => cases l with
    | nil => rfl
    | cons a l => exact ih l
theorem takeN_zero (l : List α) : takeN 0 l = some [] := rfl
theorem takeN_succ_nil (n : Nat) : takeN (n + 1) ([] : List α) = none := rfl
theorem takeN_succ_cons (n : Nat) (a : α) (l : List α) : takeN (n + 1) (a :: l) = ob (takeN n l) fun r => some (a :: r) := rfl
theorem takeN_eq (n : Nat) (l : List α) : takeN n l = if n ≤ l.length then some (l.take n) else none := by
  induction n generalizing l with
  | zero => simp [takeN_zero]
  | succ n ih => cases l with
    | nil => simp [takeN_succ_nil]
    | cons a l =>
      rw [takeN_succ_cons, ih]
      by_cases h : n ≤ l.length
      · rw [if_pos h, if_pos (by simpa using h)]; rfl
      · rw [if_neg h, if_neg (by simpa using h)]; rfl
theorem takeN_some {n : Nat} {l r : List α} : takeN n l = some r ↔ n ≤ l.length ∧ r = l.take n := by
  rw [takeN_eq]
  by_cases h : n ≤ l.length
  · rw [if_pos h]; exact ⟨fun e => ⟨h, (Option.some.inj e).symm⟩, fun e => by rw [e.2]⟩
  · rw [if_neg h]; exact ⟨fun e => (by cases e), fun e => absurd e.1 h⟩
@[simp] theorem nth_eq (n : Nat) (l : List α) : nth n l = l[n]? := by
  induction n generalizing l with
  | zero => cases l <;> rfl
  | succ n ih => cases l with
    | nil => rfl
    | cons a l => rw [List.getElem?_cons_succ]; exact ih l
theorem mapO_nil {β : Type} (f : α → Option β) : mapO f [] = some [] := rfl
theorem mapO_cons {β : Type} (f : α → Option β) (a : α) (l : List α) : mapO f (a :: l) = ob (f a) fun v => ob (mapO f l) fun vs => some (v :: vs) := rfl
end

end Go.Am
namespace Go.Am

/-! WHAT AN ABSTRACT STATE SAYS OF A WORLD -/

/-- Where an abstract block lies: the block, the place in it, an element's size, how far its room goes. -/
structure BI where
  blk : Nat
  off : Nat
  size : Nat
  e : Nat
abbrev BM := Nat → Option BI

def FnR (β : BM) (f f' : Fn) : Prop :=
  match f with
  | .yield l => ∃ i, β l = some i ∧ f' = .yield i.blk
  | f => f' = f

def PtrR (β : BM) (a : Nat × Nat) (p : Addr) : Prop := ∃ i, β a.1 = some i ∧ p = ⟨i.blk, i.off + a.2, none⟩

mutual
def VR (β : BM) : V → Value → Prop
  | .bool a, x => x = .bool a
  | .int k n, x => x = .int k n
  | .str s, x => ∃ t, x = .string t ∧ t.data.toList.map UInt8.toNat = s
  | .ptr none, x => x = .pointer none
  | .ptr (some a), x => ∃ p, x = .pointer (some p) ∧ PtrR β a p
  | .slc none _ none, _ => False
  | .slc none n (some c), x => x = .slice none n c
  | .slc (some a) n (some c), x => ∃ p, x = .slice (some p) n c ∧ n ≤ c ∧ PtrR β a p
  | .slc (some a) n none, x => ∃ p c, x = .slice (some p) n c ∧ n ≤ c ∧ ∃ i, β a.1 = some i ∧ ((p = ⟨i.blk, i.off + a.2, none⟩ ∧ a.2 + c * i.size = i.e) ∨ (n = 0 ∧ c = 0 ∧ a.2 = i.e))
  | .map none, x => x = .map none
  | .map (some r), x => ∃ i, β r = some i ∧ x = .map (some i.blk)
  | .fn f a b, x => ∃ f' a' b', x = .func f' a' b' ∧ FnR β f f' ∧ LR β a a'.toList ∧ LR β b b'.toList
  | .nilfn, x => x = .nilFunc
  | .ifc t v, x => ∃ v', x = .iface t v' ∧ VR β v v'
  | .nilifc, x => x = .nilIface
  | .agg cs, x => ∃ cs', x = .agg cs' ∧ LR β cs cs'.toList
  | .tup vs, x => ∃ vs', x = .tuple vs' ∧ LR β vs vs'.toList
  | .osl a n c, x => x = .slice a n c
def LR (β : BM) : List V → List Value → Prop
  | [], l => l = []
  | v :: vs, l => ∃ x xs, l = x :: xs ∧ VR β v x ∧ LR β vs xs
end

def Ext (β β' : BM) : Prop := ∀ b i, β b = some i → β' b = some i
theorem Ext.refl (β : BM) : Ext β β := fun _ _ h => h
theorem Ext.trans {β β' β'' : BM} (h : Ext β β') (h' : Ext β' β'') : Ext β β'' := fun b i hb => h' b i (h b i hb)

theorem FnR.mono {β β' : BM} (h : Ext β β') {f f' : Fn} (hf : FnR β f f') : FnR β' f f' := by
  cases f <;> simp only [FnR] at hf ⊢ <;> first | exact hf | (obtain ⟨i, hi, rfl⟩ := hf; exact ⟨i, h _ _ hi, rfl⟩)
theorem PtrR.mono {β β' : BM} (h : Ext β β') {a : Nat × Nat} {p : Addr} (hp : PtrR β a p) : PtrR β' a p := by
  obtain ⟨i, hi, rfl⟩ := hp; exact ⟨i, h _ _ hi, rfl⟩

mutual
theorem VR.mono {β β' : BM} (h : Ext β β') : ∀ (v : V) (x : Value), VR β v x → VR β' v x
  | .bool _, _, hv => by simpa only [VR] using hv
  | .int _ _, _, hv => by simpa only [VR] using hv
  | .str _, _, hv => by simpa only [VR] using hv
  | .ptr none, _, hv => by simpa only [VR] using hv
  | .ptr (some a), _, hv => by
    simp only [VR] at hv ⊢
    obtain ⟨p, rfl, hp⟩ := hv
    exact ⟨p, rfl, hp.mono h⟩
  | .slc none _ none, _, hv => by simp only [VR] at hv
  | .slc none _ (some _), _, hv => by simpa only [VR] using hv
  | .slc (some a) n (some c), _, hv => by
    simp only [VR] at hv ⊢
    obtain ⟨p, rfl, hn, hp⟩ := hv
    exact ⟨p, rfl, hn, hp.mono h⟩
  | .slc (some a) n none, _, hv => by
    simp only [VR] at hv ⊢
    obtain ⟨p, c, rfl, hn, i, hi, hp⟩ := hv
    exact ⟨p, c, rfl, hn, i, h _ _ hi, hp⟩
  | .map none, _, hv => by simpa only [VR] using hv
  | .map (some r), _, hv => by
    simp only [VR] at hv ⊢
    obtain ⟨i, hi, rfl⟩ := hv
    exact ⟨i, h _ _ hi, rfl⟩
  | .fn f a b, _, hv => by
    simp only [VR] at hv ⊢
    obtain ⟨f', a', b', rfl, hf, ha, hb⟩ := hv
    exact ⟨f', a', b', rfl, hf.mono h, LR.mono h a _ ha, LR.mono h b _ hb⟩
  | .nilfn, _, hv => by simpa only [VR] using hv
  | .ifc t v, _, hv => by
    simp only [VR] at hv ⊢
    obtain ⟨v', rfl, hv'⟩ := hv
    exact ⟨v', rfl, VR.mono h v _ hv'⟩
  | .nilifc, _, hv => by simpa only [VR] using hv
  | .agg cs, _, hv => by
    simp only [VR] at hv ⊢
    obtain ⟨cs', rfl, hc⟩ := hv
    exact ⟨cs', rfl, LR.mono h cs _ hc⟩
  | .tup vs, _, hv => by
    simp only [VR] at hv ⊢
    obtain ⟨cs', rfl, hc⟩ := hv
    exact ⟨cs', rfl, LR.mono h vs _ hc⟩
  | .osl _ _ _, _, hv => by simpa only [VR] using hv
theorem LR.mono {β β' : BM} (h : Ext β β') : ∀ (l : List V) (xs : List Value), LR β l xs → LR β' l xs
  | [], _, hl => by simpa only [LR] using hl
  | v :: vs, _, hl => by
    simp only [LR] at hl ⊢
    obtain ⟨x, xs, rfl, hv, hs⟩ := hl
    exact ⟨x, xs, rfl, VR.mono h v x hv, LR.mono h vs xs hs⟩
end

/-! Lists of values -/

theorem LR.length {β : BM} : ∀ {l : List V} {xs : List Value}, LR β l xs → xs.length = l.length
  | [], _, h => by simp only [LR] at h; subst h; rfl
  | v :: vs, _, h => by
    simp only [LR] at h
    obtain ⟨x, xs, rfl, _, hs⟩ := h
    simp [LR.length hs]
theorem LR.nil (β : BM) : LR β [] [] := by simp only [LR]
theorem LR.cons {β : BM} {v : V} {x : Value} {l : List V} {xs : List Value} (h : VR β v x) (hs : LR β l xs) : LR β (v :: l) (x :: xs) := by
  simp only [LR]; exact ⟨x, xs, rfl, h, hs⟩
theorem LR.append {β : BM} : ∀ {l l' : List V} {xs xs' : List Value}, LR β l xs → LR β l' xs' → LR β (l ++ l') (xs ++ xs')
  | [], l', _, xs', h, h' => by simp only [LR] at h; subst h; simpa using h'
  | v :: vs, l', _, xs', h, h' => by
    simp only [LR] at h
    obtain ⟨x, xs, rfl, hv, hs⟩ := h
    exact LR.cons hv (LR.append hs h')
theorem LR.get {β : BM} : ∀ {l : List V} {xs : List Value} {n : Nat} {v : V}, LR β l xs → l[n]? = some v → ∃ x, xs[n]? = some x ∧ VR β v x
  | [], _, _, _, _, hn => by simp at hn
  | w :: vs, _, n, v, h, hn => by
    simp only [LR] at h
    obtain ⟨x, xs, rfl, hv, hs⟩ := h
    cases n with
    | zero => simp at hn; subst hn; exact ⟨x, rfl, hv⟩
    | succ n => simpa using LR.get hs (by simpa using hn)
theorem LR.of_get {β : BM} : ∀ {l : List V} {xs : List Value}, xs.length = l.length → (∀ (n : Nat) (v : V), l[n]? = some v → ∃ x, xs[n]? = some x ∧ VR β v x) → LR β l xs
  | [], xs, hl, _ => by simp only [LR]; exact List.eq_nil_of_length_eq_zero hl
  | v :: vs, xs, hl, h => by
    cases xs with
    | nil => simp at hl
    | cons x xs =>
      obtain ⟨y, hy, hv⟩ := h 0 v rfl
      simp at hy; subst hy
      exact LR.cons hv (LR.of_get (by simpa using hl) fun n u hn => by simpa using h (n + 1) u (by simpa using hn))
theorem LR.drop {β : BM} {l : List V} {xs : List Value} (h : LR β l xs) (n : Nat) : LR β (l.drop n) (xs.drop n) :=
  LR.of_get (by simp [h.length]) fun k v hk => by
    rw [List.getElem?_drop] at hk
    obtain ⟨x, hx, hv⟩ := h.get hk
    exact ⟨x, by rw [List.getElem?_drop]; exact hx, hv⟩
theorem LR.take {β : BM} {l : List V} {xs : List Value} (h : LR β l xs) (n : Nat) : LR β (l.take n) (xs.take n) :=
  LR.of_get (by simp [h.length]) fun k v hk => by
    rw [List.getElem?_take] at hk
    split at hk
    · rename_i hlt
      obtain ⟨x, hx, hv⟩ := h.get hk
      exact ⟨x, by rw [List.getElem?_take, if_pos hlt]; exact hx, hv⟩
    · cases hk

/-- The cells of a value. -/
theorem VR.cells {β : BM} {v : V} {x : Value} (h : VR β v x) : LR β v.cells x.cells.toList := by
  cases v with
  | agg cs => simp only [VR] at h; obtain ⟨cs', rfl, hc⟩ := h; exact hc
  | bool b => simp only [VR] at h; subst h; exact LR.cons (by simp only [VR]) (LR.nil _)
  | int k n => simp only [VR] at h; subst h; exact LR.cons (by simp only [VR]) (LR.nil _)
  | str s => have h' := h; simp only [VR] at h; obtain ⟨t, rfl, _⟩ := h; exact LR.cons h' (LR.nil _)
  | ptr a => have h' := h; cases a <;> simp only [VR] at h
             · subst h; exact LR.cons h' (LR.nil _)
             · obtain ⟨p, rfl, _⟩ := h; exact LR.cons h' (LR.nil _)
  | slc a n c => have h' := h; cases a <;> cases c <;> simp only [VR] at h
                 · subst h; exact LR.cons h' (LR.nil _)
                 · obtain ⟨p, c, rfl, _⟩ := h; exact LR.cons h' (LR.nil _)
                 · obtain ⟨p, rfl, _⟩ := h; exact LR.cons h' (LR.nil _)
  | map r => have h' := h; cases r <;> simp only [VR] at h
             · subst h; exact LR.cons h' (LR.nil _)
             · obtain ⟨i, _, rfl⟩ := h; exact LR.cons h' (LR.nil _)
  | fn f a b => have h' := h; simp only [VR] at h; obtain ⟨f', a', b', rfl, _⟩ := h; exact LR.cons h' (LR.nil _)
  | nilfn => simp only [VR] at h; subst h; exact LR.cons (by simp only [VR]) (LR.nil _)
  | ifc t v => have h' := h; simp only [VR] at h; obtain ⟨v', rfl, _⟩ := h; exact LR.cons h' (LR.nil _)
  | nilifc => simp only [VR] at h; subst h; exact LR.cons (by simp only [VR]) (LR.nil _)
  | tup vs => have h' := h; simp only [VR] at h; obtain ⟨v', rfl, _⟩ := h; exact LR.cons h' (LR.nil _)
  | osl a n c => simp only [VR] at h; subst h; exact LR.cons (by simp only [VR]) (LR.nil _)

theorem VR.one {β : BM} {v : V} {x : Value} (h : VR β v x) (h1 : v.one = true) : x.oneCell' = true := by
  cases v with
  | agg cs => cases h1
  | tup cs => cases h1
  | bool b => simp only [VR] at h; subst h; rfl
  | int k n => simp only [VR] at h; subst h; rfl
  | str s => simp only [VR] at h; obtain ⟨t, rfl, _⟩ := h; rfl
  | ptr a => cases a <;> simp only [VR] at h
             · subst h; rfl
             · obtain ⟨p, rfl, _⟩ := h; rfl
  | slc a n c => cases a <;> cases c <;> simp only [VR] at h
                 · subst h; rfl
                 · obtain ⟨p, c, rfl, _⟩ := h; rfl
                 · obtain ⟨p, rfl, _⟩ := h; rfl
  | map r => cases r <;> simp only [VR] at h
             · subst h; rfl
             · obtain ⟨i, _, rfl⟩ := h; rfl
  | fn f a b => simp only [VR] at h; obtain ⟨f', a', b', rfl, _⟩ := h; rfl
  | nilfn => simp only [VR] at h; subst h; rfl
  | ifc t v => simp only [VR] at h; obtain ⟨v', rfl, _⟩ := h; rfl
  | nilifc => simp only [VR] at h; subst h; rfl
  | osl a n c => simp only [VR] at h; subst h; rfl

theorem VR_undef (β : BM) : VR β Am.undef Go.undef := by
  simp only [Am.undef, Go.undef, VR]; exact ⟨#[], rfl, LR.nil _⟩

/-! Constants -/

theorem scalarOf_sound {β : BM} {x : Value} {v : V} (h : scalarOf x = some v) : VR β v x := by
  unfold scalarOf at h
  split at h <;> first | (cases h; done) | skip
  all_goals (have := Option.some.inj h; subst this; simp only [VR])
  exact ⟨_, rfl, rfl⟩
theorem scalars_sound {β : BM} : ∀ {xs : List Value} {l : List V}, mapO scalarOf xs = some l → LR β l xs
  | [], l, h => by rw [mapO_nil] at h; have := Option.some.inj h; subst this; exact LR.nil _
  | x :: xs, l, h => by
    rw [mapO_cons] at h
    obtain ⟨v, hv, h⟩ := ob_eq.1 h
    obtain ⟨vs, hvs, h⟩ := ob_eq.1 h
    have := Option.some.inj h; subst this
    exact LR.cons (scalarOf_sound hv) (scalars_sound hvs)

theorem ofValue_sound {β : BM} {x : Value} {v : V} (h : ofValue x = some v) : VR β v x := by
  unfold ofValue at h
  split at h
  · obtain ⟨l, hl, h⟩ := ob_eq.1 h
    have := Option.some.inj h; subst this
    simp only [VR]; exact ⟨_, rfl, scalars_sound hl⟩
  · obtain ⟨l, hl, h⟩ := ob_eq.1 h
    have := Option.some.inj h; subst this
    simp only [VR]; exact ⟨_, rfl, scalars_sound hl⟩
  · have := Option.some.inj h; subst this
    simp only [VR, FnR]; exact ⟨_, _, _, rfl, rfl, LR.nil _, LR.nil _⟩
  · exact scalarOf_sound h
end Go.Am
namespace Go.Am

/-! Frames -/

def TR (β : BM) (fr : Fr) (tmps : Array Value) : Prop := tmps.size = fr.n ∧ ∀ t, VR β ((fr.ts.get t).getD Am.undef) (tmps.getD t Go.undef)

theorem TR.mono {β β' : BM} (h : Ext β β') {fr : Fr} {tmps : Array Value} (ht : TR β fr tmps) : TR β' fr tmps :=
  ⟨ht.1, fun t => VR.mono h _ _ (ht.2 t)⟩

theorem TR.put {β : BM} {fr fr' : Fr} {a : Act} {dst : Option Tmp} {v : V} {x : Value} (ht : TR β fr a.tmps) (h : Fr.put dst fr v = some fr') (hv : VR β v x) :
    TR β fr' (a.put dst x).tmps := by
  obtain ⟨ts, n, ds⟩ := fr
  cases dst with
  | none => have := Option.some.inj (h : some (Fr.mk ts n ds) = some fr'); subst this; exact ht
  | some d =>
    have h' : ok (Nat.blt d n) (some (Fr.mk (ts.lay d v) n ds)) = some fr' := h
    obtain ⟨hd, h'⟩ := ok_eq.1 h'
    have hd' : d < n := Nat.le_of_ble_eq_true hd
    have := Option.some.inj h'; subst this
    have hsz : a.tmps.size = n := ht.1
    refine ⟨by simp [Act.put, hsz], fun t => ?_⟩
    simp only [Act.put, T.get_lay]
    by_cases e : d = t
    · subst e
      have hlt : d < a.tmps.size := by rw [hsz]; exact hd'
      simpa [hlt] using hv
    · have h3 := ht.2 t
      have e2 : (a.tmps.setIfInBounds d x).getD t Go.undef = a.tmps.getD t Go.undef := by
        rw [Array.getD_eq_getD_getElem?, Array.getD_eq_getD_getElem?, Array.getElem?_setIfInBounds_ne e]
      rw [if_neg e, e2]; exact h3

theorem Fr.put_ds {fr fr' : Fr} {dst : Option Tmp} {v : V} (h : Fr.put dst fr v = some fr') : fr'.ds = fr.ds ∧ fr'.n = fr.n := by
  obtain ⟨ts, n, ds⟩ := fr
  cases dst with
  | none => have := Option.some.inj (h : some (Fr.mk ts n ds) = some fr'); subst this; exact ⟨rfl, rfl⟩
  | some d =>
    have h' : ok (Nat.blt d n) (some (Fr.mk (ts.lay d v) n ds)) = some fr' := h
    obtain ⟨hd, h'⟩ := ok_eq.1 h'
    have := Option.some.inj h'; subst this; exact ⟨rfl, rfl⟩

def DR (β : BM) (d : D) (d' : Deferred) : Prop :=
  match d with
  | .collected r => ∃ i, β r = some i ∧ d' = { target := .collected i.blk, args := #[] }
  | .call v args => ∃ f a b, v = .fn (.func f) a b ∧ ∃ (a' b' args' : Array Value), d' = { target := .fn (.func f) b', args := a' ++ args' } ∧ LR β a a'.toList ∧ LR β b b'.toList ∧ LR β args args'.toList
theorem DR.mono {β β' : BM} (h : Ext β β') {d : D} {d' : Deferred} (hd : DR β d d') : DR β' d d' := by
  cases d with
  | collected r => obtain ⟨i, hi, e⟩ := hd; exact ⟨i, h _ _ hi, e⟩
  | call v args =>
    obtain ⟨f, a, b, e, a', b', args', e', ha, hb, hs⟩ := hd
    exact ⟨f, a, b, e, a', b', args', e', LR.mono h _ _ ha, LR.mono h _ _ hb, LR.mono h _ _ hs⟩

inductive DRs (β : BM) : List D → List Deferred → Prop
  | nil : DRs β [] []
  | cons {d : D} {d' : Deferred} {ds : List D} {ds' : List Deferred} (h : DR β d d') (hs : DRs β ds ds') : DRs β (d :: ds) (d' :: ds')
theorem DRs.mono {β β' : BM} (h : Ext β β') {ds : List D} {ds' : List Deferred} (hd : DRs β ds ds') : DRs β' ds ds' := by
  induction hd with
  | nil => exact .nil
  | cons h1 _ ih => exact .cons (h1.mono h) ih

/-- An activation. -/
def AR (β : BM) (fr : Fr) (a : Act) : Prop := TR β fr a.tmps ∧ DRs β fr.ds a.defers
theorem AR.mono {β β' : BM} (h : Ext β β') {fr : Fr} {a : Act} (ha : AR β fr a) : AR β' fr a := ⟨ha.1.mono h, ha.2.mono h⟩
theorem AR.put {β : BM} {fr fr' : Fr} {a : Act} {dst : Option Tmp} {v : V} {x : Value} (ha : AR β fr a) (h : Fr.put dst fr v = some fr') (hv : VR β v x) : AR β fr' (a.put dst x) := by
  refine ⟨ha.1.put h hv, ?_⟩
  rw [(Fr.put_ds h).1]
  have : (a.put dst x).defers = a.defers := by cases dst <;> rfl
  rw [this]; exact ha.2

/-! Operands -/

theorem ev_sound {β : BM} {fr : Fr} {a : Act} {x : Operand} {v : V} (ha : TR β fr a.tmps) (h : ev x fr = some v) : VR β v (a.eval x) := by
  obtain ⟨ts, n, ds⟩ := fr
  cases x with
  | tmp t =>
    have h' : Option.rec (some Am.undef) (fun v => some v) (ts.get t) = some v := h
    have ht := ha.2 t
    simp only at ht
    cases hg : ts.get t with
    | none =>
      rw [hg] at h' ht
      have := Option.some.inj h'; subst this
      exact ht
    | some u =>
      rw [hg] at h' ht
      have := Option.some.inj h'; subst this
      exact ht
  | const c => exact ofValue_sound (h : ofValue c = some v)
  | global g => cases h
  | func f =>
    have := Option.some.inj (h : some (V.fn (.func f) [] []) = some v); subst this
    simp only [VR, FnR, Act.eval]; exact ⟨_, _, _, rfl, rfl, LR.nil _, LR.nil _⟩

theorem evs_nil (fr : Fr) : evs [] fr = some [] := rfl
theorem evs_cons (x : Operand) (l : List Operand) (fr : Fr) : evs (x :: l) fr = ob (ev x fr) fun v => ob (evs l fr) fun vs => some (v :: vs) := rfl
theorem evs_sound {β : BM} {fr : Fr} {a : Act} (ha : TR β fr a.tmps) : ∀ {l : List Operand} {vs : List V}, evs l fr = some vs → LR β vs (l.map a.eval)
  | [], vs, h => by rw [evs_nil] at h; have := Option.some.inj h; subst this; exact LR.nil _
  | x :: l, vs, h => by
    rw [evs_cons] at h
    obtain ⟨v, hv, h⟩ := ob_eq.1 h
    obtain ⟨us, hus, h⟩ := ob_eq.1 h
    have := Option.some.inj h; subst this
    exact LR.cons (ev_sound ha hv) (evs_sound ha hus)

/-! Objects -/

structure ER1 (β : BM) (e : ME) (e' : MapEntry) : Prop where
  key : VR β e.key e'.key
  val : VR β e.val e'.val
  born : e'.born = e.born
inductive ER (β : BM) : List ME → List MapEntry → Prop
  | nil : ER β [] []
  | cons {e : ME} {e' : MapEntry} {es : List ME} {es' : List MapEntry} (h : ER1 β e e') (hs : ER β es es') : ER β (e :: es) (e' :: es')
theorem ER.mono {β β' : BM} (h : Ext β β') {es : List ME} {es' : List MapEntry} (hd : ER β es es') : ER β' es es' := by
  induction hd with
  | nil => exact .nil
  | cons h1 _ ih => exact .cons ⟨VR.mono h _ _ h1.key, VR.mono h _ _ h1.val, h1.born⟩ ih

def MiR (β : BM) (m m' : Option Nat) : Prop := match m with | none => m' = none | some r => ∃ i, β r = some i ∧ m' = some i.blk
theorem MiR.mono {β β' : BM} (h : Ext β β') {m m' : Option Nat} (hm : MiR β m m') : MiR β' m m' := by
  cases m with
  | none => exact hm
  | some r => obtain ⟨i, hi, e⟩ := hm; exact ⟨i, h _ _ hi, e⟩

structure LoopR (β : BM) (lp : LP) (r : Loop) : Prop where
  st : r.state = lp.st
  pending : r.pending = lp.pending
  tmps : TR β ⟨lp.ts, lp.n, []⟩ r.tmps
  params : r.params.toList = lp.params
  assign : r.assign = lp.assign
  body : r.body = lp.body
  defers : ∃ i, β lp.defers = some i ∧ r.defers = i.blk
theorem LoopR.mono {β β' : BM} (h : Ext β β') {lp : LP} {r : Loop} (hl : LoopR β lp r) : LoopR β' lp r :=
  ⟨hl.st, hl.pending, hl.tmps.mono h, hl.params, hl.assign, hl.body, let ⟨i, hi, e⟩ := hl.defers; ⟨i, h _ _ hi, e⟩⟩

def OthR (β : BM) (o : O) (obj : Obj) : Prop :=
  match o with
  | .cells .. => False
  | .map es c => ∃ es', obj = .map es' c ∧ ER β es es'.toList
  | .siter s pos => ∃ t : ByteArray, obj = .stringIter t pos ∧ t.data.toList.map UInt8.toNat = s
  | .miter m since seen st => ∃ m', obj = .mapIter m' since seen.toArray st ∧ MiR β m m'
  | .loop lp => ∃ r, obj = .loop r ∧ LoopR β lp r
  | .deferred b => obj = .deferred (bif b then some [] else none)
theorem OthR.mono {β β' : BM} (h : Ext β β') {o : O} {obj : Obj} (ho : OthR β o obj) : OthR β' o obj := by
  cases o with
  | cells => exact ho
  | map es c => obtain ⟨es', e, he⟩ := ho; exact ⟨es', e, he.mono h⟩
  | siter => exact ho
  | miter => obtain ⟨m', e, he⟩ := ho; exact ⟨m', e, he.mono h⟩
  | loop lp => obtain ⟨r, e, he⟩ := ho; exact ⟨r, e, he.mono h⟩
  | deferred => exact ho

/-- No cell of n is frozen. -/
def FZ (n : Nat) (fz : Nat × Nat) : Prop := fz = (0, 0) ∨ n ≤ fz.1

structure CellsR (P : Program) (β : BM) (i : BI) (alive : Prop) (e : TypeId) (cs : List V) (arr : Array Value) (fz : Nat × Nat) : Prop where
  size : sizeT P e = some i.size
  room : i.off + i.e ≤ arr.size
  fit : cs.length ≤ i.e
  thaw : FZ arr.size fz
  plain : notBytes P e = true → fz = (0, 0)
  cells : alive → ∀ (k : Nat) (v : V), cs[k]? = some v → ∃ x, arr[i.off + k]? = some x ∧ VR β v x
theorem CellsR.mono {P : Program} {β β' : BM} (h : Ext β β') {i : BI} {A A' : Prop} (hA : A' → A) {e : TypeId} {cs : List V} {arr : Array Value} {fz : Nat × Nat} (hc : CellsR P β i A e cs arr fz) : CellsR P β' i A' e cs arr fz :=
  ⟨hc.size, hc.room, hc.fit, hc.thaw, hc.plain, fun ha k v hk => let ⟨x, hx, hv⟩ := hc.cells (hA ha) k v hk; ⟨x, hx, VR.mono h _ _ hv⟩⟩

def ObjR (P : Program) (β : BM) (σ : St) (b : Nat) (i : BI) (o : O) (obj : Obj) : Prop :=
  match o with
  | .cells e cs g => ∃ arr fz, obj = .cells arr e fz ∧ CellsR P β i (live σ b g = true) e cs arr fz
  | o => i.off = 0 ∧ OthR β o obj

def grpOf (b : Nat) (o : O) : Nat := match o with | .cells _ _ g => g | _ => b

structure HRel (P : Program) (β : BM) (σ : St) (w : World) : Prop where
  dom : ∀ b i, β b = some i → b + 1 < σ.next
  obj : ∀ b i, β b = some i → ∃ o obj, heapAt σ b = some o ∧ w.heap[i.blk]? = some obj ∧ ObjR P β σ b i o obj
  inj : ∀ b b' i i' o o', β b = some i → β b' = some i' → heapAt σ b = some o → heapAt σ b' = some o' → i.blk = i'.blk → grpOf b o = grpOf b' o'
  own : ∀ b i e cs g, β b = some i → heapAt σ b = some (.cells e cs g) → grpAt σ g = none → g = b
  gm : ∀ b i o, β b = some i → heapAt σ b = some o → ∃ i', β (grpOf b o) = some i'
  gk : ∀ g s t, grpAt σ g = some (s, t) → (s ≤ t ∧ ∃ i, β g = some i) ∧ ∃ it e cs, β t = some it ∧ heapAt σ t = some (.cells e cs g)
  tip : ∀ g s t b i e cs, grpAt σ g = some (s, t) → β b = some i → heapAt σ b = some (.cells e cs g) → b ≤ t ∧
    (s ≤ b → ∀ it et ct, β t = some it → heapAt σ t = some (.cells et ct g) → i.blk = it.blk → i.off + cs.length ≤ it.off + ct.length)

/-- What a step keeps. -/
structure Good (P : Program) (β : BM) (σ : St) (w : World) (β' : BM) (σ' : St) (w' : World) : Prop where
  ext : Ext β β'
  rel : HRel P β' σ' w'
  size : w.heap.size ≤ w'.heap.size
  range : ∀ b i, β' b = some i → i.blk < w.heap.size → ∃ b0 i0, β b0 = some i0 ∧ i0.blk = i.blk
  cframe : ∀ c, c < w.heap.size → (∀ b i, β b = some i → i.blk ≠ c) → w'.heap[c]? = w.heap[c]?
  calm : w'.os = w.os ∧ w'.output = w.output ∧ w'.tape = w.tape
  next : σ.next ≤ σ'.next
  aframe : ∀ b, b + 1 < σ.next → β b = none → heapAt σ' b = heapAt σ b ∧ grpAt σ' b = grpAt σ b ∧ β' b = none

theorem Good.refl {P : Program} {β : BM} {σ : St} {w : World} (h : HRel P β σ w) : Good P β σ w β σ w :=
  ⟨Ext.refl β, h, Nat.le_refl _, fun b i hb _ => ⟨b, i, hb, rfl⟩, fun _ _ _ => rfl, ⟨rfl, rfl, rfl⟩, Nat.le_refl _, fun _ _ h => ⟨rfl, rfl, h⟩⟩

theorem Good.trans {P : Program} {β β' β'' : BM} {σ σ' σ'' : St} {w w' w'' : World} (h : Good P β σ w β' σ' w') (h' : Good P β' σ' w' β'' σ'' w'') : Good P β σ w β'' σ'' w'' where
  ext := h.ext.trans h'.ext
  rel := h'.rel
  size := Nat.le_trans h.size h'.size
  range := fun b i hb hlt => by
    obtain ⟨b1, i1, hb1, e1⟩ := h'.range b i hb (Nat.lt_of_lt_of_le hlt h.size)
    obtain ⟨b0, i0, hb0, e0⟩ := h.range b1 i1 hb1 (by omega)
    exact ⟨b0, i0, hb0, by omega⟩
  cframe := fun c hc hn => by
    rw [h'.cframe c (Nat.lt_of_lt_of_le hc h.size) (fun b i hb e => by
      obtain ⟨b0, i0, hb0, e0⟩ := h.range b i hb (by omega)
      exact hn b0 i0 hb0 (by omega)), h.cframe c hc hn]
  calm := ⟨h'.calm.1.trans h.calm.1, h'.calm.2.1.trans h.calm.2.1, h'.calm.2.2.trans h.calm.2.2⟩
  next := Nat.le_trans h.next h'.next
  aframe := fun b hb hn => by
    obtain ⟨e1, e2, e3⟩ := h.aframe b hb hn
    obtain ⟨e4, e5, e6⟩ := h'.aframe b (Nat.lt_of_lt_of_le hb h.next) e3
    exact ⟨e4.trans e1, e5.trans e2, e6⟩

/-- A relation speaks of the heap alone. -/
theorem HRel.congr {P : Program} {β : BM} {σ : St} {w w' : World} (h : HRel P β σ w) (e : w'.heap = w.heap) : HRel P β σ w' :=
  ⟨h.dom, fun b i hb => by rw [e]; exact h.obj b i hb, h.inj, h.own, h.gm, h.gk, h.tip⟩
theorem Good.drew {P : Program} {β : BM} {σ : St} {w : World} (h : HRel P β σ w) : Good P β σ w β σ w.drew :=
  ⟨Ext.refl β, h.congr rfl, Nat.le_refl _, fun b i hb _ => ⟨b, i, hb, rfl⟩, fun _ _ _ => rfl, ⟨rfl, rfl, rfl⟩, Nat.le_refl _, fun _ _ h => ⟨rfl, rfl, h⟩⟩

/-! States -/
section
variable (h : T O) (s : T (Nat × Nat)) (n : Nat) (σ : St)
@[simp] theorem heapAt_mk (b : Nat) : heapAt ⟨h, s, n⟩ b = h.get b := rfl
@[simp] theorem grpAt_mk (b : Nat) : grpAt ⟨h, s, n⟩ b = s.get b := rfl
theorem heapAt_setObj (r b : Nat) (o : O) : heapAt (setObj σ r o) b = if r = b then some o else heapAt σ b := by cases σ; exact T.get_put _ _ _ _
theorem grpAt_setObj (r b : Nat) (o : O) : grpAt (setObj σ r o) b = grpAt σ b := by cases σ; rfl
theorem next_setObj (r : Nat) (o : O) : (setObj σ r o).next = σ.next := by cases σ; rfl
theorem heapAt_setGrp (r b : Nat) (o : Nat × Nat) : heapAt (setGrp σ r o) b = heapAt σ b := by cases σ; rfl
theorem grpAt_setGrp (r b : Nat) (o : Nat × Nat) : grpAt (setGrp σ r o) b = if r = b then some o else grpAt σ b := by cases σ; exact T.get_put _ _ _ _
theorem next_setGrp (r : Nat) (o : Nat × Nat) : (setGrp σ r o).next = σ.next := by cases σ; rfl
end

theorem alloc_eq {σ σ' : St} {o : Nat → O} {k : Nat} : Am.alloc σ o = some (k, σ') ↔ σ.next = k + 1 ∧ σ' = ⟨σ.heap.put k (o k), σ.grps, k + 2⟩ := by
  obtain ⟨h, s, n⟩ := σ
  cases n with
  | zero => constructor
            · intro e; cases e
            · rintro ⟨e, _⟩; cases e
  | succ n =>
    constructor
    · intro e
      have e' : some (n, (⟨h.put n (o n), s, n + 2⟩ : St)) = some (k, σ') := e
      cases e'; exact ⟨rfl, rfl⟩
    · rintro ⟨e, rfl⟩
      cases e; rfl

theorem live_eq (σ : St) (b g : Nat) : live σ b g = true ↔ ∀ s t, grpAt σ g = some (s, t) → s ≤ b := by
  unfold live
  cases hg : grpAt σ g with
  | none => simp
  | some p =>
    obtain ⟨s, t⟩ := p
    constructor
    · intro e s' t' e'; cases e'; exact Nat.le_of_ble_eq_true e
    · intro e; exact Nat.ble_eq_true_of_le (e s t rfl)

theorem cellsAt_eq {σ : St} {b : Nat} {e : TypeId} {cs : List V} {g : Nat} : cellsAt σ b = some (e, cs, g) ↔ heapAt σ b = some (.cells e cs g) := by
  unfold cellsAt
  rw [ob_eq]
  constructor
  · rintro ⟨o, ho, h⟩
    cases o with
    | cells e' cs' g' => cases h; exact ho
    | _ => cases h
  · intro h; exact ⟨_, h, rfl⟩

end Go.Am
namespace Go.Am

theorem add_none (g o i : Nat) : (⟨g, o, none⟩ : Addr).add i = ⟨g, o + i, none⟩ := by unfold Addr.add; split <;> simp_all

/-- Cells are written: none of the row's cells is frozen. -/
theorem run_storeCells_any (P : Program) (g o : Nat) (t : TypeId) (fz : Nat × Nat) : ∀ (vs : List Value) (i : Nat) (cur : Array Value) (w : World), w.heap[g]? = some (.cells cur t fz) → FZ cur.size fz → o + i + vs.length ≤ cur.size → (∀ v ∈ vs, v.oneCell' = true) →
    (storeCells ⟨g, o, none⟩ vs i).run P w = .ok () (w.setRow g (cur.toList.take (o + i) ++ vs ++ cur.toList.drop (o + i + vs.length)).toArray)
  | [], i, cur, w, hg, _, _, _ => by
    simp only [storeCells, List.append_nil, List.length_nil, Nat.add_zero, List.take_append_drop, Array.toArray_toList]
    rw [setRow_self w g cur t fz hg]
    rfl
  | v :: rest, i, cur, w, hg, hfz, hl, h1 => by
    have hi : o + i < cur.size := by simp at hl; omega
    have hcell : w.cell? ⟨g, o + i, none⟩ = some cur[o + i] := by simp [World.cell?, hg, hi]
    have hfro : w.frozen? ⟨g, o + i, none⟩ = false := by
      obtain ⟨lo, hi'⟩ := fz
      simp only [World.frozen?, hg, Bool.and_eq_false_iff, decide_eq_false_iff_not]
      rcases hfz with hfz | hfz
      · cases hfz; right; omega
      · left; simp only at hfz; omega
    have hst : (store ((⟨g, o, none⟩ : Addr).add i) v).run P w = .ok () (w.setRow g (cur.setIfInBounds (o + i) v)) := by
      rw [add_none, run_store P w _ v _ (h1 v (by simp)), hcell]
      simp [hfro, setCell_eq_setRow w g (o + i) cur t fz v hg]
    have ih := run_storeCells_any P g o t fz rest (i + 1) (cur.setIfInBounds (o + i) v) (w.setRow g (cur.setIfInBounds (o + i) v)) (setRow_heap w g cur _ t _ hg) (by simpa using hfz) (by simp at hl ⊢; omega) (fun x hx => h1 x (by simp [hx]))
    simp only [storeCells, Sem.run_bind, hst, Result.andThen_ok, ih, setRow_setRow]
    congr 3
    have e := list_seg_step cur.toList (o + i) v rest (by simp at hl ⊢; omega)
    simpa [Array.toList_setIfInBounds, Nat.add_assoc] using e

section
variable {P : Program} {β : BM} {σ : St} {w : World}

/-- A row of cells that is mapped. -/
theorem HRel.row (h : HRel P β σ w) {b : Nat} {i : BI} {e : TypeId} {cs : List V} {g : Nat} (hb : β b = some i) (hc : heapAt σ b = some (.cells e cs g)) :
    ∃ arr fz, w.heap[i.blk]? = some (.cells arr e fz) ∧ CellsR P β i (live σ b g = true) e cs arr fz := by
  obtain ⟨o, obj, ho, hw, hr⟩ := h.obj b i hb
  rw [hc] at ho; have := Option.some.inj ho; subst this
  obtain ⟨arr, fz, rfl, hr⟩ := hr
  exact ⟨arr, fz, hw, hr⟩

theorem readCells_eq {a : Nat × Nat} {n : Nat} {vs : List V} : readCells σ a n = some vs ↔
    ∃ e cs g, heapAt σ a.1 = some (.cells e cs g) ∧ live σ a.1 g = true ∧ a.2 + n ≤ cs.length + (if n = 0 then a.2 else 0) ∧ vs = (cs.drop a.2).take n := by
  obtain ⟨b, off⟩ := a
  show ob3 (cellsAt σ b) (fun _ cs g => ok (live σ b g) (takeN n (dropN off cs))) = some vs ↔ _
  rw [ob3_eq]
  constructor
  · rintro ⟨e, cs, g, hc, h⟩
    obtain ⟨hl, h⟩ := ok_eq.1 h
    rw [dropN_eq, takeN_some] at h
    refine ⟨e, cs, g, cellsAt_eq.1 hc, hl, ?_, h.2⟩
    have := h.1
    simp only [List.length_drop] at this
    split <;> omega
  · rintro ⟨e, cs, g, hc, hl, hn, rfl⟩
    refine ⟨e, cs, g, cellsAt_eq.2 hc, ?_⟩
    rw [ok_eq]
    refine ⟨hl, ?_⟩
    rw [dropN_eq, takeN_some]
    refine ⟨?_, rfl⟩
    simp only [List.length_drop]
    split at hn <;> omega

theorem HRel.readCells (h : HRel P β σ w) {a : Nat × Nat} {n : Nat} {vs : List V} (hr : Am.readCells σ a n = some vs) {i : BI} (hb : β a.1 = some i) :
    ∃ xs : List Value, (loadCells ⟨i.blk, i.off + a.2, none⟩ n).run P w = .ok xs.toArray w ∧ xs.length = n ∧ vs.length = n ∧ LR β vs xs ∧ ∀ j x, xs[j]? = some x → w.cell? ⟨i.blk, i.off + a.2 + j, none⟩ = some x := by
  obtain ⟨e, cs, g, hc, hl, hn, rfl⟩ := readCells_eq.1 hr
  obtain ⟨arr, fz, hw, hcr⟩ := h.row hb hc
  have hlen : ((cs.drop a.2).take n).length = n := by
    simp only [List.length_take, List.length_drop]; split at hn <;> omega
  have hgot : ∀ j v, ((cs.drop a.2).take n)[j]? = some v → ∃ x, arr[i.off + a.2 + j]? = some x ∧ VR β v x := by
    intro j v hj
    rw [List.getElem?_take] at hj
    split at hj
    · rw [List.getElem?_drop] at hj
      obtain ⟨x, hx, hv⟩ := hcr.cells hl _ _ hj
      exact ⟨x, by rw [Nat.add_assoc]; exact hx, hv⟩
    · cases hj
  have hex : ∃ xs : List Value, xs.length = n ∧ ∀ j, j < n → xs[j]? = arr[i.off + a.2 + j]? ∧ (xs[j]?).isSome := by
    refine ⟨(arr.toList.drop (i.off + a.2)).take n, ?_, ?_⟩
    · simp only [List.length_take, List.length_drop, Array.length_toList]
      by_cases hz : n = 0
      · omega
      · have hj := hgot (n - 1) ((cs.drop a.2).take n)[n - 1] (by rw [List.getElem?_eq_getElem (by omega)])
        obtain ⟨x, hx, _⟩ := hj
        have := (Array.getElem?_eq_some_iff.1 hx).1
        omega
    · intro j hj
      have e1 : ((arr.toList.drop (i.off + a.2)).take n)[j]? = arr[i.off + a.2 + j]? := by
        rw [List.getElem?_take, if_pos hj, List.getElem?_drop, Array.getElem?_toList]
      refine ⟨e1, ?_⟩
      rw [e1]
      obtain ⟨x, hx, _⟩ := hgot j ((cs.drop a.2).take n)[j] (by rw [List.getElem?_eq_getElem (by omega)])
      rw [hx]; rfl
  obtain ⟨xs, hxl, hxs⟩ := hex
  have hcell : ∀ j x, xs[j]? = some x → w.cell? ⟨i.blk, i.off + a.2 + j, none⟩ = some x := by
    intro j x hx
    have hj : j < n := by have := (List.getElem?_eq_some_iff.1 hx).1; omega
    have := (hxs j hj).1
    simp [World.cell?, hw, ← this, hx]
  refine ⟨xs, ?_, hxl, hlen, ?_, hcell⟩
  · have := run_loadCells_list (P := P) w ⟨i.blk, i.off + a.2, none⟩ xs (fun j x hx => by rw [add_none]; exact hcell j x hx)
    rwa [hxl] at this
  · refine LR.of_get (by omega) fun j v hj => ?_
    obtain ⟨x, hx, hv⟩ := hgot j v hj
    have hjn : j < n := by have := (List.getElem?_eq_some_iff.1 hj).1; omega
    exact ⟨x, by rw [(hxs j hjn).1]; exact hx, hv⟩

theorem readCell_eq {a : Nat × Nat} {v : V} : Am.readCell σ a = some v ↔ ∃ e cs g, heapAt σ a.1 = some (.cells e cs g) ∧ live σ a.1 g = true ∧ cs[a.2]? = some v := by
  obtain ⟨b, off⟩ := a
  show ob3 (cellsAt σ b) (fun _ cs g => ok (live σ b g) (nth off cs)) = some v ↔ _
  rw [ob3_eq]
  constructor
  · rintro ⟨e, cs, g, hc, h⟩
    obtain ⟨hl, h⟩ := ok_eq.1 h
    rw [nth_eq] at h
    exact ⟨e, cs, g, cellsAt_eq.1 hc, hl, h⟩
  · rintro ⟨e, cs, g, hc, hl, h⟩
    exact ⟨e, cs, g, cellsAt_eq.2 hc, by rw [ok_eq, nth_eq]; exact ⟨hl, h⟩⟩

theorem HRel.readCell (h : HRel P β σ w) {a : Nat × Nat} {v : V} (hr : Am.readCell σ a = some v) {i : BI} (hb : β a.1 = some i) :
    ∃ x, w.cell? ⟨i.blk, i.off + a.2, none⟩ = some x ∧ VR β v x := by
  obtain ⟨e, cs, g, hc, hl, hn⟩ := readCell_eq.1 hr
  obtain ⟨arr, fz, hw, hcr⟩ := h.row hb hc
  obtain ⟨x, hx, hv⟩ := hcr.cells hl _ _ hn
  exact ⟨x, by simp [World.cell?, hw, hx], hv⟩

/-! New memory -/

/-- A block is laid in the abstract state; nothing is laid in the world yet. -/
theorem HRel.grow (h : HRel P β σ w) {o : Nat → O} {k : Nat} {σ' : St} (ha : Am.alloc σ o = some (k, σ')) : HRel P β σ' w := by
  obtain ⟨hk, rfl⟩ := alloc_eq.1 ha
  have hne : ∀ b i, β b = some i → k ≠ b := fun b i hb e => by have := h.dom b i hb; omega
  have hh : ∀ b i, β b = some i → heapAt (⟨σ.heap.put k (o k), σ.grps, k + 2⟩ : St) b = heapAt σ b := fun b i hb => by
    cases σ; exact T.get_put_ne _ _ (hne b i hb)
  have hg : ∀ g, grpAt (⟨σ.heap.put k (o k), σ.grps, k + 2⟩ : St) g = grpAt σ g := fun g => by cases σ; rfl
  have hl : ∀ b g, live (⟨σ.heap.put k (o k), σ.grps, k + 2⟩ : St) b g = live σ b g := fun b g => by unfold live; rw [hg]
  refine ⟨fun b i hb => ?_, fun b i hb => ?_, fun b b' i i' p p' hb hb' hp hp' e => ?_, fun b i e cs g hb hp hgn => ?_, fun b i p hb hp => ?_, fun g s t hgs => ?_, fun g s t b i e cs hgs hb hp => ?_⟩
  · have := h.dom b i hb; show b + 1 < k + 2; omega
  · obtain ⟨p, obj, hp, hw, hr⟩ := h.obj b i hb
    refine ⟨p, obj, by rw [hh b i hb]; exact hp, hw, ?_⟩
    cases p with
    | cells e cs g => simp only [ObjR, hl] at hr ⊢; exact hr
    | _ => exact hr
  · rw [hh b i hb] at hp; rw [hh b' i' hb'] at hp'
    exact h.inj b b' i i' p p' hb hb' hp hp' e
  · rw [hh b i hb] at hp; rw [hg] at hgn
    exact h.own b i e cs g hb hp hgn
  · rw [hh b i hb] at hp; exact h.gm b i p hb hp
  · rw [hg] at hgs
    obtain ⟨h1, it, e, cs, h2, h3⟩ := h.gk g s t hgs
    exact ⟨h1, it, e, cs, h2, by rw [hh t it h2]; exact h3⟩
  · rw [hg] at hgs; rw [hh b i hb] at hp
    obtain ⟨h1, h2⟩ := h.tip g s t b i e cs hgs hb hp
    refine ⟨h1, fun hs it et ct hit hct => ?_⟩
    rw [hh t it hit] at hct
    exact h2 hs it et ct hit hct

/-- β with one block more. -/
def upd (β : BM) (k : Nat) (i : BI) : BM := fun b => if b = k then some i else β b
theorem upd_self (β : BM) (k : Nat) (i : BI) : upd β k i k = some i := if_pos rfl
theorem upd_ne (β : BM) {k b : Nat} (i : BI) (h : b ≠ k) : upd β k i b = β b := if_neg h
theorem upd_ext {β : BM} {k : Nat} (i : BI) (hn : β k = none) : Ext β (upd β k i) := fun b j hb => by
  by_cases e : b = k
  · subst e; rw [hn] at hb; cases hb
  · rw [upd_ne _ _ e]; exact hb

/-- A block that has been laid in the abstract state is laid in the world. -/
theorem HRel.adopt (h : HRel P β σ w) {w' : World} {k : Nat} {o : O} {obj : Obj} {i : BI} (hw : w'.heap = w.heap.push obj) (hi : i.blk = w.heap.size) (hk : k + 1 < σ.next) (hn : β k = none)
    (ho : heapAt σ k = some o) (hgo : grpOf k o = k) (hgn : grpAt σ k = none) (hr : ObjR P (upd β k i) σ k i o obj) : HRel P (upd β k i) σ w' := by
  have ext := upd_ext i hn
  have hlt : ∀ b j, β b = some j → j.blk < w.heap.size := fun b j hb => by
    obtain ⟨_, _, _, hw, _⟩ := h.obj b j hb
    exact (Array.getElem?_eq_some_iff.1 hw).1
  have hold : ∀ c, c < w.heap.size → w'.heap[c]? = w.heap[c]? := fun c hc => by
    rw [hw, Array.getElem?_push, if_neg (by omega)]
  have hnew : w'.heap[i.blk]? = some obj := by rw [hw, hi, Array.getElem?_push, if_pos rfl]
  have hcase : ∀ b j, upd β k i b = some j → (b = k ∧ j = i) ∨ (b ≠ k ∧ β b = some j) := fun b j hb => by
    by_cases e : b = k
    · subst e; rw [upd_self] at hb; exact .inl ⟨rfl, (Option.some.inj hb).symm⟩
    · rw [upd_ne _ _ e] at hb; exact .inr ⟨e, hb⟩
  refine ⟨fun b j hb => ?_, fun b j hb => ?_, fun b b' j j' p p' hb hb' hp hp' e => ?_, fun b j e cs g hb hp hgn' => ?_, fun b j p hb hp => ?_, fun g s t hgs => ?_, fun g s t b j e cs hgs hb hp => ?_⟩
  · rcases hcase b j hb with ⟨rfl, rfl⟩ | ⟨_, hb⟩
    · exact hk
    · exact h.dom b j hb
  · rcases hcase b j hb with ⟨rfl, rfl⟩ | ⟨_, hb⟩
    · exact ⟨o, obj, ho, hnew, hr⟩
    · obtain ⟨p, ob', hp, hw', hr'⟩ := h.obj b j hb
      refine ⟨p, ob', hp, by rw [hold _ (hlt b j hb)]; exact hw', ?_⟩
      cases p with
      | cells e cs g => obtain ⟨arr, fz, e1, hc⟩ := hr'; exact ⟨arr, fz, e1, hc.mono ext id⟩
      | _ => exact ⟨hr'.1, hr'.2.mono ext⟩
  · rcases hcase b j hb with ⟨e1, e2⟩ | ⟨_, hb2⟩ <;> rcases hcase b' j' hb' with ⟨e3, e4⟩ | ⟨_, hb2'⟩
    · subst e1; subst e3; rw [hp] at hp'; cases hp'; rfl
    · have := hlt b' j' hb2'; subst e2; omega
    · have := hlt b j hb2; subst e4; omega
    · exact h.inj b b' j j' p p' hb2 hb2' hp hp' e
  · rcases hcase b j hb with ⟨rfl, rfl⟩ | ⟨_, hb⟩
    · rw [ho] at hp; cases hp; exact hgo
    · exact h.own b j e cs g hb hp hgn'
  · rcases hcase b j hb with ⟨rfl, rfl⟩ | ⟨_, hb⟩
    · rw [ho] at hp; cases hp; rw [hgo]; exact ⟨_, upd_self _ _ _⟩
    · obtain ⟨i', hi'⟩ := h.gm b j p hb hp; exact ⟨i', ext _ _ hi'⟩
  · obtain ⟨⟨hst, i1, h1⟩, it, e, cs, h2, h3⟩ := h.gk g s t hgs
    exact ⟨⟨hst, i1, ext _ _ h1⟩, it, e, cs, ext _ _ h2, h3⟩
  · rcases hcase b j hb with ⟨rfl, rfl⟩ | ⟨_, hb⟩
    · rw [ho] at hp; cases hp
      have : g = b := hgo
      subst this; rw [hgn] at hgs; cases hgs
    · obtain ⟨h1, h2⟩ := h.tip g s t b j e cs hgs hb hp
      refine ⟨h1, fun hs it et ct hit hct => ?_⟩
      rcases hcase t it hit with ⟨_, e2⟩ | ⟨_, hit2⟩
      · intro e'; have := hlt b j hb; subst e2; omega
      · exact h2 hs it et ct hit2 hct

theorem Good.adopt (h : HRel P β σ w) {w' : World} {k : Nat} {o : O} {obj : Obj} {i : BI} (hw : w'.heap = w.heap.push obj) (hi : i.blk = w.heap.size) (hk : k + 1 < σ.next) (hn : β k = none)
    (ho : heapAt σ k = some o) (hgo : grpOf k o = k) (hgn : grpAt σ k = none) (hr : ObjR P (upd β k i) σ k i o obj) :
    (HRel P (upd β k i) σ w') ∧ w.heap.size ≤ w'.heap.size ∧ (∀ b j, upd β k i b = some j → j.blk < w.heap.size → ∃ b0 i0, β b0 = some i0 ∧ i0.blk = j.blk) ∧ (∀ c, c < w.heap.size → w'.heap[c]? = w.heap[c]?) := by
  refine ⟨h.adopt hw hi hk hn ho hgo hgn hr, by rw [hw]; simp, fun b j hb hlt => ?_, fun c hc => by rw [hw, Array.getElem?_push, if_neg (by omega)]⟩
  by_cases e : b = k
  · subst e; rw [upd_self] at hb; cases hb; omega
  · rw [upd_ne _ _ e] at hb; exact ⟨b, j, hb, rfl⟩
end
end Go.Am
namespace Go.Am

theorem over_nil (cs : List V) : over [] cs = some cs := rfl
theorem over_cons_nil (v : V) (vs : List V) : over (v :: vs) [] = none := rfl
theorem over_cons_cons (v : V) (vs : List V) (c : V) (cs : List V) : over (v :: vs) (c :: cs) = ok v.one (ob (over vs cs) fun r => some (v :: r)) := rfl
theorem over_some : ∀ {vs cs r : List V}, over vs cs = some r → vs.length ≤ cs.length ∧ r = vs ++ cs.drop vs.length ∧ ∀ v ∈ vs, v.one = true
  | [], cs, r, h => by rw [over_nil] at h; cases h; simp
  | v :: vs, [], r, h => by cases h
  | v :: vs, c :: cs, r, h => by
    rw [over_cons_cons] at h
    obtain ⟨h1, h⟩ := ok_eq.1 h
    obtain ⟨r', h2, h⟩ := ob_eq.1 h
    cases h
    obtain ⟨a, b, c'⟩ := over_some h2
    refine ⟨by simp; omega, by rw [b]; simp, fun u hu => ?_⟩
    cases hu with
    | head => exact h1
    | tail _ hu => exact c' u hu
theorem splice_zero (vs cs : List V) : splice vs 0 cs = over vs cs := rfl
theorem splice_succ_nil (vs : List V) (i : Nat) : splice vs (i + 1) [] = none := rfl
theorem splice_succ_cons (vs : List V) (i : Nat) (c : V) (cs : List V) : splice vs (i + 1) (c :: cs) = ob (splice vs i cs) fun r => some (c :: r) := rfl
theorem splice_some : ∀ {i : Nat} {vs cs r : List V}, splice vs i cs = some r → i + vs.length ≤ cs.length ∧ r = cs.take i ++ vs ++ cs.drop (i + vs.length) ∧ ∀ v ∈ vs, v.one = true
  | 0, vs, cs, r, h => by
    rw [splice_zero] at h
    obtain ⟨a, b, c⟩ := over_some h
    exact ⟨by omega, by simpa using b, c⟩
  | i + 1, vs, [], r, h => by cases h
  | i + 1, vs, c :: cs, r, h => by
    rw [splice_succ_cons] at h
    obtain ⟨r', h2, h⟩ := ob_eq.1 h
    cases h
    obtain ⟨a, b, c'⟩ := splice_some h2
    refine ⟨by simp; omega, ?_, c'⟩
    rw [b, show i + 1 + vs.length = (i + vs.length) + 1 by omega]
    simp
theorem splice_length {i : Nat} {vs cs r : List V} (h : splice vs i cs = some r) : r.length = cs.length := by
  obtain ⟨a, b, _⟩ := splice_some h
  rw [b]; simp; omega

theorem writeCells_eq {σ σ' : St} {a : Nat × Nat} {vs : List V} (h : writeCells σ a vs = some σ') :
    ∃ e cs g cs', heapAt σ a.1 = some (.cells e cs g) ∧ splice vs a.2 cs = some cs' ∧
      ((grpAt σ g = none ∧ σ' = setObj σ a.1 (.cells e cs' g)) ∨ (∃ s, grpAt σ g = some (s, a.1) ∧ σ' = setGrp (setObj σ a.1 (.cells e cs' g)) g (a.1, a.1))) := by
  obtain ⟨b, off⟩ := a
  have h' : ob3 (cellsAt σ b) (fun e cs grp => ob (splice vs off cs) fun cs =>
    Option.rec (some (setObj σ b (.cells e cs grp)))
      (fun g => Prod.rec (fun _ tip => ok (Nat.beq tip b) (some (setGrp (setObj σ b (.cells e cs grp)) grp (tip, tip)))) g) (grpAt σ grp)) = some σ' := h
  obtain ⟨e, cs, g, hc, h'⟩ := ob3_eq.1 h'
  obtain ⟨cs', hs, h'⟩ := ob_eq.1 h'
  refine ⟨e, cs, g, cs', cellsAt_eq.1 hc, hs, ?_⟩
  cases hg : grpAt σ g with
  | none => rw [hg] at h'; exact .inl ⟨rfl, (Option.some.inj h').symm⟩
  | some p =>
    obtain ⟨s, t⟩ := p
    rw [hg] at h'
    obtain ⟨h1, h2⟩ := ok_eq.1 h'
    have : t = b := Nat.eq_of_beq_eq_true h1
    subst this
    exact .inr ⟨s, rfl, (Option.some.inj h2).symm⟩

section
variable {P : Program} {β : BM} {σ σ' : St} {w : World}

/-- Of an object that is no row of cells: nothing else lies there. -/
theorem HRel.alone (h : HRel P β σ w) {b b' : Nat} {i i' : BI} {o : O} (hb : β b = some i) (hb' : β b' = some i') (ho : heapAt σ b = some o) (hn : ∀ e cs g, o ≠ .cells e cs g) (hne : b' ≠ b) : i'.blk ≠ i.blk := by
  intro e
  obtain ⟨p, obj, hp, hw, hr⟩ := h.obj b i hb
  rw [ho] at hp; cases hp
  obtain ⟨p', obj', hp', hw', hr'⟩ := h.obj b' i' hb'
  rw [e] at hw'; rw [hw] at hw'; cases hw'
  have hi := h.inj b b' i i' o p' hb hb' ho hp' e.symm
  cases p' with
  | cells e' cs' g' =>
    obtain ⟨arr, fz, e1, _⟩ := hr'
    subst e1
    cases o with
    | cells e cs g => exact hn e cs g rfl
    | map => obtain ⟨_, _, e2, _⟩ := hr; cases e2
    | siter => obtain ⟨_, _, e2, _⟩ := hr; cases e2
    | miter => obtain ⟨_, _, e2, _⟩ := hr; cases e2
    | loop => obtain ⟨_, _, e2, _⟩ := hr; cases e2
    | deferred => obtain ⟨_, e2⟩ := hr; cases e2
  | _ => cases o with
    | cells e cs g => exact hn e cs g rfl
    | _ => exact hne hi.symm

theorem grpOf_other {b : Nat} {o : O} (hn : ∀ e cs g, o ≠ .cells e cs g) : grpOf b o = b := by
  cases o with
  | cells e cs g => exact absurd rfl (hn e cs g)
  | _ => rfl
theorem ObjR.other {b : Nat} {i : BI} {o : O} {obj : Obj} (hn : ∀ e cs g, o ≠ .cells e cs g) : ObjR P β σ b i o obj ↔ i.off = 0 ∧ OthR β o obj := by
  cases o with
  | cells e cs g => exact absurd rfl (hn e cs g)
  | _ => exact Iff.rfl

/-- An object that is no row of cells turns into another. -/
theorem HRel.setOther (h : HRel P β σ w) {b : Nat} {i : BI} {o o' : O} {obj' : Obj} {w' : World} (hb : β b = some i) (ho : heapAt σ b = some o) (hn : ∀ e cs g, o ≠ .cells e cs g) (hn' : ∀ e cs g, o' ≠ .cells e cs g)
    (hw : w'.heap = w.heap.setIfInBounds i.blk obj') (hr : OthR β o' obj') : HRel P β (setObj σ b o') w' := by
  have hh := fun c => heapAt_setObj σ b c o'
  have hg := fun c => grpAt_setObj σ b c o'
  have hlv : ∀ c g, live (setObj σ b o') c g = live σ c g := fun c g => by unfold live; rw [hg]
  obtain ⟨p, obj, hp, hwo, hro⟩ := h.obj b i hb
  rw [ho] at hp; cases hp
  have hro2 := (ObjR.other hn).1 hro
  have hlt : i.blk < w.heap.size := (Array.getElem?_eq_some_iff.1 hwo).1
  have hcases : ∀ c q, heapAt (setObj σ b o') c = some q → (c = b ∧ q = o') ∨ (c ≠ b ∧ heapAt σ c = some q) := fun c q hq => by
    rw [hh] at hq
    by_cases e : b = c
    · rw [if_pos e] at hq; exact .inl ⟨e.symm, (Option.some.inj hq).symm⟩
    · rw [if_neg e] at hq; exact .inr ⟨fun e' => e e'.symm, hq⟩
  refine ⟨fun c j hc => by rw [next_setObj]; exact h.dom c j hc, fun c j hc => ?_, fun c c' j j' q q' hc hc' hq hq' e => ?_, fun c j e cs g hc hq hgn => ?_, fun c j q hc hq => ?_, fun g s t hgs => ?_, fun g s t c j e cs hgs hc hq => ?_⟩
  · by_cases e : c = b
    · subst e
      rw [hb] at hc; cases hc
      exact ⟨o', obj', by rw [hh, if_pos rfl], by rw [hw, Array.getElem?_setIfInBounds]; simp [hlt], (ObjR.other hn').2 ⟨hro2.1, hr⟩⟩
    · obtain ⟨q, ob, hq, hwq, hrq⟩ := h.obj c j hc
      refine ⟨q, ob, by rw [hh, if_neg (fun e' => e e'.symm)]; exact hq, ?_, ?_⟩
      · rw [hw, Array.getElem?_setIfInBounds_ne (fun e' => h.alone hb hc ho hn e e'.symm)]; exact hwq
      · cases q with
        | cells e cs g => simp only [ObjR, hlv] at hrq ⊢; exact hrq
        | _ => exact hrq
  · rcases hcases c q hq with ⟨e1, e2⟩ | ⟨h1, h2⟩ <;> rcases hcases c' q' hq' with ⟨e3, e4⟩ | ⟨h3, h4⟩
    · subst e1; subst e3; subst e2; subst e4; rfl
    · subst e1; rw [hb] at hc; cases hc; exact absurd e.symm (h.alone hb hc' ho hn h3)
    · subst e3; rw [hb] at hc'; cases hc'; exact absurd e (h.alone hb hc ho hn h1)
    · exact h.inj c c' j j' q q' hc hc' h2 h4 e
  · rcases hcases c _ hq with ⟨_, e2⟩ | ⟨_, h2⟩
    · exact absurd e2.symm (hn' e cs g)
    · rw [hg] at hgn; exact h.own c j e cs g hc h2 hgn
  · rcases hcases c q hq with ⟨e1, e2⟩ | ⟨_, h2⟩
    · subst e1; subst e2; rw [grpOf_other hn']; exact ⟨_, hb⟩
    · exact h.gm c j q hc h2
  · rw [hg] at hgs
    obtain ⟨h1, it, e, cs, h2, h3⟩ := h.gk g s t hgs
    refine ⟨h1, it, e, cs, h2, ?_⟩
    rw [hh, if_neg (fun e' => by subst e'; rw [ho] at h3; cases h3; exact hn e cs g rfl)]; exact h3
  · rcases hcases c _ hq with ⟨_, e2⟩ | ⟨_, h2⟩
    · exact absurd e2.symm (hn' e cs g)
    · rw [hg] at hgs
      obtain ⟨h3, h4⟩ := h.tip g s t c j e cs hgs hc h2
      refine ⟨h3, fun hs it et ct hit hct => ?_⟩
      rcases hcases t _ hct with ⟨_, e2⟩ | ⟨_, h5⟩
      · exact absurd e2.symm (hn' et ct g)
      · exact h4 hs it et ct hit h5

theorem Good.setOther (h : HRel P β σ w) {b : Nat} {i : BI} {o o' : O} {obj' : Obj} {w' : World} (hb : β b = some i) (ho : heapAt σ b = some o) (hn : ∀ e cs g, o ≠ .cells e cs g) (hn' : ∀ e cs g, o' ≠ .cells e cs g)
    (hw : w'.heap = w.heap.setIfInBounds i.blk obj') (hcalm : w'.os = w.os ∧ w'.output = w.output ∧ w'.tape = w.tape) (hr : OthR β o' obj') : Good P β σ w β (setObj σ b o') w' :=
  ⟨Ext.refl β, h.setOther hb ho hn hn' hw hr, by rw [hw]; simp, fun b i hb _ => ⟨b, i, hb, rfl⟩,
   fun c _ hc => by rw [hw, Array.getElem?_setIfInBounds_ne (hc b i hb)], hcalm, by rw [next_setObj]; exact Nat.le_refl _,
   fun c _ hc => ⟨by rw [heapAt_setObj, if_neg (fun e => by subst e; rw [hb] at hc; cases hc)], by rw [grpAt_setObj], hc⟩⟩
end
end Go.Am
namespace Go.Am

/-- A row with xs written from place p on. -/
def putRow (arr : Array Value) (p : Nat) (xs : List Value) : Array Value := (arr.toList.take p ++ xs ++ arr.toList.drop (p + xs.length)).toArray
theorem putRow_size (arr : Array Value) {p : Nat} {xs : List Value} (h : p + xs.length ≤ arr.size) : (putRow arr p xs).size = arr.size := by
  simp [putRow]; omega
theorem seg_get {α : Type} (l xs : List α) (p k : Nat) (h : p + xs.length ≤ l.length) : (l.take p ++ xs ++ l.drop (p + xs.length))[k]? = if p ≤ k ∧ k < p + xs.length then xs[k - p]? else l[k]? := by
  by_cases h1 : k < p
  · rw [if_neg (by omega), List.append_assoc, List.getElem?_append_left (by simp; omega), List.getElem?_take, if_pos h1]
  · by_cases h2 : k < p + xs.length
    · rw [if_pos ⟨by omega, h2⟩, List.getElem?_append_left (by simp; omega), List.getElem?_append_right (by simp; omega)]
      congr 1; simp; omega
    · rw [if_neg (by omega), List.getElem?_append_right (by simp; omega), List.getElem?_drop]
      congr 1; simp; omega
theorem putRow_get (arr : Array Value) {p : Nat} {xs : List Value} (k : Nat) (h : p + xs.length ≤ arr.size) : (putRow arr p xs)[k]? = if p ≤ k ∧ k < p + xs.length then xs[k - p]? else arr[k]? := by
  have := seg_get arr.toList xs p k (by simpa using h)
  simpa [putRow] using this

section
variable {P : Program} {β : BM} {σ σ' : St} {w : World}

theorem HRel.write (h : HRel P β σ w) {a : Nat × Nat} {vs : List V} {xs : List Value} (hw : writeCells σ a vs = some σ') {i : BI} (hb : β a.1 = some i) (hx : LR β vs xs) :
    ∃ arr e fz, w.heap[i.blk]? = some (.cells arr e fz) ∧ FZ arr.size fz ∧ i.off + a.2 + xs.length ≤ arr.size ∧ (∀ x ∈ xs, x.oneCell' = true) ∧
      Good P β σ w β σ' (w.setRow i.blk (putRow arr (i.off + a.2) xs)) := by
  obtain ⟨e, cs, g, cs', hc, hs, hσ⟩ := writeCells_eq hw
  obtain ⟨arr, fz, hwa, hcr⟩ := h.row hb hc
  obtain ⟨hs1, hs2, hs3⟩ := splice_some hs
  have hsl := splice_length hs
  have hxl := hx.length
  have hfit : i.off + a.2 + xs.length ≤ arr.size := by have := hcr.room; have := hcr.fit; omega
  have hone : ∀ x ∈ xs, x.oneCell' = true := by
    intro x hx'
    obtain ⟨n, hn⟩ := List.mem_iff_getElem?.1 hx'
    have hlt : n < vs.length := by have := (List.getElem?_eq_some_iff.1 hn).1; omega
    obtain ⟨y, hy, hv⟩ := hx.get (n := n) (v := vs[n]) (by rw [List.getElem?_eq_getElem hlt])
    rw [hn] at hy; cases hy
    exact hv.one (hs3 _ (List.getElem_mem hlt))
  have hh : ∀ c, heapAt σ' c = if a.1 = c then some (.cells e cs' g) else heapAt σ c := by
    intro c
    rcases hσ with ⟨_, rfl⟩ | ⟨s, _, rfl⟩
    · exact heapAt_setObj _ _ _ _
    · rw [heapAt_setGrp]; exact heapAt_setObj _ _ _ _
  have hnx : σ'.next = σ.next := by
    rcases hσ with ⟨_, rfl⟩ | ⟨s, _, rfl⟩
    · exact next_setObj _ _ _
    · rw [next_setGrp]; exact next_setObj _ _ _
  have hgr : ∀ c, c ≠ g → grpAt σ' c = grpAt σ c := by
    intro c hne
    rcases hσ with ⟨_, rfl⟩ | ⟨s, _, rfl⟩
    · exact grpAt_setObj _ _ _ _
    · rw [grpAt_setGrp, if_neg (fun e => hne e.symm)]; exact grpAt_setObj _ _ _ _
  have hgg : (grpAt σ g = none ∧ grpAt σ' g = none) ∨ (∃ s, grpAt σ g = some (s, a.1) ∧ grpAt σ' g = some (a.1, a.1)) := by
    rcases hσ with ⟨h1, rfl⟩ | ⟨s, h1, rfl⟩
    · left; exact ⟨h1, by rw [grpAt_setObj]; exact h1⟩
    · right; exact ⟨s, h1, by rw [grpAt_setGrp, if_pos rfl]⟩
  -- who is seen behind it was seen ahead of it
  have hlv : ∀ c g', live σ' c g' = true → live σ c g' = true := by
    intro c g' hl
    by_cases e1 : g' = g
    · subst e1
      rw [live_eq] at hl ⊢
      rcases hgg with ⟨h1, _⟩ | ⟨s, h1, h2⟩
      · intro s t hst; rw [h1] at hst; cases hst
      · intro s' t hst
        rw [h1] at hst; cases hst
        have := hl _ _ h2
        have := (h.gk _ _ _ h1).1.1
        omega
    · rw [live_eq] at hl ⊢; intro s t hst; exact hl s t (by rw [hgr g' e1]; exact hst)
  -- another block of the group is not seen behind it
  have hdead : ∀ c j e' cs'' , β c = some j → heapAt σ c = some (.cells e' cs'' g) → c ≠ a.1 → live σ' c g = true → False := by
    intro c j e' cs'' hcj hcc hne hl
    rcases hgg with ⟨h1, _⟩ | ⟨s, h1, h2⟩
    · have e1 := h.own c j e' cs'' g hcj hcc h1
      have e2 := h.own a.1 i e cs g hb hc h1
      exact hne (e1.symm.trans e2)
    · have := (live_eq _ _ _).1 hl _ _ h2
      have := (h.tip g s a.1 c j e' cs'' h1 hcj hcc).1
      omega
  have hcases : ∀ c q, heapAt σ' c = some q → (c = a.1 ∧ q = .cells e cs' g) ∨ (c ≠ a.1 ∧ heapAt σ c = some q) := fun c q hq => by
    rw [hh] at hq
    by_cases e1 : a.1 = c
    · rw [if_pos e1] at hq; exact .inl ⟨e1.symm, (Option.some.inj hq).symm⟩
    · rw [if_neg e1] at hq; exact .inr ⟨fun e' => e1 e'.symm, hq⟩
  have hrow : (w.setRow i.blk (putRow arr (i.off + a.2) xs)).heap[i.blk]? = some (.cells (putRow arr (i.off + a.2) xs) e fz) := setRow_heap _ _ _ _ _ _ hwa
  have hsz := putRow_size arr hfit
  have hrel : HRel P β σ' (w.setRow i.blk (putRow arr (i.off + a.2) xs)) := by
    refine ⟨fun c j hcj => by rw [hnx]; exact h.dom c j hcj, fun c j hcj => ?_, fun c c' j j' q q' hcj hcj' hq hq' ee => ?_, fun c j e' cs'' g' hcj hq hgn => ?_, fun c j q hcj hq => ?_, fun g' s t hgs => ?_, fun g' s t c j e' cs'' hgs hcj hq => ?_⟩
    · by_cases e1 : c = a.1
      · subst e1
        rw [hb] at hcj; cases hcj
        refine ⟨.cells e cs' g, _, by rw [hh, if_pos rfl], hrow, _, _, rfl, hcr.size, by rw [hsz]; exact hcr.room, by rw [hsl]; exact hcr.fit, by rw [hsz]; exact hcr.thaw, hcr.plain, ?_⟩
        intro hl k v hk
        have hlo := hlv _ _ hl
        rw [hs2, seg_get cs vs a.2 k hs1] at hk
        rw [putRow_get arr _ hfit]
        by_cases e2 : a.2 ≤ k ∧ k < a.2 + vs.length
        · rw [if_pos e2] at hk
          rw [if_pos (by omega)]
          obtain ⟨x, hx1, hx2⟩ := hx.get hk
          exact ⟨x, by rw [show i.off + k - (i.off + a.2) = k - a.2 by omega]; exact hx1, hx2⟩
        · rw [if_neg e2] at hk
          rw [if_neg (by omega)]
          exact hcr.cells hlo k v hk
      · obtain ⟨q, ob, hq, hwq, hrq⟩ := h.obj c j hcj
        by_cases e2 : j.blk = i.blk
        · -- in the same block of the world: a row of the same group: not seen any more
          rw [e2, hwa] at hwq; cases hwq
          have hig := h.inj c a.1 j i q _ hcj hb hq hc e2
          cases q with
          | cells e' cs'' g' =>
            have hig' : g' = g := hig
            subst hig'
            obtain ⟨arr2, fz2, e3, hcr2⟩ := hrq
            cases e3
            refine ⟨.cells _ cs'' g', _, by rw [hh, if_neg (fun e' => e1 e'.symm)]; exact hq, by rw [e2]; exact hrow, _, _, rfl, hcr2.size, by rw [hsz]; exact hcr2.room, hcr2.fit, by rw [hsz]; exact hcr2.thaw, hcr2.plain, ?_⟩
            intro hl
            exact (hdead c j _ _ hcj hq e1 hl).elim
          | map => obtain ⟨_, _, e3, _⟩ := hrq; cases e3
          | siter => obtain ⟨_, _, e3, _⟩ := hrq; cases e3
          | miter => obtain ⟨_, _, e3, _⟩ := hrq; cases e3
          | loop => obtain ⟨_, _, e3, _⟩ := hrq; cases e3
          | deferred => obtain ⟨_, e3⟩ := hrq; cases e3
        · refine ⟨q, ob, by rw [hh, if_neg (fun e' => e1 e'.symm)]; exact hq, by rw [setRow_other _ _ _ _ e2]; exact hwq, ?_⟩
          cases q with
          | cells e' cs'' g' =>
            obtain ⟨arr2, fz2, e3, hcr2⟩ := hrq
            exact ⟨arr2, fz2, e3, hcr2.mono (Ext.refl β) (hlv _ _)⟩
          | _ => exact hrq
    · have hgo : ∀ c q, heapAt σ' c = some q → ∃ q0, heapAt σ c = some q0 ∧ grpOf c q0 = grpOf c q := fun c q hq => by
        rcases hcases c q hq with ⟨e1, e2⟩ | ⟨_, h2⟩
        · subst e1; subst e2; exact ⟨_, hc, rfl⟩
        · exact ⟨q, h2, rfl⟩
      obtain ⟨q0, hq0, e0⟩ := hgo c q hq
      obtain ⟨q1, hq1, e1⟩ := hgo c' q' hq'
      rw [← e0, ← e1]
      exact h.inj c c' j j' q0 q1 hcj hcj' hq0 hq1 ee
    · have hgn0 : grpAt σ g' = none := by
        by_cases e1 : g' = g
        · subst e1
          rcases hgg with ⟨h1, _⟩ | ⟨s, _, h2⟩
          · exact h1
          · rw [h2] at hgn; cases hgn
        · rw [← hgr g' e1]; exact hgn
      rcases hcases c _ hq with ⟨e1, e2⟩ | ⟨_, h2⟩
      · subst e1; cases e2; exact h.own _ j _ _ _ hcj hc hgn0
      · exact h.own c j e' cs'' g' hcj h2 hgn0
    · rcases hcases c q hq with ⟨e1, e2⟩ | ⟨_, h2⟩
      · subst e1; subst e2; exact h.gm _ j (.cells e cs g) hcj hc
      · exact h.gm c j q hcj h2
    · by_cases e1 : g' = g
      · subst e1
        rcases hgg with ⟨_, h2⟩ | ⟨s0, h1, h2⟩
        · rw [h2] at hgs; cases hgs
        · rw [h2] at hgs; cases hgs
          exact ⟨⟨Nat.le_refl _, (h.gk _ _ _ h1).1.2⟩, i, e, cs', hb, by rw [hh, if_pos rfl]⟩
      · rw [hgr g' e1] at hgs
        obtain ⟨h1, it, e', cs'', h2, h3⟩ := h.gk g' s t hgs
        refine ⟨h1, it, e', cs'', h2, ?_⟩
        rw [hh, if_neg (fun e' => by subst e'; rw [hc] at h3; cases h3; exact e1 rfl)]; exact h3
    · by_cases e1 : g' = g
      · subst e1
        rcases hgg with ⟨_, h2⟩ | ⟨s0, h1, h2⟩
        · rw [h2] at hgs; cases hgs
        · rw [h2] at hgs; cases hgs
          rcases hcases c _ hq with ⟨e3, e4⟩ | ⟨hne, h4⟩
          · subst e3; cases e4
            refine ⟨Nat.le_refl _, fun _ it et ct hit hct ee => ?_⟩
            rw [hb] at hit; cases hit
            rw [hh, if_pos rfl] at hct; cases hct
            rw [hb] at hcj; cases hcj
            exact Nat.le_refl _
          · have h5 := (h.tip g' s0 a.1 c j e' cs'' h1 hcj h4).1
            exact ⟨h5, fun hs => absurd (Nat.le_antisymm h5 hs) hne⟩
      · rw [hgr g' e1] at hgs
        rcases hcases c _ hq with ⟨_, e4⟩ | ⟨_, h4⟩
        · cases e4; exact absurd rfl e1
        · obtain ⟨h5, h6⟩ := h.tip g' s t c j e' cs'' hgs hcj h4
          refine ⟨h5, fun hs it et ct hit hct => ?_⟩
          rcases hcases t _ hct with ⟨_, e5⟩ | ⟨_, h7⟩
          · cases e5; exact absurd rfl e1
          · exact h6 hs it et ct hit h7
  refine ⟨arr, e, fz, hwa, hcr.thaw, hfit, hone, Ext.refl β, hrel, by simp, fun b i hb _ => ⟨b, i, hb, rfl⟩, fun c _ hcn => setRow_other _ _ _ _ (fun e1 => hcn a.1 i hb e1.symm), ⟨rfl, rfl, rfl⟩, by rw [hnx]; exact Nat.le_refl _, fun c _ hcn => ⟨?_, ?_, hcn⟩⟩
  · rw [hh, if_neg (fun e1 => by subst e1; rw [hb] at hcn; cases hcn)]
  · exact hgr c (fun e1 => by
      subst e1
      obtain ⟨i', hi'⟩ := h.gm a.1 i _ hb hc
      have : β c = some i' := hi'
      rw [hcn] at this; cases this)
end
end Go.Am
namespace Go.Am

/-- What an append beyond what is seen does to the state. -/
structure Crossed (σ : St) (e size : Nat) (a : Nat × Nat) (m : Nat) (new : List V) (k since : Nat) (cs old : List V) (grp : Nat) (σ' : St) : Prop where
  row : heapAt σ a.1 = some (.cells e cs grp)
  hold : readCells σ a (m * size) = some old
  next : σ.next = k + 1
  next' : σ'.next = k + 2
  heap : ∀ c, heapAt σ' c = if k = c then some (.cells e (old ++ new) grp) else heapAt σ c
  grps : ∀ c, grpAt σ' c = if grp = c then some (since, k) else grpAt σ c
  hsince : (grpAt σ grp = none ∧ since = if a.2 + m * size = cs.length then a.1 else k) ∨
    (∃ s t, grpAt σ grp = some (s, t) ∧ since = if a.2 + m * size = cs.length ∧ t = a.1 then s else k)
  ones : ∀ v ∈ new, v.one = true

theorem cross_eq {σ σ' : St} {e size : Nat} {a : Nat × Nat} {m n : Nat} {new : List V} {v : V} (h : cross σ e size a m n new = some (v, σ')) :
    ∃ k since cs old grp, v = .slc (some (k, 0)) (m + n) none ∧ Crossed σ e size a m new k since cs old grp σ' := by
  unfold cross at h
  obtain ⟨e', cs, grp, hc, h⟩ := ob3_eq.1 h
  obtain ⟨he, h⟩ := ok_eq.1 h
  rw [Bool.and_eq_true, List.all_eq_true] at he
  have := Nat.eq_of_beq_eq_true he.1; subst this
  obtain ⟨old, hold, h⟩ := ob_eq.1 h
  obtain ⟨k, σ1, ha, h⟩ := ob2_eq.1 h
  obtain ⟨hk, rfl⟩ := alloc_eq.1 ha
  have h' := Option.some.inj h
  obtain ⟨hv, hσ⟩ := Prod.mk.inj h'
  have hbeq : ∀ x y : Nat, Nat.beq x y = true ↔ x = y := fun x y => ⟨Nat.eq_of_beq_eq_true, fun e => by subst e; exact Nat.beq_refl _⟩
  refine ⟨k, (Option.rec (Bool.rec k a.1 (Nat.beq (a.2 + m * size) (len cs)), k) (fun g => (Bool.rec k g.1 (Nat.beq (a.2 + m * size) (len cs) && Nat.beq g.2 a.1), k)) (grpAt σ grp) : Nat × Nat).1, cs, old, grp, hv.symm, cellsAt_eq.1 hc, hold, hk, ?_, fun c => ?_, fun c => ?_, ?_, he.2⟩
  · rw [← hσ, next_setGrp]
  · rw [← hσ, heapAt_setGrp]; cases σ; exact T.get_put _ _ _ _
  · rw [← hσ, grpAt_setGrp]
    by_cases e1 : grp = c
    · rw [if_pos e1, if_pos e1]
      cases grpAt σ grp <;> rfl
    · rw [if_neg e1, if_neg e1]; cases σ; rfl
  · cases hg : grpAt σ grp with
    | none =>
      left
      refine ⟨rfl, ?_⟩
      rw [len_eq]
      by_cases e1 : a.2 + m * size = cs.length
      · rw [if_pos e1, (hbeq _ _).2 e1]
      · rw [if_neg e1, Bool.eq_false_iff.2 (fun e2 => e1 ((hbeq _ _).1 e2))]
    | some p =>
      obtain ⟨s, t⟩ := p
      right
      refine ⟨s, t, rfl, ?_⟩
      rw [len_eq]
      by_cases e1 : a.2 + m * size = cs.length ∧ t = a.1
      · rw [if_pos e1]
        show (Bool.rec k s (Nat.beq (a.2 + m * size) cs.length && Nat.beq t a.1) : Nat) = s
        rw [(hbeq _ _).2 e1.1, (hbeq _ _).2 e1.2]; rfl
      · rw [if_neg e1]
        have : (Nat.beq (a.2 + m * size) cs.length && Nat.beq t a.1) = false := by
          rw [Bool.eq_false_iff]; intro e2; rw [Bool.and_eq_true, hbeq, hbeq] at e2; exact e1 e2
        show (Bool.rec k s (Nat.beq (a.2 + m * size) cs.length && Nat.beq t a.1) : Nat) = k
        rw [this]

section
variable {P : Program} {β : BM} {σ σ' : St} {w w' : World} {e size m : Nat} {a : Nat × Nat} {new : List V} {k since : Nat} {cs old : List V} {grp : Nat}

/-- Who of the group is still seen behind it: it ended where the append began. -/
theorem Crossed.seen (h : HRel P β σ w) (hc : Crossed σ e size a m new k since cs old grp σ') {i : BI} (hb : β a.1 = some i) {b : Nat} {j : BI} {e' : TypeId} {cs' : List V} (hbj : β b = some j) (hbc : heapAt σ b = some (.cells e' cs' grp)) (hs : since ≤ b) :
    live σ b grp = true ∧ a.2 + m * size = cs.length ∧ (j.blk = i.blk → j.off + cs'.length ≤ i.off + cs.length) := by
  have hbk : b < k := by have := h.dom b j hbj; have := hc.next; omega
  rcases hc.hsince with ⟨h1, h2⟩ | ⟨s, t, h1, h2⟩
  · by_cases e1 : a.2 + m * size = cs.length
    · rw [if_pos e1] at h2
      have e2 := h.own b j _ _ _ hbj hbc h1
      have e3 := h.own a.1 i _ _ _ hb hc.row h1
      have e4 : b = a.1 := e2.symm.trans e3
      subst e4
      rw [hb] at hbj; cases hbj
      rw [hc.row] at hbc; cases hbc
      exact ⟨(live_eq _ _ _).2 fun s t hst => (by rw [h1] at hst; cases hst), e1, fun _ => Nat.le_refl _⟩
    · rw [if_neg e1] at h2; omega
  · by_cases e1 : a.2 + m * size = cs.length ∧ t = a.1
    · rw [if_pos e1] at h2
      obtain ⟨e1, e2⟩ := e1
      subst e2
      refine ⟨(live_eq _ _ _).2 fun s' t' hst => by rw [h1] at hst; cases hst; omega, e1, fun hblk => ?_⟩
      exact (h.tip _ _ _ b j _ _ h1 hbj hbc).2 (by omega) i _ _ hb hc.row hblk
    · rw [if_neg e1] at h2; omega

theorem Crossed.since_le (h : HRel P β σ w) (hc : Crossed σ e size a m new k since cs old grp σ') {i : BI} (hb : β a.1 = some i) : since ≤ k := by
  have h0 := h.dom _ _ hb
  have h1 := hc.next
  rcases hc.hsince with ⟨_, h2⟩ | ⟨s, t, h3, h2⟩
  · split at h2 <;> omega
  · split at h2
    · have := (h.gk _ _ _ h3).1.1
      obtain ⟨it, _, _, h4, _⟩ := (h.gk _ _ _ h3).2
      have := h.dom _ _ h4
      omega
    · omega

theorem Crossed.rel (h : HRel P β σ w) (hc : Crossed σ e size a m new k since cs old grp σ') {i : BI} (hb : β a.1 = some i) {ik : BI} {arrk : Array Value} {fzk : Nat × Nat}
    (hk : w'.heap[ik.blk]? = some (.cells arrk e fzk)) (hkr : CellsR P (upd β k ik) ik True e (old ++ new) arrk fzk)
    (hshape : ∀ b j e' cs' g', β b = some j → heapAt σ b = some (.cells e' cs' g') → ∀ arr fz, w.heap[j.blk]? = some (.cells arr e' fz) →
      ∃ arr', w'.heap[j.blk]? = some (.cells arr' e' fz) ∧ arr'.size = arr.size ∧ ((g' = grp → since ≤ b) → ∀ q, j.off ≤ q → q < j.off + cs'.length → arr'[q]? = arr[q]?))
    (hother : ∀ b j o, β b = some j → heapAt σ b = some o → (∀ e cs g, o ≠ .cells e cs g) → w'.heap[j.blk]? = w.heap[j.blk]?)
    (hkinj : ∀ b j o, β b = some j → heapAt σ b = some o → j.blk = ik.blk → grpOf b o = grp)
    (hktip : ∀ b j e' cs', β b = some j → heapAt σ b = some (.cells e' cs' grp) → since ≤ b → j.blk = ik.blk → j.off + cs'.length ≤ ik.off + (old ++ new).length) :
    HRel P (upd β k ik) σ' w' := by
  have hkn : β k = none := by
    cases hbk : β k with
    | none => rfl
    | some j => have := h.dom k j hbk; have := hc.next; omega
  have ext := upd_ext ik hkn
  have hcase : ∀ b j, upd β k ik b = some j → (b = k ∧ j = ik) ∨ (b ≠ k ∧ β b = some j) := fun b j hbj => by
    by_cases e1 : b = k
    · subst e1; rw [upd_self] at hbj; exact .inl ⟨rfl, (Option.some.inj hbj).symm⟩
    · rw [upd_ne _ _ e1] at hbj; exact .inr ⟨e1, hbj⟩
  have hhk : heapAt σ' k = some (.cells e (old ++ new) grp) := by rw [hc.heap, if_pos rfl]
  have hhn : ∀ c, c ≠ k → heapAt σ' c = heapAt σ c := fun c hne => by rw [hc.heap, if_neg (fun e1 => hne e1.symm)]
  have hsk := hc.since_le h hb
  have hlv : ∀ b j e' cs' g', b ≠ k → β b = some j → heapAt σ b = some (.cells e' cs' g') → live σ' b g' = true → live σ b g' = true ∧ (g' = grp → since ≤ b) := by
    intro b j e' cs' g' hne hbj hbc hl
    by_cases e1 : g' = grp
    · subst e1
      have h1 := (live_eq _ _ _).1 hl since k (by rw [hc.grps, if_pos rfl])
      exact ⟨(hc.seen h hb hbj hbc h1).1, fun _ => h1⟩
    · refine ⟨?_, fun e2 => absurd e2 e1⟩
      rw [live_eq] at hl ⊢
      intro s t hst
      exact hl s t (by rw [hc.grps, if_neg (fun e2 => e1 e2.symm)]; exact hst)
  refine ⟨fun b j hbj => ?_, fun b j hbj => ?_, fun b b' j j' p p' hbj hbj' hp hp' ee => ?_, fun b j e' cs' g' hbj hp hgn => ?_, fun b j p hbj hp => ?_, fun g' s t hgs => ?_, fun g' s t b j e' cs' hgs hbj hp => ?_⟩
  · rw [hc.next']
    rcases hcase b j hbj with ⟨e1, _⟩ | ⟨_, hb2⟩
    · omega
    · have := h.dom b j hb2; have := hc.next; omega
  · rcases hcase b j hbj with ⟨e1, e2⟩ | ⟨hne, hb2⟩
    · subst e1; subst e2
      exact ⟨.cells e (old ++ new) grp, _, hhk, hk, arrk, fzk, rfl, hkr.mono (Ext.refl _) (fun _ => trivial)⟩
    · obtain ⟨p, obj, hp, hwp, hrp⟩ := h.obj b j hb2
      cases p with
      | cells e' cs' g' =>
        obtain ⟨arr, fz, e1, hcr⟩ := hrp
        subst e1
        obtain ⟨arr', h1, h2, h3⟩ := hshape b j e' cs' g' hb2 hp arr fz hwp
        refine ⟨.cells e' cs' g', _, by rw [hhn b hne]; exact hp, h1, arr', fz, rfl, hcr.size, by rw [h2]; exact hcr.room, hcr.fit, by rw [h2]; exact hcr.thaw, hcr.plain, ?_⟩
        intro hl q v hq
        obtain ⟨hl1, hl2⟩ := hlv b j e' cs' g' hne hb2 hp hl
        obtain ⟨x, hx, hv⟩ := hcr.cells hl1 q v hq
        have hql : q < cs'.length := (List.getElem?_eq_some_iff.1 hq).1
        exact ⟨x, by rw [h3 hl2 (j.off + q) (by omega) (by omega)]; exact hx, VR.mono ext _ _ hv⟩
      | map x y => exact ⟨.map x y, obj, by rw [hhn b hne]; exact hp, by rw [hother b j _ hb2 hp (by intros; simp)]; exact hwp, hrp.1, hrp.2.mono ext⟩
      | siter x y => exact ⟨.siter x y, obj, by rw [hhn b hne]; exact hp, by rw [hother b j _ hb2 hp (by intros; simp)]; exact hwp, hrp.1, hrp.2.mono ext⟩
      | miter x y z u => exact ⟨.miter x y z u, obj, by rw [hhn b hne]; exact hp, by rw [hother b j _ hb2 hp (by intros; simp)]; exact hwp, hrp.1, hrp.2.mono ext⟩
      | loop x => exact ⟨.loop x, obj, by rw [hhn b hne]; exact hp, by rw [hother b j _ hb2 hp (by intros; simp)]; exact hwp, hrp.1, hrp.2.mono ext⟩
      | deferred x => exact ⟨.deferred x, obj, by rw [hhn b hne]; exact hp, by rw [hother b j _ hb2 hp (by intros; simp)]; exact hwp, hrp.1, hrp.2.mono ext⟩
  · rcases hcase b j hbj with ⟨e1, e2⟩ | ⟨hne, hb2⟩ <;> rcases hcase b' j' hbj' with ⟨e3, e4⟩ | ⟨hne', hb2'⟩
    · subst e1; subst e3; rw [hp] at hp'; cases hp'; rfl
    · subst e1; subst e2
      rw [hhk] at hp; cases hp
      rw [hhn b' hne'] at hp'
      exact (hkinj b' j' p' hb2' hp' ee.symm).symm
    · subst e3; subst e4
      rw [hhk] at hp'; cases hp'
      rw [hhn b hne] at hp
      exact hkinj b j p hb2 hp ee
    · rw [hhn b hne] at hp; rw [hhn b' hne'] at hp'
      exact h.inj b b' j j' p p' hb2 hb2' hp hp' ee
  · by_cases e1 : g' = grp
    · subst e1; rw [hc.grps, if_pos rfl] at hgn; cases hgn
    · rw [hc.grps, if_neg (fun e2 => e1 e2.symm)] at hgn
      rcases hcase b j hbj with ⟨e2, _⟩ | ⟨hne, hb2⟩
      · subst e2; rw [hhk] at hp; cases hp; exact absurd rfl e1
      · rw [hhn b hne] at hp; exact h.own b j e' cs' g' hb2 hp hgn
  · rcases hcase b j hbj with ⟨e2, _⟩ | ⟨hne, hb2⟩
    · subst e2; rw [hhk] at hp; cases hp
      obtain ⟨i', hi'⟩ := h.gm a.1 i _ hb hc.row
      exact ⟨i', ext _ _ hi'⟩
    · rw [hhn b hne] at hp
      obtain ⟨i', hi'⟩ := h.gm b j p hb2 hp
      exact ⟨i', ext _ _ hi'⟩
  · by_cases e1 : g' = grp
    · subst e1
      rw [hc.grps, if_pos rfl] at hgs; cases hgs
      obtain ⟨i', hi'⟩ := h.gm a.1 i _ hb hc.row
      exact ⟨⟨hsk, i', ext _ _ hi'⟩, ik, e, old ++ new, upd_self _ _ _, hhk⟩
    · rw [hc.grps, if_neg (fun e2 => e1 e2.symm)] at hgs
      obtain ⟨⟨h1, i', hi'⟩, it, e', cs', h2, h3⟩ := h.gk g' s t hgs
      refine ⟨⟨h1, i', ext _ _ hi'⟩, it, e', cs', ext _ _ h2, ?_⟩
      rw [hhn t (fun e2 => by subst e2; rw [hkn] at h2; cases h2)]; exact h3
  · by_cases e1 : g' = grp
    · subst e1
      rw [hc.grps, if_pos rfl] at hgs; cases hgs
      rcases hcase b j hbj with ⟨e2, e3⟩ | ⟨hne, hb2⟩
      · subst e2; subst e3
        refine ⟨Nat.le_refl _, fun _ it et ct hit hct _ => ?_⟩
        rw [upd_self] at hit; cases hit
        rw [hhk] at hp hct; cases hp; cases hct
        exact Nat.le_refl _
      · rw [hhn b hne] at hp
        have hbk := h.dom b j hb2
        have := hc.next
        refine ⟨by omega, fun hs it et ct hit hct ee => ?_⟩
        rw [upd_self] at hit; cases hit
        rw [hhk] at hct; cases hct
        exact hktip b j _ _ hb2 hp hs ee
    · rw [hc.grps, if_neg (fun e2 => e1 e2.symm)] at hgs
      rcases hcase b j hbj with ⟨e2, _⟩ | ⟨hne, hb2⟩
      · subst e2; rw [hhk] at hp; cases hp; exact absurd rfl e1
      · rw [hhn b hne] at hp
        obtain ⟨h1, h2⟩ := h.tip g' s t b j e' cs' hgs hb2 hp
        refine ⟨h1, fun hs it et ct hit hct ee => ?_⟩
        rcases hcase t it hit with ⟨e3, _⟩ | ⟨hne', hit2⟩
        · subst e3; rw [hhk] at hct; cases hct; exact absurd rfl e1
        · rw [hhn t hne'] at hct
          exact h2 hs it et ct hit2 hct ee
end
end Go.Am
namespace Go.Am

section
variable {P : Program}

theorem infoT_some {t : TypeId} {i : TypeInfo} (h : infoT P t = some i) : P.info? t = some i := by
  unfold infoT typesT at h
  rw [T.get_fill] at h
  split at h
  · rename_i hlt
    simp only [Nat.sub_zero, Array.getElem?_toList] at h
    have : t < P.types.size := by simpa using hlt.2
    unfold Tables.info?
    rw [if_pos this]; exact h
  · simp at h

theorem undT_some {t : TypeId} {d : TypeDesc} (h : undT P t = some d) : P.underlying t = some d := by
  unfold undT at h
  obtain ⟨i, hi, h⟩ := ob_eq.1 h
  unfold Program.underlying
  rw [infoT_some hi]
  obtain ⟨desc, str, size, bytes, hp, al, fa, zero, cmp, ms⟩ := i
  unfold descOf at h
  cases desc with
  | named n u =>
    obtain ⟨j, hj, h⟩ := ob_eq.1 h
    simp only [infoT_some hj, Option.map_some]; exact h
  | _ => exact h

theorem funcAt_some {f : FuncId} {fn : Func} (h : funcAt P f = some fn) : P.funcs[f]? = some fn := by
  unfold funcAt funcsT at h
  rw [T.get_fill] at h
  split at h
  · simpa only [Nat.sub_zero, Array.getElem?_toList] using h
  · simp at h

theorem sizeT_some {t : TypeId} {n : Nat} (h : sizeT P t = some n) : ∃ i, P.info? t = some i ∧ i.size = n := by
  unfold sizeT at h
  obtain ⟨i, hi, h⟩ := ob_eq.1 h
  exact ⟨i, infoT_some hi, Option.some.inj h⟩

variable (w : World)
theorem run_typeInfo {t : TypeId} {i : TypeInfo} (h : P.info? t = some i) : (typeInfo t).run P w = .ok i w := by simp [typeInfo, h]
theorem run_underlying {t : TypeId} {d : TypeDesc} (h : undT P t = some d) : (underlying t).run P w = .ok d w := by simp [underlying, undT_some h]
theorem run_sizeOf {t : TypeId} {n : Nat} (h : sizeT P t = some n) : (sizeOf t).run P w = .ok n w := by
  obtain ⟨i, hi, rfl⟩ := sizeT_some h
  simp [sizeOf, run_typeInfo w hi]
theorem run_isAgg {t : TypeId} {b : Bool} (h : aggT P t = some b) : (isAgg t).run P w = .ok b w := by
  unfold aggT at h
  obtain ⟨d, hd, h⟩ := ob_eq.1 h
  have := Option.some.inj h; subst this
  unfold isAgg
  simp only [Sem.run_bind, run_underlying w hd, Result.andThen_ok]
  cases d <;> rfl
theorem run_zeroValue {t : TypeId} {v : V} (h : zeroT P t = some v) : ∃ z, (zeroValue t).run P w = .ok z w ∧ ofValue z = some v ∧ ∃ i, P.info? t = some i ∧ i.zero = some z := by
  unfold zeroT at h
  obtain ⟨i, hi, h⟩ := ob_eq.1 h
  obtain ⟨z, hz, h⟩ := ob_eq.1 h
  refine ⟨z, ?_, h, i, infoT_some hi, hz⟩
  unfold zeroValue
  simp [run_typeInfo w (infoT_some hi), hz]

theorem elemT_some {t : TypeId} {e : TypeId} (h : elemT P t = some e) : undT P t = some (.slice e) := by
  unfold elemT at h
  obtain ⟨d, hd, h⟩ := ob_eq.1 h
  cases d <;> first | (cases h; done) | skip
  cases h; exact hd
theorem arrayT_some {t : TypeId} {n e : Nat} (h : arrayT P t = some (n, e)) : undT P t = some (.array n e) := by
  unfold arrayT at h
  obtain ⟨d, hd, h⟩ := ob_eq.1 h
  cases d <;> first | (cases h; done) | skip
  cases h; exact hd
theorem mapT_some {t : TypeId} {k e : TypeId} (h : mapT P t = some (k, e)) : undT P t = some (.map k e) := by
  unfold mapT at h
  obtain ⟨d, hd, h⟩ := ob_eq.1 h
  cases d <;> first | (cases h; done) | skip
  cases h; exact hd
theorem fieldT_some {t : TypeId} {i : Nat} {f : Field} (h : fieldT P t i = some f) : ∃ fs, undT P t = some (.struct fs) ∧ fs[i]? = some f := by
  unfold fieldT at h
  obtain ⟨d, hd, h⟩ := ob_eq.1 h
  cases d <;> first | (cases h; done) | skip
  exact ⟨_, hd, h⟩
theorem sizedT_some {t : TypeId} {n : Nat} (h : sizedT P t = some n) : sizeT P t = some n ∧ 0 < n := by
  unfold sizedT at h
  obtain ⟨d, hd, h⟩ := ob_eq.1 h
  obtain ⟨h1, h2⟩ := ok_eq.1 h
  cases h2; exact ⟨hd, Nat.le_of_ble_eq_true h1⟩
theorem elemSized_some {t e n : Nat} (h : elemSized P t = some (e, n)) : undT P t = some (.slice e) ∧ sizeT P e = some n ∧ 0 < n := by
  unfold elemSized at h
  obtain ⟨e', he, h⟩ := ob_eq.1 h
  obtain ⟨n', hn, h⟩ := ob_eq.1 h
  cases h
  exact ⟨elemT_some he, sizedT_some hn⟩
theorem shapeT_some {t : TypeId} {b : Bool} {n : Nat} (h : shapeT P t = some (b, n)) : aggT P t = some b ∧ sizeT P t = some n := by
  unfold shapeT at h
  obtain ⟨b', hb, h⟩ := ob_eq.1 h
  obtain ⟨n', hn, h⟩ := ob_eq.1 h
  cases h; exact ⟨hb, hn⟩

/-! Views of values -/
theorem asBool_some {v : V} {b : Bool} (h : v.asBool = some b) : v = .bool b := by
  cases v <;> first | (cases h; done) | skip
  cases h; rfl
theorem asPtr_some {v : V} {a : Nat × Nat} (h : v.asPtr = some a) : v = .ptr (some a) := by
  cases v <;> first | (cases h; done) | skip
  rename_i p; cases p <;> cases h; rfl
theorem asAgg_some {v : V} {l : List V} (h : v.asAgg = some l) : v = .agg l := by
  cases v <;> first | (cases h; done) | skip
  cases h; rfl
theorem asTup_some {v : V} {l : List V} (h : v.asTup = some l) : v = .tup l := by
  cases v <;> first | (cases h; done) | skip
  cases h; rfl
theorem asNat_some {v : V} {n : Nat} (h : v.asNat = some n) : ∃ k, v = .int k n := by
  cases v <;> first | (cases h; done) | skip
  rename_i k m; cases m <;> cases h; exact ⟨k, rfl⟩
theorem asMap_some {v : V} {n : Nat} (h : v.asMap = some n) : v = .map (some n) := by
  cases v <;> first | (cases h; done) | skip
  rename_i m; cases m <;> cases h; rfl
theorem asByte_some {v : V} {n : Nat} (h : v.asByte = some n) : v = .int .u8 n ∧ n < 256 := by
  unfold V.asByte at h
  split at h
  · obtain ⟨h1, h2⟩ := ok_eq.1 h
    cases h2; exact ⟨rfl, Nat.le_of_ble_eq_true h1⟩
  · cases h
end

/-! Loads -/
section
variable {P : Program} {β : BM} {σ : St} {w : World}

theorem HRel.loadS (h : HRel P β σ w) {t : TypeId} {s : Bool × Nat} (hs : shapeT P t = some s) {p : Nat × Nat} {v : V} (hl : loadS σ s p = some v) {i : BI} (hb : β p.1 = some i) :
    ∃ x, (loadVar t ⟨i.blk, i.off + p.2, none⟩).run P w = .ok x w ∧ VR β v x := by
  obtain ⟨b, n⟩ := s
  obtain ⟨hb1, hn⟩ := shapeT_some hs
  unfold loadVar
  simp only [Sem.run_bind, run_isAgg w hb1, Result.andThen_ok]
  cases b with
  | true =>
    obtain ⟨vs, hvs, e⟩ := ob_eq.1 (hl : ob (Am.readCells σ p n) (fun l => some (.agg l)) = some v)
    cases e
    obtain ⟨xs, hx, _, _, hr, _⟩ := h.readCells hvs hb
    refine ⟨.agg xs.toArray, ?_, ?_⟩
    · simp [run_sizeOf w hn, hx]
    · simp only [VR]; exact ⟨_, rfl, hr⟩
  | false =>
    obtain ⟨x, hx, hr⟩ := h.readCell (hl : Am.readCell σ p = some v) hb
    refine ⟨x, ?_, hr⟩
    simp [run_load, hx]

theorem HRel.loadT (h : HRel P β σ w) {t : TypeId} {p : Nat × Nat} {v : V} (hl : Am.loadT P σ t p = some v) {i : BI} (hb : β p.1 = some i) :
    ∃ x, (loadVar t ⟨i.blk, i.off + p.2, none⟩).run P w = .ok x w ∧ VR β v x := by
  unfold Am.loadT at hl
  obtain ⟨s, hs, hl⟩ := ob_eq.1 hl
  exact h.loadS hs hl hb

theorem part_sound {t : TypeId} {cs : List V} {off : Nat} {v : V} (hp : part P t cs off = some v) {xs : Array Value} (hx : LR β cs xs.toList) :
    ∃ x, (Go.part t xs off).run P w = .ok x w ∧ VR β v x := by
  unfold part at hp
  obtain ⟨⟨b, n⟩, hs, hp⟩ := ob_eq.1 hp
  obtain ⟨hb1, hn⟩ := shapeT_some hs
  unfold Go.part
  simp only [Sem.run_bind, run_isAgg w hb1, Result.andThen_ok]
  cases b with
  | true =>
    obtain ⟨vs, hvs, e⟩ := ob_eq.1 (hp : ob (takeN n (dropN off cs)) (fun l => some (.agg l)) = some v)
    cases e
    rw [dropN_eq, takeN_some] at hvs
    obtain ⟨h1, rfl⟩ := hvs
    refine ⟨.agg (xs.extract off (off + n)), ?_, ?_⟩
    · simp [run_sizeOf w hn]
    · simp only [VR]
      refine ⟨_, rfl, ?_⟩
      have := (hx.drop off).take n
      simpa [Array.toList_extract, List.extract_eq_take_drop] using this
  | false =>
    have hp' : nth off cs = some v := hp
    rw [nth_eq] at hp'
    obtain ⟨x, hx1, hx2⟩ := hx.get hp'
    refine ⟨x, ?_, hx2⟩
    rw [Array.getElem?_toList] at hx1
    simp [hx1]
end
end Go.Am
