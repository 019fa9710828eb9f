/- Tries, lists side by side, and values side by side. -/
import Derived.Test.YtpnfkkoflppkhaaGreatDoorExStep
noncomputable section
namespace Go.Ex

section tries
variable {α : Type}
theorem T.get_e (k : Nat) : (T.e : T α).get k = none := rfl
theorem T.get_zero (l r : T α) (v : Option α) : (T.n l v r).get 0 = v := rfl
theorem T.get_succ (l r : T α) (v : Option α) (j : Nat) : (T.n l v r).get (j + 1) = if j % 2 = 1 then l.get (j / 2) else r.get (j / 2) := by
  show Bool.rec (motive := fun _ => Option α) (r.get (j / 2)) (l.get (j / 2)) (Nat.beq (j % 2) 1) = _
  by_cases h : j % 2 = 1
  · rw [if_pos h, h]; rfl
  · have : Nat.beq (j % 2) 1 = false := by
      cases hb : Nat.beq (j % 2) 1
      · rfl
      · exact absurd (Nat.eq_of_beq_eq_true hb) h
    rw [if_neg h, this]

theorem T.put_e_zero (v : Option α) (f : Nat) : T.put v (f + 1) .e 0 = .n .e v .e := rfl
theorem T.put_n_zero (v w : Option α) (f : Nat) (l r : T α) : T.put v (f + 1) (.n l w r) 0 = .n l v r := rfl
theorem T.put_e_succ (v : Option α) (f j : Nat) : T.put v (f + 1) .e (j + 1) = if j % 2 = 1 then .n (T.put v f .e (j / 2)) none .e else .n .e none (T.put v f .e (j / 2)) := by
  show Bool.rec (motive := fun _ => T α) _ _ (Nat.beq (j % 2) 1) = _
  by_cases h : j % 2 = 1
  · rw [if_pos h, h]; rfl
  · have : Nat.beq (j % 2) 1 = false := by
      cases hb : Nat.beq (j % 2) 1
      · rfl
      · exact absurd (Nat.eq_of_beq_eq_true hb) h
    rw [if_neg h, this]; rfl
theorem T.put_n_succ (v w : Option α) (f j : Nat) (l r : T α) : T.put v (f + 1) (.n l w r) (j + 1) = if j % 2 = 1 then .n (T.put v f l (j / 2)) w r else .n l w (T.put v f r (j / 2)) := by
  show Bool.rec (motive := fun _ => T α) _ _ (Nat.beq (j % 2) 1) = _
  by_cases h : j % 2 = 1
  · rw [if_pos h, h]; rfl
  · have : Nat.beq (j % 2) 1 = false := by
      cases hb : Nat.beq (j % 2) 1
      · rfl
      · exact absurd (Nat.eq_of_beq_eq_true hb) h
    rw [if_neg h, this]; rfl

theorem T.get_put_same (v : Option α) : ∀ (f : Nat) (t : T α) (k : Nat), k + 1 < 2 ^ f → (T.put v f t k).get k = v
  | 0, _, _, h => by simp at h
  | f + 1, .e, 0, _ => rfl
  | f + 1, .n _ _ _, 0, _ => rfl
  | f + 1, .e, j + 1, h => by
    have hj : j / 2 + 1 < 2 ^ f := by rw [Nat.pow_succ] at h; omega
    rw [T.put_e_succ]; split
    · rename_i hm; rw [T.get_succ, if_pos hm]; exact T.get_put_same v f _ _ hj
    · rename_i hm; rw [T.get_succ, if_neg hm]; exact T.get_put_same v f _ _ hj
  | f + 1, .n l w r, j + 1, h => by
    have hj : j / 2 + 1 < 2 ^ f := by rw [Nat.pow_succ] at h; omega
    rw [T.put_n_succ]; split
    · rename_i hm; rw [T.get_succ, if_pos hm]; exact T.get_put_same v f _ _ hj
    · rename_i hm; rw [T.get_succ, if_neg hm]; exact T.get_put_same v f _ _ hj

theorem T.get_put_other (v : Option α) : ∀ (f : Nat) (t : T α) (k k' : Nat), k' ≠ k → (T.put v f t k).get k' = t.get k'
  | 0, _, _, _, _ => rfl
  | f + 1, .e, 0, 0, h => absurd rfl h
  | f + 1, .n _ _ _, 0, 0, h => absurd rfl h
  | f + 1, .e, 0, j + 1, _ => by rw [T.put_e_zero, T.get_succ]; split <;> rfl
  | f + 1, .n l w r, 0, j + 1, _ => by rw [T.put_n_zero, T.get_succ, T.get_succ]
  | f + 1, .e, j + 1, 0, _ => by rw [T.put_e_succ]; split <;> rfl
  | f + 1, .n l w r, j + 1, 0, _ => by rw [T.put_n_succ]; split <;> rfl
  | f + 1, .e, j + 1, i + 1, h => by
    rw [T.put_e_succ]
    by_cases hm : j % 2 = 1
    · rw [if_pos hm, T.get_succ]
      by_cases hi : i % 2 = 1
      · rw [if_pos hi]; exact T.get_put_other v f .e _ _ (fun e => h (by omega))
      · rw [if_neg hi]
        rfl
    · rw [if_neg hm, T.get_succ]
      by_cases hi : i % 2 = 1
      · rw [if_pos hi]
        rfl
      · rw [if_neg hi]; exact T.get_put_other v f .e _ _ (fun e => h (by omega))
  | f + 1, .n l w r, j + 1, i + 1, h => by
    rw [T.put_n_succ]
    by_cases hm : j % 2 = 1
    · rw [if_pos hm, T.get_succ, T.get_succ]
      by_cases hi : i % 2 = 1
      · rw [if_pos hi, if_pos hi]; exact T.get_put_other v f l _ _ (fun e => h (by omega))
      · rw [if_neg hi, if_neg hi]
    · rw [if_neg hm, T.get_succ, T.get_succ]
      by_cases hi : i % 2 = 1
      · rw [if_pos hi, if_pos hi]
      · rw [if_neg hi, if_neg hi]; exact T.get_put_other v f r _ _ (fun e => h (by omega))

theorem T.get_set_same (t : T α) (k : Nat) (v : α) (h : k ≤ 100000) : (t.set k v).get k = some v := T.get_put_same _ _ _ _ (Nat.lt_of_le_of_lt (Nat.succ_le_succ h) (by decide))
theorem T.get_set_other (t : T α) (k k' : Nat) (v : α) (h : k' ≠ k) : (t.set k v).get k' = t.get k' := T.get_put_other _ _ _ _ _ h
theorem T.get_del_same (t : T α) (k : Nat) (h : k ≤ 100000) : (t.del k).get k = none := T.get_put_same _ _ _ _ (Nat.lt_of_le_of_lt (Nat.succ_le_succ h) (by decide))
theorem T.get_del_other (t : T α) (k k' : Nat) (h : k' ≠ k) : (t.del k).get k' = t.get k' := T.get_put_other _ _ _ _ _ h
end tries

theorem getAll_eq {α : Type} : ∀ (l : List α) (k : Nat), getAll l k = l[k]?
  | [], k => by simp [getAll]
  | x :: xs, 0 => by show some x = _; simp
  | x :: xs, k + 1 => by
    have h := getAll_eq xs k
    show getAll xs k = _
    rw [h]; simp
theorem setAll_eq {α : Type} : ∀ (l : List α) (k : Nat) (v : α), setAll l k v = l.set k v
  | [], k, v => by simp [setAll]
  | x :: xs, 0, v => by show v :: xs = _; simp
  | x :: xs, k + 1, v => by
    have h := setAll_eq xs k v
    show x :: setAll xs k v = _
    rw [h]; simp
theorem cut_some {α : Type} {xs ys : List α} {k n : Nat} (h : cut xs k n = some ys) : k + n ≤ xs.length ∧ ys = (xs.drop k).take n := by
  cases hb : Nat.ble (k + n) xs.length <;> simp only [cut, hb] at h
  · cases h
  · exact ⟨Nat.le_of_ble_eq_true hb, (Option.some.inj h).symm⟩
theorem length_over {α : Type} : ∀ (vs xs : List α) (k : Nat), (over xs k vs).length = xs.length
  | [], xs, k => by simp [over]
  | v :: vs, xs, k => by simp [over, length_over vs, setAll_eq]
theorem get_over {α : Type} : ∀ (vs xs : List α) (k i : Nat), k + vs.length ≤ xs.length →
    (over xs k vs)[i]? = if k ≤ i ∧ i < k + vs.length then vs[i - k]? else xs[i]?
  | [], xs, k, i, _ => by
    have : ¬ (k ≤ i ∧ i < k + ([] : List α).length) := by simp
    rw [if_neg this]; simp [over]
  | v :: vs, xs, k, i, h => by
    simp only [over, setAll_eq, List.length_cons] at h ⊢
    rw [get_over vs (xs.set k v) (k + 1) i (by simp; omega)]
    by_cases hi : k + 1 ≤ i ∧ i < k + 1 + vs.length
    · rw [if_pos hi, if_pos (by omega), show i - k = (i - (k + 1)) + 1 by omega]; simp
    · rw [if_neg hi]
      by_cases he : i = k
      · subst he; rw [if_pos (by omega)]; simp [show i < xs.length by omega]
      · rw [if_neg (by omega), List.getElem?_set_ne (fun e => he e.symm)]

/-! lists side by side -/
inductive L2 {α β : Type} (R : α → β → Prop) : List α → List β → Prop
  | nil : L2 R [] []
  | cons {a b as bs} : R a b → L2 R as bs → L2 R (a :: as) (b :: bs)

namespace L2
variable {α β : Type} {R S : α → β → Prop}
theorem length {as : List α} {bs : List β} (h : L2 R as bs) : as.length = bs.length := by
  induction h with
  | nil => rfl
  | cons _ _ ih => simp [ih]
theorem mono {as : List α} {bs : List β} (h : L2 R as bs) (f : ∀ a b, R a b → S a b) : L2 S as bs := by
  induction h with
  | nil => exact .nil
  | cons h _ ih => exact .cons (f _ _ h) ih
theorem get {as : List α} {bs : List β} (h : L2 R as bs) {i : Nat} {a : α} (ha : as[i]? = some a) : ∃ b, bs[i]? = some b ∧ R a b := by
  induction h generalizing i with
  | nil => simp at ha
  | cons h _ ih =>
    cases i with
    | zero => simp at ha; subst ha; exact ⟨_, by simp, h⟩
    | succ i => simp at ha; obtain ⟨b, hb, hr⟩ := ih ha; exact ⟨b, by simpa using hb, hr⟩
theorem of_get {as : List α} {bs : List β} (hl : as.length = bs.length) (h : ∀ (i : Nat) (a : α) (b : β), as[i]? = some a → bs[i]? = some b → R a b) : L2 R as bs := by
  induction as generalizing bs with
  | nil => cases bs with
    | nil => exact .nil
    | cons => simp at hl
  | cons a as ih => cases bs with
    | nil => simp at hl
    | cons b bs => exact .cons (h 0 a b (by simp) (by simp)) (ih (by simpa using hl) fun i x y hx hy => h (i + 1) x y (by simpa using hx) (by simpa using hy))
theorem append {as as' : List α} {bs bs' : List β} (h : L2 R as bs) (h' : L2 R as' bs') : L2 R (as ++ as') (bs ++ bs') := by
  induction h with
  | nil => exact h'
  | cons h _ ih => exact .cons h ih
theorem drop {as : List α} {bs : List β} (h : L2 R as bs) (n : Nat) : L2 R (as.drop n) (bs.drop n) := by
  induction h generalizing n with
  | nil => simp; exact .nil
  | cons h t ih => cases n with
    | zero => exact .cons h t
    | succ n => simpa using ih n
theorem take {as : List α} {bs : List β} (h : L2 R as bs) (n : Nat) : L2 R (as.take n) (bs.take n) := by
  induction h generalizing n with
  | nil => simp; exact .nil
  | cons h t ih => cases n with
    | zero => simp; exact .nil
    | succ n => simpa using .cons h (ih n)
theorem set {as : List α} {bs : List β} (h : L2 R as bs) (n : Nat) {a : α} {b : β} (hr : R a b) : L2 R (as.set n a) (bs.set n b) := by
  induction h generalizing n with
  | nil => simp; exact .nil
  | cons h t ih => cases n with
    | zero => exact .cons hr t
    | succ n => simpa using .cons h (ih n)
theorem over {as vs : List α} {bs ws : List β} (h : L2 R as bs) (hv : L2 R vs ws) (n : Nat) : L2 R (Ex.over as n vs) (Ex.over bs n ws) := by
  induction hv generalizing n as bs with
  | nil => exact h
  | cons hr _ ih => simp only [Ex.over, setAll_eq]; exact ih (h.set n hr) (n + 1)
theorem map {γ δ : Type} {Q : γ → δ → Prop} {f : γ → α} {g : δ → β} {xs : List γ} {ys : List δ} (h : L2 Q xs ys) (hf : ∀ x y, Q x y → R (f x) (g y)) : L2 R (xs.map f) (ys.map g) := by
  induction h with
  | nil => exact .nil
  | cons h _ ih => exact .cons (hf _ _ h) ih
theorem map_same {γ : Type} {f : γ → α} {g : γ → β} (xs : List γ) (hf : ∀ x, R (f x) (g x)) : L2 R (xs.map f) (xs.map g) := by
  induction xs with
  | nil => exact .nil
  | cons x xs ih => exact .cons (hf x) ih
theorem refl_of {R : α → α → Prop} {as : List α} (h : ∀ a ∈ as, R a a) : L2 R as as := by
  induction as with
  | nil => exact .nil
  | cons a as ih => exact .cons (h a (by simp)) (ih fun x hx => h x (by simp [hx]))
theorem eq_of {R : α → α → Prop} {as bs : List α} (h : L2 R as bs) (he : ∀ a b, a ∈ as → R a b → b = a) : bs = as := by
  induction h with
  | nil => rfl
  | cons h _ ih => rw [he _ _ (by simp) h, ih fun a b ha => he a b (by simp [ha])]
end L2

/-! values side by side -/
abbrev Ren := Nat → Option (Nat × Nat)

def FnRel (ι : Ren) : Fn → Fn → Prop
  | .yield l, f => ∃ l', f = .yield l' ∧ ι l = some (l', 0)
  | f, f' => f' = f

mutual
inductive VRel (ι : Ren) (σ : Nat → Nat) : Value → Value → Prop
  | poison (v : Value) : VRel ι σ (.float .f32 0) v
  | bool (b : Bool) : VRel ι σ (.bool b) (.bool b)
  | int (k : IntKind) (n : Int) : VRel ι σ (.int k n) (.int k n)
  | string (s : ByteArray) : VRel ι σ (.string s) (.string s)
  | nilp : VRel ι σ (.pointer none) (.pointer none)
  | ptr {b o cb co : Nat} (h : ι b = some (cb, co)) : VRel ι σ (.pointer (some ⟨b, o, none⟩)) (.pointer (some ⟨cb, co + o, none⟩))
  | nilsl : VRel ι σ (.slice none 0 0) (.slice none 0 0)
  | empty (a : Addr) (c : Nat) : VRel ι σ (.slice none 0 capE) (.slice (some a) 0 c)
  | slice {b o cb co len cap : Nat} (h : ι b = some (cb, co)) (hc : cap < capU) : VRel ι σ (.slice (some ⟨b, o, none⟩) len cap) (.slice (some ⟨cb, co + o, none⟩) len cap)
  | sliceU {b o cb co len es cap : Nat} (h : ι b = some (cb, co)) (hl : len ≤ cap) (hc : co + o + cap * es ≤ σ cb) :
      VRel ι σ (.slice (some ⟨b, o, none⟩) len (capU + es)) (.slice (some ⟨cb, co + o, none⟩) len cap)
  | nilm : VRel ι σ (.map none) (.map none)
  | map {r r' : Nat} (h : ι r = some (r', 0)) : VRel ι σ (.map (some r)) (.map (some r'))
  | func {f f' : Fn} {a b a' b' : Array Value} (h : FnRel ι f f') (h1 : VsRel ι σ a.toList a'.toList) (h2 : VsRel ι σ b.toList b'.toList) : VRel ι σ (.func f a b) (.func f' a' b')
  | nilFunc : VRel ι σ .nilFunc .nilFunc
  | iface (t : TypeId) {v v' : Value} (h : VRel ι σ v v') : VRel ι σ (.iface t v) (.iface t v')
  | nilIface : VRel ι σ .nilIface .nilIface
  | agg {a a' : Array Value} (h : VsRel ι σ a.toList a'.toList) : VRel ι σ (.agg a) (.agg a')
  | tuple {a a' : Array Value} (h : VsRel ι σ a.toList a'.toList) : VRel ι σ (.tuple a) (.tuple a')
inductive VsRel (ι : Ren) (σ : Nat → Nat) : List Value → List Value → Prop
  | nil : VsRel ι σ [] []
  | cons {a b : Value} {as bs : List Value} : VRel ι σ a b → VsRel ι σ as bs → VsRel ι σ (a :: as) (b :: bs)
end

/-- What is known of places stays. -/
def Sub (ι : Ren) (σ : Nat → Nat) (ι' : Ren) (σ' : Nat → Nat) : Prop := ∀ b x, ι b = some x → ι' b = some x ∧ σ' x.1 = σ x.1

theorem Sub.refl (ι : Ren) (σ : Nat → Nat) : Sub ι σ ι σ := fun _ _ h => ⟨h, rfl⟩
theorem Sub.trans {ι ι' ι'' : Ren} {σ σ' σ'' : Nat → Nat} (h : Sub ι σ ι' σ') (h' : Sub ι' σ' ι'' σ'') : Sub ι σ ι'' σ'' :=
  fun b x hb => ⟨(h' b x (h b x hb).1).1, (h' b x (h b x hb).1).2.trans (h b x hb).2⟩

theorem FnRel.mono {ι ι' : Ren} {σ σ' : Nat → Nat} (hs : Sub ι σ ι' σ') {f f' : Fn} (h : FnRel ι f f') : FnRel ι' f f' := by
  cases f <;> first | exact h | (obtain ⟨l', rfl, hl⟩ := h; exact ⟨l', rfl, (hs _ _ hl).1⟩)

mutual
theorem VRel.mono {ι ι' : Ren} {σ σ' : Nat → Nat} (hs : Sub ι σ ι' σ') : ∀ {a c : Value}, VRel ι σ a c → VRel ι' σ' a c
  | _, _, .poison v => .poison v
  | _, _, .bool b => .bool b
  | _, _, .int k n => .int k n
  | _, _, .string s => .string s
  | _, _, .nilp => .nilp
  | _, _, .ptr h => .ptr (hs _ _ h).1
  | _, _, .nilsl => .nilsl
  | _, _, .empty a c => .empty a c
  | _, _, .slice h hc => .slice (hs _ _ h).1 hc
  | _, _, .sliceU h hl hc => .sliceU (hs _ _ h).1 hl (by rw [(hs _ _ h).2]; exact hc)
  | _, _, .nilm => .nilm
  | _, _, .map h => .map (hs _ _ h).1
  | _, _, .func h h1 h2 => .func (h.mono hs) (VsRel.mono hs h1) (VsRel.mono hs h2)
  | _, _, .nilFunc => .nilFunc
  | _, _, .iface t h => .iface t (VRel.mono hs h)
  | _, _, .nilIface => .nilIface
  | _, _, .agg h => .agg (VsRel.mono hs h)
  | _, _, .tuple h => .tuple (VsRel.mono hs h)
theorem VsRel.mono {ι ι' : Ren} {σ σ' : Nat → Nat} (hs : Sub ι σ ι' σ') : ∀ {a c : List Value}, VsRel ι σ a c → VsRel ι' σ' a c
  | _, _, .nil => .nil
  | _, _, .cons h t => .cons (VRel.mono hs h) (VsRel.mono hs t)
end

theorem VsRel.l2 {ι : Ren} {σ : Nat → Nat} : ∀ {a c : List Value}, VsRel ι σ a c → L2 (VRel ι σ) a c
  | _, _, .nil => .nil
  | _, _, .cons h t => .cons h t.l2
theorem VsRel.of_l2 {ι : Ren} {σ : Nat → Nat} {a c : List Value} (h : L2 (VRel ι σ) a c) : VsRel ι σ a c := by
  induction h with
  | nil => exact .nil
  | cons h _ ih => exact .cons h ih

section plain
variable {ι : Ren} {σ : Nat → Nat}
theorem plainV_eq {a c : Value} (hp : plainV a = true) (h : VRel ι σ a c) : c = a := by
  cases h with
  | poison v => simp [plainV] at hp
  | ptr h => simp [plainV] at hp
  | empty a c => simp [plainV, capE] at hp
  | slice h hc => simp [plainV] at hp
  | sliceU h hl hc => simp [plainV] at hp
  | map h => simp [plainV] at hp
  | iface t h => simp [plainV] at hp
  | agg h => simp [plainV] at hp
  | tuple h => simp [plainV] at hp
  | func hf h1 h2 =>
    rename_i f f' a b a' b'
    cases f <;> simp [plainV] at hp
    obtain ⟨ha, hb⟩ := hp
    subst ha; subst hb
    have e1 := h1.l2.length; have e2 := h2.l2.length
    simp [FnRel] at hf
    subst hf
    have e3 : a' = #[] := by simpa using e1.symm
    have e4 : b' = #[] := by simpa using e2.symm
    rw [e3, e4]
  | _ => rfl
theorem plainV_refl {a : Value} (hp : plainV a = true) : VRel ι σ a a := by
  unfold plainV at hp
  split at hp <;> first | exact .bool _ | exact .int _ _ | exact .string _ | exact .nilp | exact .nilsl | exact .nilm | exact .nilFunc | exact .nilIface | skip
  · rename_i f a c
    simp at hp
    obtain ⟨ha, hb⟩ := hp
    subst ha; subst hb
    exact .func rfl .nil .nil
  · cases hp
theorem plains_eq {as bs : List Value} (hp : as.all plainV = true) (h : VsRel ι σ as bs) : bs = as :=
  h.l2.eq_of fun a _ ha hr => plainV_eq (List.all_eq_true.1 hp a ha) hr
theorem plains_refl {as : List Value} (hp : as.all plainV = true) : VsRel ι σ as as :=
  .of_l2 (L2.refl_of fun a ha => plainV_refl (List.all_eq_true.1 hp a ha))
theorem plain1_eq {a c : Value} (hp : plain1 a = true) (h : VRel ι σ a c) : c = a := by
  cases h with
  | iface t h => simp [plain1] at hp; rw [plainV_eq hp h]
  | agg h => simp only [plain1] at hp; have := plains_eq hp h; congr 1; exact Array.toList_inj.1 this
  | tuple h => simp only [plain1] at hp; have := plains_eq hp h; congr 1; exact Array.toList_inj.1 this
  | poison v => simp [plain1, plainV] at hp
  | bool b => rfl
  | int k n => rfl
  | string s => rfl
  | nilp => rfl
  | ptr h => simp [plain1, plainV] at hp
  | nilsl => rfl
  | empty a c => simp [plain1, plainV, capE] at hp
  | slice h hc => simp [plain1, plainV] at hp
  | sliceU h hl hc => simp [plain1, plainV] at hp
  | nilm => rfl
  | map h => simp [plain1, plainV] at hp
  | func h h1 h2 => exact plainV_eq hp (.func h h1 h2)
  | nilFunc => rfl
  | nilIface => rfl
theorem plain1_refl {a : Value} (hp : plain1 a = true) : VRel ι σ a a := by
  unfold plain1 at hp
  split at hp
  · exact .agg (plains_refl hp)
  · exact .iface _ (plainV_refl hp)
  · exact .tuple (plains_refl hp)
  · exact plainV_refl hp
theorem konst_rel (v : Value) : VRel ι σ (konst v) v := by
  unfold konst
  split
  · rename_i h; exact plain1_refl h
  · exact .poison v
theorem undef_rel : VRel ι σ undef undef := .tuple .nil
end plain

theorem Addr.add_none (b o n : Nat) : (⟨b, o, none⟩ : Addr).add n = ⟨b, o + n, none⟩ := by
  unfold Addr.add
  split
  · rename_i h; simp [h]
  · rfl
end Go.Ex
