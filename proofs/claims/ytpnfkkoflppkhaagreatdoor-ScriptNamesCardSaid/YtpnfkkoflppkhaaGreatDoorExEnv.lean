/- What the executor is told of a program, out of lists; the world at the start. -/
import Derived.Test.YtpnfkkoflppkhaaGreatDoorExEnd
import Derived.KernelRfl
noncomputable section
namespace Go.Ex

/-- A trie's keys and values. -/
def T.toL {α : Type} : T α → List (Nat × α)
  | .e => []
  | .n l v r => (match v with | some v => [(0, v)] | none => []) ++ (l.toL.map fun p => (2 * p.1 + 2, p.2)) ++ (r.toL.map fun p => (2 * p.1 + 1, p.2))

theorem T.mem_toL {α : Type} : ∀ (t : T α) (k : Nat) (v : α), t.get k = some v → (k, v) ∈ t.toL
  | .e, k, v, h => by cases h
  | .n l o r, 0, v, h => by
    have h' : o = some v := h
    subst h'
    simp [T.toL]
  | .n l o r, j + 1, v, h => by
    rw [T.get_succ] at h
    simp only [T.toL, List.mem_append, List.mem_map]
    split at h
    · rename_i hm
      exact .inl (.inr ⟨_, T.mem_toL l _ v h, by simp only [Prod.mk.injEq, and_true]; omega⟩)
    · rename_i hm
      exact .inr ⟨_, T.mem_toL r _ v h, by simp only [Prod.mk.injEq, and_true]; omega⟩

/-- All of a list. -/
def AllL {α : Type} (Q : Nat → α → Prop) : List (Nat × α) → Prop
  | [] => True
  | p :: l => Q p.1 p.2 ∧ AllL Q l

theorem AllL.nil {α : Type} {Q : Nat → α → Prop} : AllL Q [] := trivial
theorem AllL.cons {α : Type} {Q : Nat → α → Prop} {k : Nat} {v : α} {l : List (Nat × α)} (h : Q k v) (t : AllL Q l) : AllL Q ((k, v) :: l) := ⟨h, t⟩

theorem AllL.mem {α : Type} {Q : Nat → α → Prop} : ∀ {l : List (Nat × α)}, AllL Q l → ∀ p ∈ l, Q p.1 p.2
  | _ :: _, h, p, hp => by
    simp only [List.mem_cons] at hp
    rcases hp with rfl | hp
    · exact h.1
    · exact AllL.mem h.2 p hp

theorem AllL.append {α : Type} {Q : Nat → α → Prop} : ∀ {l l' : List (Nat × α)}, AllL Q l → AllL Q l' → AllL Q (l ++ l')
  | [], _, _, h' => h'
  | _ :: _, _, h, h' => ⟨h.1, AllL.append h.2 h'⟩

theorem of_toL {α : Type} {t : T α} {l : List (Nat × α)} (ht : t.toL = l) {Q : Nat → α → Prop} (h : AllL Q l) (k : Nat) (v : α) (hk : t.get k = some v) : Q k v :=
  h.mem (k, v) (ht ▸ T.mem_toL t k v hk)

/-- No function of that one name. -/
def notThat (l : List (Nat × Func)) : Bool := l.all fun p => !(p.2.name == "runtime.NumGoroutine")

theorem name_of_list {t : T Func} {l : List (Nat × Func)} (ht : t.toL = l) (h : notThat l = true) (f : Nat) (x : Func) (hf : t.get f = some x) : (x.name == "runtime.NumGoroutine") = false := by
  have := List.all_eq_true.1 h (f, x) (ht ▸ T.mem_toL t f x hf)
  simpa using this

/-- Types that are told one by one: what lies under each, a named type's by one look more. -/
def undOf (inf : T TypeInfo) (i : TypeInfo) : Option TypeDesc :=
  match i.desc with
  | .named _ u => (match inf.get u with
    | some j => some j.desc
    | none => none)
  | d => some d

def T.mapO {α β : Type} (f : α → Option β) (t : T α) : T β :=
  T.rec (motive := fun _ => T β) .e (fun _ v _ l r => .n l (v.bind f) r) t

theorem T.get_mapO {α β : Type} (f : α → Option β) : ∀ (t : T α) (k : Nat), (t.mapO f).get k = (t.get k).bind f
  | .e, _ => rfl
  | .n _ _ _, 0 => rfl
  | .n l v r, j + 1 => by
    show (T.n (l.mapO f) (v.bind f) (r.mapO f)).get (j + 1) = _
    rw [T.get_succ, T.get_succ]
    split
    · exact T.get_mapO f l _
    · exact T.get_mapO f r _

theorem und_of {P : Program} {inf : T TypeInfo} (h : ∀ t i, inf.get t = some i → P.info? t = some i) (t : TypeId) (d : TypeDesc) (hd : (inf.mapO (undOf inf)).get t = some d) : P.underlying t = some d := by
  rw [T.get_mapO] at hd
  cases hi : inf.get t with
  | none => rw [hi] at hd; cases hd
  | some i =>
    rw [hi] at hd
    have hd' : undOf inf i = some d := hd
    unfold undOf at hd'
    unfold Program.underlying
    rw [h t i hi]
    rcases i with ⟨desc⟩
    cases desc <;> simp only at hd' ⊢ <;> try exact hd'
    rename_i u
    cases hj : inf.get u with
    | none => rw [hj] at hd'; cases hd'
    | some j =>
      rw [hj] at hd'
      rw [h _ _ hj]
      exact hd'

theorem info_of_types {P : Program} {t : TypeId} {i : TypeInfo} (h : P.types[t]? = some i) : P.info? t = some i := by
  obtain ⟨hlt, _⟩ := Array.getElem?_eq_some_iff.1 h
  show (if t < P.types.size then P.types[t]? else _) = _
  rw [if_pos hlt, h]

/-- n steps of a call. -/
def start (E : Env) (H : AH) (f : FuncId) (args : List Value) (n : Nat) : Option AM :=
  match enterA E f args .normal with
  | some a => run E n ⟨H, a, []⟩
  | none => none

theorem calls_of_start {E : Env} {w0 : World} {ι : Ren} {σ : Nat → Nat} {H : AH} (ok : EnvOk E) (R : HRel E w0 ι σ H w0) {f : FuncId} {args : List Value} {args' : Array Value} (ha : VsRel ι σ args args'.toList)
    {n : Nat} {v : Value} (hr : endedB E f (start E H f args n) = some v) :
    Calls E.P f args' w0 fun e w' => ∃ v' ι' σ' H', e = .returned v' ∧ VRel ι' σ' v v' ∧ HRel E w0 ι' σ' H' w' := by
  unfold start at hr
  cases he : enterA E f args .normal with
  | none => rw [he] at hr; cases hr
  | some a => rw [he] at hr; exact calls_of_run ok R ha he hr

/-- Is it this truth value? -/
def isB (b : Bool) (o : Option Value) : Bool := match o with | some (.bool c) => (match b, c with | true, true => true | false, false => true | _, _ => false) | _ => false

theorem isB_some {b : Bool} {o : Option Value} (h : isB b o = true) : o = some (.bool b) := by
  unfold isB at h
  split at h
  · rename_i c
    cases b <;> cases c <;> first | rfl | cases h
  · cases h

/-- A call without arguments that answers a truth value. -/
theorem calls_bool {E : Env} {w0 : World} {ι : Ren} {σ : Nat → Nat} {H : AH} (ok : EnvOk E) (R : HRel E w0 ι σ H w0) {f : FuncId} {n : Nat} {b : Bool} (hr : isB b (endedB E f (start E H f [] n)) = true) :
    Calls E.P f #[] w0 fun e w' => e = .returned (.bool b) ∧ (∀ i, i < w0.heap.size → w'.heap[i]? = w0.heap[i]?) ∧ w0.heap.size ≤ w'.heap.size ∧ w'.tape = w0.tape ∧ w'.os = w0.os ∧ w'.output = w0.output := by
  intro cs
  obtain ⟨e, w', fr, ⟨v', ι', σ', H', h1, h2, h3⟩, h4⟩ := calls_of_start ok R (args := []) (args' := #[]) .nil (isB_some hr) cs
  refine ⟨e, w', fr, ⟨?_, h3.old, h3.size, h3.tape, h3.os, h3.out⟩, h4⟩
  cases h2
  exact h1

/-- Where the start's blocks lie: at their own numbers. -/
def ren0 (gl : Nat) : Ren := fun b => if b < gl then some (b, 0) else none
def size0 (w : World) : Nat → Nat := fun i => match w.heap[i]? with | some (.cells c _ _) => c.size | _ => 0

theorem hrel0 {E : Env} {w : World} {H : AH} (hw : E.gl ≤ w.heap.size) (hb : E.gl ≤ E.base) (hn : E.gl ≤ H.next)
    (hl : ∀ b o, H.m.get b = some o → b < E.gl ∧ ∃ c, w.heap[b]? = some c ∧ ORel (ren0 E.gl) (size0 w) 0 o c) : HRel E w (ren0 E.gl) (size0 w) H w := by
  have hr : ∀ b x, ren0 E.gl b = some x → b < E.gl ∧ x = (b, 0) := fun b x h => by
    unfold ren0 at h
    split at h
    · simp at h; exact ⟨by assumption, h.symm⟩
    · cases h
  refine ⟨fun b o h x hx => ?_, fun b b' o o' _ _ x x' hx hx' e => ?_, fun b x hx => ?_, fun b x hx c e fr h => ?_, fun b hb' => ?_, fun b o h => ?_, fun g hg => by simp [ren0, hg], fun b x hb' hx => ?_, fun i _ => rfl, Nat.le_refl _, rfl, rfl, rfl⟩
  · obtain ⟨_, rfl⟩ := hr b x hx
    exact (hl b o h).2
  · obtain ⟨_, rfl⟩ := hr b x hx
    obtain ⟨_, rfl⟩ := hr b' x' hx'
    exact e
  · obtain ⟨h1, rfl⟩ := hr b x hx
    exact Nat.lt_of_lt_of_le h1 hw
  · obtain ⟨_, rfl⟩ := hr b x hx
    simp only at h
    simp [size0, h]
  · unfold ren0; rw [if_neg (by omega)]
  · have := (hl b o h).1; omega
  · have := (hr b x hx).1; omega
end Go.Ex
