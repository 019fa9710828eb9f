/- Heaps side by side: what an allocation, a load, a store do on both sides. -/
import Derived.Test.YtpnfkkoflppkhaaGreatDoorExLib
import Derived.Laws.World
noncomputable section
namespace Go.Ex

structure EnvOk (E : Env) : Prop where
  fn : ∀ f x, E.fn.get f = some x → E.P.funcs[f]? = some x
  name : ∀ (f : Nat) (x : Func), E.fn.get f = some x → (x.name == "runtime.NumGoroutine") = false
  inf : ∀ t i, E.inf.get t = some i → E.P.info? t = some i
  und : ∀ t d, E.und.get t = some d → E.P.underlying t = some d
  ext : ∀ f e, E.ext.get f = some e → ∀ x, E.P.funcs[f]? = some x → Extern.findNext x = none ∧ Extern.find x = some e
  mixed : E.P.follows .mixedOrders = true
  base : E.gl ≤ E.base

def TmRel (ι : Ren) (σ : Nat → Nat) (n : Nat) (tm : T Value) (tmps : Array Value) : Prop :=
  tmps.size = n ∧ ∀ t, VRel ι σ (tget tm t) (tmps.getD t undef)

def ERel (ι : Ren) (σ : Nat → Nat) (a c : MapEntry) : Prop := VRel ι σ a.key c.key ∧ VRel ι σ a.val c.val ∧ c.born = a.born

def TgRel (ι : Ren) (σ : Nat → Nat) : Target → Target → Prop
  | .fn f c, .fn f' c' => FnRel ι f f' ∧ VsRel ι σ c.toList c'.toList
  | .nil, .nil => True
  | .builtin b a t c, .builtin b' a' t' c' => b' = b ∧ a' = a ∧ t' = t ∧ c' = c
  | .collected r, .collected r' => ι r = some (r', 0)
  | _, _ => False

def DRel (ι : Ren) (σ : Nat → Nat) (d d' : Deferred) : Prop := TgRel ι σ d.target d'.target ∧ VsRel ι σ d.args.toList d'.args.toList

def ORel (ι : Ren) (σ : Nat → Nat) (co : Nat) : AObj → Obj → Prop
  | .cells c e, .cells c' _ fr => e = e ∧ (fr.1 = fr.2 ∨ c'.size ≤ fr.1) ∧
      ∀ i v, c[i]? = some v → ∃ v', c'[co + i]? = some v' ∧ VRel ι σ v v'
  | .map es k, .map es' k' => co = 0 ∧ k' = k ∧ L2 (ERel ι σ) es es'.toList
  | .loop st pending fn n tm params assign body defers, .loop l => co = 0 ∧ l.state = st ∧ l.pending = pending ∧ l.fn = fn ∧ TmRel ι σ n tm l.tmps ∧
      l.params = params ∧ l.assign = assign ∧ l.body = body ∧ ι defers = some (l.defers, 0)
  | .defd none, .deferred none => co = 0
  | .defd (some ds), .deferred (some ds') => co = 0 ∧ L2 (DRel ι σ) ds ds'
  | _, _ => False

structure HRel (E : Env) (w0 : World) (ι : Ren) (σ : Nat → Nat) (H : AH) (w : World) : Prop where
  blk : ∀ b o, H.m.get b = some o → ∀ x, ι b = some x → ∃ c, w.heap[x.1]? = some c ∧ ORel ι σ x.2 o c
  inj : ∀ b b' o o', H.m.get b = some o → H.m.get b' = some o' → ∀ x x', ι b = some x → ι b' = some x' → x.1 = x'.1 → b = b'
  rng : ∀ b x, ι b = some x → x.1 < w.heap.size
  siz : ∀ b x, ι b = some x → ∀ c e fr, w.heap[x.1]? = some (.cells c e fr) → c.size = σ x.1
  dom : ∀ b, H.next ≤ b → ι b = none
  live : ∀ b o, H.m.get b = some o → b < H.next
  glob : ∀ g, g < E.gl → ι g = some (g, 0)
  new : ∀ b x, E.base ≤ b → ι b = some x → w0.heap.size ≤ x.1
  old : ∀ i, i < w0.heap.size → w.heap[i]? = w0.heap[i]?
  size : w0.heap.size ≤ w.heap.size
  tape : w.tape = w0.tape
  os : w.os = w0.os
  out : w.output = w0.output

/-- Places come to be known; below L what was not known stays so. -/
def Ext (L : Nat) (ι : Ren) (σ : Nat → Nat) (ι' : Ren) (σ' : Nat → Nat) : Prop :=
  Sub ι σ ι' σ' ∧ ∀ b, b < L → ι b = none → ι' b = none

theorem Ext.refl (L : Nat) (ι : Ren) (σ : Nat → Nat) : Ext L ι σ ι σ := ⟨Sub.refl ι σ, fun _ _ h => h⟩
theorem Ext.trans {L : Nat} {ι ι' ι'' : Ren} {σ σ' σ'' : Nat → Nat} (h : Ext L ι σ ι' σ') (h' : Ext L ι' σ' ι'' σ'') : Ext L ι σ ι'' σ'' :=
  ⟨h.1.trans h'.1, fun b hb hn => h'.2 b hb (h.2 b hb hn)⟩
theorem Ext.le {L L' : Nat} {ι ι' : Ren} {σ σ' : Nat → Nat} (h : Ext L ι σ ι' σ') (hl : L' ≤ L) : Ext L' ι σ ι' σ' :=
  ⟨h.1, fun b hb hn => h.2 b (Nat.lt_of_lt_of_le hb hl) hn⟩

section mono
variable {ι ι' : Ren} {σ σ' : Nat → Nat}
theorem TmRel.mono {n : Nat} {tm : T Value} {tmps : Array Value} (h : TmRel ι σ n tm tmps) (hs : Sub ι σ ι' σ') : TmRel ι' σ' n tm tmps :=
  ⟨h.1, fun t => (h.2 t).mono hs⟩
theorem ERel.mono {a c : MapEntry} (h : ERel ι σ a c) (hs : Sub ι σ ι' σ') : ERel ι' σ' a c := ⟨h.1.mono hs, h.2.1.mono hs, h.2.2⟩
theorem DRel.mono {a c : Deferred} (h : DRel ι σ a c) (hs : Sub ι σ ι' σ') : DRel ι' σ' a c := by
  obtain ⟨ta, aa⟩ := a
  obtain ⟨tc, ac⟩ := c
  obtain ⟨h1, h2⟩ := h
  refine ⟨?_, VsRel.mono hs h2⟩
  simp only at h1 ⊢
  cases ta <;> cases tc <;> simp only [TgRel] at h1 ⊢
  · exact ⟨h1.1.mono hs, VsRel.mono hs h1.2⟩
  · exact h1
  · exact (hs _ _ h1).1
theorem ORel.mono {co : Nat} {o : AObj} {c : Obj} (h : ORel ι σ co o c) (hs : Sub ι σ ι' σ') : ORel ι' σ' co o c := by
  cases o with
  | cells cs e =>
    cases c <;> simp only [ORel] at h ⊢
    exact ⟨h.1, h.2.1, fun i v hv => let ⟨v', a, b⟩ := h.2.2 i v hv; ⟨v', a, b.mono hs⟩⟩
  | map es k =>
    cases c <;> simp only [ORel] at h ⊢
    exact ⟨h.1, h.2.1, h.2.2.mono fun _ _ h => h.mono hs⟩
  | loop st pending fn n tm params assign body defers =>
    cases c <;> simp only [ORel] at h ⊢
    obtain ⟨a, b, c, d, e, f, g, i, j⟩ := h
    exact ⟨a, b, c, d, e.mono hs, f, g, i, (hs _ _ j).1⟩
  | defd ds =>
    cases ds with
    | none => exact (by cases c <;> (try rename_i ds'; cases ds') <;> first | exact h | exact h.elim)
    | some ds => exact (by cases c <;> (try rename_i ds'; cases ds') <;> first | exact ⟨h.1, h.2.mono fun _ _ h => h.mono hs⟩ | exact h.elim)
end mono

section runs
variable {E : Env} (ok : EnvOk E) {w : World}
include ok
theorem run_und {t : TypeId} {d : TypeDesc} (h : E.und.get t = some d) : (underlying t).run E.P w = .ok d w := by
  simp [underlying, ok.und t d h]
theorem run_inf {t : TypeId} {i : TypeInfo} (h : E.inf.get t = some i) : (typeInfo t).run E.P w = .ok i w := by
  simp [typeInfo, ok.inf t i h]
theorem run_siz {t : TypeId} {n : Nat} (h : sizT E t = some n) : (sizeOf t).run E.P w = .ok n w := by
  unfold sizT at h
  cases hi : E.inf.get t with
  | none => simp [hi] at h
  | some i => simp [hi] at h; simp [sizeOf, run_inf ok hi, h]
theorem run_zer {t : TypeId} {z : Value} (h : zerT E t = some z) : (zeroValue t).run E.P w = .ok z w := by
  unfold zerT at h
  cases hi : E.inf.get t with
  | none => simp [hi] at h
  | some i => simp [hi] at h; simp [zeroValue, run_inf ok hi, h]
theorem run_agg {t : TypeId} {b : Bool} (h : aggT E t = some b) : (isAgg t).run E.P w = .ok b w := by
  unfold aggT at h
  cases hi : E.und.get t with
  | none => simp [hi] at h
  | some d => cases d <;> simp [hi] at h <;> subst h <;> simp [isAgg, run_und ok hi]
omit ok in
theorem zeroP_some {t : TypeId} {z : Value} (h : zeroP E t = some z) : zerT E t = some z ∧ plain1 z = true := by
  unfold zeroP at h
  cases hz : zerT E t with
  | none => simp [hz] at h
  | some v =>
    simp only [hz] at h
    cases hp : plain1 v <;> simp [hp] at h
    subst h; exact ⟨rfl, hp⟩
end runs

theorem cells_rel {ι : Ren} {σ : Nat → Nat} {a c : Value} (h : VRel ι σ a c) (hp : ∀ k b, a ≠ .float k b) : VsRel ι σ a.cells.toList c.cells.toList := by
  cases h with
  | poison v => exact absurd rfl (hp _ _)
  | agg h => exact h
  | bool b => exact .cons (.bool b) .nil
  | int k n => exact .cons (.int k n) .nil
  | string s => exact .cons (.string s) .nil
  | nilp => exact .cons .nilp .nil
  | ptr h => exact .cons (.ptr h) .nil
  | nilsl => exact .cons .nilsl .nil
  | empty a c => exact .cons (.empty a c) .nil
  | slice h hc => exact .cons (.slice h hc) .nil
  | sliceU h hl hc => exact .cons (.sliceU h hl hc) .nil
  | nilm => exact .cons .nilm .nil
  | map h => exact .cons (.map h) .nil
  | func h h1 h2 => exact .cons (.func h h1 h2) .nil
  | nilFunc => exact .cons .nilFunc .nil
  | iface t h => exact .cons (.iface t h) .nil
  | nilIface => exact .cons .nilIface .nil
  | tuple h => exact .cons (.tuple h) .nil

theorem cellV_rel {ι : Ren} {σ : Nat → Nat} {a c : Value} (h : VRel ι σ a c) (hc : cellV a = true) : c.oneCell' = true := by
  cases h <;> first | rfl | simp [cellV] at hc

section heap
variable {E : Env} {w0 w : World} {ι : Ren} {σ : Nat → Nat} {H H' : AH}

theorem getElem?_push_lt {α : Type} {xs : Array α} {x : α} {i : Nat} (h : i < xs.size) : (xs.push x)[i]? = xs[i]? := by
  rw [Array.getElem?_push]; simp [Nat.ne_of_lt h]

theorem heap_alloc_new (w : World) (c : Obj) : (w.alloc c).heap[w.heap.size]? = some c := by
  show (w.heap.push c)[w.heap.size]? = some c
  simp

/-- A new block. -/
theorem alloc_rel (R : HRel E w0 ι σ H w) {o : AObj} {b : Nat} (h : alloc H o = some (b, H')) (c : Obj)
    (ho : ∀ ι' σ', Sub ι σ ι' σ' → ORel ι' σ' 0 o c) :
    ∃ ι' σ', Ext H.next ι σ ι' σ' ∧ ι' b = some (w.heap.size, 0) ∧ HRel E w0 ι' σ' H' (w.alloc c) ∧ b = H.next ∧ H.next < H'.next := by
  unfold alloc at h
  cases hb : Nat.ble H.next 100000 with
  | false => rw [hb] at h; simp at h
  | true =>
    rw [hb] at h
    simp only [Option.some.injEq, Prod.mk.injEq] at h
    obtain ⟨rfl, rfl⟩ := h
    have hle : H.next ≤ 100000 := Nat.le_of_ble_eq_true hb
    let ι' : Ren := fun b => if b = H.next then some (w.heap.size, 0) else ι b
    let σ' : Nat → Nat := fun r => if r = w.heap.size then (match c with | .cells cs _ _ => cs.size | _ => 0) else σ r
    have hne : ∀ b x, ι b = some x → b ≠ H.next := fun b x hx e => by
      have := R.dom b (by omega); rw [hx] at this; cases this
    have hsub : Sub ι σ ι' σ' := fun b x hx => by
      have h1 := hne b x hx
      have h2 := R.rng b x hx
      exact ⟨by simp [ι', h1, hx], by simp [σ', Nat.ne_of_lt h2]⟩
    have hι : ∀ b x, ι' b = some x → (b = H.next ∧ x = (w.heap.size, 0)) ∨ (b ≠ H.next ∧ ι b = some x) := fun b x hx => by
      by_cases e : b = H.next
      · simp [ι', e] at hx; exact .inl ⟨e, hx.symm⟩
      · simp [ι', e] at hx; exact .inr ⟨e, hx⟩
    have hsz : (w.alloc c).heap.size = w.heap.size + 1 := by simp
    have hold : ∀ i, i < w.heap.size → (w.alloc c).heap[i]? = w.heap[i]? := fun i hi => by
      exact getElem?_push_lt hi
    have hnew : (w.alloc c).heap[w.heap.size]? = some c := heap_alloc_new w c
    refine ⟨ι', σ', ⟨hsub, fun b hb hn => by simp [ι', Nat.ne_of_lt hb, hn]⟩, by simp [ι'], ?_, rfl, Nat.lt_succ_self _⟩
    constructor
    · intro b o' hg x hx
      simp only at hg
      by_cases e : b = H.next
      · subst e
        rw [T.get_set_same _ _ _ hle] at hg
        simp at hg; subst hg
        have : x = (w.heap.size, 0) := by simpa [ι'] using hx.symm
        subst this
        exact ⟨c, hnew, ho ι' σ' hsub⟩
      · rw [T.get_set_other _ _ _ _ e] at hg
        have hx' : ι b = some x := by simpa [ι', e] using hx
        obtain ⟨c', hc, hr⟩ := R.blk b o' hg x hx'
        exact ⟨c', by rw [hold _ (R.rng b x hx')]; exact hc, hr.mono hsub⟩
    · intro b b' o1 o2 h1 h2 x x' hx hx' he
      simp only at h1 h2
      rcases hι b x hx with ⟨e, ex⟩ | ⟨e, ex⟩ <;> rcases hι b' x' hx' with ⟨e', ex'⟩ | ⟨e', ex'⟩
      · rw [e, e']
      · have := R.rng b' x' ex'; rw [ex] at he; simp at he; omega
      · have := R.rng b x ex; rw [ex'] at he; simp at he; omega
      · rw [T.get_set_other _ _ _ _ e] at h1
        rw [T.get_set_other _ _ _ _ e'] at h2
        exact R.inj b b' o1 o2 h1 h2 x x' ex ex' he
    · intro b x hx
      rcases hι b x hx with ⟨_, ex⟩ | ⟨_, ex⟩
      · rw [ex, hsz]; exact Nat.lt_succ_self _
      · have := R.rng b x ex; rw [hsz]; omega
    · intro b x hx cs e fr hc
      rcases hι b x hx with ⟨_, ex⟩ | ⟨_, ex⟩
      · subst ex
        simp only [hnew, Option.some.injEq] at hc
        subst hc
        simp [σ']
      · have hr := R.rng b x ex
        rw [hold _ hr] at hc
        have := R.siz b x ex cs e fr hc
        simp [σ', Nat.ne_of_lt hr, this]
    · intro b hb
      simp only at hb
      have : b ≠ H.next := by omega
      simp [ι', this, R.dom b (by omega)]
    · intro b o' hg
      simp only at hg ⊢
      by_cases e : b = H.next
      · omega
      · rw [T.get_set_other _ _ _ _ e] at hg
        have := R.live b o' hg; omega
    · intro g hg
      have h1 := R.glob g hg
      simp [ι', hne g _ h1, h1]
    · intro b x hb hx
      rcases hι b x hx with ⟨_, ex⟩ | ⟨_, ex⟩
      · rw [ex]; exact R.size
      · exact R.new b x hb ex
    · intro i hi
      rw [hold i (Nat.lt_of_lt_of_le hi R.size)]; exact R.old i hi
    · rw [hsz]; have := R.size; omega
    · exact R.tape
    · exact R.os
    · exact R.out

theorem drew_rel (R : HRel E w0 ι σ H w) : HRel E w0 ι σ H w.drew := ⟨R.blk, R.inj, R.rng, R.siz, R.dom, R.live, R.glob, R.new, R.old, R.size, R.tape, R.os, R.out⟩

/-- The cells of a new row. -/
theorem ORel.row {e : TypeId} {cs : List Value} {ds : Array Value} (h : VsRel ι σ cs (ds.toList.take cs.length)) : ORel ι σ 0 (.cells cs e) (.cells ds e (0, 0)) := by
  refine ⟨rfl, .inl rfl, fun i v hv => ?_⟩
  obtain ⟨v', hv', hr⟩ := h.l2.get hv
  rw [List.getElem?_take] at hv'
  split at hv'
  · exact ⟨v', by simpa using hv', hr⟩
  · cases hv'

theorem allocCells_rel (R : HRel E w0 ι σ H w) {e : TypeId} {cs : List Value} {a : Addr} (h : allocCells H e cs = some (a, H')) {ds : Array Value}
    (hd : VsRel ι σ cs (ds.toList.take cs.length)) :
    ∃ ι' σ', Ext H.next ι σ ι' σ' ∧ a = ⟨H.next, 0, none⟩ ∧ ι' H.next = some (w.heap.size, 0) ∧ HRel E w0 ι' σ' H' (w.alloc (.cells ds e)) ∧ H.next < H'.next ∧ σ' w.heap.size = ds.size := by
  unfold allocCells at h
  cases hx : alloc H (.cells cs e) with
  | none => simp [hx] at h
  | some p =>
    obtain ⟨b, H2⟩ := p
    simp [hx] at h
    obtain ⟨rfl, rfl⟩ := h
    obtain ⟨ι', σ', h1, h2, h3, h4, h5⟩ := alloc_rel R hx (.cells ds e) fun ι' σ' hs => ORel.row (VsRel.mono hs hd)
    subst h4
    refine ⟨ι', σ', h1, rfl, h2, h3, h5, ?_⟩
    exact (h3.siz _ _ h2 ds e (0, 0) (heap_alloc_new w _)).symm

/-! loads -/
theorem notFrozen {fr : Nat × Nat} {n i : Nat} (h : fr.1 = fr.2 ∨ n ≤ fr.1) (hi : i < n) : (decide (fr.1 ≤ i) && decide (i < fr.2)) = false := by
  rcases h with h | h
  · cases h1 : decide (fr.1 ≤ i)
    · rfl
    · simp at h1; simp; omega
  · simp; omega
theorem cell?_of (R : HRel E w0 ι σ H w) {b cb co : Nat} {c : List Value} {e : TypeId} (hg : H.m.get b = some (.cells c e)) (hι : ι b = some (cb, co)) {i : Nat} {v : Value}
    (hv : c[i]? = some v) : ∃ v', w.cell? ⟨cb, co + i, none⟩ = some v' ∧ w.frozen? ⟨cb, co + i, none⟩ = false ∧ VRel ι σ v v' := by
  obtain ⟨o, ho, hr⟩ := R.blk b _ hg _ hι
  cases o <;> simp only [ORel] at hr
  rename_i c' e' fr
  obtain ⟨_, hf, hc⟩ := hr
  obtain ⟨v', hv', hr⟩ := hc i v hv
  have hlt : co + i < c'.size := by
    rcases Nat.lt_or_ge (co + i) c'.size with h | h
    · exact h
    · rw [Array.getElem?_eq_none h] at hv'; cases hv'
  refine ⟨v', ?_, ?_, hr⟩
  · simp only at ho
    simp [World.cell?, ho, hv']
  · simp only at ho
    have := notFrozen hf hlt
    obtain ⟨f1, f2⟩ := fr
    simpa [World.frozen?, ho] using this

theorem loadCellsFrom_run {P : Program} (cb o : Nat) : ∀ (n i : Nat) (acc : Array Value) (vs : List Value), vs.length = n →
    (∀ j v, vs[j]? = some v → w.cell? ⟨cb, o + (i + j), none⟩ = some v) →
    (loadCellsFrom ⟨cb, o, none⟩ i n acc).run P w = .ok (acc ++ vs.toArray) w
  | 0, i, acc, vs, hl, _ => by
    have : vs = [] := List.length_eq_zero_iff.1 hl
    subst this
    simp [loadCellsFrom]
  | n + 1, i, acc, vs, hl, h => by
    cases vs with
    | nil => simp at hl
    | cons v vs =>
      have h0 := h 0 v (by simp)
      simp only [loadCellsFrom, Sem.run_bind, run_load, Addr.add_none]
      rw [show o + (i + 0) = o + i by omega] at h0
      simp only [h0]
      rw [Result.andThen_ok, loadCellsFrom_run cb o n (i + 1) (acc.push v) vs (by simpa using hl) fun j u hu => by
        have := h (j + 1) u (by simpa using hu)
        rw [show o + (i + 1 + j) = o + (i + (j + 1)) by omega]; exact this]
      congr 1
      apply Array.toList_inj.1
      simp

theorem loadCells_run {P : Program} {cb o n : Nat} {vs : List Value} (hl : vs.length = n)
    (h : ∀ j v, vs[j]? = some v → w.cell? ⟨cb, o + j, none⟩ = some v) :
    (loadCells ⟨cb, o, none⟩ n).run P w = .ok vs.toArray w := by
  unfold loadCells
  rw [loadCellsFrom_run cb o n 0 #[] vs hl fun j v hv => by rw [show o + (0 + j) = o + j by omega]; exact h j v hv]
  simp

/-- Cells read out of a block. -/
theorem cut_cells (R : HRel E w0 ι σ H w) {b cb co : Nat} {c : List Value} {e : TypeId} (hg : H.m.get b = some (.cells c e)) (hι : ι b = some (cb, co)) {o n : Nat} {vs : List Value}
    (hc : cut c o n = some vs) : ∃ vs' : List Value, (∀ P, (loadCells ⟨cb, co + o, none⟩ n).run P w = .ok vs'.toArray w) ∧ VsRel ι σ vs vs' ∧ vs'.length = n := by
  obtain ⟨hle, rfl⟩ := cut_some hc
  have hex : ∀ j, j < n → ∃ v', w.cell? ⟨cb, co + o + j, none⟩ = some v' ∧ VRel ι σ (c.getD (o + j) undef) v' := by
    intro j hj
    have : c[o + j]? = some (c.getD (o + j) undef) := by
      rw [List.getD_eq_getElem?_getD, List.getElem?_eq_getElem (by omega)]; simp
    obtain ⟨v', h1, _, h2⟩ := cell?_of R hg hι this
    exact ⟨v', by rw [show co + o + j = co + (o + j) by omega]; exact h1, h2⟩
  let f : Nat → Value := fun j => if h : j < n then Classical.choose (hex j h) else undef
  have hf : ∀ j, j < n → w.cell? ⟨cb, co + o + j, none⟩ = some (f j) ∧ VRel ι σ (c.getD (o + j) undef) (f j) := fun j hj => by
    have := Classical.choose_spec (hex j hj)
    simp only [f, hj, dif_pos]; exact this
  refine ⟨(List.range n).map f, fun P => loadCells_run (by simp) fun j v hv => ?_, ?_, by simp⟩
  · have hj : j < n := by
      rcases Nat.lt_or_ge j n with h | h
      · exact h
      · rw [List.getElem?_eq_none (by simpa using h)] at hv; cases hv
    rw [List.getElem?_map, List.getElem?_range hj] at hv
    simp at hv
    rw [← hv]; exact (hf j hj).1
  · refine .of_l2 (L2.of_get (by simp; omega) fun i a b ha hb => ?_)
    have hi : i < n := by
      rcases Nat.lt_or_ge i n with h | h
      · exact h
      · rw [List.getElem?_eq_none (by simpa using h)] at hb; cases hb
    rw [List.getElem?_map, List.getElem?_range hi] at hb
    simp at hb
    rw [List.getElem?_take, if_pos hi, List.getElem?_drop] at ha
    rw [← hb]
    have := (hf i hi).2
    rw [List.getD_eq_getElem?_getD, ha] at this
    exact this

theorem loadAt_rel (ok : EnvOk E) (R : HRel E w0 ι σ H w) {t : TypeId} {a v a' : Value} (h : loadAt E H t a = some v) (ha : VRel ι σ a a') :
    ∃ v', (Instr.loadAt t a').run E.P w = .ok v' w ∧ VRel ι σ v v' := by
  cases ha <;> simp only [loadAt] at h <;> try (cases h; done)
  rename_i b o cb co hι
  cases hg : H.m.get b with
  | none => simp [hg] at h
  | some ob =>
    cases ob <;> simp only [hg] at h <;> try (cases h; done)
    rename_i c e
    cases ht : aggT E t with
    | none => simp [ht] at h
    | some x =>
      cases x with
      | true =>
        simp only [ht] at h
        cases hs : sizT E t with
        | none => simp [hs] at h
        | some n =>
          simp only [hs] at h
          cases hc : cut c o n with
          | none => simp [hc] at h
          | some vs =>
            simp only [hc, Option.some.injEq] at h
            subst h
            obtain ⟨vs', hrun, hrel, _⟩ := cut_cells R hg hι hc
            refine ⟨.agg vs'.toArray, ?_, .agg (by simpa using hrel)⟩
            simp [Instr.loadAt, Instr.sureAddr, loadVar, run_agg ok ht, run_siz ok hs, hrun]
      | false =>
        simp only [ht, getAll_eq] at h
        obtain ⟨v', h1, _, h2⟩ := cell?_of R hg hι h
        refine ⟨v', ?_, h2⟩
        simp [Instr.loadAt, Instr.sureAddr, loadVar, run_agg ok ht, h1]
end heap
end Go.Ex
