/- Frames side by side. -/
import Derived.Test.YtpnfkkoflppkhaaGreatDoorExOps9
noncomputable section
namespace Go.Ex

def ItRel (ι : Ren) : AItem → Item → Prop
  | .it (.code c), i => i = .code c
  | .it (.inBlock id), i => i = .inBlock id
  | .it (.inLoop b), i => i = .inLoop b
  | .it (.inScope b), i => i = .inScope b
  | .it .beginRound, i => i = .beginRound
  | .it (.inRangeFunc l), i => ∃ l', i = .inRangeFunc l' ∧ ι l = some (l', 0)
  | .it (.endRangeFunc l), i => ∃ l', i = .endRangeFunc l' ∧ ι l = some (l', 0)
  | .reg ops rest, i => ∃ (arr : Array Oper) (done : List Oper), i = .inRegion arr (List.range' done.length rest.length) ∧ arr.toList = ops ∧ ops = done ++ rest
  | _, _ => False

/-- A region that draws its order, on its way: 'listed' has been carried out. -/
structure RegRel (ι : Ren) (σ : Nat → Nat) (lo hi n : Nat) (ops : List Oper) (t0 tm : T Value) (prev : Option Nat) (rest : List Nat) (arr : Array Oper) (listed : Array Bool) (tmps : Array Value) : Prop where
  ops_ : arr.toList = ops
  ok : regOk n ops = true
  lsz : listed.size = arr.size
  down : ∀ (j : Nat) (o : Oper), listed[j]? = some true → arr[j]? = some o → ∀ e ∈ o.after, Region.binds .any e = true → listed[e.on]? = some true
  chain : ∃ done, chainOf ops 0 = done ++ rest ∧ prev = done.getLast? ∧ (∀ c ∈ done, listed[c]? = some true) ∧ (∀ c ∈ rest, listed[c]? = some false)
  tsz : tmps.size = n
  out : ∀ t, writer ops t = none → VRel ι σ (tget t0 t) (tmps.getD t undef) ∧ VRel ι σ (tget tm t) (tmps.getD t undef)
  old : ∀ t j, writer ops t = some j → listed[j]? = some false → VRel ι σ (tget t0 t) (tmps.getD t undef)
  new : ∀ t j, writer ops t = some j → listed[j]? = some true → VRel ι σ (tget tm t) (tmps.getD t undef)
  np : ∀ (j : Nat) (o : Oper) (d : Tmp), arr[j]? = some o → isMov o = true → o.dst = some d → listed[j]? = some true → isPoison (tget tm d) = false
  pend : ∀ (m : Nat) (o : Oper) (e : TypeId) (d : Tmp), arr[m]? = some o → isAlloc o = some e → o.dst = some d → listed[m]? = some false → ∀ b off, tget tm d = .pointer (some ⟨b, off, none⟩) →
    lo ≤ b ∧ b < hi ∧ ι b = none
  inj : ∀ (m m' : Nat) (o o' : Oper) (e e' : TypeId) (d d' : Tmp), arr[m]? = some o → isAlloc o = some e → o.dst = some d → arr[m']? = some o' → isAlloc o' = some e' → o'.dst = some d' →
    listed[m]? = some false → listed[m']? = some false → ∀ b off off', tget tm d = .pointer (some ⟨b, off, none⟩) → tget tm d' = .pointer (some ⟨b, off', none⟩) → m = m'

/-- How many are not listed. -/
def unlisted (listed : Array Bool) : Nat := (listed.toList.filter (! ·)).length

def PanRel (ι : Ren) (σ : Nat → Nat) (a c : PanicEntry) : Prop := VRel ι σ a.v c.v ∧ c.recovered = a.recovered ∧ c.goexit = a.goexit

def ModeRel (ι : Ren) (σ : Nat → Nat) : FrameMode → FrameMode → Prop
  | .run, .run => True
  | .returning, .returning => True
  | .panicking a, .panicking c => L2 (PanRel ι σ) a c
  | _, _ => False

inductive Body (ι : Ren) (σ : Nat → Nat) (lo hi n : Nat) (tm : T Value) (tmps : Array Value) : List AItem → FrameMode → List Item → FrameMode → Prop
  | plain {todo : List AItem} {ctodo : List Item} (ht : TmRel ι σ n tm tmps) (hk : L2 (ItRel ι) todo ctodo) : Body ι σ lo hi n tm tmps todo .run ctodo .run
  | phase {ops : List Oper} {t0 : T Value} {prev : Option Nat} {rest : List Nat} {k : List AItem} {arr : Array Oper} {listed : Array Bool} {fuel t : Nat} {ck : List Item}
      (hr : RegRel ι σ lo hi n ops t0 tm prev rest arr listed tmps) (hf : unlisted listed ≤ fuel) (hk : L2 (ItRel ι) k ck) :
      Body ι σ lo hi n tm tmps (.dphase ops t0 prev rest :: k) .run (.inRegion arr (Region.linearise.go .any arr fuel t listed []) :: ck) .run
  | chain {ops : List Oper} {t0 : T Value} {prev : Option Nat} {i : Nat} {rest : List Nat} {k : List AItem} {arr : Array Oper} {listed : Array Bool} {fuel t : Nat} {ck : List Item}
      (hr : RegRel ι σ lo hi n ops t0 tm prev (i :: rest) arr listed tmps) (hi' : i ∈ Region.ready .any arr listed) (hf : unlisted (listed.setIfInBounds i true) ≤ fuel) (hk : L2 (ItRel ι) k ck) :
      Body ι σ lo hi n tm tmps (.dchain ops t0 prev (i :: rest) :: k) .run (.inRegion arr (i :: Region.linearise.go .any arr fuel t (listed.setIfInBounds i true) []) :: ck) .run
  | last {ops : List Oper} {t0 : T Value} {prev : Option Nat} {k : List AItem} {arr : Array Oper} {ck : List Item} (ht : TmRel ι σ n tm tmps) (hk : L2 (ItRel ι) k ck) :
      Body ι σ lo hi n tm tmps (.dchain ops t0 prev [] :: k) .run (.inRegion arr [] :: ck) .run
  | over {todo : List AItem} {ctodo : List Item} {m m' : FrameMode} (ht : TmRel ι σ n tm tmps) (hm : ModeRel ι σ m m') (hne : m ≠ .run) : Body ι σ lo hi n tm tmps todo m ctodo m'

def RndRel (ι : Ren) : Option Nat → Option Nat → Prop
  | none, none => True
  | some l, some l' => ι l = some (l', 0)
  | _, _ => False

structure FrRel (ι : Ren) (σ : Nat → Nat) (lo hi : Nat) (a : AFr) (c : Frame) : Prop where
  fn : c.fn = a.fx.fn
  kind : c.kind = a.fx.kind
  rnd : RndRel ι a.fx.roundOf c.roundOf
  def_ : L2 (DRel ι σ) a.fx.defers c.defers
  body : Body ι σ lo hi a.fx.n a.tm c.tmps a.todo a.mode c.todo c.mode

inductive StRel (ι : Ren) (σ : Nat → Nat) : Nat → List AFr → List Frame → Prop
  | nil (hi : Nat) : StRel ι σ hi [] []
  | cons {lo hi : Nat} {a : AFr} {c : Frame} {as : List AFr} {cs : List Frame} (h : FrRel ι σ lo hi a c) (hl : lo ≤ hi) (hs : StRel ι σ lo as cs) : StRel ι σ hi (a :: as) (c :: cs)

section mono
variable {ι ι' : Ren} {σ σ' : Nat → Nat}

theorem ItRel.mono (hs : Sub ι σ ι' σ') {a : AItem} {i : Item} (h : ItRel ι a i) : ItRel ι' a i := by
  cases a with
  | it x =>
    cases x <;> first
      | exact h
      | (obtain ⟨l', h1, h2⟩ := h; exact ⟨l', h1, (hs _ _ h2).1⟩)
  | reg ops rest => exact h
  | dphase ops t0 prev rest => exact h
  | dchain ops t0 prev rest => exact h

theorem PanRel.mono (hs : Sub ι σ ι' σ') {a c : PanicEntry} (h : PanRel ι σ a c) : PanRel ι' σ' a c := ⟨h.1.mono hs, h.2⟩

theorem ModeRel.mono (hs : Sub ι σ ι' σ') {a c : FrameMode} (h : ModeRel ι σ a c) : ModeRel ι' σ' a c := by
  cases a <;> cases c <;> simp only [ModeRel] at h ⊢
  exact L2.mono h fun _ _ h => h.mono hs

theorem RegRel.mono {lo hi hi' n : Nat} {ops : List Oper} {t0 tm : T Value} {prev : Option Nat} {rest : List Nat} {arr : Array Oper} {listed : Array Bool} {tmps : Array Value}
    (h : RegRel ι σ lo hi n ops t0 tm prev rest arr listed tmps) (he : Ext hi ι σ ι' σ') (hh : hi ≤ hi') : RegRel ι' σ' lo hi' n ops t0 tm prev rest arr listed tmps :=
  ⟨h.ops_, h.ok, h.lsz, h.down, h.chain, h.tsz, fun t ht => ⟨(h.out t ht).1.mono he.1, (h.out t ht).2.mono he.1⟩, fun t j a b => (h.old t j a b).mono he.1, fun t j a b => (h.new t j a b).mono he.1, h.np,
   fun m o e d a b c f bb off g => let ⟨x, y, z⟩ := h.pend m o e d a b c f bb off g; ⟨x, Nat.lt_of_lt_of_le y hh, he.2 bb y z⟩, h.inj⟩

theorem Body.mono {lo hi hi' n : Nat} {tm : T Value} {tmps : Array Value} {todo : List AItem} {m : FrameMode} {ct : List Item} {cm : FrameMode}
    (h : Body ι σ lo hi n tm tmps todo m ct cm) (he : Ext hi ι σ ι' σ') (hh : hi ≤ hi') : Body ι' σ' lo hi' n tm tmps todo m ct cm := by
  cases h with
  | plain ht hk => exact .plain (ht.mono he.1) (hk.mono fun _ _ h => h.mono he.1)
  | phase hr hf hk => exact .phase (hr.mono he hh) hf (hk.mono fun _ _ h => h.mono he.1)
  | chain hr hi' hf hk => exact .chain (hr.mono he hh) hi' hf (hk.mono fun _ _ h => h.mono he.1)
  | last ht hk => exact .last (ht.mono he.1) (hk.mono fun _ _ h => h.mono he.1)
  | over ht hm hne => exact .over (ht.mono he.1) (hm.mono he.1) hne

theorem RndRel.mono (hs : Sub ι σ ι' σ') {a c : Option Nat} (h : RndRel ι a c) : RndRel ι' a c := by
  cases a <;> cases c <;> first | exact h | exact (hs _ _ h).1

theorem FrRel.mono {lo hi hi' : Nat} {a : AFr} {c : Frame} (h : FrRel ι σ lo hi a c) (he : Ext hi ι σ ι' σ') (hh : hi ≤ hi') : FrRel ι' σ' lo hi' a c :=
  ⟨h.fn, h.kind, h.rnd.mono he.1, h.def_.mono fun _ _ h => h.mono he.1, h.body.mono he hh⟩

theorem StRel.mono {hi : Nat} {as : List AFr} {cs : List Frame} (h : StRel ι σ hi as cs) (he : Ext hi ι σ ι' σ') : StRel ι' σ' hi as cs := by
  induction h with
  | nil hi => exact .nil hi
  | cons h hl _ ih => exact .cons (h.mono he (Nat.le_refl _)) hl (ih (he.le hl))
end mono

/-- The machine on both sides: the callers below cs0 are nobody's. -/
structure MRel (E : Env) (w0 : World) (cs0 : List Frame) (s : AM) (fr : Frame) (cs : List Frame) (w : World) : Prop where
  ex : ∃ ι σ lo ccs, cs = ccs ++ cs0 ∧ HRel E w0 ι σ s.h w ∧ FrRel ι σ lo s.h.next s.fr fr ∧ lo ≤ s.h.next ∧ StRel ι σ lo s.cs ccs

theorem mk_step {P : Program} {fr fr' : Frame} {cs cs' : List Frame} {w w' : World}
    (h : (stepG P true { frame := fr, callers := cs, status := .running, dying := none } w).bare = .go { frame := fr', callers := cs', status := .running, dying := none } w') :
    Steps P (lone fr cs w) (lone fr' cs' w') := .one (step_lone_go h)
end Go.Ex
