/- The executor's word about a call. -/
import Derived.Test.YtpnfkkoflppkhaaGreatDoorExSnd5
noncomputable section
namespace Go.Ex

/-- A run that has come to a result. -/
structure Ended (E : Env) (f : FuncId) (s : AM) (v : Value) : Prop where
  cs : s.cs = []
  mode : s.fr.mode = .returning
  def_ : s.fr.fx.defers = []
  kind : s.fr.fx.kind = .normal
  fn : s.fr.fx.fn = f
  res : resultV E s.h f s.fr.tm = some v

/-- The same, to be computed. -/
def endedB (E : Env) (f : FuncId) (s : Option AM) : Option Value :=
  match s with
  | some ⟨h, ⟨⟨fn, _, [], .normal, _⟩, tm, _, .returning⟩, []⟩ => match Nat.beq fn f with | true => resultV E h f tm | false => none
  | _ => none

theorem endedB_some {E : Env} {f : FuncId} {s : Option AM} {v : Value} (h : endedB E f s = some v) : ∃ s', s = some s' ∧ Ended E f s' v := by
  unfold endedB at h
  split at h
  · split at h
    · rename_i hb
      have := nbeq_eq hb
      subst this
      exact ⟨_, rfl, rfl, rfl, rfl, rfl, rfl, h⟩
    · cases h
  · cases h

theorem calls_of_run {E : Env} {w0 : World} {ι : Ren} {σ : Nat → Nat} {H : AH} (ok : EnvOk E) (R : HRel E w0 ι σ H w0) {f : FuncId} {args : List Value} {args' : Array Value} (ha : VsRel ι σ args args'.toList)
    {a : AFr} (he : enterA E f args .normal = some a) {n : Nat} {v : Value} (hr : endedB E f (run E n ⟨H, a, []⟩) = some v) :
    Calls E.P f args' w0 fun e w' => ∃ v' ι' σ' H', e = .returned v' ∧ VRel ι' σ' v v' ∧ HRel E w0 ι' σ' H' w' := by
  intro cs
  obtain ⟨s, hs, hend⟩ := endedB_some hr
  have M : MRel E w0 cs ⟨H, a, []⟩ (Frame.enter E.P f args' .normal) cs w0 := ⟨ι, σ, H.next, [], rfl, R, enter_rel ok he ha _, Nat.le_refl _, .nil _⟩
  obtain ⟨fr', cs', w', hst, ι', σ', lo, ccs, rfl, R', F, hlo, S⟩ := run_sound ok n hs M
  have hne : s.fr.mode ≠ .run := by rw [hend.mode]; intro e; cases e
  have htm := F.over_tm hne
  have hcs : ccs = [] := by rw [hend.cs] at S; cases S; rfl
  subst hcs
  obtain ⟨fn, v', h1, h2, h3⟩ := result_rel ok R' htm hend.res
  have hfn : fr'.fn = f := by rw [F.fn, hend.fn]
  have hm : fr'.mode = .returning := by
    have := mode_rel F
    rw [hend.mode] at this
    cases hx : fr'.mode with
    | returning => rfl
    | run => rw [hx] at this; exact this.elim
    | panicking _ => rw [hx] at this; exact this.elim
  have hd : fr'.defers = [] := by
    have := F.def_
    rw [hend.def_] at this
    cases hx : fr'.defers with
    | nil => rfl
    | cons _ _ => rw [hx] at this; cases this
  have hk : fr'.kind = .normal := by rw [F.kind, hend.kind]
  exact ⟨.returned v', w', fr', ⟨v', ι', σ', s.h, rfl, h3, R'⟩, (by show Steps _ _ _; simpa using hst), hfn, hm, hd, hk, fn, by rw [hfn]; exact h1, h2⟩
end Go.Ex
