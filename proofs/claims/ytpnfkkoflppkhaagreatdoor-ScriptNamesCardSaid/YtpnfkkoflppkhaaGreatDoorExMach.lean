/- Steps of the machine, of any frame of one goroutine. -/
import Derived.Test.YtpnfkkoflppkhaaGreatDoorExReg
noncomputable section
namespace Go.Ex

/-- A value comes to a place. -/
def putC (tmps : Array Value) (d : Option Tmp) (v : Value) : Array Value := match d with | some d => tmps.setIfInBounds d v | none => tmps

section steps
variable {P : Program} {s : Sem Next} {fr : Frame} {cs : List Frame} {w w' : World} {arr : Array Oper} {i : Nat} {rest : List Nat} {k : List Item} {o : Oper}

theorem stepG_run (hm : fr.mode = .run) : stepG P true { frame := fr, callers := cs, status := .running, dying := none } w = stepG.exec P true true fr cs none w := by
  obtain ⟨fn, tmps, todo, defers, mode, kind, round⟩ := fr
  simp only at hm
  subst hm
  rfl

theorem m_oper (hm : fr.mode = .run) (ht : fr.todo = .inRegion arr (i :: rest) :: k) (ho : arr[i]? = some o) (hw : Region.wanted o (yielded arr fr.tmps) = true)
    (hd : fr.roundOf = none ∨ ∀ c, o.op ≠ .defer c) :
    (stepG P true { frame := fr, callers := cs, status := .running, dying := none } w).bare = (stepG.apply P true fr cs none (execOp fr.eval o) w).bare := by
  refine congrArg GStep.bare ?_
  rw [stepG_run hm]
  obtain ⟨fn, tmps, todo, defers, mode, kind, round⟩ := fr
  simp only at hm ht hw hd
  subst hm; subst ht
  simp only [stepG.exec, ho, Option.map_some, Option.getD_some, hw, if_true, stepG.oper, Frame.oper?]
  rcases hd with rfl | hd
  · rfl
  · cases round with
    | none => rfl
    | some l =>
      obtain ⟨dst, op, type, pos, after, guard⟩ := o
      cases op <;> first | rfl | exact absurd rfl (hd _)

theorem m_unwanted (hm : fr.mode = .run) (ht : fr.todo = .inRegion arr (i :: rest) :: k) (ho : arr[i]? = some o) (hw : Region.wanted o (yielded arr fr.tmps) = false) :
    Steps P (lone fr cs w) (lone (fr.finish undef) cs w) := by
  refine mk_step ?_
  rw [stepG_run hm]
  obtain ⟨fn, tmps, todo, defers, mode, kind, round⟩ := fr
  simp only at hm ht hw
  subst hm; subst ht
  simp only [stepG.exec, ho, Option.map_some, Option.getD_some, hw, Bool.false_eq_true, if_false, GStep.bare_go]

theorem finish_region (ht : fr.todo = .inRegion arr (i :: rest) :: k) (ho : arr[i]? = some o) (v : Value) :
    fr.finish v = { fr with tmps := (putC fr.tmps o.dst v), todo := .inRegion arr rest :: k } := by
  obtain ⟨fn, tmps, todo, defers, mode, kind, round⟩ := fr
  simp only at ht
  subst ht
  simp only [Frame.finish, ho, Option.bind_some]
  cases o.dst <;> rfl

variable {fr0 : Frame} {w00 : World}

/-- What an operation comes to, on the machine's side. -/
theorem m_value (h : (stepG P true { frame := fr0, callers := cs, status := .running, dying := none } w00).bare = (stepG.apply P true fr cs none s w).bare) {v : Value}
    (hr : s.run P w = .ok (.value v) w') : Steps P (lone fr0 cs w00) (lone (fr.finish v) cs w') :=
  mk_step (by rw [h]; simp [stepG.apply, hr])

theorem m_skip (h : (stepG P true { frame := fr0, callers := cs, status := .running, dying := none } w00).bare = (stepG.apply P true fr cs none s w).bare)
    (hr : s.run P w = .ok .skip w') : Steps P (lone fr0 cs w00) (lone (fr.finish undef) cs w') :=
  mk_step (by rw [h]; simp [stepG.apply, hr])

/-- No call waits at the head of what is to be done. -/
def calm (todo : List Item) : Bool := match todo with | .call .. :: _ => false | _ => true

theorem m_enter (h : (stepG P true { frame := fr0, callers := cs, status := .running, dying := none } w00).bare = (stepG.apply P true fr cs none s w).bare) {f : FuncId} {args : Array Value}
    (hk : calm fr.todo = true) (hr : s.run P w = .ok (.enter f args) w') : Steps P (lone fr0 cs w00) (lone (Frame.enter P f args .normal) (fr :: cs) w') := by
  refine mk_step ?_
  rw [h]
  simp only [stepG.apply, Sem.runT_eq, if_true, hr, GStep.bare_after, GStep.bare_go]
  obtain ⟨fn, tmps, todo, defers, mode, kind, round⟩ := fr
  simp only at hk ⊢
  cases todo with
  | nil => rfl
  | cons x t => cases x <;> first | rfl | cases hk

theorem m_round (h : (stepG P true { frame := fr0, callers := cs, status := .running, dying := none } w00).bare = (stepG.apply P true fr cs none s w).bare) {l : Nat} {f : FuncId} {tmps : Array Value} {a b : Code}
    (hr : s.run P w = .ok (.round l f tmps a b) w') : Steps P (lone fr0 cs w00) (lone (Frame.round l f tmps a b .normal) (fr :: cs) w') :=
  mk_step (by rw [h]; simp [stepG.apply, hr])

theorem m_defer (h : (stepG P true { frame := fr0, callers := cs, status := .running, dying := none } w00).bare = (stepG.apply P true fr cs none s w).bare) {d : Deferred}
    (hr : s.run P w = .ok (.defer d) w') : Steps P (lone fr0 cs w00) (lone ({ fr with defers := d :: fr.defers }.finish undef) cs w') :=
  mk_step (by rw [h]; simp [stepG.apply, hr])

theorem m_panic (h : (stepG P true { frame := fr0, callers := cs, status := .running, dying := none } w00).bare = (stepG.apply P true fr cs none s w).bare) {v : Value}
    (hr : s.run P w = .halt (.panic v) w') : Steps P (lone fr0 cs w00) (lone (fr.raise [{ v, recovered := false }]) cs w') :=
  mk_step (by rw [h]; simp [stepG.apply, hr])

theorem m_recover (h : (stepG P true { frame := fr0, callers := cs, status := .running, dying := none } w00).bare = (stepG.apply P true fr cs none s w).bare) (hro : fr.roundOf = none)
    (hr : s.run P w = .ok .recover w') : Steps P (lone fr0 cs w00) (match tryRecover fr cs with
      | some (v, callers) => lone (fr.finish v) callers w'
      | none => lone (fr.finish .nilIface) cs w') := by
  cases ht : tryRecover fr cs with
  | none => exact mk_step (by rw [h]; simp [stepG.apply, hr, hro, ht])
  | some p => exact mk_step (by rw [h]; simp [stepG.apply, hr, hro, ht])
end steps
end Go.Ex
