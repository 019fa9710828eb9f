/- Steps side by side, the second part: what an operation comes to, and regions in the order of the text. -/
import Derived.Test.YtpnfkkoflppkhaaGreatDoorExSnd
noncomputable section
namespace Go.Ex

section snd
variable {E : Env} {w0 w w' : World} {ι : Ren} {σ : Nat → Nat} {H : AH} {lo hi : Nat} {cs0 : List Frame}

def isCall : Item → Bool
  | .call .. => true
  | _ => false

theorem it_not_call {a : AItem} {i : Item} (h : ItRel ι a i) : isCall i = false := by
  cases i with
  | call =>
    exfalso
    cases a with
    | it x =>
      cases x <;> first
        | exact h.elim
        | (cases h; done)
        | (obtain ⟨_, h, _⟩ := h; cases h)
    | reg => obtain ⟨_, _, h, _⟩ := h; cases h
    | _ => exact h.elim
  | _ => rfl

theorem calm_cons {i : Item} {k : List Item} (h : isCall i = false) : calm (i :: k) = true := by
  cases i <;> first | rfl | cases h

theorem FrRel.calm' {a : AFr} {c : Frame} (F : FrRel ι σ lo hi a c) (hm : c.mode = .run) : calm c.todo = true := by
  obtain ⟨fx, tm, todo, mode⟩ := a
  obtain ⟨cfn, ctmps, ctodo, cdefers, cmode, ckind, cround⟩ := c
  simp only at hm
  subst hm
  have h := F.body
  simp only at h ⊢
  cases h with
  | plain ht hk =>
    cases hk with
    | nil => rfl
    | cons hi _ => exact calm_cons (it_not_call hi)
  | phase => rfl
  | chain => rfl
  | last => rfl
  | over _ hm hne =>
    cases mode with
    | run => exact absurd rfl hne
    | _ => exact False.elim hm

/-- The two machines, one step on. -/
def Snd (E : Env) (w0 : World) (cs0 : List Frame) (s' : AM) (fr : Frame) (cs : List Frame) (w : World) : Prop :=
  ∃ fr' cs' w', Steps E.P (lone fr cs w) (lone fr' cs' w') ∧ MRel E w0 cs0 s' fr' cs' w'

theorem Snd.after {s' : AM} {fr fr' : Frame} {cs cs' : List Frame} (h : Steps E.P (lone fr cs w) (lone fr' cs' w')) (h' : Snd E w0 cs0 s' fr' cs' w') : Snd E w0 cs0 s' fr cs w :=
  let ⟨a, b, c, s, m⟩ := h'; ⟨a, b, c, h.trans s, m⟩

theorem finish_sound {a : AFr} {fr : Frame} {acs : List AFr} {ccs : List Frame} {s' : AM} (R : HRel E w0 ι σ H w) (F : FrRel ι σ lo H.next a fr) (hlo : lo ≤ H.next) (S : StRel ι σ lo acs ccs)
    {v v' : Value} (hv : VRel ι σ v v') (h : retA H acs (finishA a v) = some s') : MRel E w0 cs0 s' (fr.finish v') (ccs ++ cs0) w := by
  unfold retA at h
  cases hf : finishA a v with
  | none => rw [hf] at h; cases h
  | some a' =>
    rw [hf] at h
    simp only [Option.some.injEq] at h
    subst h
    exact ⟨ι, σ, lo, ccs, rfl, R, (finish_rel F hf hv).1, hlo, S⟩

theorem StRel.caller {hi : Nat} {c : AFr} {rest : List AFr} {ccs : List Frame} (S : StRel ι σ hi (c :: rest) ccs) :
    ∃ lo cc ccs', ccs = cc :: ccs' ∧ FrRel ι σ lo hi c cc ∧ lo ≤ hi ∧ StRel ι σ lo rest ccs' := by
  cases S with
  | cons h hl hs => exact ⟨_, _, _, rfl, h, hl, hs⟩

theorem mode_rel {a : AFr} {c : Frame} (F : FrRel ι σ lo hi a c) : ModeRel ι σ a.mode c.mode := by
  obtain ⟨fx, tm, todo, mode⟩ := a
  obtain ⟨cfn, ctmps, ctodo, cdefers, cmode, ckind, cround⟩ := c
  have h := F.body
  simp only at h ⊢
  cases h <;> first | trivial | assumption

/-- A frame that is on its way out, in another way. -/
theorem FrRel.mode {a : AFr} {c : Frame} (F : FrRel ι σ lo hi a c) (hne : a.mode ≠ .run) {m m' : FrameMode} (hm : ModeRel ι σ m m') (hne' : m ≠ .run) :
    FrRel ι σ lo hi ⟨a.fx, a.tm, a.todo, m⟩ { c with mode := m' } := by
  obtain ⟨fx, tm, todo, mode⟩ := a
  obtain ⟨cfn, ctmps, ctodo, cdefers, cmode, ckind, cround⟩ := c
  obtain ⟨h1, h2, h3, h4, h5⟩ := F
  simp only at h1 h2 h3 h4 h5 hne
  cases h5 with
  | over ht _ _ => exact ⟨h1, h2, h3, h4, .over ht hm hne'⟩
  | _ => exact absurd rfl hne

/-- What an operation comes to is carried out. -/
theorem apply_sound (ok : EnvOk E) {a : AFr} {fr fr0 : Frame} {w00 : World} {acs : List AFr} {ccs : List Frame} {s' : AM} (R : HRel E w0 ι σ H w) (F : FrRel ι σ lo H.next a fr) (hlo : lo ≤ H.next) (S : StRel ι σ lo acs ccs)
    (hcalm : calm fr.todo = true) {s : Sem Next}
    (hst : (stepG E.P true { frame := fr0, callers := ccs ++ cs0, status := .running, dying := none } w00).bare = (stepG.apply E.P true fr (ccs ++ cs0) none s w).bare)
    {r : ARes} (hr : ResOk E w0 ι σ H w r (s.run E.P w)) (h : applyA E a acs r = some s') : Snd E w0 cs0 s' fr0 (ccs ++ cs0) w00 := by
  cases r with
  | fail => cases h
  | val v H' =>
    obtain ⟨ι', σ', v', w', h1, h2, h3, h4, h5⟩ := hr
    exact ⟨_, _, _, m_value hst h1, finish_sound h3 (F.mono h2 h5) (Nat.le_trans hlo h5) (S.mono (h2.le hlo)) h4 h⟩
  | skip H' =>
    obtain ⟨ι', σ', w', h1, h2, h3, h5⟩ := hr
    exact ⟨_, _, _, m_skip hst h1, finish_sound h3 (F.mono h2 h5) (Nat.le_trans hlo h5) (S.mono (h2.le hlo)) undef_rel h⟩
  | enter f args H' =>
    obtain ⟨rfl, args', h1, h2⟩ := hr
    simp only [applyA, retA] at h
    cases he : enterA E f args .normal with
    | none => rw [he] at h; cases h
    | some b =>
      rw [he] at h
      simp only [Option.some.injEq] at h
      subst h
      exact ⟨_, _, _, m_enter hst hcalm h1, ι, σ, H'.next, fr :: ccs, rfl, R, enter_rel ok he h2 _, Nat.le_refl _, .cons F hlo S⟩
  | round l f n tm assign body H' =>
    obtain ⟨rfl, l', tmps, h1, h2, h3⟩ := hr
    simp only [applyA, Option.some.injEq] at h
    subst h
    exact ⟨_, _, _, m_round hst h1, ι, σ, H'.next, fr :: ccs, rfl, R, ⟨rfl, rfl, h2, .nil, .plain h3 (.cons rfl (.cons rfl (.cons rfl .nil)))⟩, Nat.le_refl _, .cons F hlo S⟩
  | defer d H' =>
    obtain ⟨rfl, d', h1, h2⟩ := hr
    simp only [applyA, deferA] at h
    cases ho : a.fx.roundOf with
    | some l => rw [ho] at h; cases h
    | none =>
      rw [ho] at h
      simp only at h
      have F' : FrRel ι σ lo H'.next ⟨⟨a.fx.fn, a.fx.n, d :: a.fx.defers, a.fx.kind, none⟩, a.tm, a.todo, a.mode⟩ { fr with defers := d' :: fr.defers } :=
        ⟨F.fn, F.kind, by have := F.rnd; rw [ho] at this; exact this, .cons h2 F.def_, F.body⟩
      exact ⟨_, _, _, m_defer hst h1, finish_sound R F' hlo S undef_rel h⟩
  | panic v H' =>
    obtain ⟨rfl, v', h1, h2⟩ := hr
    simp only [applyA, Option.some.injEq] at h
    subst h
    exact ⟨_, _, _, m_panic hst h1, ι, σ, lo, ccs, rfl, R, raise_rel F (.cons ⟨h2, rfl, rfl⟩ .nil), hlo, S⟩
  | recover H' =>
    obtain ⟨rfl, h1⟩ := hr
    simp only [applyA, recoverA] at h
    cases ho : a.fx.roundOf with
    | some l => rw [ho] at h; cases h
    | none =>
      rw [ho] at h
      simp only at h
      have hro : fr.roundOf = none := by
        have := F.rnd
        rw [ho] at this
        cases hx : fr.roundOf with
        | none => rfl
        | some l => rw [hx] at this; exact this.elim
      have hk := F.kind
      have hst' := m_recover hst hro h1
      cases hkk : a.fx.kind with
      | normal =>
        rw [hkk] at h hk
        have ht : tryRecover fr (ccs ++ cs0) = none := by unfold tryRecover; rw [hk]
        rw [ht] at hst'
        exact ⟨_, _, _, hst', finish_sound R F hlo S .nilIface h⟩
      | deferred =>
        rw [hkk] at h hk
        cases acs with
        | nil => cases h
        | cons c rest =>
          obtain ⟨lo', cc, ccs', rfl, Fc, hl', S'⟩ := S.caller
          have hmr := mode_rel Fc
          simp only at h
          split at h
          · rename_i v older hcm
            rw [hcm] at hmr
            cases hcc : cc.mode with
            | run => rw [hcc] at hmr; exact hmr.elim
            | returning => rw [hcc] at hmr; exact hmr.elim
            | panicking ch =>
              rw [hcc] at hmr
              cases ch with
              | nil => cases hmr
              | cons p ps =>
                obtain ⟨hp, ho'⟩ : PanRel ι σ { v, recovered := false, goexit := false } p ∧ L2 (PanRel ι σ) older ps := by cases hmr with | cons a b => exact ⟨a, b⟩
                obtain ⟨pv, pr, pg⟩ := p
                obtain ⟨q1, q2, q3⟩ := hp
                simp only at q1 q2 q3
                subst q2; subst q3
                have ht : tryRecover fr (cc :: ccs' ++ cs0) = some (pv, { cc with mode := .panicking ({ v := pv, recovered := true } :: ps) } :: (ccs' ++ cs0)) := by
                  unfold tryRecover; rw [hk]; simp [hcc]
                rw [ht] at hst'
                refine ⟨_, _, _, hst', finish_sound (ccs := _ :: ccs') R F hlo (.cons (Fc.mode (by rw [hcm]; intro e; cases e) (m' := .panicking ({ v := pv, recovered := true } :: ps)) ?_ (by intro e; cases e)) hl' S') q1 h⟩
                exact .cons ⟨q1, rfl, rfl⟩ ho'
          · rename_i hno
            have ht : tryRecover fr (cc :: ccs' ++ cs0) = none := by
              unfold tryRecover
              rw [hk]
              simp only [List.cons_append]
              split
              · rename_i v older hcc
                exfalso
                rw [hcc] at hmr
                cases hcm : c.mode with
                | run => rw [hcm] at hmr; exact hmr.elim
                | returning => rw [hcm] at hmr; exact hmr.elim
                | panicking ch =>
                  rw [hcm] at hmr
                  cases ch with
                  | nil => cases hmr
                  | cons p ps =>
                    have hp : PanRel ι σ p { v, recovered := false, goexit := false } := by cases hmr with | cons a b => exact a
                    obtain ⟨pv, pr, pg⟩ := p
                    obtain ⟨q1, q2, q3⟩ := hp
                    simp only at q1 q2 q3
                    subst q2; subst q3
                    exact hno _ _ hcm
              · rfl
            rw [ht] at hst'
            exact ⟨_, _, _, hst', finish_sound R F hlo S .nilIface h⟩
      | _ => rw [hkk] at h; cases h

/-- An operation is carried out by the executor only where the machine carries it out too. -/
theorem oper_hd {a : AFr} {fr : Frame} (F : FrRel ι σ lo hi a fr) {o : Oper} {r : Nat → Value} {acs : List AFr} {s' : AM} (h : applyA E a acs ((opF E o).f r H) = some s') :
    fr.roundOf = none ∨ ∀ c, o.op ≠ .defer c := by
  cases hro : fr.roundOf with
  | none => exact .inl rfl
  | some l =>
    right
    intro c hc
    have hx : a.fx.roundOf ≠ none := fun e => by have := F.rnd; rw [e, hro] at this; exact this
    have : (opF E o).f r H = aDefer E r c o.type H := by unfold opF; rw [hc]
    rw [this] at h
    unfold aDefer at h
    split at h
    · simp only [applyA, deferA] at h
      split at h
      · rename_i e; exact hx e
      · cases h
    · cases h

theorem reg_open {fx : Fx} {tm : T Value} {all : List Oper} {o : Oper} {os : List Oper} {k : List AItem} {fr : Frame} (F : FrRel ι σ lo hi ⟨fx, tm, .reg all (o :: os) :: k, .run⟩ fr) :
    ∃ arr i rest' ck, fr.todo = .inRegion arr (i :: rest') :: ck ∧ arr[i]? = some o ∧ arr.toList = all ∧ fr.mode = .run ∧ TmRel ι σ fx.n tm fr.tmps := by
  obtain ⟨cfn, ctmps, ctodo, cdefers, cmode, ckind, cround⟩ := fr
  obtain ⟨h1, h2, h3, h4, h5⟩ := F
  simp only at h1 h2 h3 h4 h5 ⊢
  cases h5 with
  | over _ _ hne => exact absurd rfl hne
  | plain ht hk =>
    cases hk with
    | cons hi' hk =>
      obtain ⟨arr, done, rfl, ha, ho⟩ := hi'
      have hod : arr[done.length]? = some o := by
        have : arr.toList[done.length]? = some o := by rw [ha, ho]; simp
        simpa using this
      rename_i ck
      exact ⟨arr, done.length, List.range' (done.length + 1) os.length, ck, by simp only [List.length_cons, List.range'_succ], hod, ha, rfl, ht⟩

theorem regPut_eq {o : Oper} {os : List Oper} {fx : Fx} {tm : T Value} {v : Value} {H' : AH} {next : T Value → AH → RRes} {acs : List AFr} {k : List AItem} {all : List Oper} {s' : AM}
    (h : regEnd E fx acs k all (regPut o os fx.n tm v H' next) = some s') :
    ∃ tm', finishA ⟨fx, tm, .reg all (o :: os) :: k, .run⟩ v = some ⟨fx, tm', .reg all os :: k, .run⟩ ∧ regEnd E fx acs k all (next tm' H') = some s' := by
  unfold regPut at h
  unfold finishA putT
  simp only
  cases hd : o.dst with
  | none => rw [hd] at h; exact ⟨tm, rfl, h⟩
  | some d =>
    rw [hd] at h
    simp only at h ⊢
    cases hb : (Nat.blt d fx.n && Nat.ble fx.n 100000) with
    | true => rw [hb] at h; exact ⟨_, rfl, h⟩
    | false => rw [hb] at h; cases h

/-- A region in the order of the text. -/
theorem reg_sound (ok : EnvOk E) {acs : List AFr} {ccs : List Frame} {s' : AM} {fx : Fx} {k : List AItem} {all : List Oper} : ∀ (os : List Oper) {tm : T Value} {H : AH} {ι : Ren} {σ : Nat → Nat} {w : World} {fr : Frame},
    HRel E w0 ι σ H w → FrRel ι σ lo H.next ⟨fx, tm, .reg all os :: k, .run⟩ fr → lo ≤ H.next → StRel ι σ lo acs ccs → regEnd E fx acs k all (regGo E all fx.n os tm H) = some s' →
    Snd E w0 cs0 s' fr (ccs ++ cs0) w
  | [], tm, H, ι, σ, w, fr, R, F, hlo, S, h => by
    simp only [regGo, regEnd, goA, Option.some.injEq] at h
    subst h
    obtain ⟨cfn, ctmps, ctodo, cdefers, cmode, ckind, cround⟩ := fr
    obtain ⟨h1, h2, h3, h4, h5⟩ := F
    simp only at h1 h2 h3 h4 h5
    cases h5 with
    | over _ _ hne => exact absurd rfl hne
    | plain ht hk =>
      cases hk with
      | cons hi' hk =>
        obtain ⟨arr, done, rfl, ha, ho⟩ := hi'
        rename_i ck
        refine ⟨{ fn := cfn, tmps := ctmps, todo := ck, defers := cdefers, mode := .run, kind := ckind, roundOf := cround }, ccs ++ cs0, w, mk_step ?_, ι, σ, lo, ccs, rfl, R, ⟨h1, h2, h3, h4, .plain ht hk⟩, hlo, S⟩
        rw [stepG_run rfl]
        simp [stepG.exec]
  | o :: os, tm, H, ι, σ, w, fr, R, F, hlo, S, h => by
    have hgo : regGo E all fx.n (o :: os) tm H = regOne E all o os fx.n tm H (regGo E all fx.n os) := rfl
    rw [hgo] at h
    obtain ⟨arr, i, rest', ck, ht, ho, ha, hm, htm⟩ := reg_open F
    have hrel := htm.2
    have hput : ∀ {v v' : Value} {H' : AH} {ι' : Ren} {σ' : Nat → Nat} {w' : World}, HRel E w0 ι' σ' H' w' → VRel ι' σ' v v' → Ext H.next ι σ ι' σ' → H.next ≤ H'.next →
        Steps E.P (lone fr (ccs ++ cs0) w) (lone (fr.finish v') (ccs ++ cs0) w') → regEnd E fx acs k all (regPut o os fx.n tm v H' (regGo E all fx.n os)) = some s' → Snd E w0 cs0 s' fr (ccs ++ cs0) w := by
      intro v v' H' ι' σ' w' R' hv he hle hs hh
      obtain ⟨tm', hf, hn⟩ := regPut_eq hh
      exact (reg_sound ok os R' (finish_rel (F.mono he hle) hf hv).1 (Nat.le_trans hlo hle) (S.mono (he.le hlo)) hn).after hs
    have hwanted : Region.wanted o (yielded arr fr.tmps) = true → regEnd E fx acs k all (regRes o os fx.n tm (regGo E all fx.n os) ((opF E o).f (tget tm) H)) = some s' → Snd E w0 cs0 s' fr (ccs ++ cs0) w := by
      intro hw hh
      have hop := op_ok ok R hrel o
      rw [← evC_frame] at hop
      have hcalm : calm fr.todo = true := by rw [ht]; rfl
      have happly : ∀ r, (opF E o).f (tget tm) H = r → applyA E ⟨fx, tm, .reg all (o :: os) :: k, .run⟩ acs r = some s' → Snd E w0 cs0 s' fr (ccs ++ cs0) w := fun r hr ha' => by
        subst hr
        exact apply_sound ok R F hlo S hcalm (m_oper hm ht ho hw (oper_hd F ha')) hop ha'
      generalize hres : (opF E o).f (tget tm) H = res at hh hop
      have hnd : (∀ d H', res ≠ .defer d H') → ∀ c, o.op ≠ .defer c := fun hx c hc => by
        have : (opF E o).f (tget tm) H = aDefer E (tget tm) c o.type H := by unfold opF; rw [hc]
        rw [this] at hres
        unfold aDefer at hres
        split at hres
        · exact hx _ _ hres.symm
        · subst hres; cases hh
      cases res with
      | val v H' =>
        obtain ⟨ι', σ', v', w', h1, h2, h3, h4, h5⟩ := hop
        exact hput h3 h4 h2 h5 (m_value (m_oper hm ht ho hw (.inr (hnd (by intro d H' e; cases e)))) h1) hh
      | skip H' =>
        obtain ⟨ι', σ', w', h1, h2, h3, h5⟩ := hop
        exact hput h3 undef_rel h2 h5 (m_skip (m_oper hm ht ho hw (.inr (hnd (by intro d H' e; cases e)))) h1) hh
      | _ => exact happly _ hres hh
    unfold regOne at h
    cases hg : o.guard with
    | none =>
      rw [hg] at h
      exact hwanted (by simp [Region.wanted, hg]) h
    | some p =>
      rw [hg] at h
      simp only at h
      cases hwr : wantR all fx.n (tget tm) o with
      | none => rw [hwr] at h; cases h
      | some b =>
        rw [hwr] at h
        have hw := want_rel hrel htm.1 ha hwr
        cases b with
        | true => exact hwanted hw h
        | false => exact hput R undef_rel (Ext.refl _ _ _) (Nat.le_refl _) (m_unwanted hm ht ho hw) h
end snd
end Go.Ex
