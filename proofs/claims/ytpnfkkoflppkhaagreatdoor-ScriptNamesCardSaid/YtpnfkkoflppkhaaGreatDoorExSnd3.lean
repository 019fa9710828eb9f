/- Steps side by side, the third part: ways out of a frame. -/
import Derived.Test.YtpnfkkoflppkhaaGreatDoorExSnd2
noncomputable section
namespace Go.Ex

section snd
variable {E : Env} {w0 w w' : World} {ι : Ren} {σ : Nat → Nat} {H : AH} {lo hi : Nat} {cs0 : List Frame}

theorem drop_rel : ∀ {a c : List PanicEntry}, L2 (PanRel ι σ) a c → L2 (PanRel ι σ) (a.dropWhile (!·.goexit)) (c.dropWhile (!·.goexit))
  | _, _, .nil => .nil
  | _, _, .cons (a := p) (b := q) h t => by
    simp only [List.dropWhile_cons, h.2.2]
    split
    · exact drop_rel t
    · exact .cons h t

theorem settle_rel {m m' : FrameMode} (h : ModeRel ι σ m m') : ModeRel ι σ (settle m) (settle m') ∧ (m ≠ .run → settle m ≠ .run) := by
  cases m with
  | run => cases m' <;> first | exact h.elim | exact ⟨trivial, fun e => absurd rfl e⟩
  | returning => cases m' <;> first | exact h.elim | exact ⟨trivial, fun _ e => by cases e⟩
  | panicking ch =>
    cases m' with
    | run => exact h.elim
    | returning => exact h.elim
    | panicking ch' =>
      have h' : L2 (PanRel ι σ) ch ch' := h
      cases h' with
      | nil => exact ⟨.nil, fun _ e => by cases e⟩
      | cons hp hs =>
        rename_i p q ps qs
        obtain ⟨pv, pr, pg⟩ := p
        obtain ⟨qv, qr, qg⟩ := q
        obtain ⟨q1, q2, q3⟩ := hp
        simp only at q1 q2 q3
        subst q2; subst q3
        cases qr with
        | false => exact ⟨.cons ⟨q1, rfl, rfl⟩ hs, fun _ e => by cases e⟩
        | true =>
          have hd := drop_rel hs
          unfold settle
          simp only
          generalize hx : List.dropWhile (fun x => !x.goexit) ps = x at hd
          generalize hy : List.dropWhile (fun x => !x.goexit) qs = y at hd
          cases hd with
          | nil => exact ⟨trivial, fun _ e => by cases e⟩
          | cons a b => exact ⟨.cons a b, fun _ e => by cases e⟩

theorem settle_doReturn (cc : Frame) : (match cc.mode with
        | .panicking ({ recovered := true, .. } :: older) =>
          match older.dropWhile (!·.goexit) with
          | [] => { cc with mode := .returning }
          | rest => { cc with mode := .panicking rest }
        | _ => cc) = { cc with mode := settle cc.mode } := by
  obtain ⟨fn, tmps, todo, defers, mode, kind, round⟩ := cc
  unfold settle
  simp only
  split
  · split <;> rename_i h <;> simp [h]
  · rename_i h
    split
    · rename_i older
      exact absurd rfl (h _ _ _)
    · rfl

/-- A frame hands its result to the caller. -/
theorem return_sound {a : AFr} {fr : Frame} {acs : List AFr} {ccs : List Frame} {s' : AM} {w1 : World} (R : HRel E w0 ι σ H w) (hk : fr.kind = a.fx.kind) (hlo : lo ≤ H.next) (S : StRel ι σ lo acs ccs) {v v' : Value}
    (hst : (stepG E.P true { frame := fr, callers := ccs ++ cs0, status := .running, dying := none } w1).bare = (doReturn E.P true fr (ccs ++ cs0) none v' w).bare)
    (hv : VRel ι σ v v') (h : returnA a H acs v = some s') : Snd E w0 cs0 s' fr (ccs ++ cs0) w1 := by
  cases acs with
  | nil => cases h
  | cons c rest =>
    obtain ⟨lo', cc, ccs', rfl, Fc, hl', S'⟩ := S.caller
    simp only [returnA] at h
    have Fc' : FrRel ι σ lo' H.next c cc := Fc.mono (Ext.refl _ _ _) hlo
    cases hkk : a.fx.kind with
    | normal =>
      rw [hkk] at h hk
      refine ⟨cc.finish v', ccs' ++ cs0, w, mk_step ?_, finish_sound R Fc' (Nat.le_trans hl' hlo) S' hv h⟩
      rw [hst]
      simp [doReturn, hk, GStep.bare]
    | deferred =>
      rw [hkk] at h hk
      simp only [Option.some.injEq] at h
      subst h
      obtain ⟨hs1, hs2⟩ := settle_rel (mode_rel Fc)
      refine ⟨{ cc with mode := settle cc.mode }, ccs' ++ cs0, w, mk_step ?_, ι, σ, lo', ccs', rfl, R, ?_, Nat.le_trans hl' hlo, S'⟩
      · rw [hst]
        simp only [doReturn, hk, List.cons_append, GStep.bare_go]
        rw [← settle_doReturn]
        rfl
      · cases hcm : c.mode with
        | run =>
          have hmr := mode_rel Fc
          rw [hcm] at hmr
          cases hccm : cc.mode with
          | run =>
            have h1 : { cc with mode := settle FrameMode.run } = cc := by cases cc; simp only at hccm; subst hccm; rfl
            rw [h1]
            obtain ⟨fx, tm, todo, mode⟩ := c
            simp only at hcm
            subst hcm
            exact Fc'
          | returning => rw [hccm] at hmr; exact hmr.elim
          | panicking _ => rw [hccm] at hmr; exact hmr.elim
        | returning => rw [hcm] at hs1 hs2; exact Fc'.mode (by rw [hcm]; intro e; cases e) hs1 (hs2 (by intro e; cases e))
        | panicking ch => rw [hcm] at hs1 hs2; exact Fc'.mode (by rw [hcm]; intro e; cases e) hs1 (hs2 (by intro e; cases e))
    | _ => rw [hkk] at h; cases h

theorem stepG_unwind {P : Program} {fr : Frame} {cs : List Frame} (hm : fr.mode ≠ .run) :
    stepG P true { frame := fr, callers := cs, status := .running, dying := none } w = unwind P true fr cs none w := by
  obtain ⟨fn, tmps, todo, defers, mode, kind, round⟩ := fr
  cases mode with
  | run => exact absurd rfl hm
  | _ => rfl

def resC (tmps : Array Value) (r : ResultVar) : Sem Value :=
  match r with
  | .tmp t => pure (tmps.getD t undef)
  | .cell a t => do loadVar t (← asAddr (tmps.getD a undef))

theorem results_rel (ok : EnvOk E) (R : HRel E w0 ι σ H w) {n : Nat} {tm : T Value} {tmps : Array Value} (ht : TmRel ι σ n tm tmps) : ∀ (rs : List ResultVar) {vs : List Value}, resultsV E H tm rs = some vs →
    ∃ vs', (rs.mapM (resC tmps)).run E.P w = .ok vs' w ∧ VsRel ι σ vs vs'
  | [], vs, h => by simp only [resultsV, Option.some.injEq] at h; subst h; exact ⟨[], by simp, .nil⟩
  | .tmp t :: rs, vs, h => by
    simp only [resultsV] at h
    cases hr : resultsV E H tm rs with
    | none => rw [hr] at h; cases h
    | some us =>
      rw [hr] at h
      simp only [Option.some.injEq] at h
      subst h
      obtain ⟨us', h1, h2⟩ := results_rel ok R ht rs hr
      exact ⟨_, by simp only [List.mapM_cons, Sem.run_bind, h1, resC, Sem.run_pure, Result.andThen_ok], .cons (ht.2 t) h2⟩
  | .cell a t :: rs, vs, h => by
    simp only [resultsV] at h
    cases hl : loadAt E H t (tget tm a) with
    | none => rw [hl] at h; cases h
    | some v =>
      rw [hl] at h
      simp only at h
      cases hr : resultsV E H tm rs with
      | none => rw [hr] at h; cases h
      | some us =>
        rw [hr] at h
        simp only [Option.some.injEq] at h
        subst h
        obtain ⟨us', h1, h2⟩ := results_rel ok R ht rs hr
        obtain ⟨v', h3, h4⟩ := loadAt_rel ok R hl (ht.2 a)
        have hx : (resC tmps (.cell a t)).run E.P w = .ok v' w := by
          rw [← h3]
          show (do loadVar t (← asAddr (tmps.getD a undef)) : Sem Value).run E.P w = _
          have ha := ht.2 a
          generalize tmps.getD a undef = u at h3 ha ⊢
          generalize tget tm a = y at hl ha
          cases ha <;> first | (simp only [loadAt] at hl; done) | (simp [loadAt] at hl; done) | simp [Instr.loadAt, Instr.sureAddr, asAddr]
        exact ⟨_, by simp only [List.mapM_cons, Sem.run_bind, h1, hx, Sem.run_pure, Result.andThen_ok], .cons h4 h2⟩

theorem result_rel (ok : EnvOk E) (R : HRel E w0 ι σ H w) {n : Nat} {tm : T Value} {tmps : Array Value} (ht : TmRel ι σ n tm tmps) {f : FuncId} {v : Value} (h : resultV E H f tm = some v) :
    ∃ fn v', E.P.funcs[f]? = some fn ∧ (results fn tmps).run E.P w = .ok v' w ∧ VRel ι σ v v' := by
  unfold resultV at h
  cases hf : E.fn.get f with
  | none => rw [hf] at h; cases h
  | some fn =>
    rw [hf] at h
    simp only at h
    refine ⟨fn, ?_⟩
    have hP := ok.fn f fn hf
    cases hr : resultsV E H tm fn.results.toList with
    | none => rw [hr] at h; cases h
    | some vs =>
      rw [hr] at h
      obtain ⟨vs', h1, h2⟩ := results_rel ok R ht fn.results.toList hr
      have hm : (results fn tmps).run E.P w = .ok (if h : vs'.toArray.size = 1 then vs'.toArray[0] else .tuple vs'.toArray) w := by
        have hre : results fn tmps = (do let vs ← fn.results.mapM (resC tmps); pure (if h : vs.size = 1 then vs[0] else .tuple vs)) := rfl
        rw [hre, Array.mapM_eq_mapM_toList]
        simp only [Sem.run_bind, map_eq_pure_bind, h1, Result.andThen_ok, Sem.run_pure]
      cases h2 with
      | nil =>
        simp only [Option.some.injEq] at h
        subst h
        exact ⟨_, hP, hm, by simpa using VRel.tuple .nil⟩
      | cons a b =>
        cases b with
        | nil =>
          simp only [Option.some.injEq] at h
          subst h
          exact ⟨_, hP, hm, by simpa using a⟩
        | cons b c =>
          simp only [Option.some.injEq] at h
          subst h
          exact ⟨_, hP, hm, by simpa using VRel.tuple (.cons a (.cons b c))⟩

theorem FrRel.over_tm {a : AFr} {c : Frame} (F : FrRel ι σ lo hi a c) (hne : a.mode ≠ .run) : TmRel ι σ a.fx.n a.tm c.tmps := by
  obtain ⟨fx, tm, todo, mode⟩ := a
  obtain ⟨cfn, ctmps, ctodo, cdefers, cmode, ckind, cround⟩ := c
  have h := F.body
  simp only at h hne ⊢
  cases h with
  | over ht _ _ => exact ht
  | _ => exact absurd rfl hne

/-- A frame that is on its way out. -/
theorem unwind_sound (ok : EnvOk E) {a : AFr} {fr : Frame} {acs : List AFr} {ccs : List Frame} {s' : AM} (R : HRel E w0 ι σ H w) (F : FrRel ι σ lo H.next a fr) (hlo : lo ≤ H.next) (S : StRel ι σ lo acs ccs)
    (hne : a.mode ≠ .run) (h : unwindA E ⟨H, a, acs⟩ = some s') : Snd E w0 cs0 s' fr (ccs ++ cs0) w := by
  have hmr := mode_rel F
  have hcne : fr.mode ≠ .run := fun e => by rw [e] at hmr; cases hm : a.mode <;> rw [hm] at hmr <;> first | exact hne hm | exact hmr.elim
  have hu := stepG_unwind (P := E.P) (w := w) (cs := ccs ++ cs0) hcne
  have htm : TmRel ι σ a.fx.n a.tm fr.tmps := F.over_tm hne
  simp only [unwindA] at h
  have hdef := F.def_
  cases hd : a.fx.defers with
  | cons d ds =>
    rw [hd] at h hdef
    simp only at h
    cases hcd : fr.defers with
    | nil => rw [hcd] at hdef; cases hdef
    | cons d' ds' =>
      rw [hcd] at hdef
      obtain ⟨hdd, hds⟩ : DRel ι σ d d' ∧ L2 (DRel ι σ) ds ds' := by cases hdef with | cons a b => exact ⟨a, b⟩
      obtain ⟨tg, args⟩ := d
      obtain ⟨tg', args'⟩ := d'
      have hcopy := hdd
      obtain ⟨ht, ha⟩ := hdd
      simp only at ht ha h
      cases tg with
      | collected b =>
        simp only at h
        cases tg' <;> try (exact ht.elim)
        rename_i b'
        have hb' : ι b = some (b', 0) := ht
        cases hg : H.m.get b with
        | none => rw [hg] at h; cases h
        | some o =>
          rw [hg] at h
          cases o <;> try (cases h; done)
          rename_i dd
          cases dd with
          | none => cases h
          | some calls =>
            simp only at h
            cases hbb : (Nat.ble E.base b && Nat.ble b 100000) with
            | false => rw [hbb] at h; cases h
            | true =>
              rw [hbb] at h
              simp only [Option.some.injEq] at h
              subst h
              simp only [Bool.and_eq_true] at hbb
              have b1 := nble_le hbb.1
              have b2 := nble_le hbb.2
              obtain ⟨c, h1, h2⟩ := R.blk b _ hg _ hb'
              cases c <;> try (exact h2.elim)
              rename_i cd
              cases cd with
              | none => exact h2.elim
              | some calls' =>
                obtain ⟨_, hcalls⟩ := h2
                have hgo := getObj_at (P := E.P) h1 (by intros; simp)
                have hso := fun o' => setObj_at (P := E.P) (o' := o') h1 (by intros; simp)
                have R' := setObj_rel R hg hb' b1 b2 (o' := .defd none) (c' := .deferred none) rfl (by intros; simp)
                have hrun : (Instr.takeDeferred b').run E.P w = .ok calls' { w with heap := w.heap.setIfInBounds b' (.deferred none) } := by
                  simp [Instr.takeDeferred, hgo, hso]
                refine ⟨{ fr with defers := calls' ++ ds' }, ccs ++ cs0, _, mk_step ?_, ι, σ, lo, ccs, rfl, R', ⟨F.fn, F.kind, F.rnd, hcalls.append hds, F.body⟩, hlo, S⟩
                rw [hu]
                simp [unwind, hcd, Sem.runT_eq, hrun]
      | fn f cap =>
        simp only at h
        cases tg' <;> try (exact ht.elim)
        rename_i f' cap'
        have hinv := runT_ok ok R hcopy
        simp only [runT] at hinv
        cases hi : invokeF E H f cap.toList args.toList <;> rw [hi] at h <;> simp only at h <;> try (cases h; done)
        rename_i g gargs H'
        rw [hi] at hinv
        obtain ⟨rfl, gargs', h1, h2⟩ := hinv
        simp only [retA] at h
        cases he : enterA E g gargs .deferred with
        | none => rw [he] at h; cases h
        | some b =>
          rw [he] at h
          simp only [Option.some.injEq] at h
          subst h
          have F' : FrRel ι σ lo H'.next ⟨⟨a.fx.fn, a.fx.n, ds, a.fx.kind, a.fx.roundOf⟩, a.tm, a.todo, a.mode⟩ { fr with defers := ds' } := ⟨F.fn, F.kind, F.rnd, hds, F.body⟩
          refine ⟨_, { fr with defers := ds' } :: ccs ++ cs0, w, mk_step ?_, ι, σ, H'.next, { fr with defers := ds' } :: ccs, rfl, R, enter_rel ok he h2 _, Nat.le_refl _, .cons F' hlo S⟩
          rw [hu]
          simp only [unwind, hcd, callDeferred]
          simp [Sem.runT_eq, h1]
      | _ => cases h
  | nil =>
    rw [hd] at h hdef
    have hcd : fr.defers = [] := by
      cases hx : fr.defers with
      | nil => rfl
      | cons d ds => rw [hx] at hdef; cases hdef
    cases hm : a.mode with
    | run => exact absurd hm hne
    | panicking ch =>
      rw [hm] at h hmr
      simp only at h
      cases acs with
      | nil => cases h
      | cons c rest =>
        cases hf : E.fn.get a.fx.fn with
        | none => rw [hf] at h; cases h
        | some fn =>
          rw [hf] at h
          simp only [Option.some.injEq] at h
          subst h
          obtain ⟨lo', cc, ccs', rfl, Fc, hl', S'⟩ := S.caller
          cases hcm : fr.mode with
          | run => exact absurd hcm hcne
          | returning => rw [hcm] at hmr; exact hmr.elim
          | panicking ch' =>
            rw [hcm] at hmr
            have hfn : E.P.funcs[fr.fn]? = some fn := by rw [F.fn]; exact ok.fn _ _ hf
            refine ⟨cc.raise ch', ccs' ++ cs0, w, mk_step ?_, ι, σ, lo', ccs', rfl, R, raise_rel (Fc.mono (Ext.refl _ _ _) hlo) hmr, Nat.le_trans hl' hlo, S'⟩
            rw [hu]
            simp [unwind, hcd, hcm, Frame.catches, hfn]
    | returning =>
      rw [hm] at h hmr
      simp only at h
      cases hr : resultV E H a.fx.fn a.tm with
      | none => rw [hr] at h; cases h
      | some v =>
        rw [hr] at h
        simp only at h
        obtain ⟨fn, v', h1, h2, h3⟩ := result_rel ok R htm hr
        rw [← F.fn] at h1
        have hcm : fr.mode = .returning := by
          cases hx : fr.mode with
          | run => exact absurd hx hcne
          | returning => rfl
          | panicking _ => rw [hx] at hmr; exact hmr.elim
        refine return_sound R F.kind hlo S ?_ h3 h
        rw [hu]
        simp [unwind, hcd, hcm, h1, Sem.runT_eq, h2]

/-- A body has come to its end, or leaves. -/
theorem leave_sound {fx : Fx} {tm : T Value} {todo : List AItem} {fr : Frame} {acs : List AFr} {ccs : List Frame} {s' : AM} (R : HRel E w0 ι σ H w)
    (F : FrRel ι σ lo H.next ⟨fx, tm, todo, .run⟩ fr) (htm : TmRel ι σ fx.n tm fr.tmps) (hlo : lo ≤ H.next) (S : StRel ι σ lo acs ccs) (hm : fr.mode = .run) {jump : Option Code}
    (hj : (jump = none ∧ fr.todo = []) ∨ (∃ k, jump = some .ret ∧ fr.todo = .code .ret :: k) ∨ (∃ id k, jump = some (.exit id) ∧ fr.todo = .code (.exit id) :: k ∧ exitTo id k = none))
    (h : leaveA E fx tm H acs jump = some s') : Snd E w0 cs0 s' fr (ccs ++ cs0) w := by
  unfold leaveA at h
  cases hro : fx.roundOf with
  | none =>
    rw [hro] at h
    simp only at h
    have hcro : fr.roundOf = none := by
      have := F.rnd
      rw [hro] at this
      cases hx : fr.roundOf with
      | none => rfl
      | some l => rw [hx] at this; exact this.elim
    have hs : s' = ⟨H, ⟨fx, tm, [], .returning⟩, acs⟩ ∧ (jump = none ∨ jump = some .ret) := by
      split at h
      · simp only [Option.some.injEq] at h; exact ⟨h.symm, .inl rfl⟩
      · simp only [Option.some.injEq] at h; exact ⟨h.symm, .inr rfl⟩
      · cases h
    obtain ⟨rfl, hjj⟩ := hs
    refine ⟨{ fr with mode := .returning }, ccs ++ cs0, w, mk_step ?_, ι, σ, lo, ccs, rfl, R, ⟨F.fn, F.kind, F.rnd, F.def_, .over htm trivial (by intro e; cases e)⟩, hlo, S⟩
    rw [stepG_run hm]
    obtain ⟨cfn, ctmps, ctodo, cdefers, cmode, ckind, cround⟩ := fr
    simp only at hm hcro hj
    subst hm; subst hcro
    rcases hj with ⟨rfl, rfl⟩ | ⟨k, rfl, rfl⟩ | ⟨id, k, rfl, rfl, _⟩
    · simp [stepG.exec]
    · simp [stepG.exec]
    · rcases hjj with e | e <;> cases e
  | some l =>
    rw [hro] at h
    simp only at h
    cases hcro : fr.roundOf with
    | none => have := F.rnd; rw [hro, hcro] at this; exact this.elim
    | some l' =>
      have hι : ι l = some (l', 0) := by have := F.rnd; rw [hro, hcro] at this; exact this
      cases hg : H.m.get l with
      | none => rw [hg] at h; cases h
      | some o =>
        rw [hg] at h
        cases o <;> try (cases h; done)
        rename_i st pending fn n tm' params assign body defers
        simp only at h
        cases hbb : (Nat.ble E.base l && Nat.ble l 100000) with
        | false => rw [hbb] at h; cases h
        | true =>
          rw [hbb] at h
          simp only at h
          simp only [Bool.and_eq_true] at hbb
          have b1 := nble_le hbb.1
          have b2 := nble_le hbb.2
          obtain ⟨c, h1, h2⟩ := R.blk l _ hg _ hι
          cases c <;> try (exact h2.elim)
          rename_i lp
          obtain ⟨_, e1, e2, e3, e4, e5, e6, e7, e8⟩ := h2
          have hgo := getObj_at (P := E.P) h1 (by intros; simp)
          have hso := fun o' => setObj_at (P := E.P) (o' := o') h1 (by intros; simp)
          suffices key : ∀ st', returnA ⟨fx, tm, [], .run⟩ { H with m := H.m.set l (.loop st' jump fn n tm' params assign body defers) } acs (.bool jump.isNone) = some s' →
              st' = (if jump.isNone then .ready else .done) → Snd E w0 cs0 s' fr (ccs ++ cs0) w by
            cases jump <;> exact key _ h rfl
          intro st' h hst'
          subst hst'
          have R' := setObj_rel R hg hι b1 b2 (o' := .loop (if jump.isNone then .ready else .done) jump fn n tm' params assign body defers)
            (c' := .loop { lp with state := if jump.isNone then .ready else .done, pending := jump }) ⟨rfl, rfl, rfl, e3, e4, e5, e6, e7, e8⟩ (by intros; simp)
          have hrun : (Instr.endRound l' jump).run E.P w = .ok (.bool jump.isNone) { w with heap := w.heap.setIfInBounds l' (.loop { lp with state := if jump.isNone then .ready else .done, pending := jump }) } := by
            simp [Instr.endRound, Instr.getLoop, hgo, hso]
          refine return_sound (v' := .bool jump.isNone) R' (a := ⟨fx, tm, [], .run⟩) F.kind hlo S ?_ (.bool _) h
          rw [stepG_run hm]
          obtain ⟨cfn, ctmps, ctodo, cdefers, cmode, ckind, cround⟩ := fr
          simp only at hm hcro hj
          subst hm; subst hcro
          rcases hj with ⟨rfl, rfl⟩ | ⟨k, rfl, rfl⟩ | ⟨id, k, rfl, rfl, he⟩
          · simp only [Option.isNone_none, if_true] at hrun ⊢
            simp [stepG.exec, Sem.runT_eq, hrun, doReturn]
          · simp at hrun
            simp [stepG.exec, Sem.runT_eq, hrun, doReturn]
          · simp at hrun
            simp [stepG.exec, Sem.runT_eq, hrun, doReturn, he]
end snd
end Go.Ex
